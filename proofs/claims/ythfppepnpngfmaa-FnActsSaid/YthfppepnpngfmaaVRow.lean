/- Words of our own for rows of structs that a library function rewrites: a block as a list of cells. -/
import Derived.Test.YthfppepnpngfmaaVWords
import Derived.Test.YthfppepnpngfmaaVMore
import Derived.Laws.IdiomCopy
import Derived.Laws.Rows
set_option linter.unusedVariables false
namespace Go.Proofs.Ythfppepnpngfmaa.Row
open Go.RowKit Go.Proofs.YthfppepnpngfmaaW.PrintWords

def flat {α : Type} (enc : α → List Value) (xs : List α) : List Value := xs.flatMap enc
section
variable {α : Type} {enc : α → List Value} {k : Nat}
theorem flat_nil : flat enc [] = [] := rfl
theorem flat_cons (x : α) (r : List α) : flat enc (x :: r) = enc x ++ flat enc r := rfl
theorem flat_append (xs ys : List α) : flat enc (xs ++ ys) = flat enc xs ++ flat enc ys := by simp [flat]
theorem flat_length (hk : ∀ x, (enc x).length = k) (xs : List α) : (flat enc xs).length = xs.length * k := by
  induction xs with
  | nil => simp [flat]
  | cons x r ih => rw [flat_cons, List.length_append, hk, ih, List.length_cons, Nat.succ_mul]; omega
theorem flat_drop (hk : ∀ x, (enc x).length = k) (n : Nat) (xs : List α) : (flat enc xs).drop (n * k) = flat enc (xs.drop n) := by
  by_cases h : n ≤ xs.length
  · have e := congrArg (fun z => (flat enc z).drop (n * k)) (List.take_append_drop n xs)
    simp only [flat_append] at e
    rw [← e]
    exact List.drop_left' (by rw [flat_length hk, List.length_take, Nat.min_eq_left h])
  · rw [List.drop_eq_nil_of_le (by omega : xs.length ≤ n), List.drop_eq_nil_of_le]
    · rfl
    · rw [flat_length hk]; exact Nat.mul_le_mul_right k (by omega)
theorem reps_flat {R : α → List Value → Prop} (hk : ∀ x, (enc x).length = k) (hR : ∀ x, R x (enc x)) (xs : List α) : Reps R k xs (flat enc xs) := by
  refine ⟨flat_length hk xs, fun j p hj => ?_⟩
  obtain ⟨hl, rfl⟩ := List.getElem?_eq_some_iff.1 hj
  rw [flat_drop hk, List.drop_eq_getElem_cons hl, flat_cons, List.take_left' (hk _)]
  exact hR _
theorem flat_of_reps {R : α → List Value → Prop} (hk : ∀ x, (enc x).length = k) (hR : ∀ x cs, R x cs → cs = enc x) : ∀ (xs : List α) (cs : List Value), Reps R k xs cs → cs = flat enc xs := by
  intro xs
  induction xs with
  | nil => intro cs h; have := h.1; simp at this; simpa [flat] using this
  | cons x r ih =>
    intro cs h
    have h0 := hR _ _ (h.2 0 x rfl)
    simp only [Nat.zero_mul, List.drop_zero] at h0
    rw [flat_cons, ← h0]
    conv => lhs; rw [← List.take_append_drop k cs]
    congr 1
    refine ih _ ⟨?_, fun j p hj => ?_⟩
    · have := h.1
      rw [List.length_cons, Nat.succ_mul] at this
      rw [List.length_drop]; omega
    · have := h.2 (j + 1) p (by simpa using hj)
      rwa [Nat.succ_mul, Nat.add_comm, ← List.drop_drop] at this
end

/-- A block is this list of cells. -/
def RowIs (w : World) (g e : Nat) (L : List Value) : Prop := ∃ cur : Array Value, w.heap[g]? = some (.cells cur e (0, 0)) ∧ cur.toList = L
theorem RowIs.cell {w : World} {g e : Nat} {L : List Value} (h : RowIs w g e L) {j : Nat} {v : Value} (hj : L[j]? = some v) : w.cell? ⟨g, j, none⟩ = some v := by
  obtain ⟨cur, h1, rfl⟩ := h
  rw [blk_cell h1]
  simpa using hj
theorem RowIs.isSome {w : World} {g e : Nat} {L : List Value} (h : RowIs w g e L) {j : Nat} (hj : j < L.length) : (w.cell? ⟨g, j, none⟩).isSome = true := by
  rw [h.cell (List.getElem?_eq_getElem hj)]; rfl
theorem RowIs.free {w : World} {g e : Nat} {L : List Value} (h : RowIs w g e L) (j : Nat) : w.frozen? ⟨g, j, none⟩ = false := by
  obtain ⟨cur, h1, _⟩ := h
  exact blk_frozen h1 j
theorem RowIs.lt {w : World} {g e : Nat} {L : List Value} (h : RowIs w g e L) : g < w.heap.size := by
  obtain ⟨cur, h1, _⟩ := h
  exact blk_lt h1
theorem RowIs.to {w w1 : World} {g e : Nat} {L : List Value} (h : RowIs w g e L) (hb : w1.heap[g]? = w.heap[g]?) : RowIs w1 g e L := by
  obtain ⟨cur, h1, h2⟩ := h
  exact ⟨cur, hb.trans h1, h2⟩
theorem RowIs.below {w w1 : World} {g e : Nat} {L : List Value} (h : RowIs w g e L) (hb : Below w.heap.size w w1) : RowIs w1 g e L := h.to (hb.block g h.lt)
theorem RowIs.set {w : World} {g e : Nat} {L : List Value} (h : RowIs w g e L) (o : Nat) (vs : List Value) (hl : o + vs.length ≤ L.length) : RowIs (w.setCells g o vs) g e (L.take o ++ vs ++ L.drop (o + vs.length)) := by
  obtain ⟨cur, h1, rfl⟩ := h
  obtain ⟨cur', h3, _, h5⟩ := setCells_row vs o w cur h1 (by simpa using hl)
  exact ⟨cur', h3, h5⟩
theorem RowIs.shape {w : World} {g e : Nat} {L : List Value} (h : RowIs w g e L) : w.shape? g = some (e, L.length) := by
  obtain ⟨cur, h1, rfl⟩ := h
  simp [World.shape?, h1]
theorem grown_set (w : World) (g o : Nat) (vs : List Value) : w.grownBy (w.setCells g o vs) (some g) := by
  obtain ⟨h1, h2, h3, h4⟩ := setCells_same g vs o w
  exact ⟨h1, h2, h3, by omega, fun i _ hi => setCells_far vs o i (fun e => hi (by rw [e]))⟩
theorem grown_trans {w w1 w2 : World} {row : Option Nat} (h : w.grownBy w1 row) (k : w1.grownBy w2 row) : w.grownBy w2 row :=
  ⟨k.os.trans h.os, k.tape.trans h.tape, k.output.trans h.output, Nat.le_trans h.size k.size, fun i hi hr => (k.block i (Nat.lt_of_lt_of_le hi h.size) hr).trans (h.block i hi hr)⟩
theorem grown_below {w w1 w2 : World} {row : Option Nat} (h : w.grownBy w1 row) (k : Below w1.heap.size w1 w2) : w.grownBy w2 row := grown_trans h (grown_of_below k row)
theorem grown_cell {w w1 : World} {g B : Nat} {v : Value} (h : w.grownBy w1 (some g)) (hne : B ≠ g) (hc : w.cell? ⟨B, 0, none⟩ = some v) : w1.cell? ⟨B, 0, none⟩ = some v :=
  (World.cell?_of_block (h.block B (World.block_lt_of_cell? w _ hc) (fun e => hne (Option.some.inj e)))).trans hc

section
variable {α : Type} {d : Kd α} {e : Nat} {enc : α → List Value} {w : World} {base : Nat} {ok : Nat → Prop}
/-- A row of the call's own, as its block. -/
theorem R_rows (hk : ∀ x, (enc x).length = d.sz) (hM : ∀ {W : World} {b : Nat} {o : Nat → Prop} {x : α} {cs : List Value}, d.M W b o x cs → cs = enc x) {v : Value} {l : List α} (h : d.R e w base ok v l) :
    (v = .slice none 0 0 ∧ l = []) ∨ ∃ g cap rest, v = .slice (some ⟨g, 0, none⟩) l.length cap ∧ base ≤ g ∧ ok g ∧ l.length ≤ cap ∧ cap ≤ maxLen ∧ RowIs w g e (flat enc l ++ rest) ∧ rest.length = (cap - l.length) * d.sz := by
  obtain ⟨h0, inner, ho, hr⟩ := h
  obtain rfl := flat_of_reps hk (fun x cs hx => hM hx) l inner hr
  rcases ho.2 with ⟨rfl, hn⟩ | ⟨g, cap, cur, rfl, hg, hh, hn, hc, hs, ht⟩
  · exact .inl ⟨rfl, List.length_eq_zero_iff.1 hn⟩
  · refine .inr ⟨g, cap, cur.toList.drop (l.length * d.sz), rfl, hg, h0 g rfl, hn, hc, ⟨cur, hh, ?_⟩, ?_⟩
    · rw [← ht, List.take_append_drop]
    · rw [List.length_drop, Array.length_toList, hs, Nat.sub_mul]
theorem R_of_rows (hk : ∀ x, (enc x).length = d.sz) (hM : ∀ (W : World) (b : Nat) (o : Nat → Prop) (x : α), d.M W b o x (enc x)) {l : List α} {g cap : Nat} {rest : List Value}
    (hg : base ≤ g) (hok : ok g) (hn : l.length ≤ cap) (hc : cap ≤ maxLen) (hr : RowIs w g e (flat enc l ++ rest)) (hl : rest.length = (cap - l.length) * d.sz) : d.R e w base ok (.slice (some ⟨g, 0, none⟩) l.length cap) l := by
  obtain ⟨cur, h1, h2⟩ := hr
  have hfl := flat_length hk l
  have hmul : (cap - l.length) * d.sz = cap * d.sz - l.length * d.sz := Nat.sub_mul ..
  have hle : l.length * d.sz ≤ cap * d.sz := Nat.mul_le_mul_right _ hn
  refine ⟨fun k hk' => ?_, flat enc l, ⟨hfl, .inr ⟨g, cap, cur, rfl, hg, h1, hn, hc, ?_, ?_⟩⟩, reps_flat hk (fun x => hM _ _ _ x) l⟩
  · have : g = k := by simpa [Value.ownBlock] using hk'
    exact this ▸ hok
  · have := congrArg List.length h2
    rw [Array.length_toList, List.length_append, hfl, hl] at this
    omega
  · rw [h2, List.take_left' hfl]
end
section
variable {P : Program}
/-- The builtin copy at elements of some cells: all is read before anything is written. -/
theorem run_copy_k (w : World) (dT sT ty elem : TypeId) (b o dLen dCap : Nat) (ad : Addr) (sLen sCap size : Nat) (cs : List Value)
    (hu : P.underlying dT = some (.slice elem)) (hs : (P.info? elem).map (·.size) = some size) (hn : cs.length = Nat.min sLen dLen * size)
    (hsrc : ∀ j v, cs[j]? = some v → w.cell? (ad.add j) = some v) (hc : ∀ j, j < cs.length → (w.cell? ⟨b, o + j, none⟩).isSome = true) (hf : ∀ j, j < cs.length → w.frozen? ⟨b, o + j, none⟩ = false) (h1 : ∀ v ∈ cs, v.oneCell' = true) :
    (Builtin.copy_ #[dT, sT] ty #[.slice (some ⟨b, o, none⟩) dLen dCap, .slice (some ad) sLen sCap]).run P w = .ok (goInt (Nat.min sLen dLen)) (w.setCells b o cs) := by
  have hl := run_loadCells_list (P := P) w ad cs hsrc
  have hst := run_storeCells_cells (P := P) b o cs 0 w (by simpa using hc) (by simpa using hf) h1
  cases hq : P.info? elem with
  | none => simp [hq] at hs
  | some i =>
    have hi : i.size = size := by simpa [hq] using hs
    simp [Builtin.copy_, run_underlying hu, Builtin.lenOf, Builtin.firstCells, sizeOf, typeInfo, hq, hi, ← hn, hl, hst]
theorem wp_copy_run (w : World) {o : Oper} {a : Act} {K : Act → World → Prop} {Q : Exit → Act → World → Prop} (d s : Operand) (t t' : TypeId)
    (ho : o.op = .call { callee := .builtin .copy, args := #[d, s], argTypes := #[t, t'] }) (v u : Value) (hd : a.eval d = v) (hs : a.eval s = u) {v' : Value} {w' : World}
    (hr : (Builtin.copy_ #[t, t'] o.type #[v, u]).run P w = .ok v' w') (h : K (a.put o.dst v') w') : o.wp P a w K Q := by
  unfold Oper.wp execOp
  simp only [ho, resolve, invoke, builtin, Sem.run_bind, Sem.run_pure, Result.andThen_ok, List.map_toArray, List.map_cons, List.map_nil, hd, hs, hr]
  exact h
theorem wpList_copy_run (w : World) {ops : Array Oper} {rest : List Oper} {o : Oper} {a : Act} {Q : Exit → Act → World → Prop} (hgd : o.guard = none) (d s : Operand) (t t' : TypeId)
    (ho : o.op = .call { callee := .builtin .copy, args := #[d, s], argTypes := #[t, t'] }) (v u : Value) (hd : a.eval d = v) (hs : a.eval s = u) {v' : Value} {w' : World}
    (hr : (Builtin.copy_ #[t, t'] o.type #[v, u]).run P w = .ok v' w') (h : wpList P ops Q rest (a.put o.dst v') w') : wpList P ops Q (o :: rest) a w :=
  wpList_plain hgd fun _ hK => wp_copy_run w d s t t' ho v u hd hs hr (hK _ _ h)
theorem step_copy_run {ops : Array Oper} {o : Oper} {a : Act} {w : World} {K : Act → World → Prop} {Q : Exit → Act → World → Prop} {E : Prop}
    (hg : o.guard = none) (d x : Operand) (dT sT : TypeId) (hop : o.op = Op.call { callee := Callee.builtin Builtin.copy, args := #[d, x], argTypes := #[dT, sT] })
    (v u : Value) (hd : a.eval d = v) (hx : a.eval x = u) {v' : Value} {w' : World} (hr : (Builtin.copy_ #[dT, sT] o.type #[v, u]).run P w = .ok v' w') (hK : K (a.put o.dst v') w') :
    if Region.wanted o (yielded ops a.tmps) = true then Oper.wp P o a w K Q else E := by
  have hw : Region.wanted o (yielded ops a.tmps) = true := by simp [Region.wanted, hg]
  rw [if_pos hw]
  unfold Oper.wp
  simp [execOp, hop, resolve, invoke, builtin, hd, hx, hr, Result.andThen]
  exact hK
theorem wpList_append_run (w : World) {ops : Array Oper} {rest : List Oper} {o : Oper} {a : Act} {Q : Exit → Act → World → Prop} (hgd : o.guard = none) (d s : Operand) (t t' : TypeId)
    (ho : o.op = .call { callee := .builtin .append, args := #[d, s], argTypes := #[t, t'] }) (v u : Value) (hd : a.eval d = v) (hs : a.eval s = u) {v' : Value} {w' : World}
    (hr : (Builtin.append_ #[t, t'] o.type #[v, u]).run P w = .ok v' w') (h : wpList P ops Q rest (a.put o.dst v') w') : wpList P ops Q (o :: rest) a w := by
  refine wpList_plain hgd fun _ hK => ?_
  unfold Oper.wp execOp
  simp only [ho, resolve, invoke, builtin, Sem.run_bind, Sem.run_pure, Result.andThen_ok, List.map_toArray, List.map_cons, List.map_nil, hd, hs, hr]
  exact hK _ _ h
end
theorem RowIs.drew {w : World} {g e : Nat} {L : List Value} (h : RowIs w g e L) : RowIs w.drew g e L := h
theorem RowIs.new (w : World) (e : Nat) (cs : Array Value) : RowIs (w.alloc (.cells cs e)) w.heap.size e cs.toList := ⟨cs, heap_alloc_new _ _, rfl⟩
theorem RowIs.cells {w : World} {g e : Nat} {L : List Value} (h : RowIs w g e L) (o : Nat) (cs : List Value) (hp : ∀ j, j < cs.length → L[o + j]? = cs[j]?) (j : Nat) (v : Value) (hj : cs[j]? = some v) : w.cell? ((⟨g, o, none⟩ : Addr).add j) = some v := by
  rw [add_at]
  exact h.cell ((hp j (List.getElem?_eq_some_iff.1 hj).1).trans hj)
end Go.Proofs.Ythfppepnpngfmaa.Row
