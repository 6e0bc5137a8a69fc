/- Words of our own for rows of structs that a library function rewrites: a block as a list of cells. -/
import Derived.Test.YtfkhncoiifojnaaVWords
import Derived.Test.YtfkhncoiifojnaaVMore
import Derived.Laws.IdiomCopy
import Derived.Laws.Rows
set_option linter.unusedVariables false
namespace Go.Proofs.Ytfkhncoiifojnaa.Row
open Go.RowKit Go.Proofs.YtfkhncoiifojnaaW.PrintWords

def flat {α : Type} (enc : α → List Value) (xs : List α) : List Value := xs.flatMap enc
section
variable {α : Type} {enc : α → List Value} {k : Nat}
theorem flat_cons (x : α) (r : List α) : flat enc (x :: r) = enc x ++ flat enc r := rfl
theorem flat_append (xs ys : List α) : flat enc (xs ++ ys) = flat enc xs ++ flat enc ys := by simp [flat]
theorem flat_length (hk : ∀ x, (enc x).length = k) (xs : List α) : (flat enc xs).length = xs.length * k := by
  induction xs with
  | nil => simp [flat]
  | cons x r ih => rw [flat_cons, List.length_append, hk, ih, List.length_cons, Nat.succ_mul]; omega
theorem flat_drop (hk : ∀ x, (enc x).length = k) (n : Nat) (xs : List α) : (flat enc xs).drop (n * k) = flat enc (xs.drop n) := by
  by_cases h : n ≤ xs.length
  · have e := congrArg (fun z => (flat enc z).drop (n * k)) (List.take_append_drop n xs)
    simp only [flat_append] at e
    rw [← e]
    exact List.drop_left' (by rw [flat_length hk, List.length_take, Nat.min_eq_left h])
  · rw [List.drop_eq_nil_of_le (by omega : xs.length ≤ n), List.drop_eq_nil_of_le]
    · rfl
    · rw [flat_length hk]; exact Nat.mul_le_mul_right k (by omega)
theorem reps_flat {R : α → List Value → Prop} (hk : ∀ x, (enc x).length = k) (hR : ∀ x, R x (enc x)) (xs : List α) : Reps R k xs (flat enc xs) := by
  refine ⟨flat_length hk xs, fun j p hj => ?_⟩
  obtain ⟨hl, rfl⟩ := List.getElem?_eq_some_iff.1 hj
  rw [flat_drop hk, List.drop_eq_getElem_cons hl, flat_cons, List.take_left' (hk _)]
  exact hR _
theorem flat_of_reps {R : α → List Value → Prop} (hk : ∀ x, (enc x).length = k) (hR : ∀ x cs, R x cs → cs = enc x) : ∀ (xs : List α) (cs : List Value), Reps R k xs cs → cs = flat enc xs := by
  intro xs
  induction xs with
  | nil => intro cs h; have := h.1; simp at this; simpa [flat] using this
  | cons x r ih =>
    intro cs h
    have h0 := hR _ _ (h.2 0 x rfl)
    simp only [Nat.zero_mul, List.drop_zero] at h0
    rw [flat_cons, ← h0]
    conv => lhs; rw [← List.take_append_drop k cs]
    congr 1
    refine ih _ ⟨?_, fun j p hj => ?_⟩
    · have := h.1
      rw [List.length_cons, Nat.succ_mul] at this
      rw [List.length_drop]; omega
    · have := h.2 (j + 1) p (by simpa using hj)
      rwa [Nat.succ_mul, Nat.add_comm, ← List.drop_drop] at this
end

/-- A block is this list of cells. -/
def RowIs (w : World) (g e : Nat) (L : List Value) : Prop := ∃ cur : Array Value, w.heap[g]? = some (.cells cur e (0, 0)) ∧ cur.toList = L
theorem RowIs.cell {w : World} {g e : Nat} {L : List Value} (h : RowIs w g e L) {j : Nat} {v : Value} (hj : L[j]? = some v) : w.cell? ⟨g, j, none⟩ = some v := by
  obtain ⟨cur, h1, rfl⟩ := h
  rw [blk_cell h1]
  simpa using hj
theorem RowIs.isSome {w : World} {g e : Nat} {L : List Value} (h : RowIs w g e L) {j : Nat} (hj : j < L.length) : (w.cell? ⟨g, j, none⟩).isSome = true := by
  rw [h.cell (List.getElem?_eq_getElem hj)]; rfl
theorem RowIs.free {w : World} {g e : Nat} {L : List Value} (h : RowIs w g e L) (j : Nat) : w.frozen? ⟨g, j, none⟩ = false := by
  obtain ⟨cur, h1, _⟩ := h
  exact blk_frozen h1 j
theorem RowIs.lt {w : World} {g e : Nat} {L : List Value} (h : RowIs w g e L) : g < w.heap.size := by
  obtain ⟨cur, h1, _⟩ := h
  exact blk_lt h1
theorem RowIs.to {w w1 : World} {g e : Nat} {L : List Value} (h : RowIs w g e L) (hb : w1.heap[g]? = w.heap[g]?) : RowIs w1 g e L := by
  obtain ⟨cur, h1, h2⟩ := h
  exact ⟨cur, hb.trans h1, h2⟩
theorem RowIs.below {w w1 : World} {g e : Nat} {L : List Value} (h : RowIs w g e L) (hb : Below w.heap.size w w1) : RowIs w1 g e L := h.to (hb.block g h.lt)
theorem RowIs.set {w : World} {g e : Nat} {L : List Value} (h : RowIs w g e L) (o : Nat) (vs : List Value) (hl : o + vs.length ≤ L.length) : RowIs (w.setCells g o vs) g e (L.take o ++ vs ++ L.drop (o + vs.length)) := by
  obtain ⟨cur, h1, rfl⟩ := h
  obtain ⟨cur', h3, _, h5⟩ := setCells_row vs o w cur h1 (by simpa using hl)
  exact ⟨cur', h3, h5⟩
theorem RowIs.shape {w : World} {g e : Nat} {L : List Value} (h : RowIs w g e L) : w.shape? g = some (e, L.length) := by
  obtain ⟨cur, h1, rfl⟩ := h
  simp [World.shape?, h1]
theorem grown_set (w : World) (g o : Nat) (vs : List Value) : w.grownBy (w.setCells g o vs) (some g) := by
  obtain ⟨h1, h2, h3, h4⟩ := setCells_same g vs o w
  exact ⟨h1, h2, h3, by omega, fun i _ hi => setCells_far vs o i (fun e => hi (by rw [e]))⟩
section
variable {α : Type} {d : Kd α} {e : Nat} {enc : α → List Value} {w : World} {base : Nat} {ok : Nat → Prop}
/-- A row of the call's own, as its block. -/
theorem R_rows (hk : ∀ x, (enc x).length = d.sz) (hM : ∀ {W : World} {b : Nat} {o : Nat → Prop} {x : α} {cs : List Value}, d.M W b o x cs → cs = enc x) {v : Value} {l : List α} (h : d.R e w base ok v l) :
    (v = .slice none 0 0 ∧ l = []) ∨ ∃ g cap rest, v = .slice (some ⟨g, 0, none⟩) l.length cap ∧ base ≤ g ∧ ok g ∧ l.length ≤ cap ∧ cap ≤ maxLen ∧ RowIs w g e (flat enc l ++ rest) ∧ rest.length = (cap - l.length) * d.sz := by
  obtain ⟨h0, inner, ho, hr⟩ := h
  obtain rfl := flat_of_reps hk (fun x cs hx => hM hx) l inner hr
  rcases ho.2 with ⟨rfl, hn⟩ | ⟨g, cap, cur, rfl, hg, hh, hn, hc, hs, ht⟩
  · exact .inl ⟨rfl, List.length_eq_zero_iff.1 hn⟩
  · refine .inr ⟨g, cap, cur.toList.drop (l.length * d.sz), rfl, hg, h0 g rfl, hn, hc, ⟨cur, hh, ?_⟩, ?_⟩
    · rw [← ht, List.take_append_drop]
    · rw [List.length_drop, Array.length_toList, hs, Nat.sub_mul]
theorem R_of_rows (hk : ∀ x, (enc x).length = d.sz) (hM : ∀ (W : World) (b : Nat) (o : Nat → Prop) (x : α), d.M W b o x (enc x)) {l : List α} {g cap : Nat} {rest : List Value}
    (hg : base ≤ g) (hok : ok g) (hn : l.length ≤ cap) (hc : cap ≤ maxLen) (hr : RowIs w g e (flat enc l ++ rest)) (hl : rest.length = (cap - l.length) * d.sz) : d.R e w base ok (.slice (some ⟨g, 0, none⟩) l.length cap) l := by
  obtain ⟨cur, h1, h2⟩ := hr
  have hfl := flat_length hk l
  have hmul : (cap - l.length) * d.sz = cap * d.sz - l.length * d.sz := Nat.sub_mul ..
  have hle : l.length * d.sz ≤ cap * d.sz := Nat.mul_le_mul_right _ hn
  refine ⟨fun k hk' => ?_, flat enc l, ⟨hfl, .inr ⟨g, cap, cur, rfl, hg, h1, hn, hc, ?_, ?_⟩⟩, reps_flat hk (fun x => hM _ _ _ x) l⟩
  · have : g = k := by simpa [Value.ownBlock] using hk'
    exact this ▸ hok
  · have := congrArg List.length h2
    rw [Array.length_toList, List.length_append, hfl, hl] at this
    omega
  · rw [h2, List.take_left' hfl]
end
section
variable {P : Program}
end
theorem RowIs.drew {w : World} {g e : Nat} {L : List Value} (h : RowIs w g e L) : RowIs w.drew g e L := h
theorem RowIs.new (w : World) (e : Nat) (cs : Array Value) : RowIs (w.alloc (.cells cs e)) w.heap.size e cs.toList := ⟨cs, heap_alloc_new _ _, rfl⟩
theorem RowIs.cells {w : World} {g e : Nat} {L : List Value} (h : RowIs w g e L) (o : Nat) (cs : List Value) (hp : ∀ j, j < cs.length → L[o + j]? = cs[j]?) (j : Nat) (v : Value) (hj : cs[j]? = some v) : w.cell? ((⟨g, o, none⟩ : Addr).add j) = some v := by
  rw [add_at]
  exact h.cell ((hp j (List.getElem?_eq_some_iff.1 hj).1).trans hj)
end Go.Proofs.Ytfkhncoiifojnaa.Row
