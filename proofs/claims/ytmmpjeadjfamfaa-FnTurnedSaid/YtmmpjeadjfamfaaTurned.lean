/- The law FnTurned's one conversion '[]byte(t)': a row of one's own whose block bears a mark beyond its end; it is read, written and turned back into a text. -/
import Derived.Test.YtmmpjeadjfamfaaWWords
import Derived.Test.YtmmpjeadjfamfaaWLast
namespace Go.Proofs.Ytmmpjeadjfamfaa.Turned
open Go Go.RowKit Go.Proofs.YtmmpjeadjfamfaaW.PrintWords

def FZ (e : TypeId) (W : World) (base : Nat) (v : Value) (l : List Int) : Prop :=
  ∃ g c cur, v = .slice (some ⟨g, 0, none⟩) l.length c ∧ base ≤ g ∧ W.heap[g]? = some (.cells cur e (c, c + 1)) ∧ l.length ≤ c ∧ cur.size = c ∧ ∀ i, i < l.length → cur[i]? = some (.int .u8 (l.getD i 0))

variable {e : TypeId} {W : World} {base : Nat} {v : Value} {l : List Int}

theorem FZ.drew (h : FZ e W base v l) : FZ e W.drew base v l := h

theorem FZ.slice (h : FZ e W base v l) : ∃ A c, v = .slice A l.length c := by
  obtain ⟨g, c, cur, hv, _⟩ := h
  exact ⟨_, c, hv⟩

theorem FZ.form (h : FZ e W base v l) : ∃ g cap, v = .slice (some ⟨g, 0, none⟩) l.length cap ∧ base ≤ g := by
  obtain ⟨g, c, cur, hv, hb, _⟩ := h
  exact ⟨g, c, hv, hb⟩

theorem FZ.celln {g n cap : Nat} (h : FZ e W base (.slice (some ⟨g, 0, none⟩) n cap) l) (i : Int) (_h0 : 0 ≤ i) (hi : i < (l.length : Int)) :
    W.cell? ⟨g, i.toNat, none⟩ = some (.int .u8 (rd l i)) ∧ W.frozen? ⟨g, i.toNat, none⟩ = false := by
  obtain ⟨g', c, cur, hv, hb, hh, hl, hs, hc⟩ := h
  obtain rfl : g = g' := by injection hv with h1; injection h1 with h1; injection h1
  have hc' := hc i.toNat (by omega)
  constructor
  · simp only [World.cell?, hh]
    simpa [rd] using hc'
  · simp only [World.frozen?, hh]
    have : ¬ c ≤ i.toNat := by omega
    simp [this]

theorem FZ.at_ {A : Option Addr} {n c : Nat} (h : FZ e W base (.slice A n c) l) (i : Int) (h0 : 0 ≤ i) (h1 : i < (l.length : Int)) :
    ∃ ad, A = some ad ∧ W.cell? (ad.add i.toNat) = some (.int .u8 (rd l i)) := by
  obtain ⟨g, c', hv, _⟩ := h.form
  obtain rfl : A = some ⟨g, 0, none⟩ := by injection hv
  exact ⟨_, rfl, by rw [add_plain]; exact (h.celln i h0 h1).1⟩

theorem FZ.putn {g n cap : Nat} (h : FZ e W base (.slice (some ⟨g, 0, none⟩) n cap) l) (i : Int) (x : Int) :
    FZ e (W.setCell ⟨g, i.toNat, none⟩ (.int .u8 x)) base (.slice (some ⟨g, 0, none⟩) n cap) (l.set i.toNat x) := by
  obtain ⟨g', c, cur, hv, hb, hh, hl, hs, hc⟩ := h
  obtain rfl : g = g' := by injection hv with h1; injection h1 with h1; injection h1
  obtain rfl : n = l.length := by injection hv
  obtain rfl : cap = c := by injection hv
  refine ⟨g, cap, cur.setIfInBounds i.toNat (.int .u8 x), by rw [List.length_set], hb, ?_, by rw [List.length_set]; exact hl, by simp [hs], ?_⟩
  · simp only [World.setCell]
    simp [Array.getElem?_modify, hh]
  · intro j hj
    rw [List.length_set] at hj
    rw [Array.getElem?_setIfInBounds]
    by_cases hij : i.toNat = j
    · subst hij
      simp [List.getD_eq_getElem?_getD, hj, show i.toNat < cur.size by omega]
    · rw [if_neg hij, hc j hj, List.getD_eq_getElem?_getD, List.getD_eq_getElem?_getD, List.getElem?_set_ne hij]

theorem FZ.string {P : Program} {src dst : TypeId} (h : FZ e W base v l) (hs : P.underlying src = some (.slice e)) (he : P.underlying e = some (.int .u8)) (hd : P.underlying dst = some .string) :
    (convert src dst v).run P W = .ok (.string (strOfNums l)) W := by
  obtain ⟨g, c, cur, rfl, hb, hh, hl, hsz, hc⟩ := h
  refine run_convert_bytes_arg W src e hs he g 0 l.length c l rfl (fun i hi => ?_) dst hd
  simp only [World.cell?, hh, Nat.zero_add]
  simpa using hc i hi

theorem print_conv_str {P : Program} {ops : Array Oper} {rest : List Oper} {o : Oper} {a : Act} {Q : Exit → Act → World → Prop} {w0 W : World} (base : Nat) (hgd : o.guard = none) (x : Operand) (src dst e : TypeId)
    (ho : o.op = .convert src dst x) (hs : P.underlying src = some .string) (hd : P.underlying dst = some (.slice e)) (he : P.underlying e = some (.int .u8))
    (y : ByteArray) (hx : a.eval x = .string y) (HB : Below base w0 W) (hbase : base ≤ W.heap.size) (_hl : y.size < 140737488355328)
    (h : ∀ v1 w1, FZ e w1 base v1 (bytesOf y) → Below base w0 w1 → W.grownBy w1 none → wpList P ops Q rest (a.put o.dst v1) w1) :
    wpList P ops Q (o :: rest) a W := by
  have hr := Lib.run_convert_string_bytes (P := P) W src dst e y hs hd he
  have hle : y.size ≤ grownCap W y.size 0 e := grownCap_ge W y.size 0 e
  have hg : W.grownBy (Lib.bytesWorld W e y) none := ⟨rfl, rfl, rfl, by rw [Lib.bytesWorld_size]; omega, fun k hk _ => Lib.bytesWorld_at_old W e y k hk⟩
  have hsz : (Lib.bytesCells W e y).size = grownCap W y.size 0 e := by
    simp [Lib.bytesCells]; omega
  refine Kd.event_run hgd (v := .slice (some ⟨W.heap.size, 0, none⟩) y.size (grownCap W y.size 0 e)) (w1 := Lib.bytesWorld W e y) ?_ (h _ _ ⟨W.heap.size, grownCap W y.size 0 e, Lib.bytesCells W e y, by rw [bytesOf_length], hbase, ?_, by rw [bytesOf_length]; exact hle, hsz, ?_⟩ (Below.grown HB hg hbase (fun _ h_ => by cases h_)) hg)
  · simp only [execOp, ho, hx]
    simp [hr]
  · rw [Lib.bytesWorld_at_new, hsz]
  · intro i hi
    rw [bytesOf_length] at hi
    have := Lib.bytesWorld_cell W e y i hi
    simp only [World.cell?, Lib.bytesWorld_at_new] at this
    simp at this
    rw [this]
    simp [bytesOf, List.getD_eq_getElem?_getD, hi]

end Go.Proofs.Ytmmpjeadjfamfaa.Turned
