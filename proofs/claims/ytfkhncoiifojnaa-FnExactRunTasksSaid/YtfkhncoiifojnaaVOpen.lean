/- Arguments that are structs, slices of structs and the like: what they read as, opened to the print's kinds. -/
import Derived.Test.YtfkhncoiifojnaaVWords
import Derived.Test.YtfkhncoiifojnaaVMore
import Derived.Deep.Slices
import Derived.Deep.Fields
import Derived.ChangeSame
import Derived.ChangeArms
namespace Go.Proofs.Ytfkhncoiifojnaa.Open
open Go.RowKit Go.ChangeShapes Go.WideShapes Go.Deep Go.Proofs.YtfkhncoiifojnaaW.PrintWords

/-- Whatever reads as a value of type t has cells of this kind, and what they say is Q. -/
def Opens (P : Program) (t : TypeId) {α : Type} (d : Kd α) (Q : α → Prop) : Prop :=
  ∀ {H : Type} {enc : TypeId × Value → H} {w : World} {base : Nat} {spare : Nat → Bool} {held : Bool} {fuel : Nat} {cs : List Value} {x : DataW H × List MemPlace},
    DataW.trod enc P w base spare held fuel t cs = some x → ∃ v : α, d.K w v cs ∧ Q v

theorem opens_int {P : Program} {t : TypeId} {k : IntKind} (ht : P.underlying t = some (.int k)) : Opens P t (Kd.int k) (fun n => (Lit.int k n).wf = true) := by
  intro H enc w base spare held fuel cs x h
  obtain ⟨n, hc, _, hw⟩ := DataW.trod_int ht h
  exact ⟨n, hc, hw⟩
theorem opens_bool {P : Program} {t : TypeId} (ht : P.underlying t = some .bool) : Opens P t Kd.bool (fun _ => True) := by
  intro H enc w base spare held fuel cs x h
  obtain ⟨s, hc, _⟩ := DataW.trod_bool ht h
  exact ⟨s, hc, trivial⟩

theorem choose_row {α : Type} {n : Nat} {q : Nat → α → Prop} (h : ∀ i, i < n → ∃ v, q i v) : ∃ xs : List α, xs.length = n ∧ ∀ j p, xs[j]? = some p → q j p := by
  induction n with
  | zero => exact ⟨[], rfl, fun j p hj => by simp at hj⟩
  | succ n ih =>
    obtain ⟨xs, hl, hx⟩ := ih (fun i hi => h i (Nat.lt_succ_of_lt hi))
    obtain ⟨v, hv⟩ := h n (Nat.lt_succ_self n)
    refine ⟨xs ++ [v], by simp [hl], fun j p hj => ?_⟩
    rcases Nat.lt_or_ge j xs.length with hlt | hge
    · rw [List.getElem?_append_left hlt] at hj; exact hx j p hj
    · rw [List.getElem?_append_right hge] at hj
      have hj0 : j - xs.length = 0 := by
        have := (List.getElem?_eq_some_iff.1 hj).1
        simp at this; omega
      rw [hj0] at hj
      have : v = p := by simpa using hj
      rw [← this, show j = n from by omega]
      exact hv

theorem opens_slice {P : Program} {t e : TypeId} {α : Type} {d : Kd α} {Q : α → Prop} (ht : P.underlying t = some (.slice e)) (hsz : P.cellsOf e = d.sz) (hd : Opens P e d Q) :
    Opens P t (Kd.slice e d) (fun xs => (∀ x ∈ xs, Q x) ∧ xs.length ≤ maxLen) := by
  intro H enc w base spare held fuel cs x h
  rcases open_slice ht h with ⟨hc, _⟩ | ⟨a, len, cap, m, n, D, Pl, hcs, hb, hl, hm, hmm, hx, hi⟩
  · refine ⟨[], ⟨none, 0, hc, Nat.le_refl _, rfl, Nat.zero_le _, fun h0 => absurd h0 (Nat.lt_irrefl 0)⟩, fun x hx => (by simp at hx), Nat.zero_le _⟩
  · have hlm : len ≤ m := by rw [hmm]; split <;> omega
    obtain ⟨xs, hxl, hxs⟩ := choose_row (n := len) (q := fun i v => ∃ c, c.length = d.sz ∧ d.K w v c ∧ (∀ j u, c[j]? = some u → w.cell? (a.add (i * d.sz + j)) = some u) ∧ Q v) (fun i hil => by
      obtain ⟨cs', hc, ht'⟩ := hi i (by omega)
      obtain ⟨v, hk, hq⟩ := hd ht'
      obtain ⟨_, hcl, hat⟩ := World.cells?_some hc
      refine ⟨v, cs', by rw [hcl, hsz], hk, fun j u hu => ?_, hq⟩
      have hj : j < P.cellsOf e := by
        have := (List.getElem?_eq_some_iff.1 hu).1
        omega
      have := hat j hj
      rw [hu, Deep.add_add, hsz] at this
      exact this)
    have hmx : maxLen = 9223372036854775807 := rfl
    refine ⟨xs, ⟨some a, cap, by rw [hxl]; exact hcs, by omega, rfl, by omega, fun _ => ⟨a, rfl, fun j p hj => ?_⟩⟩, fun x hx => ?_, by omega⟩
    · obtain ⟨c, h1, h2, h3, _⟩ := hxs j p hj
      exact ⟨c, h1, h2, h3⟩
    · obtain ⟨j, hj⟩ := List.getElem?_of_mem hx
      obtain ⟨_, _, _, _, hq⟩ := hxs j x hj
      exact hq

/-- The fields from a place on. -/
def OpensFrom (P : Program) (fs : Array Field) (_i off tot : Nat) {α : Type} (d : Kd α) (Q : α → Prop) : Prop :=
  ∀ {H : Type} {enc : TypeId × Value → H} {w : World} {base : Nat} {spare : Nat → Bool} {held : Bool} {n : Nat} {cs : List Value} {xs : List (DataW H × List MemPlace)},
    cs.length = tot → xs.length = fs.size → (∀ (j : Nat) (f : Field), fs[j]? = some f → DataW.trod enc P w base spare held n f.type ((cs.drop f.offset).take (P.cellsOf f.type)) = xs[j]?) → ∃ v : α, d.K w v (cs.drop off) ∧ Q v

theorem from_last {P : Program} {fs : Array Field} {i off tot : Nat} {f : Field} {α : Type} {d : Kd α} {Q : α → Prop} (hf : fs[i]? = some f) (ho : f.offset = off) (hsz : P.cellsOf f.type = d.sz) (htot : off + d.sz = tot) (hd : Opens P f.type d Q) :
    OpensFrom P fs i off tot d Q := by
  intro H enc w base spare held n cs xs hl hx h
  have hi : i < fs.size := (Array.getElem?_eq_some_iff.1 hf).1
  have h1 := h i f hf
  rw [List.getElem?_eq_getElem (by omega : i < xs.length)] at h1
  obtain ⟨v, hk, hq⟩ := hd h1
  rw [ho, List.take_of_length_le (by rw [List.length_drop]; omega)] at hk
  exact ⟨v, hk, hq⟩
theorem from_cons {P : Program} {fs : Array Field} {i off tot : Nat} {f : Field} {α β : Type} {d : Kd α} {Q : α → Prop} {d' : Kd β} {Q' : β → Prop} (hf : fs[i]? = some f) (ho : f.offset = off) (hsz : P.cellsOf f.type = d.sz) (hd : Opens P f.type d Q)
    (hr : OpensFrom P fs (i + 1) (off + d.sz) tot d' Q') : OpensFrom P fs i off tot (Kd.pair d d') (fun y => Q y.1 ∧ Q' y.2) := by
  intro H enc w base spare held n cs xs hl hx h
  have hi : i < fs.size := (Array.getElem?_eq_some_iff.1 hf).1
  have h1 := h i f hf
  rw [List.getElem?_eq_getElem (by omega : i < xs.length)] at h1
  obtain ⟨v, hk, hq⟩ := hd h1
  obtain ⟨u, hk2, hq2⟩ := hr hl hx h
  rw [ho, hsz] at hk
  refine ⟨(v, u), ⟨(cs.drop off).take d.sz, cs.drop (off + d.sz), ?_, hk, hk2⟩, hq, hq2⟩
  rw [← List.drop_drop, List.take_append_drop]
theorem opens_struct {P : Program} {t : TypeId} {fs : Array Field} {tot : Nat} {α : Type} {d : Kd α} {Q : α → Prop} (ht : P.underlying t = some (.struct fs)) (hC : P.cellsOf t = tot) (h : OpensFrom P fs 0 0 tot d Q) : Opens P t d Q := by
  intro H enc w base spare held fuel cs x hx
  obtain ⟨xs, n, _, _, hl, hlen, hf⟩ := DataW.trod_struct ht hx
  have := h (by rw [hl, hC]) hlen hf
  simpa using this
theorem opens_iso {P : Program} {t : TypeId} {α β : Type} {d : Kd α} {Q : α → Prop} (f : β → α) (g : α → β) (hfg : ∀ y, f (g y) = y) (h : Opens P t d Q) : Opens P t (Kd.iso d f) (fun x => Q (f x)) := by
  intro H enc w base spare held fuel cs x hx
  obtain ⟨v, hk, hq⟩ := h hx
  exact ⟨g v, show d.K w (f (g v)) cs from by rw [hfg]; exact hk, show Q (f (g v)) from by rw [hfg]; exact hq⟩
end Go.Proofs.Ytfkhncoiifojnaa.Open
