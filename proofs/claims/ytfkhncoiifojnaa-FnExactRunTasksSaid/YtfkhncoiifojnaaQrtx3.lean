-- Laid by myprint.py, a program of this session's own, over the kit's print. Not trusted: Lean checks it.
import Derived.Test.YtfkhncoiifojnaaQrtx0
namespace Go.Proofs.Ytfkhncoiifojnaa.Qrt
open Go.RowKit Go.Proofs.YtfkhncoiifojnaaW.PrintWords Go.Proofs.YtfkhncoiifojnaaW.PrintLast Go.Proofs.YtfkhncoiifojnaaW.PrintMore
attribute [local go_sem] Go.Proofs.Ytfkhncoiifojnaa.StrCmp.gtr_less Go.Proofs.Ytfkhncoiifojnaa.StrCmp.geq_less Go.Proofs.Ytfkhncoiifojnaa.StrCmp.leq_less max2_int min2_int max_two min_two max_three min_three max_four min_four   -- for this text's walks alone
set_option linter.unusedVariables false
set_option linter.unusedSimpArgs false

/-- A state of type 30 at block g of W; what its slices lead to came in by w0. -/
def IsS30 (w0 W : World) (g : Nat) (f0 : Int) (f1 : Int) (f2 : Int) (f3 : Int) (f4 : Int) (f5 : Int) (f6 : Int) (f7 : Int) (f8 : Int) (f9 : Bool) (f10 : Int) : Prop := W.heap[g]? = some (.cells #[.int .i64 f0, .int .i64 f1, .int .i64 f2, .int .i64 f3, .int .i64 f4, .int .i64 f5, .int .i64 f6, .int .i64 f7, .int .i64 f8, .bool f9, .int .i64 f10] 30 (0, 0)) ∧ w0.heap.size ≤ g
theorem IsS30.grown {w0 W : World} {g : Nat} {f0 : Int} {f1 : Int} {f2 : Int} {f3 : Int} {f4 : Int} {f5 : Int} {f6 : Int} {f7 : Int} {f8 : Int} {f9 : Bool} {f10 : Int} {W1 : World} {row : Option Nat} (h : IsS30 w0 W g f0 f1 f2 f3 f4 f5 f6 f7 f8 f9 f10) (hw : W.grownBy W1 row) (hne : some g ≠ row) : IsS30 w0 W1 g f0 f1 f2 f3 f4 f5 f6 f7 f8 f9 f10 := by
 obtain ⟨hb, hg⟩ := h
 exact ⟨blk_grown hb hw hne, hg⟩
theorem IsS30.kept {w0 W : World} {g : Nat} {f0 : Int} {f1 : Int} {f2 : Int} {f3 : Int} {f4 : Int} {f5 : Int} {f6 : Int} {f7 : Int} {f8 : Int} {f9 : Bool} {f10 : Int} {W1 : World} {S : Nat → Prop} (h : IsS30 w0 W g f0 f1 f2 f3 f4 f5 f6 f7 f8 f9 f10) (hk : Kept W W1 S) (hne : ¬ S g) : IsS30 w0 W1 g f0 f1 f2 f3 f4 f5 f6 f7 f8 f9 f10 := by
 obtain ⟨hb, hg⟩ := h
 exact ⟨blk_kept hb hk hne, hg⟩
theorem IsS30.below {w0 W : World} {g : Nat} {f0 : Int} {f1 : Int} {f2 : Int} {f3 : Int} {f4 : Int} {f5 : Int} {f6 : Int} {f7 : Int} {f8 : Int} {f9 : Bool} {f10 : Int} {W1 : World} (h : IsS30 w0 W g f0 f1 f2 f3 f4 f5 f6 f7 f8 f9 f10) (hw : Below W.heap.size W W1) : IsS30 w0 W1 g f0 f1 f2 f3 f4 f5 f6 f7 f8 f9 f10 := h.grown (grown_of_below hw none) (by simp)
theorem IsS30.alloc {w0 W : World} {g : Nat} {f0 : Int} {f1 : Int} {f2 : Int} {f3 : Int} {f4 : Int} {f5 : Int} {f6 : Int} {f7 : Int} {f8 : Int} {f9 : Bool} {f10 : Int} (h : IsS30 w0 W g f0 f1 f2 f3 f4 f5 f6 f7 f8 f9 f10) (o : Obj) : IsS30 w0 (W.alloc o) g f0 f1 f2 f3 f4 f5 f6 f7 f8 f9 f10 := h.below (below_alloc (Below.refl _ _) o)
theorem IsS30.drewN {w0 W : World} {g : Nat} {f0 : Int} {f1 : Int} {f2 : Int} {f3 : Int} {f4 : Int} {f5 : Int} {f6 : Int} {f7 : Int} {f8 : Int} {f9 : Bool} {f10 : Int} (h : IsS30 w0 W g f0 f1 f2 f3 f4 f5 f6 f7 f8 f9 f10) (m : Nat) : IsS30 w0 (W.drewN m) g f0 f1 f2 f3 f4 f5 f6 f7 f8 f9 f10 := h
theorem IsS30.drew {w0 W : World} {g : Nat} {f0 : Int} {f1 : Int} {f2 : Int} {f3 : Int} {f4 : Int} {f5 : Int} {f6 : Int} {f7 : Int} {f8 : Int} {f9 : Bool} {f10 : Int} (h : IsS30 w0 W g f0 f1 f2 f3 f4 f5 f6 f7 f8 f9 f10) : IsS30 w0 W.drew g f0 f1 f2 f3 f4 f5 f6 f7 f8 f9 f10 := h
theorem IsS30.at_ {w0 W : World} {g : Nat} {f0 : Int} {f1 : Int} {f2 : Int} {f3 : Int} {f4 : Int} {f5 : Int} {f6 : Int} {f7 : Int} {f8 : Int} {f9 : Bool} {f10 : Int} {w' : World} {m : Nat} (hq : W.drewN m = w') (h : IsS30 w0 W g f0 f1 f2 f3 f4 f5 f6 f7 f8 f9 f10) : IsS30 w0 w' g f0 f1 f2 f3 f4 f5 f6 f7 f8 f9 f10 := by subst hq; exact IsS30.drewN h m
theorem IsS30.apart {w0 W : World} {g : Nat} {f0 : Int} {f1 : Int} {f2 : Int} {f3 : Int} {f4 : Int} {f5 : Int} {f6 : Int} {f7 : Int} {f8 : Int} {f9 : Bool} {f10 : Int} {α : Type} {d : Kd α} {e : Nat} {base : Nat} {ok : Nat → Prop} {v : Value} {xs : List α} (h : IsS30 w0 W g f0 f1 f2 f3 f4 f5 f6 f7 f8 f9 f10) (ho : d.R e W base ok v xs) (ht : ∀ q, q ∈ e :: d.E → q ≠ 30) : d.R e W base (fun k => ok k ∧ k ≠ g) v xs := by
 obtain ⟨hb, hg⟩ := h
 exact Kd.R_types ho hb ht
theorem IsS30.own_ne {w0 W : World} {g : Nat} {f0 : Int} {f1 : Int} {f2 : Int} {f3 : Int} {f4 : Int} {f5 : Int} {f6 : Int} {f7 : Int} {f8 : Int} {f9 : Bool} {f10 : Int} {α : Type} {d : Kd α} {e : Nat} {base : Nat} {ok : Nat → Prop} {v : Value} {xs : List α} (h : IsS30 w0 W g f0 f1 f2 f3 f4 f5 f6 f7 f8 f9 f10) (ho : d.R e W base ok v xs) (ht : e ≠ 30) : some g ≠ v.ownBlock := by
 obtain ⟨hb, hg⟩ := h
 exact Kd.R_ne ho hb ht
theorem IsS30.lt {w0 W : World} {g : Nat} {f0 : Int} {f1 : Int} {f2 : Int} {f3 : Int} {f4 : Int} {f5 : Int} {f6 : Int} {f7 : Int} {f8 : Int} {f9 : Bool} {f10 : Int} (h : IsS30 w0 W g f0 f1 f2 f3 f4 f5 f6 f7 f8 f9 f10) : g < W.heap.size := by
 obtain ⟨hb, hg⟩ := h
 exact blk_lt hb
theorem IsS30.ge {w0 W : World} {g : Nat} {f0 : Int} {f1 : Int} {f2 : Int} {f3 : Int} {f4 : Int} {f5 : Int} {f6 : Int} {f7 : Int} {f8 : Int} {f9 : Bool} {f10 : Int} (h : IsS30 w0 W g f0 f1 f2 f3 f4 f5 f6 f7 f8 f9 f10) : w0.heap.size ≤ g := by
 obtain ⟨hb, hg⟩ := h
 exact hg
theorem IsS30.far {w0 W : World} {g : Nat} {f0 : Int} {f1 : Int} {f2 : Int} {f3 : Int} {f4 : Int} {f5 : Int} {f6 : Int} {f7 : Int} {f8 : Int} {f9 : Bool} {f10 : Int} {p : Addr} (h : IsS30 w0 W g f0 f1 f2 f3 f4 f5 f6 f7 f8 f9 f10) (hne : g ≠ p.block) (u : Value) : IsS30 w0 (W.setCell p u) g f0 f1 f2 f3 f4 f5 f6 f7 f8 f9 f10 := by
 obtain ⟨hb, hg⟩ := h
 exact ⟨blk_far hb hne u, hg⟩
theorem cellS30_0 {W : World} {g : Nat} {f0 : Int} {f1 : Int} {f2 : Int} {f3 : Int} {f4 : Int} {f5 : Int} {f6 : Int} {f7 : Int} {f8 : Int} {f9 : Bool} {f10 : Int} (h : W.heap[g]? = some (.cells #[.int .i64 f0, .int .i64 f1, .int .i64 f2, .int .i64 f3, .int .i64 f4, .int .i64 f5, .int .i64 f6, .int .i64 f7, .int .i64 f8, .bool f9, .int .i64 f10] 30 (0, 0))) : W.cell? ⟨g, 0, none⟩ = some (.int .i64 f0) := (blk_cell h 0).trans rfl
theorem IsS30.set_0 {w0 W : World} {g : Nat} {f0 : Int} {f1 : Int} {f2 : Int} {f3 : Int} {f4 : Int} {f5 : Int} {f6 : Int} {f7 : Int} {f8 : Int} {f9 : Bool} {f10 : Int} (h : IsS30 w0 W g f0 f1 f2 f3 f4 f5 f6 f7 f8 f9 f10) (x : Int) : IsS30 w0 (W.setCell ⟨g, 0, none⟩ (.int .i64 x)) g x f1 f2 f3 f4 f5 f6 f7 f8 f9 f10 := by
 obtain ⟨hb, hg⟩ := h
 exact ⟨by simpa using blk_set hb 0 (.int .i64 x), hg⟩
theorem cellS30_1 {W : World} {g : Nat} {f0 : Int} {f1 : Int} {f2 : Int} {f3 : Int} {f4 : Int} {f5 : Int} {f6 : Int} {f7 : Int} {f8 : Int} {f9 : Bool} {f10 : Int} (h : W.heap[g]? = some (.cells #[.int .i64 f0, .int .i64 f1, .int .i64 f2, .int .i64 f3, .int .i64 f4, .int .i64 f5, .int .i64 f6, .int .i64 f7, .int .i64 f8, .bool f9, .int .i64 f10] 30 (0, 0))) : W.cell? ⟨g, 1, none⟩ = some (.int .i64 f1) := (blk_cell h 1).trans rfl
theorem IsS30.set_1 {w0 W : World} {g : Nat} {f0 : Int} {f1 : Int} {f2 : Int} {f3 : Int} {f4 : Int} {f5 : Int} {f6 : Int} {f7 : Int} {f8 : Int} {f9 : Bool} {f10 : Int} (h : IsS30 w0 W g f0 f1 f2 f3 f4 f5 f6 f7 f8 f9 f10) (x : Int) : IsS30 w0 (W.setCell ⟨g, 1, none⟩ (.int .i64 x)) g f0 x f2 f3 f4 f5 f6 f7 f8 f9 f10 := by
 obtain ⟨hb, hg⟩ := h
 exact ⟨by simpa using blk_set hb 1 (.int .i64 x), hg⟩
theorem cellS30_2 {W : World} {g : Nat} {f0 : Int} {f1 : Int} {f2 : Int} {f3 : Int} {f4 : Int} {f5 : Int} {f6 : Int} {f7 : Int} {f8 : Int} {f9 : Bool} {f10 : Int} (h : W.heap[g]? = some (.cells #[.int .i64 f0, .int .i64 f1, .int .i64 f2, .int .i64 f3, .int .i64 f4, .int .i64 f5, .int .i64 f6, .int .i64 f7, .int .i64 f8, .bool f9, .int .i64 f10] 30 (0, 0))) : W.cell? ⟨g, 2, none⟩ = some (.int .i64 f2) := (blk_cell h 2).trans rfl
theorem IsS30.set_2 {w0 W : World} {g : Nat} {f0 : Int} {f1 : Int} {f2 : Int} {f3 : Int} {f4 : Int} {f5 : Int} {f6 : Int} {f7 : Int} {f8 : Int} {f9 : Bool} {f10 : Int} (h : IsS30 w0 W g f0 f1 f2 f3 f4 f5 f6 f7 f8 f9 f10) (x : Int) : IsS30 w0 (W.setCell ⟨g, 2, none⟩ (.int .i64 x)) g f0 f1 x f3 f4 f5 f6 f7 f8 f9 f10 := by
 obtain ⟨hb, hg⟩ := h
 exact ⟨by simpa using blk_set hb 2 (.int .i64 x), hg⟩
theorem cellS30_3 {W : World} {g : Nat} {f0 : Int} {f1 : Int} {f2 : Int} {f3 : Int} {f4 : Int} {f5 : Int} {f6 : Int} {f7 : Int} {f8 : Int} {f9 : Bool} {f10 : Int} (h : W.heap[g]? = some (.cells #[.int .i64 f0, .int .i64 f1, .int .i64 f2, .int .i64 f3, .int .i64 f4, .int .i64 f5, .int .i64 f6, .int .i64 f7, .int .i64 f8, .bool f9, .int .i64 f10] 30 (0, 0))) : W.cell? ⟨g, 3, none⟩ = some (.int .i64 f3) := (blk_cell h 3).trans rfl
theorem IsS30.set_3 {w0 W : World} {g : Nat} {f0 : Int} {f1 : Int} {f2 : Int} {f3 : Int} {f4 : Int} {f5 : Int} {f6 : Int} {f7 : Int} {f8 : Int} {f9 : Bool} {f10 : Int} (h : IsS30 w0 W g f0 f1 f2 f3 f4 f5 f6 f7 f8 f9 f10) (x : Int) : IsS30 w0 (W.setCell ⟨g, 3, none⟩ (.int .i64 x)) g f0 f1 f2 x f4 f5 f6 f7 f8 f9 f10 := by
 obtain ⟨hb, hg⟩ := h
 exact ⟨by simpa using blk_set hb 3 (.int .i64 x), hg⟩
theorem cellS30_4 {W : World} {g : Nat} {f0 : Int} {f1 : Int} {f2 : Int} {f3 : Int} {f4 : Int} {f5 : Int} {f6 : Int} {f7 : Int} {f8 : Int} {f9 : Bool} {f10 : Int} (h : W.heap[g]? = some (.cells #[.int .i64 f0, .int .i64 f1, .int .i64 f2, .int .i64 f3, .int .i64 f4, .int .i64 f5, .int .i64 f6, .int .i64 f7, .int .i64 f8, .bool f9, .int .i64 f10] 30 (0, 0))) : W.cell? ⟨g, 4, none⟩ = some (.int .i64 f4) := (blk_cell h 4).trans rfl
theorem IsS30.set_4 {w0 W : World} {g : Nat} {f0 : Int} {f1 : Int} {f2 : Int} {f3 : Int} {f4 : Int} {f5 : Int} {f6 : Int} {f7 : Int} {f8 : Int} {f9 : Bool} {f10 : Int} (h : IsS30 w0 W g f0 f1 f2 f3 f4 f5 f6 f7 f8 f9 f10) (x : Int) : IsS30 w0 (W.setCell ⟨g, 4, none⟩ (.int .i64 x)) g f0 f1 f2 f3 x f5 f6 f7 f8 f9 f10 := by
 obtain ⟨hb, hg⟩ := h
 exact ⟨by simpa using blk_set hb 4 (.int .i64 x), hg⟩
theorem cellS30_5 {W : World} {g : Nat} {f0 : Int} {f1 : Int} {f2 : Int} {f3 : Int} {f4 : Int} {f5 : Int} {f6 : Int} {f7 : Int} {f8 : Int} {f9 : Bool} {f10 : Int} (h : W.heap[g]? = some (.cells #[.int .i64 f0, .int .i64 f1, .int .i64 f2, .int .i64 f3, .int .i64 f4, .int .i64 f5, .int .i64 f6, .int .i64 f7, .int .i64 f8, .bool f9, .int .i64 f10] 30 (0, 0))) : W.cell? ⟨g, 5, none⟩ = some (.int .i64 f5) := (blk_cell h 5).trans rfl
theorem IsS30.set_5 {w0 W : World} {g : Nat} {f0 : Int} {f1 : Int} {f2 : Int} {f3 : Int} {f4 : Int} {f5 : Int} {f6 : Int} {f7 : Int} {f8 : Int} {f9 : Bool} {f10 : Int} (h : IsS30 w0 W g f0 f1 f2 f3 f4 f5 f6 f7 f8 f9 f10) (x : Int) : IsS30 w0 (W.setCell ⟨g, 5, none⟩ (.int .i64 x)) g f0 f1 f2 f3 f4 x f6 f7 f8 f9 f10 := by
 obtain ⟨hb, hg⟩ := h
 exact ⟨by simpa using blk_set hb 5 (.int .i64 x), hg⟩
theorem cellS30_6 {W : World} {g : Nat} {f0 : Int} {f1 : Int} {f2 : Int} {f3 : Int} {f4 : Int} {f5 : Int} {f6 : Int} {f7 : Int} {f8 : Int} {f9 : Bool} {f10 : Int} (h : W.heap[g]? = some (.cells #[.int .i64 f0, .int .i64 f1, .int .i64 f2, .int .i64 f3, .int .i64 f4, .int .i64 f5, .int .i64 f6, .int .i64 f7, .int .i64 f8, .bool f9, .int .i64 f10] 30 (0, 0))) : W.cell? ⟨g, 6, none⟩ = some (.int .i64 f6) := (blk_cell h 6).trans rfl
theorem IsS30.set_6 {w0 W : World} {g : Nat} {f0 : Int} {f1 : Int} {f2 : Int} {f3 : Int} {f4 : Int} {f5 : Int} {f6 : Int} {f7 : Int} {f8 : Int} {f9 : Bool} {f10 : Int} (h : IsS30 w0 W g f0 f1 f2 f3 f4 f5 f6 f7 f8 f9 f10) (x : Int) : IsS30 w0 (W.setCell ⟨g, 6, none⟩ (.int .i64 x)) g f0 f1 f2 f3 f4 f5 x f7 f8 f9 f10 := by
 obtain ⟨hb, hg⟩ := h
 exact ⟨by simpa using blk_set hb 6 (.int .i64 x), hg⟩
theorem cellS30_7 {W : World} {g : Nat} {f0 : Int} {f1 : Int} {f2 : Int} {f3 : Int} {f4 : Int} {f5 : Int} {f6 : Int} {f7 : Int} {f8 : Int} {f9 : Bool} {f10 : Int} (h : W.heap[g]? = some (.cells #[.int .i64 f0, .int .i64 f1, .int .i64 f2, .int .i64 f3, .int .i64 f4, .int .i64 f5, .int .i64 f6, .int .i64 f7, .int .i64 f8, .bool f9, .int .i64 f10] 30 (0, 0))) : W.cell? ⟨g, 7, none⟩ = some (.int .i64 f7) := (blk_cell h 7).trans rfl
theorem IsS30.set_7 {w0 W : World} {g : Nat} {f0 : Int} {f1 : Int} {f2 : Int} {f3 : Int} {f4 : Int} {f5 : Int} {f6 : Int} {f7 : Int} {f8 : Int} {f9 : Bool} {f10 : Int} (h : IsS30 w0 W g f0 f1 f2 f3 f4 f5 f6 f7 f8 f9 f10) (x : Int) : IsS30 w0 (W.setCell ⟨g, 7, none⟩ (.int .i64 x)) g f0 f1 f2 f3 f4 f5 f6 x f8 f9 f10 := by
 obtain ⟨hb, hg⟩ := h
 exact ⟨by simpa using blk_set hb 7 (.int .i64 x), hg⟩
theorem cellS30_8 {W : World} {g : Nat} {f0 : Int} {f1 : Int} {f2 : Int} {f3 : Int} {f4 : Int} {f5 : Int} {f6 : Int} {f7 : Int} {f8 : Int} {f9 : Bool} {f10 : Int} (h : W.heap[g]? = some (.cells #[.int .i64 f0, .int .i64 f1, .int .i64 f2, .int .i64 f3, .int .i64 f4, .int .i64 f5, .int .i64 f6, .int .i64 f7, .int .i64 f8, .bool f9, .int .i64 f10] 30 (0, 0))) : W.cell? ⟨g, 8, none⟩ = some (.int .i64 f8) := (blk_cell h 8).trans rfl
theorem IsS30.set_8 {w0 W : World} {g : Nat} {f0 : Int} {f1 : Int} {f2 : Int} {f3 : Int} {f4 : Int} {f5 : Int} {f6 : Int} {f7 : Int} {f8 : Int} {f9 : Bool} {f10 : Int} (h : IsS30 w0 W g f0 f1 f2 f3 f4 f5 f6 f7 f8 f9 f10) (x : Int) : IsS30 w0 (W.setCell ⟨g, 8, none⟩ (.int .i64 x)) g f0 f1 f2 f3 f4 f5 f6 f7 x f9 f10 := by
 obtain ⟨hb, hg⟩ := h
 exact ⟨by simpa using blk_set hb 8 (.int .i64 x), hg⟩
theorem cellS30_9 {W : World} {g : Nat} {f0 : Int} {f1 : Int} {f2 : Int} {f3 : Int} {f4 : Int} {f5 : Int} {f6 : Int} {f7 : Int} {f8 : Int} {f9 : Bool} {f10 : Int} (h : W.heap[g]? = some (.cells #[.int .i64 f0, .int .i64 f1, .int .i64 f2, .int .i64 f3, .int .i64 f4, .int .i64 f5, .int .i64 f6, .int .i64 f7, .int .i64 f8, .bool f9, .int .i64 f10] 30 (0, 0))) : W.cell? ⟨g, 9, none⟩ = some (.bool f9) := (blk_cell h 9).trans rfl
theorem IsS30.set_9 {w0 W : World} {g : Nat} {f0 : Int} {f1 : Int} {f2 : Int} {f3 : Int} {f4 : Int} {f5 : Int} {f6 : Int} {f7 : Int} {f8 : Int} {f9 : Bool} {f10 : Int} (h : IsS30 w0 W g f0 f1 f2 f3 f4 f5 f6 f7 f8 f9 f10) (x : Bool) : IsS30 w0 (W.setCell ⟨g, 9, none⟩ (.bool x)) g f0 f1 f2 f3 f4 f5 f6 f7 f8 x f10 := by
 obtain ⟨hb, hg⟩ := h
 exact ⟨by simpa using blk_set hb 9 (.bool x), hg⟩
theorem cellS30_10 {W : World} {g : Nat} {f0 : Int} {f1 : Int} {f2 : Int} {f3 : Int} {f4 : Int} {f5 : Int} {f6 : Int} {f7 : Int} {f8 : Int} {f9 : Bool} {f10 : Int} (h : W.heap[g]? = some (.cells #[.int .i64 f0, .int .i64 f1, .int .i64 f2, .int .i64 f3, .int .i64 f4, .int .i64 f5, .int .i64 f6, .int .i64 f7, .int .i64 f8, .bool f9, .int .i64 f10] 30 (0, 0))) : W.cell? ⟨g, 10, none⟩ = some (.int .i64 f10) := (blk_cell h 10).trans rfl
theorem IsS30.set_10 {w0 W : World} {g : Nat} {f0 : Int} {f1 : Int} {f2 : Int} {f3 : Int} {f4 : Int} {f5 : Int} {f6 : Int} {f7 : Int} {f8 : Int} {f9 : Bool} {f10 : Int} (h : IsS30 w0 W g f0 f1 f2 f3 f4 f5 f6 f7 f8 f9 f10) (x : Int) : IsS30 w0 (W.setCell ⟨g, 10, none⟩ (.int .i64 x)) g f0 f1 f2 f3 f4 f5 f6 f7 f8 f9 x := by
 obtain ⟨hb, hg⟩ := h
 exact ⟨by simpa using blk_set hb 10 (.int .i64 x), hg⟩
theorem IsS30.new (w0 W : World) (f0 : Int) (f1 : Int) (f2 : Int) (f3 : Int) (f4 : Int) (f5 : Int) (f6 : Int) (f7 : Int) (f8 : Int) (f9 : Bool) (f10 : Int) (hB : Below w0.heap.size w0 W) : IsS30 w0 (W.alloc (.cells #[.int .i64 f0, .int .i64 f1, .int .i64 f2, .int .i64 f3, .int .i64 f4, .int .i64 f5, .int .i64 f6, .int .i64 f7, .int .i64 f8, .bool f9, .int .i64 f10] 30)) W.heap.size f0 f1 f2 f3 f4 f5 f6 f7 f8 f9 f10 := ⟨by simpa using heap_alloc_new W _, hB.size⟩

/-! ### spec_l06Nobody: function 96 -/
def spec_l06Nobody.f (l0 : List Int) (s1_0 : Int) (s1_1 : Int) (s1_2 : Int) (s1_3 : Int) (s1_4 : Int) (s1_5 : Int) (s1_6 : Int) (s1_7 : Int) (s1_8 : Int) (s1_9 : Bool) (s1_10 : Int) : Option (Int × Int × Int × Int × Int × Int × Int × Int × Int × Bool × Int × List Int) := if s1_0 = 2 then (if 0 ≤ (wrap64 (3 * s1_3)) then (if (wrap64 (3 * s1_3)) < (l0.length : Int) then (if 0 ≤ (wrap64 ((wrap64 (3 * s1_3)) + 1)) then (if (wrap64 ((wrap64 (3 * s1_3)) + 1)) < (l0.length : Int) then (if 0 ≤ (wrap64 ((wrap64 (3 * s1_3)) + 2)) then (if (wrap64 ((wrap64 (3 * s1_3)) + 2)) < (l0.length : Int) then (some (s1_0, s1_1, s1_2, s1_3, 4, s1_5, s1_6, s1_7, s1_8, s1_9, s1_10, (((l0.set ((wrap64 (3 * s1_3)) : Int).toNat s1_1).set ((wrap64 ((wrap64 (3 * s1_3)) + 1)) : Int).toNat s1_2).set ((wrap64 ((wrap64 (3 * s1_3)) + 2)) : Int).toNat (wrap64 (2 * s1_6))))) else (none)) else (none)) else (none)) else (none)) else (none)) else (none)) else (some (s1_0, s1_1, s1_2, s1_3, s1_4, s1_5, s1_6, s1_7, s1_8, true, 0, l0))
def spec_l06Nobody.T3 : Bool × List (List Nat × List Nat) := (true, [([], []), ([], []), ([1], [1]), ([2], [2]), ([3], [3]), ([4], [4]), ([], []), ([6], [6]), ([7], [7]), ([8], [8]), ([0, 5, 0, 1, 2, 3, 4, 5, 6, 7, 8, 9], [0, 5]), ([10, 9, 0, 1, 2, 3, 4, 5, 6, 7, 8, 9], [9, 10])])
def spec_l06Nobody.B3 : List Nat := [0, 0, 2, 6, 14, 30, 0, 64, 192, 448, 1023, 2047]
theorem spec_l06Nobody.tab3 : rtab .any (opsOf Try.f96 3) = spec_l06Nobody.T3 := by kernel_rfl
theorem spec_l06Nobody.bits3 : waitsOk spec_l06Nobody.T3.2 spec_l06Nobody.B3 = true := by kernel_rfl
def spec_l06Nobody.T4 : Bool × List (List Nat × List Nat) := (true, [([], []), ([], []), ([1], [1]), ([2], [2]), ([3], [3]), ([4], [4]), ([5], [5]), ([], []), ([7], [7]), ([8], [8]), ([9], [9]), ([0, 6, 0, 1, 2, 3, 4, 5, 6, 7, 8, 9, 10], [0, 6]), ([11, 10, 0, 1, 2, 3, 4, 5, 6, 7, 8, 9, 10], [10, 11])])
def spec_l06Nobody.B4 : List Nat := [0, 0, 2, 6, 14, 30, 62, 0, 128, 384, 896, 2047, 4095]
theorem spec_l06Nobody.tab4 : rtab .any (opsOf Try.f96 4) = spec_l06Nobody.T4 := by kernel_rfl
theorem spec_l06Nobody.bits4 : waitsOk spec_l06Nobody.T4.2 spec_l06Nobody.B4 = true := by kernel_rfl
def spec_l06Nobody.T5 : Bool × List (List Nat × List Nat) := (true, [([], []), ([], []), ([1], [1]), ([2], [2]), ([3], [3]), ([4], [4]), ([5], [5]), ([], []), ([7], [7]), ([8], [8]), ([9], [9]), ([10], [10]), ([0, 6, 0, 1, 2, 3, 4, 5, 6, 7, 8, 9, 10, 11], [0, 6]), ([12, 11, 0, 1, 2, 3, 4, 5, 6, 7, 8, 9, 10, 11], [11, 12])])
def spec_l06Nobody.B5 : List Nat := [0, 0, 2, 6, 14, 30, 62, 0, 128, 384, 896, 1920, 4095, 8191]
theorem spec_l06Nobody.tab5 : rtab .any (opsOf Try.f96 5) = spec_l06Nobody.T5 := by kernel_rfl
theorem spec_l06Nobody.bits5 : waitsOk spec_l06Nobody.T5.2 spec_l06Nobody.B5 = true := by kernel_rfl
theorem spec_l06Nobody.k0 {p q : Prop} (h : q) (k : q → p := by intro h_; repeat (first | (with_reducible first | exact h_ | apply IsS30.alloc | apply IsS30.drewN | apply IsS30.drew | apply IsS30.set_0 | apply IsS30.set_1 | apply IsS30.set_2 | apply IsS30.set_3 | apply IsS30.set_4 | apply IsS30.set_5 | apply IsS30.set_6 | apply IsS30.set_7 | apply IsS30.set_8 | apply IsS30.set_9 | apply IsS30.set_10) | exact h_)) : p := k h
theorem spec_l06Nobody.k1 {p q : Prop} (h : q) (k : q → p := by intro h_; repeat (first | (with_reducible first | exact h_ | apply below_alloc | apply pw_below_drewN | apply below_drew1 | refine below_set ?_ (IsS30.ge HI1.out)) | exact h_)) : p := k h
theorem spec_l06Nobody.k2 {p q : Prop} (h : q) (k : q → p := by intro h_; repeat (first | (with_reducible first | exact h_ | apply Kept.alloc | apply Kept.drewN | apply Kept.drew | refine Kept.setCell ?_ (.inl (.inr rfl)) _) | exact h_)) : p := k h
theorem spec_l06Nobody.k3 {p q : Prop} (h : q) (k : q → p := by intro h_; repeat (first | (with_reducible first | exact h_ | apply IsS30.alloc | apply IsS30.drewN | apply IsS30.drew | apply IsS30.set_0 | apply IsS30.set_1 | apply IsS30.set_2 | apply IsS30.set_3 | apply IsS30.set_4 | apply IsS30.set_5 | apply IsS30.set_6 | apply IsS30.set_7 | apply IsS30.set_8 | apply IsS30.set_9 | apply IsS30.set_10 | refine IsS30.far ?_ (Aside0.out (by assumption)) _) | exact h_)) : p := k h
theorem spec_l06Nobody.k4 {p q : Prop} (h : q) (k : q → p := by intro h_; repeat (first | (with_reducible first | exact h_ | apply Kept.alloc | apply Kept.drewN | apply Kept.drew | refine Kept.setCell ?_ (Or.imp_left Or.inl (Aside0.out (by assumption))) _ | refine Kept.setCell ?_ (.inl (.inr rfl)) _) | exact h_)) : p := k h
theorem spec_l06Nobody.k5 {p q : Prop} (h : q) (k : q → p := by intro h_; repeat (first | (with_reducible first | exact h_ | apply below_alloc | apply pw_below_drewN | apply below_drew1 | refine below_set ?_ (Aside0.out (by assumption)) | refine below_set ?_ (IsS30.ge HI1.out)) | exact h_)) : p := k h
set_option maxHeartbeats 8000000 in
set_option maxRecDepth 100000 in
theorem spec_l06Nobody.calls (P0_ : Nat → Prop) (u9000_ : Value) (l0 : List Int) (g : Nat) (s1_0 : Int) (s1_1 : Int) (s1_2 : Int) (s1_3 : Int) (s1_4 : Int) (s1_5 : Int) (s1_6 : Int) (s1_7 : Int) (s1_8 : Int) (s1_9 : Bool) (s1_10 : Int) (r1 : Int) (r2 : Int) (r3 : Int) (r4 : Int) (r5 : Int) (r6 : Int) (r7 : Int) (r8 : Int) (r9 : Int) (r10 : Bool) (r11 : Int) (r12 : List Int) (w0 w : World) (hI : IsS30 w0 w g s1_0 s1_1 s1_2 s1_3 s1_4 s1_5 s1_6 s1_7 s1_8 s1_9 s1_10) (hB : Below w0.heap.size w0 w) (ho0 : Kd.R (Kd.int .i64) 3 w w0.heap.size P0_ u9000_ l0) (h : spec_l06Nobody.f l0 s1_0 s1_1 s1_2 s1_3 s1_4 s1_5 s1_6 s1_7 s1_8 s1_9 s1_10 = some (r1, r2, r3, r4, r5, r6, r7, r8, r9, r10, r11, r12)) :
  Calls Try.prog 96 #[u9000_, .pointer (some ⟨g, 0, none⟩)] w fun e w' => e = .returned (.tuple #[]) ∧ IsS30 w0 w' g r1 r2 r3 r4 r5 r6 r7 r8 r9 r10 r11 ∧ Kd.R (Kd.int .i64) 3 w' w0.heap.size (fun k_ => (P0_ k_ ∨ w.heap.size ≤ k_)) u9000_ r12 ∧ Below w0.heap.size w0 w' ∧ Kept w w' (fun k_ => (P0_ k_) ∨ k_ = g) := by
 have HO0 := Aside0.mk (show Kd.R (Kd.int .i64) 3 w w0.heap.size (fun k_ => (P0_ k_ ∨ w.heap.size ≤ k_)) u9000_ l0 from Kd.R_mono ho0 (fun k_ hk => (.inl hk)))
 have HI1 := Aside0.mk hI
 have HL := Aside0.mk hB.size
 clear hI
 have HK := Aside0.mk (Kept.refl w (fun k_ => (P0_ k_) ∨ k_ = g))
 have HW0 := Aside0.mk hB.size
 have HB := Aside0.mk hB
 clear hB
 have H : (if s1_0 = 2 then (if 0 ≤ (wrap64 (3 * s1_3)) then (if (wrap64 (3 * s1_3)) < (l0.length : Int) then (if 0 ≤ (wrap64 ((wrap64 (3 * s1_3)) + 1)) then (if (wrap64 ((wrap64 (3 * s1_3)) + 1)) < (l0.length : Int) then (if 0 ≤ (wrap64 ((wrap64 (3 * s1_3)) + 2)) then (if (wrap64 ((wrap64 (3 * s1_3)) + 2)) < (l0.length : Int) then (some (s1_0, s1_1, s1_2, s1_3, 4, s1_5, s1_6, s1_7, s1_8, s1_9, s1_10, (((l0.set ((wrap64 (3 * s1_3)) : Int).toNat s1_1).set ((wrap64 ((wrap64 (3 * s1_3)) + 1)) : Int).toNat s1_2).set ((wrap64 ((wrap64 (3 * s1_3)) + 2)) : Int).toNat (wrap64 (2 * s1_6))))) else (none)) else (none)) else (none)) else (none)) else (none)) else (none)) else (some (s1_0, s1_1, s1_2, s1_3, s1_4, s1_5, s1_6, s1_7, s1_8, true, 0, l0))) = some (r1, r2, r3, r4, r5, r6, r7, r8, r9, r10, r11, r12) := h
 clear h
 by_cases c3 : s1_0 = 2; rotate_left
 ·
  rw [if_neg c3] at H; have c3b0 : (s1_0 == 2) = false := beq_eq_false_iff_ne.mpr c3; have c3b1 : (s1_0 != 2) = true := bne_iff_ne.mpr c3; simp only [Option.some.injEq, Prod.mk.injEq] at H; obtain ⟨rfl, rfl, rfl, rfl, rfl, rfl, rfl, rfl, rfl, rfl, rfl, rfl⟩ := H; obtain ⟨HGz27, hgz27⟩ := HI1.out; have hcz27_0 := cellS30_0 HGz27; have hcz27_1 := cellS30_1 HGz27; have hcz27_2 := cellS30_2 HGz27; have hcz27_3 := cellS30_3 HGz27; have hcz27_4 := cellS30_4 HGz27; have hcz27_5 := cellS30_5 HGz27; have hcz27_6 := cellS30_6 HGz27; have hcz27_7 := cellS30_7 HGz27; have hcz27_8 := cellS30_8 HGz27; have hcz27_9 := cellS30_9 HGz27; have hcz27_10 := cellS30_10 HGz27; have hfz27_0 := blk_frozen HGz27 0; have hfz27_1 := blk_frozen HGz27 1; have hfz27_2 := blk_frozen HGz27 2; have hfz27_3 := blk_frozen HGz27 3; have hfz27_4 := blk_frozen HGz27 4; have hfz27_5 := blk_frozen HGz27 5; have hfz27_6 := blk_frozen HGz27 6; have hfz27_7 := blk_frozen HGz27 7; have hfz27_8 := blk_frozen HGz27 8; have hfz27_9 := blk_frozen HGz27 9; have hfz27_10 := blk_frozen HGz27 10; clear HGz27 hgz27
  go_enter Try.func96, Try.ntmps96
  go_wp2
  first | go_end0 | ((try simp only [Exit.inBlock, Exit.then]); refine bodyPost_ret (results_none rfl _ _ _) rfl ?_)
  exact ⟨EE, spec_l06Nobody.k0 HI1.out, by (with_reducible repeat (first | apply r1 | apply r2 | apply r3)); exact Kd.R_mono (Kd.R_far (p := ⟨g, 10, none⟩) (Kd.R_far (p := ⟨g, 9, none⟩) (IsS30.apart HI1.out HO0.out (by decide)) (fun _ hk => hk.2) (.bool true)) (fun _ hk => hk.2) (.int .i64 0)) (fun _ hk => hk.1), spec_l06Nobody.k1 HB.out, spec_l06Nobody.k2 HK.out⟩
 rw [if_pos c3] at H
 have c3b0 : (s1_0 == 2) = true := beq_iff_eq.mpr c3
 have c3b1 : (s1_0 != 2) = false := bne_eq_false_iff_eq.mpr c3
 clear c3
 obtain ⟨ji4, hji4⟩ : ∃ j_ : Int, (wrap64 (3 * s1_3)) = j_ := ⟨_, rfl⟩
 replace H : (if 0 ≤ (ji4) then (if (ji4) < (l0.length : Int) then (if 0 ≤ (wrap64 ((ji4) + 1)) then (if (wrap64 ((ji4) + 1)) < (l0.length : Int) then (if 0 ≤ (wrap64 ((ji4) + 2)) then (if (wrap64 ((ji4) + 2)) < (l0.length : Int) then (some (s1_0, s1_1, s1_2, s1_3, 4, s1_5, s1_6, s1_7, s1_8, s1_9, s1_10, (((l0.set ((ji4) : Int).toNat s1_1).set ((wrap64 ((ji4) + 1)) : Int).toNat s1_2).set ((wrap64 ((ji4) + 2)) : Int).toNat (wrap64 (2 * s1_6))))) else (none)) else (none)) else (none)) else (none)) else (none)) else (none)) = some (r1, r2, r3, r4, r5, r6, r7, r8, r9, r10, r11, r12) := by first | (rw [hji4] at H; exact H) | (simp only [hji4] at H ⊢; exact H)
 have hji4w : (IntKind.i64.wrap (3 * s1_3)) = ji4 := (i64_w _).trans hji4
 by_cases c5 : 0 ≤ (ji4); rotate_left
 ·
  rw [if_neg c5] at H; exact absurd H (by simp)
 rw [if_pos c5] at H
 have c5b0 : decide (0 ≤ (ji4)) = true := decide_eq_true c5
 clear c5
 by_cases c6 : (ji4) < (l0.length : Int); rotate_left
 ·
  rw [if_neg c6] at H; exact absurd H (by simp)
 rw [if_pos c6] at H
 have c6b0 : decide ((ji4) < (l0.length : Int)) = true := decide_eq_true c6
 clear c6
 obtain ⟨y127, hy127⟩ : ∃ y_ : List Int, y_ = (l0.set ((ji4) : Int).toNat s1_1) := ⟨_, rfl⟩
 replace H : (if 0 ≤ (wrap64 ((ji4) + 1)) then (if (wrap64 ((ji4) + 1)) < (l0.length : Int) then (if 0 ≤ (wrap64 ((ji4) + 2)) then (if (wrap64 ((ji4) + 2)) < (l0.length : Int) then (some (s1_0, s1_1, s1_2, s1_3, 4, s1_5, s1_6, s1_7, s1_8, s1_9, s1_10, ((y127.set ((wrap64 ((ji4) + 1)) : Int).toNat s1_2).set ((wrap64 ((ji4) + 2)) : Int).toNat (wrap64 (2 * s1_6))))) else (none)) else (none)) else (none)) else (none)) = some (r1, r2, r3, r4, r5, r6, r7, r8, r9, r10, r11, r12) := by first | (rw [hy127]; with_reducible exact H) | (have H2_ := (Option.bind_some _ _).symm.trans H; rw [hy127]; with_reducible exact H2_) | (have H2_ := (Option.bind_some _ _).symm.trans H; with_reducible exact H2_) | with_reducible exact H | (rw [hy127]; exact H) | exact H
 have Ny127 := Aside0.mk hy127
 clear hy127
 obtain ⟨ji8, hji8⟩ : ∃ j_ : Int, (wrap64 ((ji4) + 1)) = j_ := ⟨_, rfl⟩
 replace H : (if 0 ≤ (ji8) then (if (ji8) < (l0.length : Int) then (if 0 ≤ (wrap64 ((ji4) + 2)) then (if (wrap64 ((ji4) + 2)) < (l0.length : Int) then (some (s1_0, s1_1, s1_2, s1_3, 4, s1_5, s1_6, s1_7, s1_8, s1_9, s1_10, ((y127.set ((ji8) : Int).toNat s1_2).set ((wrap64 ((ji4) + 2)) : Int).toNat (wrap64 (2 * s1_6))))) else (none)) else (none)) else (none)) else (none)) = some (r1, r2, r3, r4, r5, r6, r7, r8, r9, r10, r11, r12) := by first | (rw [hji8] at H; exact H) | (simp only [hji8] at H ⊢; exact H)
 have hji8w : (IntKind.i64.wrap ((ji4) + 1)) = ji8 := (i64_w _).trans hji8
 by_cases c9 : 0 ≤ (ji8); rotate_left
 ·
  rw [if_neg c9] at H; exact absurd H (by simp)
 rw [if_pos c9] at H
 have c9b0 : decide (0 ≤ (ji8)) = true := decide_eq_true c9
 clear c9
 by_cases c10 : (ji8) < (l0.length : Int); rotate_left
 ·
  rw [if_neg c10] at H; exact absurd H (by simp)
 rw [if_pos c10] at H
 have c10b0 : decide ((ji8) < (l0.length : Int)) = true := decide_eq_true c10
 clear c10
 obtain ⟨y128, hy128⟩ : ∃ y_ : List Int, y_ = (y127.set ((ji8) : Int).toNat s1_2) := ⟨_, rfl⟩
 replace H : (if 0 ≤ (wrap64 ((ji4) + 2)) then (if (wrap64 ((ji4) + 2)) < (l0.length : Int) then (some (s1_0, s1_1, s1_2, s1_3, 4, s1_5, s1_6, s1_7, s1_8, s1_9, s1_10, (y128.set ((wrap64 ((ji4) + 2)) : Int).toNat (wrap64 (2 * s1_6))))) else (none)) else (none)) = some (r1, r2, r3, r4, r5, r6, r7, r8, r9, r10, r11, r12) := by first | (rw [hy128]; with_reducible exact H) | (have H2_ := (Option.bind_some _ _).symm.trans H; rw [hy128]; with_reducible exact H2_) | (have H2_ := (Option.bind_some _ _).symm.trans H; with_reducible exact H2_) | with_reducible exact H | (rw [hy128]; exact H) | exact H
 have Ny128 := Aside0.mk hy128
 clear hy128
 obtain ⟨ji12, hji12⟩ : ∃ j_ : Int, (wrap64 ((ji4) + 2)) = j_ := ⟨_, rfl⟩
 replace H : (if 0 ≤ (ji12) then (if (ji12) < (l0.length : Int) then (some (s1_0, s1_1, s1_2, s1_3, 4, s1_5, s1_6, s1_7, s1_8, s1_9, s1_10, (y128.set ((ji12) : Int).toNat (wrap64 (2 * s1_6))))) else (none)) else (none)) = some (r1, r2, r3, r4, r5, r6, r7, r8, r9, r10, r11, r12) := by first | (rw [hji12] at H; exact H) | (simp only [hji12] at H ⊢; exact H)
 have hji12w : (IntKind.i64.wrap ((ji4) + 2)) = ji12 := (i64_w _).trans hji12
 by_cases c13 : 0 ≤ (ji12); rotate_left
 ·
  rw [if_neg c13] at H; exact absurd H (by simp)
 rw [if_pos c13] at H
 have c13b0 : decide (0 ≤ (ji12)) = true := decide_eq_true c13
 clear c13
 by_cases c14 : (ji12) < (l0.length : Int); rotate_left
 ·
  rw [if_neg c14] at H; exact absurd H (by simp)
 rw [if_pos c14] at H
 have c14b0 : decide ((ji12) < (l0.length : Int)) = true := decide_eq_true c14
 clear c14
 obtain ⟨y129, hy129⟩ : ∃ y_ : List Int, y_ = (y128.set ((ji12) : Int).toNat (wrap64 (2 * s1_6))) := ⟨_, rfl⟩
 replace H : (some (s1_0, s1_1, s1_2, s1_3, 4, s1_5, s1_6, s1_7, s1_8, s1_9, s1_10, y129)) = some (r1, r2, r3, r4, r5, r6, r7, r8, r9, r10, r11, r12) := by first | (rw [hy129]; with_reducible exact H) | (have H2_ := (Option.bind_some _ _).symm.trans H; rw [hy129]; with_reducible exact H2_) | (have H2_ := (Option.bind_some _ _).symm.trans H; with_reducible exact H2_) | with_reducible exact H | (rw [hy129]; exact H) | exact H
 have Ny129 := Aside0.mk hy129
 clear hy129
 simp only [Option.some.injEq, Prod.mk.injEq] at H
 obtain ⟨rfl, rfl, rfl, rfl, rfl, rfl, rfl, rfl, rfl, rfl, rfl, rfl⟩ := H
 obtain ⟨HGz16, hgz16⟩ := HI1.out
 have hcz16_0 := cellS30_0 HGz16
 have hcz16_1 := cellS30_1 HGz16
 have hcz16_2 := cellS30_2 HGz16
 have hcz16_3 := cellS30_3 HGz16
 have hcz16_4 := cellS30_4 HGz16
 have hcz16_5 := cellS30_5 HGz16
 have hcz16_6 := cellS30_6 HGz16
 have hcz16_7 := cellS30_7 HGz16
 have hcz16_8 := cellS30_8 HGz16
 have hcz16_9 := cellS30_9 HGz16
 have hcz16_10 := cellS30_10 HGz16
 have hfz16_0 := blk_frozen HGz16 0
 have hfz16_1 := blk_frozen HGz16 1
 have hfz16_2 := blk_frozen HGz16 2
 have hfz16_3 := blk_frozen HGz16 3
 have hfz16_4 := blk_frozen HGz16 4
 have hfz16_5 := blk_frozen HGz16 5
 have hfz16_6 := blk_frozen HGz16 6
 have hfz16_7 := blk_frozen HGz16 7
 have hfz16_8 := blk_frozen HGz16 8
 have hfz16_9 := blk_frozen HGz16 9
 have hfz16_10 := blk_frozen HGz16 10
 clear HGz16 hgz16
 go_enter Try.func96, Try.ntmps96
 try go_wp2
 have n0_ := Aside0.mk (Kd.R_drew HO0.out)
 have n1_ := Aside0.mk (IsS30.drew HI1.out)
 have n2_ := Aside0.mk (Kept.drew HK.out)
 have n3_ := Aside0.mk (below_drew1 HB.out)
 clear HO0
 clear HI1
 clear HK
 clear HB
 have HO0 := n0_
 have HI1 := n1_
 have HK := n2_
 have HB := n3_
 clear n0_ n1_ n2_ n3_
 have p7 : 0 ≤ ((ji4) : Int) := of_decide_eq_true AS
 have q7 : ((ji4) : Int) < ((l0.length : Int) : Int) := of_decide_eq_true AS
 obtain ⟨go7, co7, eo7, gb7, gl7, cl7, HG7⟩ := Kd.R_form HO0.out (by omega)
 (first | cases eo7 | (injection eo7 with ea_ en_ ec_; (first | subst ea_ | (injection ea_ with ea_; subst ea_)); subst ec_; clear en_))
 have GB7 := Aside0.mk gb7
 have GG7 := Aside0.mk HG7
 clear gb7 gl7 HG7
 have HMgo7 := Aside0.mk (show (P0_ go7 ∨ w.heap.size ≤ go7) from (HO0.out.1 _ rfl))
 obtain ⟨hx7_0, hf7_0⟩ := Kd.R_celln 0 HO0.out ((ji4) : Int) p7 q7
 replace p7 := eq_true p7
 replace q7 := eq_true q7
 have HN1_go7 := Aside0.mk (show g ≠ go7 from by have h_ := IsS30.own_ne HI1.out HO0.out (by decide); intro e_; exact h_ (by rw [e_]; rfl))
 have HP18 := Kd.R_putn HO0.out ((ji4) : Int) s1_1
 rw [← Ny127.out] at HP18
 have HQ18 := Aside0.mk HP18
 clear HP18
 refine start_ (n := 12) (S := fun w' => w'.cell? ⟨g, 0, none⟩ = some (.int .i64 s1_0) ∧ w'.cell? ⟨g, 1, none⟩ = some (.int .i64 s1_1) ∧ w'.cell? ⟨g, 2, none⟩ = some (.int .i64 s1_2) ∧ w'.cell? ⟨g, 3, none⟩ = some (.int .i64 s1_3) ∧ w'.cell? ⟨g, 4, none⟩ = some (.int .i64 s1_4) ∧ w'.cell? ⟨g, 5, none⟩ = some (.int .i64 s1_5) ∧ w'.cell? ⟨g, 6, none⟩ = some (.int .i64 s1_6) ∧ w'.cell? ⟨g, 7, none⟩ = some (.int .i64 s1_7) ∧ w'.cell? ⟨g, 8, none⟩ = some (.int .i64 s1_8) ∧ w'.cell? ⟨g, 9, none⟩ = some (.bool s1_9) ∧ w'.cell? ⟨g, 10, none⟩ = some (.int .i64 s1_10)) (ds := [11]) #[false, false, false, false, false, false, false, false, false, false, false, false] (by kernel_rfl) rfl rfl ⟨(blk_cell (Aside0.mk (HI1.out).1).out 0).trans rfl, (blk_cell (Aside0.mk (HI1.out).1).out 1).trans rfl, (blk_cell (Aside0.mk (HI1.out).1).out 2).trans rfl, (blk_cell (Aside0.mk (HI1.out).1).out 3).trans rfl, (blk_cell (Aside0.mk (HI1.out).1).out 4).trans rfl, (blk_cell (Aside0.mk (HI1.out).1).out 5).trans rfl, (blk_cell (Aside0.mk (HI1.out).1).out 6).trans rfl, (blk_cell (Aside0.mk (HI1.out).1).out 7).trans rfl, (blk_cell (Aside0.mk (HI1.out).1).out 8).trans rfl, (blk_cell (Aside0.mk (HI1.out).1).out 9).trans rfl, (blk_cell (Aside0.mk (HI1.out).1).out 10).trans rfl⟩ (fun hHeld => ?_); refine with_tabW spec_l06Nobody.tab3 spec_l06Nobody.bits3 (fun HT_ HW_ => ?_)
 generalize w.drew = w17 at HO0 HI1 HK HB GG7 HQ18 hf7_0 hx7_0 hHeld ⊢
 refine pV 0 15 (OB 12 1) ?_
 refine pV 1 16 (OB 12 3) ?_
 refine pV 2 17 (OB 12 7) ?_
 refine pV 3 18 (OB 12 15) ?_
 refine pV 6 21 (OB 12 79) ?_
 refine pV 7 22 (OB 12 207) ?_
 refine pV 8 23 (OB 12 463) ?_
 refine pT 4 19 (OB 12 479) ?_
 refine pV 5 20 (OB 12 511) ?_
 refine pT 9 24 (OB 12 1023) ?_
 refine pV 10 25 (OB 12 2047) ?_
 refine last_ (i := 11) (N := none) #[true, true, true, true, true, true, true, true, true, true, true, true] rfl rfl (one_of HT_.out (by kernel_rfl)) (by decide) (fun K hK => ?_)
 refine skip_ (w1 := ?_) (by rfl) rfl ?_ ?_
 rotate_left
 ·
  go_simp
  rfl
 refine hK.out _ _ ?_
 clear hK K
 refine done_ (done_of HT_.out (by kernel_rfl)) ?_
 have n0_ : Aside0 (Kd.R (Kd.int .i64) 3 (w17.setCell ⟨go7, ((ji4) : Int).toNat, none⟩ (.int .i64 s1_1)) w0.heap.size (fun k_ => (P0_ k_ ∨ w.heap.size ≤ k_)) (.slice (some ⟨go7, 0, none⟩) l0.length co7) y127) := ⟨RQ HQ18.out⟩
 have n1_ : Aside0 (IsS30 w0 (w17.setCell ⟨go7, ((ji4) : Int).toNat, none⟩ (.int .i64 s1_1)) g s1_0 s1_1 s1_2 s1_3 s1_4 s1_5 s1_6 s1_7 s1_8 s1_9 s1_10) := ⟨spec_l06Nobody.k3 HI1.out⟩
 have n2_ : Aside0 (Kept w (w17.setCell ⟨go7, ((ji4) : Int).toNat, none⟩ (.int .i64 s1_1)) (fun k_ => (P0_ k_) ∨ k_ = g)) := ⟨spec_l06Nobody.k4 HK.out⟩
 have n3_ : Aside0 (Below w0.heap.size w0 (w17.setCell ⟨go7, ((ji4) : Int).toNat, none⟩ (.int .i64 s1_1))) := ⟨spec_l06Nobody.k5 HB.out⟩
 (try clear HO0)
 (try clear HI1)
 (try clear HK)
 (try clear HB)
 generalize (w17.setCell ⟨go7, ((ji4) : Int).toNat, none⟩ (.int .i64 s1_1)) = w19 at n0_ n1_ n2_ n3_ ⊢
 have HO0 := n0_
 have HI1 := n1_
 have HK := n2_
 have HB := n3_
 clear n0_ n1_ n2_ n3_
 try go_wp2
 have n0_ := Aside0.mk (Kd.R_drew HO0.out)
 have n1_ := Aside0.mk (IsS30.drew HI1.out)
 have n2_ := Aside0.mk (Kept.drew HK.out)
 have n3_ := Aside0.mk (below_drew1 HB.out)
 clear HO0
 clear HI1
 clear HK
 clear HB
 have HO0 := n0_
 have HI1 := n1_
 have HK := n2_
 have HB := n3_
 clear n0_ n1_ n2_ n3_
 have p11 : 0 ≤ ((ji8) : Int) := of_decide_eq_true AS
 have q11 : ((ji8) : Int) < ((l0.length : Int) : Int) := of_decide_eq_true AS
 obtain ⟨hx11_0, hf11_0⟩ := Kd.R_celln 0 HO0.out ((ji8) : Int) p11 q11
 replace p11 := eq_true p11
 replace q11 := eq_true q11
 have HN1_go7 := Aside0.mk (show g ≠ go7 from by have h_ := IsS30.own_ne HI1.out HO0.out (by decide); intro e_; exact h_ (by rw [e_]; rfl))
 have HP21 := Kd.R_putn HO0.out ((ji8) : Int) s1_2
 rw [← Ny128.out] at HP21
 have HQ21 := Aside0.mk HP21
 clear HP21
 refine start_ (n := 13) (S := fun w' => w'.cell? ⟨g, 0, none⟩ = some (.int .i64 s1_0) ∧ w'.cell? ⟨g, 1, none⟩ = some (.int .i64 s1_1) ∧ w'.cell? ⟨g, 2, none⟩ = some (.int .i64 s1_2) ∧ w'.cell? ⟨g, 3, none⟩ = some (.int .i64 s1_3) ∧ w'.cell? ⟨g, 4, none⟩ = some (.int .i64 s1_4) ∧ w'.cell? ⟨g, 5, none⟩ = some (.int .i64 s1_5) ∧ w'.cell? ⟨g, 6, none⟩ = some (.int .i64 s1_6) ∧ w'.cell? ⟨g, 7, none⟩ = some (.int .i64 s1_7) ∧ w'.cell? ⟨g, 8, none⟩ = some (.int .i64 s1_8) ∧ w'.cell? ⟨g, 9, none⟩ = some (.bool s1_9) ∧ w'.cell? ⟨g, 10, none⟩ = some (.int .i64 s1_10)) (ds := [12]) #[false, false, false, false, false, false, false, false, false, false, false, false, false] (by kernel_rfl) rfl rfl ⟨(blk_cell (Aside0.mk (HI1.out).1).out 0).trans rfl, (blk_cell (Aside0.mk (HI1.out).1).out 1).trans rfl, (blk_cell (Aside0.mk (HI1.out).1).out 2).trans rfl, (blk_cell (Aside0.mk (HI1.out).1).out 3).trans rfl, (blk_cell (Aside0.mk (HI1.out).1).out 4).trans rfl, (blk_cell (Aside0.mk (HI1.out).1).out 5).trans rfl, (blk_cell (Aside0.mk (HI1.out).1).out 6).trans rfl, (blk_cell (Aside0.mk (HI1.out).1).out 7).trans rfl, (blk_cell (Aside0.mk (HI1.out).1).out 8).trans rfl, (blk_cell (Aside0.mk (HI1.out).1).out 9).trans rfl, (blk_cell (Aside0.mk (HI1.out).1).out 10).trans rfl⟩ (fun hHeld => ?_); refine with_tabW spec_l06Nobody.tab4 spec_l06Nobody.bits4 (fun HT_ HW_ => ?_)
 generalize w19.drew = w20 at HO0 HI1 HK HB HQ21 hf11_0 hx11_0 hHeld ⊢
 refine pV 0 26 (OB 13 1) ?_
 refine pV 1 27 (OB 13 3) ?_
 refine pV 2 28 (OB 13 7) ?_
 refine pV 3 29 (OB 13 15) ?_
 refine pV 7 33 (OB 13 143) ?_
 refine pV 8 34 (OB 13 399) ?_
 refine pV 9 35 (OB 13 911) ?_
 refine pT 4 30 (OB 13 927) ?_
 refine pV 5 31 (OB 13 959) ?_
 refine pV 6 32 (OB 13 1023) ?_
 refine pT 10 36 (OB 13 2047) ?_
 refine pV 11 37 (OB 13 4095) ?_
 refine last_ (i := 12) (N := none) #[true, true, true, true, true, true, true, true, true, true, true, true, true] rfl rfl (one_of HT_.out (by kernel_rfl)) (by decide) (fun K hK => ?_)
 refine skip_ (w1 := ?_) (by rfl) rfl ?_ ?_
 rotate_left
 ·
  go_simp
  rfl
 refine hK.out _ _ ?_
 clear hK K
 refine done_ (done_of HT_.out (by kernel_rfl)) ?_
 have n0_ : Aside0 (Kd.R (Kd.int .i64) 3 (w20.setCell ⟨go7, ((ji8) : Int).toNat, none⟩ (.int .i64 s1_2)) w0.heap.size (fun k_ => (P0_ k_ ∨ w.heap.size ≤ k_)) (.slice (some ⟨go7, 0, none⟩) l0.length co7) y128) := ⟨RQ HQ21.out⟩
 have n1_ : Aside0 (IsS30 w0 (w20.setCell ⟨go7, ((ji8) : Int).toNat, none⟩ (.int .i64 s1_2)) g s1_0 s1_1 s1_2 s1_3 s1_4 s1_5 s1_6 s1_7 s1_8 s1_9 s1_10) := ⟨spec_l06Nobody.k3 HI1.out⟩
 have n2_ : Aside0 (Kept w (w20.setCell ⟨go7, ((ji8) : Int).toNat, none⟩ (.int .i64 s1_2)) (fun k_ => (P0_ k_) ∨ k_ = g)) := ⟨spec_l06Nobody.k4 HK.out⟩
 have n3_ : Aside0 (Below w0.heap.size w0 (w20.setCell ⟨go7, ((ji8) : Int).toNat, none⟩ (.int .i64 s1_2))) := ⟨spec_l06Nobody.k5 HB.out⟩
 (try clear HO0)
 (try clear HI1)
 (try clear HK)
 (try clear HB)
 generalize (w20.setCell ⟨go7, ((ji8) : Int).toNat, none⟩ (.int .i64 s1_2)) = w22 at n0_ n1_ n2_ n3_ ⊢
 have HO0 := n0_
 have HI1 := n1_
 have HK := n2_
 have HB := n3_
 clear n0_ n1_ n2_ n3_
 try go_wp2
 have n0_ := Aside0.mk (Kd.R_drew HO0.out)
 have n1_ := Aside0.mk (IsS30.drew HI1.out)
 have n2_ := Aside0.mk (Kept.drew HK.out)
 have n3_ := Aside0.mk (below_drew1 HB.out)
 clear HO0
 clear HI1
 clear HK
 clear HB
 have HO0 := n0_
 have HI1 := n1_
 have HK := n2_
 have HB := n3_
 clear n0_ n1_ n2_ n3_
 have p15 : 0 ≤ ((ji12) : Int) := of_decide_eq_true AS
 have q15 : ((ji12) : Int) < ((l0.length : Int) : Int) := of_decide_eq_true AS
 obtain ⟨hx15_0, hf15_0⟩ := Kd.R_celln 0 HO0.out ((ji12) : Int) p15 q15
 replace p15 := eq_true p15
 replace q15 := eq_true q15
 have HN1_go7 := Aside0.mk (show g ≠ go7 from by have h_ := IsS30.own_ne HI1.out HO0.out (by decide); intro e_; exact h_ (by rw [e_]; rfl))
 have HP24 := Kd.R_putn HO0.out ((ji12) : Int) (wrap64 (2 * s1_6))
 rw [← Ny129.out] at HP24
 have HQ24 := Aside0.mk HP24
 clear HP24
 refine start_ (n := 14) (S := fun w' => w'.cell? ⟨g, 0, none⟩ = some (.int .i64 s1_0) ∧ w'.cell? ⟨g, 1, none⟩ = some (.int .i64 s1_1) ∧ w'.cell? ⟨g, 2, none⟩ = some (.int .i64 s1_2) ∧ w'.cell? ⟨g, 3, none⟩ = some (.int .i64 s1_3) ∧ w'.cell? ⟨g, 4, none⟩ = some (.int .i64 s1_4) ∧ w'.cell? ⟨g, 5, none⟩ = some (.int .i64 s1_5) ∧ w'.cell? ⟨g, 6, none⟩ = some (.int .i64 s1_6) ∧ w'.cell? ⟨g, 7, none⟩ = some (.int .i64 s1_7) ∧ w'.cell? ⟨g, 8, none⟩ = some (.int .i64 s1_8) ∧ w'.cell? ⟨g, 9, none⟩ = some (.bool s1_9) ∧ w'.cell? ⟨g, 10, none⟩ = some (.int .i64 s1_10)) (ds := [13]) #[false, false, false, false, false, false, false, false, false, false, false, false, false, false] (by kernel_rfl) rfl rfl ⟨(blk_cell (Aside0.mk (HI1.out).1).out 0).trans rfl, (blk_cell (Aside0.mk (HI1.out).1).out 1).trans rfl, (blk_cell (Aside0.mk (HI1.out).1).out 2).trans rfl, (blk_cell (Aside0.mk (HI1.out).1).out 3).trans rfl, (blk_cell (Aside0.mk (HI1.out).1).out 4).trans rfl, (blk_cell (Aside0.mk (HI1.out).1).out 5).trans rfl, (blk_cell (Aside0.mk (HI1.out).1).out 6).trans rfl, (blk_cell (Aside0.mk (HI1.out).1).out 7).trans rfl, (blk_cell (Aside0.mk (HI1.out).1).out 8).trans rfl, (blk_cell (Aside0.mk (HI1.out).1).out 9).trans rfl, (blk_cell (Aside0.mk (HI1.out).1).out 10).trans rfl⟩ (fun hHeld => ?_); refine with_tabW spec_l06Nobody.tab5 spec_l06Nobody.bits5 (fun HT_ HW_ => ?_)
 generalize w22.drew = w23 at HO0 HI1 HK HB HQ24 hf15_0 hx15_0 hHeld ⊢
 refine pV 0 38 (OB 14 1) ?_
 refine pV 1 39 (OB 14 3) ?_
 refine pV 2 40 (OB 14 7) ?_
 refine pV 3 41 (OB 14 15) ?_
 refine pV 7 45 (OB 14 143) ?_
 refine pV 8 46 (OB 14 399) ?_
 refine pV 9 47 (OB 14 911) ?_
 refine pT 4 42 (OB 14 927) ?_
 refine pV 5 43 (OB 14 959) ?_
 refine pV 6 44 (OB 14 1023) ?_
 refine pT 10 48 (OB 14 2047) ?_
 refine pV 11 49 (OB 14 4095) ?_
 refine pV 12 50 (OB 14 8191) ?_
 refine last_ (i := 13) (N := none) #[true, true, true, true, true, true, true, true, true, true, true, true, true, true] rfl rfl (one_of HT_.out (by kernel_rfl)) (by decide) (fun K hK => ?_)
 refine skip_ (w1 := ?_) (by rfl) rfl ?_ ?_
 rotate_left
 ·
  go_simp
  rfl
 refine hK.out _ _ ?_
 clear hK K
 refine done_ (done_of HT_.out (by kernel_rfl)) ?_
 have n0_ : Aside0 (Kd.R (Kd.int .i64) 3 (w23.setCell ⟨go7, ((ji12) : Int).toNat, none⟩ (.int .i64 (wrap64 (2 * s1_6)))) w0.heap.size (fun k_ => (P0_ k_ ∨ w.heap.size ≤ k_)) (.slice (some ⟨go7, 0, none⟩) l0.length co7) y129) := ⟨RQ HQ24.out⟩
 have n1_ : Aside0 (IsS30 w0 (w23.setCell ⟨go7, ((ji12) : Int).toNat, none⟩ (.int .i64 (wrap64 (2 * s1_6)))) g s1_0 s1_1 s1_2 s1_3 s1_4 s1_5 s1_6 s1_7 s1_8 s1_9 s1_10) := ⟨spec_l06Nobody.k3 HI1.out⟩
 have n2_ : Aside0 (Kept w (w23.setCell ⟨go7, ((ji12) : Int).toNat, none⟩ (.int .i64 (wrap64 (2 * s1_6)))) (fun k_ => (P0_ k_) ∨ k_ = g)) := ⟨spec_l06Nobody.k4 HK.out⟩
 have n3_ : Aside0 (Below w0.heap.size w0 (w23.setCell ⟨go7, ((ji12) : Int).toNat, none⟩ (.int .i64 (wrap64 (2 * s1_6))))) := ⟨spec_l06Nobody.k5 HB.out⟩
 (try clear HO0)
 (try clear HI1)
 (try clear HK)
 (try clear HB)
 generalize (w23.setCell ⟨go7, ((ji12) : Int).toNat, none⟩ (.int .i64 (wrap64 (2 * s1_6)))) = w25 at n0_ n1_ n2_ n3_ ⊢
 have HO0 := n0_
 have HI1 := n1_
 have HK := n2_
 have HB := n3_
 clear n0_ n1_ n2_ n3_
 obtain ⟨HGz26, hgz26⟩ := HI1.out
 have hcz26_0 := cellS30_0 HGz26
 have hcz26_1 := cellS30_1 HGz26
 have hcz26_2 := cellS30_2 HGz26
 have hcz26_3 := cellS30_3 HGz26
 have hcz26_4 := cellS30_4 HGz26
 have hcz26_5 := cellS30_5 HGz26
 have hcz26_6 := cellS30_6 HGz26
 have hcz26_7 := cellS30_7 HGz26
 have hcz26_8 := cellS30_8 HGz26
 have hcz26_9 := cellS30_9 HGz26
 have hcz26_10 := cellS30_10 HGz26
 have hfz26_0 := blk_frozen HGz26 0
 have hfz26_1 := blk_frozen HGz26 1
 have hfz26_2 := blk_frozen HGz26 2
 have hfz26_3 := blk_frozen HGz26 3
 have hfz26_4 := blk_frozen HGz26 4
 have hfz26_5 := blk_frozen HGz26 5
 have hfz26_6 := blk_frozen HGz26 6
 have hfz26_7 := blk_frozen HGz26 7
 have hfz26_8 := blk_frozen HGz26 8
 have hfz26_9 := blk_frozen HGz26 9
 have hfz26_10 := blk_frozen HGz26 10
 clear HGz26 hgz26
 try go_wp2
 first | go_end0 | ((try simp only [Exit.inBlock, Exit.then]); refine bodyPost_ret (results_none rfl _ _ _) rfl ?_)
 exact ⟨by first | rfl | (simp [errW_none, errW_some] <;> rfl) | (simp only [← hji4, ← hji8, ← hji12]; first | rfl | (simp [errW_none, errW_some] <;> rfl)) | (simp [*, errW_none, errW_some] <;> rfl), spec_l06Nobody.k0 HI1.out, by (with_reducible repeat (first | apply r1 | apply r2 | apply r3)); exact Kd.R_mono (Kd.R_far (p := ⟨g, 4, none⟩) (IsS30.apart HI1.out HO0.out (by decide)) (fun _ hk => hk.2) (.int .i64 4)) (fun _ hk => hk.1), spec_l06Nobody.k1 HB.out, spec_l06Nobody.k2 HK.out⟩

/-! ### spec_l06Word: function 97 -/
def spec_l06Word.f (a0 : Int) : Option (Int) := if a0 = 0 then (some 0) else (some (wrap64 ((wrap64 (3 * a0)) + 2)))
set_option maxHeartbeats 8000000 in
set_option maxRecDepth 100000 in
theorem spec_l06Word.calls (a0 : Int) (r : Int) (w : World) (h : spec_l06Word.f a0 = some r) :
  Calls Try.prog 97 #[.int .i64 a0] w fun e w' => e = .returned (.int .i64 r) ∧ Drawn0 w w' := by
 have H : (if a0 = 0 then (some 0) else (some (wrap64 ((wrap64 (3 * a0)) + 2)))) = some r := h
 clear h
 by_cases c2 : a0 = 0; rotate_left
 ·
  rw [if_neg c2] at H; have c2b0 : (a0 == 0) = false := beq_eq_false_iff_ne.mpr c2; have c2b1 : (a0 != 0) = true := bne_iff_ne.mpr c2; obtain rfl := Option.some.inj H
  go_enter Try.func97, Try.ntmps97
  go_wp2
  go_ret
  exact ⟨by first | rfl | (simp; done) | (simp [*]; done), by repeat (first | exact Drawn0.refl _ | apply Drawn0.step)⟩
 rw [if_pos c2] at H
 have c2b0 : (a0 == 0) = true := beq_iff_eq.mpr c2
 have c2b1 : (a0 != 0) = false := bne_eq_false_iff_eq.mpr c2
 clear c2
 obtain rfl := Option.some.inj H
 go_enter Try.func97, Try.ntmps97
 go_wp2
 go_ret
 exact ⟨by first | rfl | (simp; done) | (simp [*]; done), by repeat (first | exact Drawn0.refl _ | apply Drawn0.step)⟩

/-! ### spec_l06Swap: function 100 -/
def spec_l06Swap.f (l0 : List Int) (a1 : Int) (a2 : Int) (a3 : Int) : Option (Bool × List Int) := (spec_l06Word.f a1).bind fun t130 => (if 0 ≤ t130 then (if t130 < (l0.length : Int) then (if (rd l0 t130) = a2 then ((spec_l06Word.f a1).bind fun t132 => (if 0 ≤ t132 then (if t132 < (l0.length : Int) then (some (true, (l0.set (t132 : Int).toNat a3))) else (none)) else (none))) else (some (false, l0))) else (none)) else (none))
set_option maxHeartbeats 8000000 in
set_option maxRecDepth 100000 in
theorem spec_l06Swap.calls (P0_ : Nat → Prop) (u9000_ : Value) (l0 : List Int) (a1 : Int) (a2 : Int) (a3 : Int) (r1 : Bool) (r2 : List Int) (w0 w : World) (hB : Below w0.heap.size w0 w) (ho0 : Kd.R (Kd.int .i64) 3 w w0.heap.size P0_ u9000_ l0) (h : spec_l06Swap.f l0 a1 a2 a3 = some (r1, r2)) :
  Calls Try.prog 100 #[u9000_, .int .i64 a1, .int .i64 a2, .int .i64 a3] w fun e w' => e = .returned (.bool r1) ∧ Kd.R (Kd.int .i64) 3 w' w0.heap.size (fun k_ => (P0_ k_ ∨ w.heap.size ≤ k_)) u9000_ r2 ∧ Below w0.heap.size w0 w' ∧ Kept w w' (fun k_ => P0_ k_) := by
 have HO0 := Aside0.mk (show Kd.R (Kd.int .i64) 3 w w0.heap.size (fun k_ => (P0_ k_ ∨ w.heap.size ≤ k_)) u9000_ l0 from Kd.R_mono ho0 (fun k_ hk => (.inl hk)))
 have HK := Aside0.mk (Kept.refl w (fun k_ => P0_ k_))
 have HW0 := Aside0.mk hB.size
 have HB := Aside0.mk hB
 clear hB
 obtain ⟨wv, hwv⟩ : ∃ wv : World, wv = w := ⟨w, rfl⟩
 replace HO0 : Aside0 (Kd.R (Kd.int .i64) 3 w w0.heap.size (fun k_ => (P0_ k_ ∨ wv.heap.size ≤ k_)) u9000_ l0) := by rw [hwv]; exact HO0
 replace HK : Aside0 (Kept wv w (fun k_ => P0_ k_)) := by rw [hwv]; exact HK
 suffices hs_ : Calls Try.prog 100 #[u9000_, .int .i64 a1, .int .i64 a2, .int .i64 a3] w fun e w' => e = .returned (.bool r1) ∧ Kd.R (Kd.int .i64) 3 w' w0.heap.size (fun k_ => (P0_ k_ ∨ wv.heap.size ≤ k_)) u9000_ r2 ∧ Below w0.heap.size w0 w' ∧ Kept wv w' (fun k_ => P0_ k_) by rw [hwv] at hs_; exact hs_
 clear hwv
 have H : ((spec_l06Word.f a1).bind fun t130 => (if 0 ≤ t130 then (if t130 < (l0.length : Int) then (if (rd l0 t130) = a2 then ((spec_l06Word.f a1).bind fun t132 => (if 0 ≤ t132 then (if t132 < (l0.length : Int) then (some (true, (l0.set (t132 : Int).toNat a3))) else (none)) else (none))) else (some (false, l0))) else (none)) else (none))) = some (r1, r2) := h
 clear h
 replace H := Option.bind_eq_some_iff.mp H
 obtain ⟨t130, A50, H⟩ := H
 have A5 := Aside0.mk A50
 clear A50
 by_cases c6 : 0 ≤ t130; rotate_left
 ·
  rw [if_neg c6] at H; exact absurd H (by simp)
 rw [if_pos c6] at H
 have c6b0 : decide (0 ≤ t130) = true := decide_eq_true c6
 clear c6
 by_cases c7 : t130 < (l0.length : Int); rotate_left
 ·
  rw [if_neg c7] at H; exact absurd H (by simp)
 rw [if_pos c7] at H
 have c7b0 : decide (t130 < (l0.length : Int)) = true := decide_eq_true c7
 clear c7
 by_cases c8 : (rd l0 t130) = a2; rotate_left
 ·
  rw [if_neg c8] at H; have c8b0 : ((rd l0 t130) == a2) = false := beq_eq_false_iff_ne.mpr c8; have c8b1 : ((rd l0 t130) != a2) = true := bne_iff_ne.mpr c8; simp only [Option.some.injEq, Prod.mk.injEq] at H; obtain ⟨rfl, rfl⟩ := H
  go_enter Try.func100, Try.ntmps100
  go_wp2_with (first | ((with_reducible refine gate_callee (f := 97) rfl ?_); refine goesL_ (some 11) rfl rfl Try.func97 (by kernel_rfl) rfl #[.int .i64 a1] rfl (MA) ?_; (with_reducible refine (spec_l06Word.calls a1 t130 _ A5.out).mono ?_); rintro e w' ⟨rfl, ⟨nd, rfl⟩⟩; refine ⟨_, rfl, ?_⟩; obtain ⟨Ao16, co16, eo16⟩ := Kd.R_slice HO0.out; subst eo16; have p131 : 0 ≤ (t130 : Int) := of_decide_eq_true AS; have q131 : t130 < (l0.length : Int) := of_decide_eq_true AS; obtain ⟨ad131, e131, hx131_0⟩ := Kd.at_int (Kd.R_reads' HO0.out).2.2 t130 p131 q131; cases e131; replace p131 := eq_true p131; replace q131 := eq_true q131))
  go_ret
  exact ⟨EE, RQ HO0.out, BL, KL⟩
 rw [if_pos c8] at H
 have c8b0 : ((rd l0 t130) == a2) = true := beq_iff_eq.mpr c8
 have c8b1 : ((rd l0 t130) != a2) = false := bne_eq_false_iff_eq.mpr c8
 clear c8
 replace H := Option.bind_eq_some_iff.mp H
 obtain ⟨t132, A90, H⟩ := H
 have A9 := Aside0.mk A90
 clear A90
 by_cases c10 : 0 ≤ t132; rotate_left
 ·
  rw [if_neg c10] at H; exact absurd H (by simp)
 rw [if_pos c10] at H
 have c10b0 : decide (0 ≤ t132) = true := decide_eq_true c10
 clear c10
 by_cases c11 : t132 < (l0.length : Int); rotate_left
 ·
  rw [if_neg c11] at H; exact absurd H (by simp)
 rw [if_pos c11] at H
 have c11b0 : decide (t132 < (l0.length : Int)) = true := decide_eq_true c11
 clear c11
 obtain ⟨y133, hy133⟩ : ∃ y_ : List Int, y_ = (l0.set (t132 : Int).toNat a3) := ⟨_, rfl⟩
 replace H : (some (true, y133)) = some (r1, r2) := by first | (rw [hy133]; with_reducible exact H) | (have H2_ := (Option.bind_some _ _).symm.trans H; rw [hy133]; with_reducible exact H2_) | (have H2_ := (Option.bind_some _ _).symm.trans H; with_reducible exact H2_) | with_reducible exact H | (rw [hy133]; exact H) | exact H
 have Ny133 := Aside0.mk hy133
 clear hy133
 simp only [Option.some.injEq, Prod.mk.injEq] at H
 obtain ⟨rfl, rfl⟩ := H
 go_enter Try.func100, Try.ntmps100
 go_wp2_with (first | ((with_reducible refine gate_callee (f := 97) rfl ?_); refine goesL_ (some 11) rfl rfl Try.func97 (by kernel_rfl) rfl #[.int .i64 a1] rfl (MA) ?_; (with_reducible refine (spec_l06Word.calls a1 t130 _ A5.out).mono ?_); rintro e w' ⟨rfl, ⟨nd, rfl⟩⟩; refine ⟨_, rfl, ?_⟩; (try (rw [drewN_self w]; generalize hq_ : World.drewN w _ = w; have n0_ : Aside0 (Kd.R (Kd.int .i64) 3 w w0.heap.size (fun k_ => (P0_ k_ ∨ wv.heap.size ≤ k_)) u9000_ l0) := ⟨by rw [← hq_]; exact (RQ HO0.out)⟩; have n1_ : Aside0 (Kept wv w (fun k_ => P0_ k_)) := ⟨by rw [← hq_]; exact (KL)⟩; have n2_ : Aside0 (Below w0.heap.size w0 w) := ⟨by rw [← hq_]; exact (BL)⟩; clear HO0 HK HB hq_; have HO0 := n0_; have HK := n1_; have HB := n2_; clear n0_ n1_ n2_)); obtain ⟨Ao13, co13, eo13⟩ := Kd.R_slice HO0.out; subst eo13; have p131 : 0 ≤ (t130 : Int) := of_decide_eq_true AS; have q131 : t130 < (l0.length : Int) := of_decide_eq_true AS; obtain ⟨ad131, e131, hx131_0⟩ := Kd.at_int (Kd.R_reads' HO0.out).2.2 t130 p131 q131; cases e131; replace p131 := eq_true p131; replace q131 := eq_true q131) | ((with_reducible refine gate_callee (f := 97) rfl ?_); refine goesL_ (some 18) rfl rfl Try.func97 (by kernel_rfl) rfl #[.int .i64 a1] rfl (MA) ?_; (with_reducible refine (spec_l06Word.calls a1 t132 _ A9.out).mono ?_); rintro e w' ⟨rfl, ⟨nd, rfl⟩⟩; refine ⟨_, rfl, ?_⟩; (try (rw [drewN_self w]; generalize hq_ : World.drewN w _ = w; have n0_ : Aside0 (Kd.R (Kd.int .i64) 3 w w0.heap.size (fun k_ => (P0_ k_ ∨ wv.heap.size ≤ k_)) (.slice (some ad131) l0.length co13) l0) := ⟨by rw [← hq_]; exact (RQ HO0.out)⟩; have n1_ : Aside0 (Kept wv w (fun k_ => P0_ k_)) := ⟨by rw [← hq_]; exact (KL)⟩; have n2_ : Aside0 (Below w0.heap.size w0 w) := ⟨by rw [← hq_]; exact (BL)⟩; clear HO0 HK HB hq_; have HO0 := n0_; have HK := n1_; have HB := n2_; clear n0_ n1_ n2_)); have p12 : 0 ≤ (t132 : Int) := of_decide_eq_true AS; have q12 : (t132 : Int) < ((l0.length : Int) : Int) := of_decide_eq_true AS; obtain ⟨go12, co12, eo12, gb12, gl12, cl12, HG12⟩ := Kd.R_form HO0.out (by omega); (first | cases eo12 | (injection eo12 with ea_ en_ ec_; (first | subst ea_ | (injection ea_ with ea_; subst ea_)); subst ec_; clear en_)); have GB12 := Aside0.mk gb12; have GG12 := Aside0.mk HG12; clear gb12 gl12 HG12; have HMgo12 := Aside0.mk (show (P0_ go12 ∨ wv.heap.size ≤ go12) from (HO0.out.1 _ rfl)); (first | simp only [add_plain] at hx131_0 | skip); obtain ⟨hx12_0, hf12_0⟩ := Kd.R_celln 0 HO0.out (t132 : Int) p12 q12; replace p12 := eq_true p12; replace q12 := eq_true q12; obtain ⟨hy14_, hz14_⟩ := Kd.R_celln 0 HO0.out (t132 : Int) (of_decide_eq_true AS) (of_decide_eq_true AS); have HP14 := Kd.R_putg HO0.out (t132 : Int) a3) | ((with_reducible refine gate_store (t := 3) (p := 20) rfl ?_); refine store_event (t := 3) (p := 20) (v := ?vo_w15) (w1 := (w.setCell ⟨go12, (t132 : Int).toNat, none⟩ (.int .i64 a3))) ?hg ?ho ?hn ?hr ?_; (case ho => rfl); (case hg => rfl); (case hn => rfl); (case hr => first | (go_simp; done) | (go_simp; rfl)); intro w15 hw; have hg : w.grownBy w15 (some go12) := (by rw [hw]; exact HP14.2); have hp_ : Kd.R (Kd.int .i64) 3 w15 w0.heap.size (fun k_ => (P0_ k_ ∨ wv.heap.size ≤ k_)) (.slice (some ⟨go12, 0, none⟩) l0.length co13) y133 := (by rw [hw, Ny133.out]; exact HP14.1); clear HP14; replace HK := Aside0.mk (Kept.of_grown (S := (fun k_ => P0_ k_)) hg (KL) (fun k_ e_ => (HO0.out.1 k_ e_))); replace HO0 := Aside0.mk (hp_); replace HB := Aside0.mk ((by rw [hw]; exact below_set (HB.out) GB12.out : Below w0.heap.size w0 w15)); clear hg hw hp_))
 go_ret
 exact ⟨EE, RQ HO0.out, BL, KL⟩

/-! ### spec_l06Look: function 98 -/
def spec_l06Look.f (l0 : List Int) (s1_0 : Int) (s1_1 : Int) (s1_2 : Int) (s1_3 : Int) (s1_4 : Int) (s1_5 : Int) (s1_6 : Int) (s1_7 : Int) (s1_8 : Int) (s1_9 : Bool) (s1_10 : Int) : Option (Int × Int × Int × Int × Int × Int × Int × Int × Int × Bool × Int × List Int) := if s1_8 = 1 then ((spec_l06Swap.f l0 s1_5 (wrap64 (2 * s1_6)) (wrap64 (2 * s1_7))).bind fun bt134 => (if bt134.1 = true then (some (s1_0, s1_1, s1_2, s1_3, 1, s1_5, s1_7, s1_7, s1_8, s1_9, s1_10, bt134.2)) else (some (s1_0, s1_1, s1_2, s1_3, 0, s1_5, s1_6, s1_7, s1_8, s1_9, s1_10, bt134.2)))) else (if 0 ≤ (wrap64 (3 * s1_6)) then (if (wrap64 (3 * s1_6)) < (l0.length : Int) then (if (rd l0 (wrap64 (3 * s1_6))) < s1_1 then (some (s1_0, s1_1, s1_2, s1_3, 1, s1_6, s1_7, s1_7, s1_8, s1_9, s1_10, l0)) else (some (s1_0, s1_1, s1_2, s1_3, 3, s1_5, s1_6, s1_7, s1_8, s1_9, s1_10, l0))) else (none)) else (none))
def spec_l06Look.T2 : Bool × List (List Nat × List Nat) := (true, [([], []), ([], []), ([1], [1]), ([2], [2]), ([3], [3]), ([], []), ([5], [5]), ([6], [6]), ([7], [7]), ([8], [8]), ([], []), ([10], [10]), ([11], [11]), ([12], [12]), ([13], [13]), ([0, 4, 9, 14], [0, 4, 9, 14])])
def spec_l06Look.B2 : List Nat := [0, 0, 2, 6, 14, 0, 32, 96, 224, 480, 0, 1024, 3072, 7168, 15360, 32767]
theorem spec_l06Look.tab2 : rtab .any (opsOf Try.f98 2) = spec_l06Look.T2 := by kernel_rfl
theorem spec_l06Look.bits2 : waitsOk spec_l06Look.T2.2 spec_l06Look.B2 = true := by kernel_rfl
def spec_l06Look.T5 : Bool × List (List Nat × List Nat) := (true, [([], []), ([], []), ([1], [1]), ([2], [2]), ([3], [3]), ([4], [4]), ([0, 5], [0, 5]), ([6], [6]), ([], []), ([8], [8]), ([9], [9]), ([10], [10]), ([7, 11], [7, 11])])
def spec_l06Look.B5 : List Nat := [0, 0, 2, 6, 14, 30, 63, 127, 0, 256, 768, 1792, 4095]
theorem spec_l06Look.tab5 : rtab .any (opsOf Try.f98 5) = spec_l06Look.T5 := by kernel_rfl
theorem spec_l06Look.bits5 : waitsOk spec_l06Look.T5.2 spec_l06Look.B5 = true := by kernel_rfl
theorem spec_l06Look.k0 {p q : Prop} (h : q) (k : q → p := by intro h_; repeat (first | (with_reducible first | exact h_ | apply IsS30.alloc | apply IsS30.drewN | apply IsS30.drew | apply IsS30.set_0 | apply IsS30.set_1 | apply IsS30.set_2 | apply IsS30.set_3 | apply IsS30.set_4 | apply IsS30.set_5 | apply IsS30.set_6 | apply IsS30.set_7 | apply IsS30.set_8 | apply IsS30.set_9 | apply IsS30.set_10) | exact h_)) : p := k h
theorem spec_l06Look.k1 {p q : Prop} (h : q) (k : q → p := by intro h_; repeat (first | (with_reducible first | exact h_ | apply below_alloc | apply pw_below_drewN | apply below_drew1 | refine below_set ?_ (IsS30.ge HI1.out)) | exact h_)) : p := k h
theorem spec_l06Look.k2 {p q : Prop} (h : q) (k : q → p := by intro h_; repeat (first | (with_reducible first | exact h_ | apply Kept.alloc | apply Kept.drewN | apply Kept.drew | refine Kept.setCell ?_ (.inl (.inr rfl)) _) | exact h_)) : p := k h
set_option maxHeartbeats 8000000 in
set_option maxRecDepth 100000 in
theorem spec_l06Look.calls (P0_ : Nat → Prop) (u9000_ : Value) (l0 : List Int) (g : Nat) (s1_0 : Int) (s1_1 : Int) (s1_2 : Int) (s1_3 : Int) (s1_4 : Int) (s1_5 : Int) (s1_6 : Int) (s1_7 : Int) (s1_8 : Int) (s1_9 : Bool) (s1_10 : Int) (r1 : Int) (r2 : Int) (r3 : Int) (r4 : Int) (r5 : Int) (r6 : Int) (r7 : Int) (r8 : Int) (r9 : Int) (r10 : Bool) (r11 : Int) (r12 : List Int) (w0 w : World) (hI : IsS30 w0 w g s1_0 s1_1 s1_2 s1_3 s1_4 s1_5 s1_6 s1_7 s1_8 s1_9 s1_10) (hB : Below w0.heap.size w0 w) (ho0 : Kd.R (Kd.int .i64) 3 w w0.heap.size P0_ u9000_ l0) (h : spec_l06Look.f l0 s1_0 s1_1 s1_2 s1_3 s1_4 s1_5 s1_6 s1_7 s1_8 s1_9 s1_10 = some (r1, r2, r3, r4, r5, r6, r7, r8, r9, r10, r11, r12)) :
  Calls Try.prog 98 #[u9000_, .pointer (some ⟨g, 0, none⟩)] w fun e w' => e = .returned (.tuple #[]) ∧ IsS30 w0 w' g r1 r2 r3 r4 r5 r6 r7 r8 r9 r10 r11 ∧ Kd.R (Kd.int .i64) 3 w' w0.heap.size (fun k_ => (P0_ k_ ∨ w.heap.size ≤ k_)) u9000_ r12 ∧ Below w0.heap.size w0 w' ∧ Kept w w' (fun k_ => (P0_ k_) ∨ k_ = g) := by
 have HO0 := Aside0.mk (show Kd.R (Kd.int .i64) 3 w w0.heap.size (fun k_ => (P0_ k_ ∨ w.heap.size ≤ k_)) u9000_ l0 from Kd.R_mono ho0 (fun k_ hk => (.inl hk)))
 have HI1 := Aside0.mk hI
 have HL := Aside0.mk hB.size
 clear hI
 have HK := Aside0.mk (Kept.refl w (fun k_ => (P0_ k_) ∨ k_ = g))
 have HW0 := Aside0.mk hB.size
 have HB := Aside0.mk hB
 clear hB
 have H : (if s1_8 = 1 then ((spec_l06Swap.f l0 s1_5 (wrap64 (2 * s1_6)) (wrap64 (2 * s1_7))).bind fun bt134 => (if bt134.1 = true then (some (s1_0, s1_1, s1_2, s1_3, 1, s1_5, s1_7, s1_7, s1_8, s1_9, s1_10, bt134.2)) else (some (s1_0, s1_1, s1_2, s1_3, 0, s1_5, s1_6, s1_7, s1_8, s1_9, s1_10, bt134.2)))) else (if 0 ≤ (wrap64 (3 * s1_6)) then (if (wrap64 (3 * s1_6)) < (l0.length : Int) then (if (rd l0 (wrap64 (3 * s1_6))) < s1_1 then (some (s1_0, s1_1, s1_2, s1_3, 1, s1_6, s1_7, s1_7, s1_8, s1_9, s1_10, l0)) else (some (s1_0, s1_1, s1_2, s1_3, 3, s1_5, s1_6, s1_7, s1_8, s1_9, s1_10, l0))) else (none)) else (none))) = some (r1, r2, r3, r4, r5, r6, r7, r8, r9, r10, r11, r12) := h
 clear h
 by_cases c3 : s1_8 = 1; rotate_left
 ·
  rw [if_neg c3] at H; have c3b0 : (s1_8 == 1) = false := beq_eq_false_iff_ne.mpr c3; have c3b1 : (s1_8 != 1) = true := bne_iff_ne.mpr c3; obtain ⟨ji17, hji17⟩ : ∃ j_ : Int, (wrap64 (3 * s1_6)) = j_ := ⟨_, rfl⟩
  replace H : (if 0 ≤ (ji17) then (if (ji17) < (l0.length : Int) then (if (rd l0 (ji17)) < s1_1 then (some (s1_0, s1_1, s1_2, s1_3, 1, s1_6, s1_7, s1_7, s1_8, s1_9, s1_10, l0)) else (some (s1_0, s1_1, s1_2, s1_3, 3, s1_5, s1_6, s1_7, s1_8, s1_9, s1_10, l0))) else (none)) else (none)) = some (r1, r2, r3, r4, r5, r6, r7, r8, r9, r10, r11, r12) := by first | (rw [hji17] at H; exact H) | (simp only [hji17] at H ⊢; exact H)
  have hji17w : (IntKind.i64.wrap (3 * s1_6)) = ji17 := (i64_w _).trans hji17
  by_cases c18 : 0 ≤ (ji17); rotate_left
  ·
   rw [if_neg c18] at H; exact absurd H (by simp)
  rw [if_pos c18] at H; have c18b0 : decide (0 ≤ (ji17)) = true := decide_eq_true c18; clear c18
  by_cases c19 : (ji17) < (l0.length : Int); rotate_left
  ·
   rw [if_neg c19] at H; exact absurd H (by simp)
  rw [if_pos c19] at H; have c19b0 : decide ((ji17) < (l0.length : Int)) = true := decide_eq_true c19; clear c19
  by_cases c20 : (rd l0 (ji17)) < s1_1
  ·
   rw [if_pos c20] at H; have c20b0 : decide ((rd l0 (ji17)) < s1_1) = true := decide_eq_true c20; clear c20; simp only [Option.some.injEq, Prod.mk.injEq] at H; obtain ⟨rfl, rfl, rfl, rfl, rfl, rfl, rfl, rfl, rfl, rfl, rfl, rfl⟩ := H; obtain ⟨HGz21, hgz21⟩ := HI1.out; have hcz21_0 := cellS30_0 HGz21; have hcz21_1 := cellS30_1 HGz21; have hcz21_2 := cellS30_2 HGz21; have hcz21_3 := cellS30_3 HGz21; have hcz21_4 := cellS30_4 HGz21; have hcz21_5 := cellS30_5 HGz21; have hcz21_6 := cellS30_6 HGz21; have hcz21_7 := cellS30_7 HGz21; have hcz21_8 := cellS30_8 HGz21; have hcz21_9 := cellS30_9 HGz21; have hcz21_10 := cellS30_10 HGz21; have hfz21_0 := blk_frozen HGz21 0; have hfz21_1 := blk_frozen HGz21 1; have hfz21_2 := blk_frozen HGz21 2; have hfz21_3 := blk_frozen HGz21 3; have hfz21_4 := blk_frozen HGz21 4; have hfz21_5 := blk_frozen HGz21 5; have hfz21_6 := blk_frozen HGz21 6; have hfz21_7 := blk_frozen HGz21 7; have hfz21_8 := blk_frozen HGz21 8; have hfz21_9 := blk_frozen HGz21 9; have hfz21_10 := blk_frozen HGz21 10; clear HGz21 hgz21
   go_enter Try.func98, Try.ntmps98
   try go_wp2
   have n0_ := Aside0.mk (Kd.R_drew HO0.out); have n1_ := Aside0.mk (IsS30.drew HI1.out); have n2_ := Aside0.mk (Kept.drew HK.out); have n3_ := Aside0.mk (below_drew1 HB.out); clear HO0; clear HI1; clear HK; clear HB; have HO0 := n0_; have HI1 := n1_; have HK := n2_; have HB := n3_; clear n0_ n1_ n2_ n3_; obtain ⟨Ao23, co23, eo23⟩ := Kd.R_slice HO0.out
   (first | subst eo23 | (injection eo23 with f1_ f2_ f3_; have f4_ := f1_.symm; have f5_ := f3_.symm; clear f1_ f2_ f3_; subst f4_; subst f5_))
   have p136 : 0 ≤ ((ji17) : Int) := of_decide_eq_true AS; have q136 : (ji17) < (l0.length : Int) := of_decide_eq_true AS; obtain ⟨ad136, e136, hx136_0⟩ := Kd.at_int (Kd.R_reads' HO0.out).2.2 (ji17) p136 q136; cases e136; replace p136 := eq_true p136; replace q136 := eq_true q136; refine start_ (n := 13) (S := fun w' => w'.cell? ⟨g, 0, none⟩ = some (.int .i64 s1_0) ∧ w'.cell? ⟨g, 1, none⟩ = some (.int .i64 s1_1) ∧ w'.cell? ⟨g, 2, none⟩ = some (.int .i64 s1_2) ∧ w'.cell? ⟨g, 3, none⟩ = some (.int .i64 s1_3) ∧ w'.cell? ⟨g, 4, none⟩ = some (.int .i64 s1_4) ∧ w'.cell? ⟨g, 5, none⟩ = some (.int .i64 s1_5) ∧ w'.cell? ⟨g, 6, none⟩ = some (.int .i64 s1_6) ∧ w'.cell? ⟨g, 7, none⟩ = some (.int .i64 s1_7) ∧ w'.cell? ⟨g, 8, none⟩ = some (.int .i64 s1_8) ∧ w'.cell? ⟨g, 9, none⟩ = some (.bool s1_9) ∧ w'.cell? ⟨g, 10, none⟩ = some (.int .i64 s1_10) ∧ w'.cell? (ad136.add ((ji17)).toNat) = some (.int .i64 (rd l0 (ji17)))) (ds := []) #[false, false, false, false, false, false, false, false, false, false, false, false, false] (by kernel_rfl) rfl rfl ⟨(blk_cell (Aside0.mk (HI1.out).1).out 0).trans rfl, (blk_cell (Aside0.mk (HI1.out).1).out 1).trans rfl, (blk_cell (Aside0.mk (HI1.out).1).out 2).trans rfl, (blk_cell (Aside0.mk (HI1.out).1).out 3).trans rfl, (blk_cell (Aside0.mk (HI1.out).1).out 4).trans rfl, (blk_cell (Aside0.mk (HI1.out).1).out 5).trans rfl, (blk_cell (Aside0.mk (HI1.out).1).out 6).trans rfl, (blk_cell (Aside0.mk (HI1.out).1).out 7).trans rfl, (blk_cell (Aside0.mk (HI1.out).1).out 8).trans rfl, (blk_cell (Aside0.mk (HI1.out).1).out 9).trans rfl, (blk_cell (Aside0.mk (HI1.out).1).out 10).trans rfl, hx136_0⟩ (fun hHeld => ?_); refine with_tabW spec_l06Look.tab5 spec_l06Look.bits5 (fun HT_ HW_ => ?_); generalize w.drew = w22 at HO0 HI1 HK HB hx136_0 hHeld ⊢; refine pV 0 38 (OB 13 1) ?_; refine pV 1 39 (OB 13 3) ?_; refine pV 2 40 (OB 13 7) ?_; refine pV 3 41 (OB 13 15) ?_; refine pV 8 46 (OB 13 271) ?_; refine pV 9 47 (OB 13 783) ?_; refine pV 10 48 (OB 13 1807) ?_; refine pT 4 42 (OB 13 1823) ?_; refine pV 5 43 (OB 13 1855) ?_; refine pV 6 44 (OB 13 1919) ?_; refine pT 7 45 (OB 13 2047) ?_; refine pT 11 49 (OB 13 4095) ?_; refine pV 12 50 (OB 13 8191) ?_; refine done_ (done_of HT_.out (by kernel_rfl)) ?_; obtain ⟨HGz24, hgz24⟩ := HI1.out; have hcz24_0 := cellS30_0 HGz24; have hcz24_1 := cellS30_1 HGz24; have hcz24_2 := cellS30_2 HGz24; have hcz24_3 := cellS30_3 HGz24; have hcz24_4 := cellS30_4 HGz24; have hcz24_5 := cellS30_5 HGz24; have hcz24_6 := cellS30_6 HGz24; have hcz24_7 := cellS30_7 HGz24; have hcz24_8 := cellS30_8 HGz24; have hcz24_9 := cellS30_9 HGz24; have hcz24_10 := cellS30_10 HGz24; have hfz24_0 := blk_frozen HGz24 0; have hfz24_1 := blk_frozen HGz24 1; have hfz24_2 := blk_frozen HGz24 2; have hfz24_3 := blk_frozen HGz24 3; have hfz24_4 := blk_frozen HGz24 4; have hfz24_5 := blk_frozen HGz24 5; have hfz24_6 := blk_frozen HGz24 6; have hfz24_7 := blk_frozen HGz24 7; have hfz24_8 := blk_frozen HGz24 8; have hfz24_9 := blk_frozen HGz24 9; have hfz24_10 := blk_frozen HGz24 10; clear HGz24 hgz24
   try go_wp2
   first | go_end0 | ((try simp only [Exit.inBlock, Exit.then]); refine bodyPost_ret (results_none rfl _ _ _) rfl ?_)
   exact ⟨by first | rfl | (simp [errW_none, errW_some] <;> rfl) | (simp only [← hji17]; first | rfl | (simp [errW_none, errW_some] <;> rfl)) | (simp [*, errW_none, errW_some] <;> rfl), spec_l06Look.k0 HI1.out, by (with_reducible repeat (first | apply r1 | apply r2 | apply r3)); exact Kd.R_mono (Kd.R_far (p := ⟨g, 4, none⟩) (Kd.R_far (p := ⟨g, 6, none⟩) (Kd.R_far (p := ⟨g, 5, none⟩) (IsS30.apart HI1.out HO0.out (by decide)) (fun _ hk => hk.2) (.int .i64 s1_6)) (fun _ hk => hk.2) (.int .i64 s1_7)) (fun _ hk => hk.2) (.int .i64 1)) (fun _ hk => hk.1), spec_l06Look.k1 HB.out, spec_l06Look.k2 HK.out⟩
  rw [if_neg c20] at H; have c20b0 : decide ((rd l0 (ji17)) < s1_1) = false := decide_eq_false c20; clear c20; simp only [Option.some.injEq, Prod.mk.injEq] at H; obtain ⟨rfl, rfl, rfl, rfl, rfl, rfl, rfl, rfl, rfl, rfl, rfl, rfl⟩ := H; obtain ⟨HGz25, hgz25⟩ := HI1.out; have hcz25_0 := cellS30_0 HGz25; have hcz25_1 := cellS30_1 HGz25; have hcz25_2 := cellS30_2 HGz25; have hcz25_3 := cellS30_3 HGz25; have hcz25_4 := cellS30_4 HGz25; have hcz25_5 := cellS30_5 HGz25; have hcz25_6 := cellS30_6 HGz25; have hcz25_7 := cellS30_7 HGz25; have hcz25_8 := cellS30_8 HGz25; have hcz25_9 := cellS30_9 HGz25; have hcz25_10 := cellS30_10 HGz25; have hfz25_0 := blk_frozen HGz25 0; have hfz25_1 := blk_frozen HGz25 1; have hfz25_2 := blk_frozen HGz25 2; have hfz25_3 := blk_frozen HGz25 3; have hfz25_4 := blk_frozen HGz25 4; have hfz25_5 := blk_frozen HGz25 5; have hfz25_6 := blk_frozen HGz25 6; have hfz25_7 := blk_frozen HGz25 7; have hfz25_8 := blk_frozen HGz25 8; have hfz25_9 := blk_frozen HGz25 9; have hfz25_10 := blk_frozen HGz25 10; clear HGz25 hgz25
  go_enter Try.func98, Try.ntmps98
  try go_wp2
  have n0_ := Aside0.mk (Kd.R_drew HO0.out); have n1_ := Aside0.mk (IsS30.drew HI1.out); have n2_ := Aside0.mk (Kept.drew HK.out); have n3_ := Aside0.mk (below_drew1 HB.out); clear HO0; clear HI1; clear HK; clear HB; have HO0 := n0_; have HI1 := n1_; have HK := n2_; have HB := n3_; clear n0_ n1_ n2_ n3_; obtain ⟨Ao27, co27, eo27⟩ := Kd.R_slice HO0.out
  (first | subst eo27 | (injection eo27 with f1_ f2_ f3_; have f4_ := f1_.symm; have f5_ := f3_.symm; clear f1_ f2_ f3_; subst f4_; subst f5_))
  have p136 : 0 ≤ ((ji17) : Int) := of_decide_eq_true AS; have q136 : (ji17) < (l0.length : Int) := of_decide_eq_true AS; obtain ⟨ad136, e136, hx136_0⟩ := Kd.at_int (Kd.R_reads' HO0.out).2.2 (ji17) p136 q136; cases e136; replace p136 := eq_true p136; replace q136 := eq_true q136; refine start_ (n := 13) (S := fun w' => w'.cell? ⟨g, 0, none⟩ = some (.int .i64 s1_0) ∧ w'.cell? ⟨g, 1, none⟩ = some (.int .i64 s1_1) ∧ w'.cell? ⟨g, 2, none⟩ = some (.int .i64 s1_2) ∧ w'.cell? ⟨g, 3, none⟩ = some (.int .i64 s1_3) ∧ w'.cell? ⟨g, 4, none⟩ = some (.int .i64 s1_4) ∧ w'.cell? ⟨g, 5, none⟩ = some (.int .i64 s1_5) ∧ w'.cell? ⟨g, 6, none⟩ = some (.int .i64 s1_6) ∧ w'.cell? ⟨g, 7, none⟩ = some (.int .i64 s1_7) ∧ w'.cell? ⟨g, 8, none⟩ = some (.int .i64 s1_8) ∧ w'.cell? ⟨g, 9, none⟩ = some (.bool s1_9) ∧ w'.cell? ⟨g, 10, none⟩ = some (.int .i64 s1_10) ∧ w'.cell? (ad136.add ((ji17)).toNat) = some (.int .i64 (rd l0 (ji17)))) (ds := []) #[false, false, false, false, false, false, false, false, false, false, false, false, false] (by kernel_rfl) rfl rfl ⟨(blk_cell (Aside0.mk (HI1.out).1).out 0).trans rfl, (blk_cell (Aside0.mk (HI1.out).1).out 1).trans rfl, (blk_cell (Aside0.mk (HI1.out).1).out 2).trans rfl, (blk_cell (Aside0.mk (HI1.out).1).out 3).trans rfl, (blk_cell (Aside0.mk (HI1.out).1).out 4).trans rfl, (blk_cell (Aside0.mk (HI1.out).1).out 5).trans rfl, (blk_cell (Aside0.mk (HI1.out).1).out 6).trans rfl, (blk_cell (Aside0.mk (HI1.out).1).out 7).trans rfl, (blk_cell (Aside0.mk (HI1.out).1).out 8).trans rfl, (blk_cell (Aside0.mk (HI1.out).1).out 9).trans rfl, (blk_cell (Aside0.mk (HI1.out).1).out 10).trans rfl, hx136_0⟩ (fun hHeld => ?_); refine with_tabW spec_l06Look.tab5 spec_l06Look.bits5 (fun HT_ HW_ => ?_); generalize w.drew = w26 at HO0 HI1 HK HB hx136_0 hHeld ⊢; refine pV 0 38 (OB 13 1) ?_; refine pV 1 39 (OB 13 3) ?_; refine pV 2 40 (OB 13 7) ?_; refine pV 3 41 (OB 13 15) ?_; refine pV 8 46 (OB 13 271) ?_; refine pV 9 47 (OB 13 783) ?_; refine pV 10 48 (OB 13 1807) ?_; refine pT 4 42 (OB 13 1823) ?_; refine pV 5 43 (OB 13 1855) ?_; refine pV 6 44 (OB 13 1919) ?_; refine pT 7 45 (OB 13 2047) ?_; refine pT 11 49 (OB 13 4095) ?_; refine pV 12 50 (OB 13 8191) ?_; refine done_ (done_of HT_.out (by kernel_rfl)) ?_; obtain ⟨HGz28, hgz28⟩ := HI1.out; have hcz28_0 := cellS30_0 HGz28; have hcz28_1 := cellS30_1 HGz28; have hcz28_2 := cellS30_2 HGz28; have hcz28_3 := cellS30_3 HGz28; have hcz28_4 := cellS30_4 HGz28; have hcz28_5 := cellS30_5 HGz28; have hcz28_6 := cellS30_6 HGz28; have hcz28_7 := cellS30_7 HGz28; have hcz28_8 := cellS30_8 HGz28; have hcz28_9 := cellS30_9 HGz28; have hcz28_10 := cellS30_10 HGz28; have hfz28_0 := blk_frozen HGz28 0; have hfz28_1 := blk_frozen HGz28 1; have hfz28_2 := blk_frozen HGz28 2; have hfz28_3 := blk_frozen HGz28 3; have hfz28_4 := blk_frozen HGz28 4; have hfz28_5 := blk_frozen HGz28 5; have hfz28_6 := blk_frozen HGz28 6; have hfz28_7 := blk_frozen HGz28 7; have hfz28_8 := blk_frozen HGz28 8; have hfz28_9 := blk_frozen HGz28 9; have hfz28_10 := blk_frozen HGz28 10; clear HGz28 hgz28
  try go_wp2
  first | go_end0 | ((try simp only [Exit.inBlock, Exit.then]); refine bodyPost_ret (results_none rfl _ _ _) rfl ?_)
  exact ⟨by first | rfl | (simp [errW_none, errW_some] <;> rfl) | (simp only [← hji17]; first | rfl | (simp [errW_none, errW_some] <;> rfl)) | (simp [*, errW_none, errW_some] <;> rfl), spec_l06Look.k0 HI1.out, by (with_reducible repeat (first | apply r1 | apply r2 | apply r3)); exact Kd.R_mono (Kd.R_far (p := ⟨g, 4, none⟩) (IsS30.apart HI1.out HO0.out (by decide)) (fun _ hk => hk.2) (.int .i64 3)) (fun _ hk => hk.1), spec_l06Look.k1 HB.out, spec_l06Look.k2 HK.out⟩
 rw [if_pos c3] at H
 have c3b0 : (s1_8 == 1) = true := beq_iff_eq.mpr c3
 have c3b1 : (s1_8 != 1) = false := bne_eq_false_iff_eq.mpr c3
 clear c3
 replace H := Option.bind_eq_some_iff.mp H
 obtain ⟨⟨t134, t135⟩, A40, H⟩ := H
 replace H : (if t134 = true then (some (s1_0, s1_1, s1_2, s1_3, 1, s1_5, s1_7, s1_7, s1_8, s1_9, s1_10, t135)) else (some (s1_0, s1_1, s1_2, s1_3, 0, s1_5, s1_6, s1_7, s1_8, s1_9, s1_10, t135))) = some (r1, r2, r3, r4, r5, r6, r7, r8, r9, r10, r11, r12) := H
 have A4 := Aside0.mk A40
 clear A40
 by_cases c5 : t134 = true; rotate_left
 ·
  replace c5 := Bool.eq_false_iff.mpr c5; subst c5
  have H1 : (some (s1_0, s1_1, s1_2, s1_3, 0, s1_5, s1_6, s1_7, s1_8, s1_9, s1_10, t135)) = some (r1, r2, r3, r4, r5, r6, r7, r8, r9, r10, r11, r12) := by rw [if_neg (show ¬ (false = true) by decide)] at H; exact H
  clear H; have H := H1; clear H1; simp only [Option.some.injEq, Prod.mk.injEq] at H; obtain ⟨rfl, rfl, rfl, rfl, rfl, rfl, rfl, rfl, rfl, rfl, rfl, rfl⟩ := H; obtain ⟨HGz12, hgz12⟩ := HI1.out; have hcz12_0 := cellS30_0 HGz12; have hcz12_1 := cellS30_1 HGz12; have hcz12_2 := cellS30_2 HGz12; have hcz12_3 := cellS30_3 HGz12; have hcz12_4 := cellS30_4 HGz12; have hcz12_5 := cellS30_5 HGz12; have hcz12_6 := cellS30_6 HGz12; have hcz12_7 := cellS30_7 HGz12; have hcz12_8 := cellS30_8 HGz12; have hcz12_9 := cellS30_9 HGz12; have hcz12_10 := cellS30_10 HGz12; have hfz12_0 := blk_frozen HGz12 0; have hfz12_1 := blk_frozen HGz12 1; have hfz12_2 := blk_frozen HGz12 2; have hfz12_3 := blk_frozen HGz12 3; have hfz12_4 := blk_frozen HGz12 4; have hfz12_5 := blk_frozen HGz12 5; have hfz12_6 := blk_frozen HGz12 6; have hfz12_7 := blk_frozen HGz12 7; have hfz12_8 := blk_frozen HGz12 8; have hfz12_9 := blk_frozen HGz12 9; have hfz12_10 := blk_frozen HGz12 10; clear HGz12 hgz12
  go_enter Try.func98, Try.ntmps98
  try go_wp2
  have n0_ : Aside0 (Kd.R (Kd.int .i64) 3 (w.setCell ⟨g, 4, none⟩ (.int .i64 0)) w0.heap.size (fun k_ => (P0_ k_ ∨ w.heap.size ≤ k_)) u9000_ l0) := ⟨by (with_reducible repeat (first | apply r1 | apply r2 | apply r3)); exact Kd.R_mono (Kd.R_far (p := ⟨g, 4, none⟩) (IsS30.apart HI1.out HO0.out (by decide)) (fun _ hk => hk.2) (.int .i64 0)) (fun _ hk => hk.1)⟩; have n1_ : Aside0 (IsS30 w0 (w.setCell ⟨g, 4, none⟩ (.int .i64 0)) g s1_0 s1_1 s1_2 s1_3 0 s1_5 s1_6 s1_7 s1_8 s1_9 s1_10) := ⟨spec_l06Look.k0 HI1.out⟩; have n2_ : Aside0 (Kept w (w.setCell ⟨g, 4, none⟩ (.int .i64 0)) (fun k_ => (P0_ k_) ∨ k_ = g)) := ⟨spec_l06Look.k2 HK.out⟩; have n3_ : Aside0 (Below w0.heap.size w0 (w.setCell ⟨g, 4, none⟩ (.int .i64 0))) := ⟨spec_l06Look.k1 HB.out⟩
  (try clear HO0)
  (try clear HI1)
  (try clear HK)
  (try clear HB)
  generalize (w.setCell ⟨g, 4, none⟩ (.int .i64 0)) = w13 at n0_ n1_ n2_ n3_ ⊢; have HO0 := n0_; have HI1 := n1_; have HK := n2_; have HB := n3_; clear n0_ n1_ n2_ n3_; have n0_ := Aside0.mk (Kd.R_drew HO0.out); have n1_ := Aside0.mk (IsS30.drew HI1.out); have n2_ := Aside0.mk (Kept.drew HK.out); have n3_ := Aside0.mk (below_drew1 HB.out); clear HO0; clear HI1; clear HK; clear HB; have HO0 := n0_; have HI1 := n1_; have HK := n2_; have HB := n3_; clear n0_ n1_ n2_ n3_; obtain ⟨Ao15, co15, eo15⟩ := Kd.R_slice HO0.out
  (first | subst eo15 | (injection eo15 with f1_ f2_ f3_; have f4_ := f1_.symm; have f5_ := f3_.symm; clear f1_ f2_ f3_; subst f4_; subst f5_))
  refine start_ (n := 16) (S := fun w' => w'.cell? ⟨g, 0, none⟩ = some (.int .i64 s1_0) ∧ w'.cell? ⟨g, 1, none⟩ = some (.int .i64 s1_1) ∧ w'.cell? ⟨g, 2, none⟩ = some (.int .i64 s1_2) ∧ w'.cell? ⟨g, 3, none⟩ = some (.int .i64 s1_3) ∧ w'.cell? ⟨g, 4, none⟩ = some (.int .i64 0) ∧ w'.cell? ⟨g, 5, none⟩ = some (.int .i64 s1_5) ∧ w'.cell? ⟨g, 6, none⟩ = some (.int .i64 s1_6) ∧ w'.cell? ⟨g, 7, none⟩ = some (.int .i64 s1_7) ∧ w'.cell? ⟨g, 8, none⟩ = some (.int .i64 s1_8) ∧ w'.cell? ⟨g, 9, none⟩ = some (.bool s1_9) ∧ w'.cell? ⟨g, 10, none⟩ = some (.int .i64 s1_10)) (ds := []) #[false, false, false, false, false, false, false, false, false, false, false, false, false, false, false, false] (by kernel_rfl) rfl rfl ⟨(blk_cell (Aside0.mk (HI1.out).1).out 0).trans rfl, (blk_cell (Aside0.mk (HI1.out).1).out 1).trans rfl, (blk_cell (Aside0.mk (HI1.out).1).out 2).trans rfl, (blk_cell (Aside0.mk (HI1.out).1).out 3).trans rfl, (blk_cell (Aside0.mk (HI1.out).1).out 4).trans rfl, (blk_cell (Aside0.mk (HI1.out).1).out 5).trans rfl, (blk_cell (Aside0.mk (HI1.out).1).out 6).trans rfl, (blk_cell (Aside0.mk (HI1.out).1).out 7).trans rfl, (blk_cell (Aside0.mk (HI1.out).1).out 8).trans rfl, (blk_cell (Aside0.mk (HI1.out).1).out 9).trans rfl, (blk_cell (Aside0.mk (HI1.out).1).out 10).trans rfl⟩ (fun hHeld => ?_); refine with_tabW spec_l06Look.tab2 spec_l06Look.bits2 (fun HT_ HW_ => ?_); generalize w13.drew = w14 at HO0 HI1 HK HB hHeld ⊢; refine pV 0 12 (OB 16 1) ?_; refine pV 1 13 (OB 16 3) ?_; refine pV 2 14 (OB 16 7) ?_; refine pV 3 15 (OB 16 15) ?_; refine pV 5 17 (OB 16 47) ?_; refine pV 6 18 (OB 16 111) ?_; refine pV 7 19 (OB 16 239) ?_; refine pV 10 22 (OB 16 1263) ?_; refine pV 11 23 (OB 16 3311) ?_; refine pV 12 24 (OB 16 7407) ?_; refine pT 4 16 (OB 16 7423) ?_; refine pT 8 20 (OB 16 7679) ?_; refine pV 9 21 (OB 16 8191) ?_; refine pT 13 25 (OB 16 16383) ?_; refine pV 14 26 (OB 16 32767) ?_; refine one_ (i := 15) (N := some 27) (OB 16 65535) rfl rfl (one_of HT_.out (by kernel_rfl)) (by decide) (fun K hK => ?_); refine goes_ Try.func100 (by kernel_rfl) rfl #[.slice Ao15 l0.length co15, .int .i64 s1_5, .int .i64 (wrap64 (2 * s1_6)), .int .i64 (wrap64 (2 * s1_7))] (by rfl) rfl rfl (MA) ?_
  with_reducible refine (spec_l06Swap.calls (fun k_ => some k_ = (.slice Ao15 l0.length co15 : Value).ownBlock) (.slice Ao15 l0.length co15) l0 s1_5 (wrap64 (2 * s1_6)) (wrap64 (2 * s1_7)) false t135 w0 _ ?side1 ?side2 A4.out).mono ?_
  (case side1 => exact spec_l06Look.k1 HB.out)
  (case side2 => exact Kd.R_tight rfl HO0.out)
  rintro e w16 ⟨rfl, hy0, hb, hkp⟩; refine ⟨_, rfl, ?_⟩; have n0_ := Aside0.mk (IsS30.kept (spec_l06Look.k0 HI1.out) hkp (fun hs_ => (fun e_ => (IsS30.own_ne HI1.out HO0.out (by decide)) e_) hs_)); have n1_ := Aside0.mk (Kd.R_reok rfl hy0 (fun k_ e_ => HO0.out.1 k_ e_)); have n2_ := Aside0.mk (Kept.then_ (S := (fun k_ => (P0_ k_) ∨ k_ = g)) (spec_l06Look.k2 HK.out) hkp (fun k_ hs_ => (fun e_ => Or.imp_left Or.inl ((HO0.out.1 k_ e_.symm))) hs_)); have n3_ := Aside0.mk (hb); clear HI1; clear HO0; clear HK; clear HB; have HI1 := n0_; have HO0 := n1_; have HK := n2_; have HB := n3_; clear n0_ n1_ n2_ n3_
  (try clear hb)
  (try clear hkp)
  (try clear hy0)
  refine hK.out _ _ ⟨(blk_cell (Aside0.mk (HI1.out).1).out 0).trans rfl, (blk_cell (Aside0.mk (HI1.out).1).out 1).trans rfl, (blk_cell (Aside0.mk (HI1.out).1).out 2).trans rfl, (blk_cell (Aside0.mk (HI1.out).1).out 3).trans rfl, (blk_cell (Aside0.mk (HI1.out).1).out 4).trans rfl, (blk_cell (Aside0.mk (HI1.out).1).out 5).trans rfl, (blk_cell (Aside0.mk (HI1.out).1).out 6).trans rfl, (blk_cell (Aside0.mk (HI1.out).1).out 7).trans rfl, (blk_cell (Aside0.mk (HI1.out).1).out 8).trans rfl, (blk_cell (Aside0.mk (HI1.out).1).out 9).trans rfl, (blk_cell (Aside0.mk (HI1.out).1).out 10).trans rfl⟩ (fun hHeld => ?_); clear hK K; refine norm_ (a' := ?_) ?_ ?_; rotate_left
  ·
   show Act.put _ (some 27) _ = _; simp only [Act.put, zA, zB, zC, i64_w, i32_w]; rfl
  refine done_ (done_of HT_.out (by kernel_rfl)) ?_
  try go_wp2
  first | go_end0 | ((try simp only [Exit.inBlock, Exit.then]); refine bodyPost_ret (results_none rfl _ _ _) rfl ?_)
  exact ⟨EE, spec_l06Look.k0 HI1.out, RQ HO0.out, spec_l06Look.k1 HB.out, spec_l06Look.k2 HK.out⟩
 subst c5
 have H1 : (some (s1_0, s1_1, s1_2, s1_3, 1, s1_5, s1_7, s1_7, s1_8, s1_9, s1_10, t135)) = some (r1, r2, r3, r4, r5, r6, r7, r8, r9, r10, r11, r12) := by rw [if_pos rfl] at H; exact H
 clear H
 have H := H1
 clear H1
 simp only [Option.some.injEq, Prod.mk.injEq] at H
 obtain ⟨rfl, rfl, rfl, rfl, rfl, rfl, rfl, rfl, rfl, rfl, rfl, rfl⟩ := H
 obtain ⟨HGz6, hgz6⟩ := HI1.out
 have hcz6_0 := cellS30_0 HGz6
 have hcz6_1 := cellS30_1 HGz6
 have hcz6_2 := cellS30_2 HGz6
 have hcz6_3 := cellS30_3 HGz6
 have hcz6_4 := cellS30_4 HGz6
 have hcz6_5 := cellS30_5 HGz6
 have hcz6_6 := cellS30_6 HGz6
 have hcz6_7 := cellS30_7 HGz6
 have hcz6_8 := cellS30_8 HGz6
 have hcz6_9 := cellS30_9 HGz6
 have hcz6_10 := cellS30_10 HGz6
 have hfz6_0 := blk_frozen HGz6 0
 have hfz6_1 := blk_frozen HGz6 1
 have hfz6_2 := blk_frozen HGz6 2
 have hfz6_3 := blk_frozen HGz6 3
 have hfz6_4 := blk_frozen HGz6 4
 have hfz6_5 := blk_frozen HGz6 5
 have hfz6_6 := blk_frozen HGz6 6
 have hfz6_7 := blk_frozen HGz6 7
 have hfz6_8 := blk_frozen HGz6 8
 have hfz6_9 := blk_frozen HGz6 9
 have hfz6_10 := blk_frozen HGz6 10
 clear HGz6 hgz6
 go_enter Try.func98, Try.ntmps98
 try go_wp2
 have n0_ : Aside0 (Kd.R (Kd.int .i64) 3 (w.setCell ⟨g, 4, none⟩ (.int .i64 0)) w0.heap.size (fun k_ => (P0_ k_ ∨ w.heap.size ≤ k_)) u9000_ l0) := ⟨by (with_reducible repeat (first | apply r1 | apply r2 | apply r3)); exact Kd.R_mono (Kd.R_far (p := ⟨g, 4, none⟩) (IsS30.apart HI1.out HO0.out (by decide)) (fun _ hk => hk.2) (.int .i64 0)) (fun _ hk => hk.1)⟩
 have n1_ : Aside0 (IsS30 w0 (w.setCell ⟨g, 4, none⟩ (.int .i64 0)) g s1_0 s1_1 s1_2 s1_3 0 s1_5 s1_6 s1_7 s1_8 s1_9 s1_10) := ⟨spec_l06Look.k0 HI1.out⟩
 have n2_ : Aside0 (Kept w (w.setCell ⟨g, 4, none⟩ (.int .i64 0)) (fun k_ => (P0_ k_) ∨ k_ = g)) := ⟨spec_l06Look.k2 HK.out⟩
 have n3_ : Aside0 (Below w0.heap.size w0 (w.setCell ⟨g, 4, none⟩ (.int .i64 0))) := ⟨spec_l06Look.k1 HB.out⟩
 (try clear HO0)
 (try clear HI1)
 (try clear HK)
 (try clear HB)
 generalize (w.setCell ⟨g, 4, none⟩ (.int .i64 0)) = w7 at n0_ n1_ n2_ n3_ ⊢
 have HO0 := n0_
 have HI1 := n1_
 have HK := n2_
 have HB := n3_
 clear n0_ n1_ n2_ n3_
 have n0_ := Aside0.mk (Kd.R_drew HO0.out)
 have n1_ := Aside0.mk (IsS30.drew HI1.out)
 have n2_ := Aside0.mk (Kept.drew HK.out)
 have n3_ := Aside0.mk (below_drew1 HB.out)
 clear HO0
 clear HI1
 clear HK
 clear HB
 have HO0 := n0_
 have HI1 := n1_
 have HK := n2_
 have HB := n3_
 clear n0_ n1_ n2_ n3_
 obtain ⟨Ao9, co9, eo9⟩ := Kd.R_slice HO0.out
 (first | subst eo9 | (injection eo9 with f1_ f2_ f3_; have f4_ := f1_.symm; have f5_ := f3_.symm; clear f1_ f2_ f3_; subst f4_; subst f5_))
 refine start_ (n := 16) (S := fun w' => w'.cell? ⟨g, 0, none⟩ = some (.int .i64 s1_0) ∧ w'.cell? ⟨g, 1, none⟩ = some (.int .i64 s1_1) ∧ w'.cell? ⟨g, 2, none⟩ = some (.int .i64 s1_2) ∧ w'.cell? ⟨g, 3, none⟩ = some (.int .i64 s1_3) ∧ w'.cell? ⟨g, 4, none⟩ = some (.int .i64 0) ∧ w'.cell? ⟨g, 5, none⟩ = some (.int .i64 s1_5) ∧ w'.cell? ⟨g, 6, none⟩ = some (.int .i64 s1_6) ∧ w'.cell? ⟨g, 7, none⟩ = some (.int .i64 s1_7) ∧ w'.cell? ⟨g, 8, none⟩ = some (.int .i64 s1_8) ∧ w'.cell? ⟨g, 9, none⟩ = some (.bool s1_9) ∧ w'.cell? ⟨g, 10, none⟩ = some (.int .i64 s1_10)) (ds := []) #[false, false, false, false, false, false, false, false, false, false, false, false, false, false, false, false] (by kernel_rfl) rfl rfl ⟨(blk_cell (Aside0.mk (HI1.out).1).out 0).trans rfl, (blk_cell (Aside0.mk (HI1.out).1).out 1).trans rfl, (blk_cell (Aside0.mk (HI1.out).1).out 2).trans rfl, (blk_cell (Aside0.mk (HI1.out).1).out 3).trans rfl, (blk_cell (Aside0.mk (HI1.out).1).out 4).trans rfl, (blk_cell (Aside0.mk (HI1.out).1).out 5).trans rfl, (blk_cell (Aside0.mk (HI1.out).1).out 6).trans rfl, (blk_cell (Aside0.mk (HI1.out).1).out 7).trans rfl, (blk_cell (Aside0.mk (HI1.out).1).out 8).trans rfl, (blk_cell (Aside0.mk (HI1.out).1).out 9).trans rfl, (blk_cell (Aside0.mk (HI1.out).1).out 10).trans rfl⟩ (fun hHeld => ?_); refine with_tabW spec_l06Look.tab2 spec_l06Look.bits2 (fun HT_ HW_ => ?_)
 generalize w7.drew = w8 at HO0 HI1 HK HB hHeld ⊢
 refine pV 0 12 (OB 16 1) ?_
 refine pV 1 13 (OB 16 3) ?_
 refine pV 2 14 (OB 16 7) ?_
 refine pV 3 15 (OB 16 15) ?_
 refine pV 5 17 (OB 16 47) ?_
 refine pV 6 18 (OB 16 111) ?_
 refine pV 7 19 (OB 16 239) ?_
 refine pV 10 22 (OB 16 1263) ?_
 refine pV 11 23 (OB 16 3311) ?_
 refine pV 12 24 (OB 16 7407) ?_
 refine pT 4 16 (OB 16 7423) ?_
 refine pT 8 20 (OB 16 7679) ?_
 refine pV 9 21 (OB 16 8191) ?_
 refine pT 13 25 (OB 16 16383) ?_
 refine pV 14 26 (OB 16 32767) ?_
 refine one_ (i := 15) (N := some 27) (OB 16 65535) rfl rfl (one_of HT_.out (by kernel_rfl)) (by decide) (fun K hK => ?_)
 refine goes_ Try.func100 (by kernel_rfl) rfl #[.slice Ao9 l0.length co9, .int .i64 s1_5, .int .i64 (wrap64 (2 * s1_6)), .int .i64 (wrap64 (2 * s1_7))] (by rfl) rfl rfl (MA) ?_
 with_reducible refine (spec_l06Swap.calls (fun k_ => some k_ = (.slice Ao9 l0.length co9 : Value).ownBlock) (.slice Ao9 l0.length co9) l0 s1_5 (wrap64 (2 * s1_6)) (wrap64 (2 * s1_7)) true t135 w0 _ ?side1 ?side2 A4.out).mono ?_
 (case side1 => exact spec_l06Look.k1 HB.out)
 (case side2 => exact Kd.R_tight rfl HO0.out)
 rintro e w10 ⟨rfl, hy0, hb, hkp⟩
 refine ⟨_, rfl, ?_⟩
 have n0_ := Aside0.mk (IsS30.kept (spec_l06Look.k0 HI1.out) hkp (fun hs_ => (fun e_ => (IsS30.own_ne HI1.out HO0.out (by decide)) e_) hs_))
 have n1_ := Aside0.mk (Kd.R_reok rfl hy0 (fun k_ e_ => HO0.out.1 k_ e_))
 have n2_ := Aside0.mk (Kept.then_ (S := (fun k_ => (P0_ k_) ∨ k_ = g)) (spec_l06Look.k2 HK.out) hkp (fun k_ hs_ => (fun e_ => Or.imp_left Or.inl ((HO0.out.1 k_ e_.symm))) hs_))
 have n3_ := Aside0.mk (hb)
 clear HI1
 clear HO0
 clear HK
 clear HB
 have HI1 := n0_
 have HO0 := n1_
 have HK := n2_
 have HB := n3_
 clear n0_ n1_ n2_ n3_
 (try clear hb)
 (try clear hkp)
 (try clear hy0)
 refine hK.out _ _ ⟨(blk_cell (Aside0.mk (HI1.out).1).out 0).trans rfl, (blk_cell (Aside0.mk (HI1.out).1).out 1).trans rfl, (blk_cell (Aside0.mk (HI1.out).1).out 2).trans rfl, (blk_cell (Aside0.mk (HI1.out).1).out 3).trans rfl, (blk_cell (Aside0.mk (HI1.out).1).out 4).trans rfl, (blk_cell (Aside0.mk (HI1.out).1).out 5).trans rfl, (blk_cell (Aside0.mk (HI1.out).1).out 6).trans rfl, (blk_cell (Aside0.mk (HI1.out).1).out 7).trans rfl, (blk_cell (Aside0.mk (HI1.out).1).out 8).trans rfl, (blk_cell (Aside0.mk (HI1.out).1).out 9).trans rfl, (blk_cell (Aside0.mk (HI1.out).1).out 10).trans rfl⟩ (fun hHeld => ?_)
 clear hK K
 refine norm_ (a' := ?_) ?_ ?_
 rotate_left
 ·
  show Act.put _ (some 27) _ = _; simp only [Act.put, zA, zB, zC, i64_w, i32_w]; rfl
 refine done_ (done_of HT_.out (by kernel_rfl)) ?_
 obtain ⟨HGz11, hgz11⟩ := HI1.out
 have hcz11_0 := cellS30_0 HGz11
 have hcz11_1 := cellS30_1 HGz11
 have hcz11_2 := cellS30_2 HGz11
 have hcz11_3 := cellS30_3 HGz11
 have hcz11_4 := cellS30_4 HGz11
 have hcz11_5 := cellS30_5 HGz11
 have hcz11_6 := cellS30_6 HGz11
 have hcz11_7 := cellS30_7 HGz11
 have hcz11_8 := cellS30_8 HGz11
 have hcz11_9 := cellS30_9 HGz11
 have hcz11_10 := cellS30_10 HGz11
 have hfz11_0 := blk_frozen HGz11 0
 have hfz11_1 := blk_frozen HGz11 1
 have hfz11_2 := blk_frozen HGz11 2
 have hfz11_3 := blk_frozen HGz11 3
 have hfz11_4 := blk_frozen HGz11 4
 have hfz11_5 := blk_frozen HGz11 5
 have hfz11_6 := blk_frozen HGz11 6
 have hfz11_7 := blk_frozen HGz11 7
 have hfz11_8 := blk_frozen HGz11 8
 have hfz11_9 := blk_frozen HGz11 9
 have hfz11_10 := blk_frozen HGz11 10
 clear HGz11 hgz11
 try go_wp2
 first | go_end0 | ((try simp only [Exit.inBlock, Exit.then]); refine bodyPost_ret (results_none rfl _ _ _) rfl ?_)
 exact ⟨EE, spec_l06Look.k0 HI1.out, by (with_reducible repeat (first | apply r1 | apply r2 | apply r3)); exact Kd.R_mono (Kd.R_far (p := ⟨g, 4, none⟩) (Kd.R_far (p := ⟨g, 6, none⟩) (IsS30.apart HI1.out HO0.out (by decide)) (fun _ hk => hk.2) (.int .i64 s1_7)) (fun _ hk => hk.2) (.int .i64 1)) (fun _ hk => hk.1), spec_l06Look.k1 HB.out, spec_l06Look.k2 HK.out⟩

/-! ### spec_l06Found: function 99 -/
def spec_l06Found.f (l0 : List Int) (s1_0 : Int) (s1_1 : Int) (s1_2 : Int) (s1_3 : Int) (s1_4 : Int) (s1_5 : Int) (s1_6 : Int) (s1_7 : Int) (s1_8 : Int) (s1_9 : Bool) (s1_10 : Int) : Option (Int × Int × Int × Int × Int × Int × Int × Int × Int × Bool × Int × List Int) := if 0 ≤ (wrap64 (3 * s1_6)) then (if (wrap64 (3 * s1_6)) < (l0.length : Int) then (if (rd l0 (wrap64 (3 * s1_6))) = s1_1 then (if s1_0 = 1 then (if 0 ≤ (wrap64 ((wrap64 (3 * s1_6)) + 1)) then (if (wrap64 ((wrap64 (3 * s1_6)) + 1)) < (l0.length : Int) then (some (s1_0, s1_1, s1_2, s1_3, s1_4, s1_5, s1_6, s1_7, s1_8, true, wrap64 ((rd l0 (wrap64 ((wrap64 (3 * s1_6)) + 1))) + 1), l0)) else (none)) else (none)) else (if s1_0 = 2 then (some (s1_0, s1_1, s1_2, s1_3, s1_4, s1_5, s1_6, s1_7, s1_8, true, 0, l0)) else (some (s1_0, s1_1, s1_2, s1_3, 5, s1_5, s1_6, s1_7, s1_8, s1_9, s1_10, l0)))) else ((spec_l06Nobody.f l0 s1_0 s1_1 s1_2 s1_3 s1_4 s1_5 s1_6 s1_7 s1_8 s1_9 s1_10).bind fun bt138 => (some (bt138.1, bt138.2.1, bt138.2.2.1, bt138.2.2.2.1, bt138.2.2.2.2.1, bt138.2.2.2.2.2.1, bt138.2.2.2.2.2.2.1, bt138.2.2.2.2.2.2.2.1, bt138.2.2.2.2.2.2.2.2.1, bt138.2.2.2.2.2.2.2.2.2.1, bt138.2.2.2.2.2.2.2.2.2.2.1, bt138.2.2.2.2.2.2.2.2.2.2.2)))) else (none)) else (none)
theorem spec_l06Found.k0 {p q : Prop} (h : q) (k : q → p := by intro h_; repeat (first | (with_reducible first | exact h_ | apply IsS30.alloc | apply IsS30.drewN | apply IsS30.drew | apply IsS30.set_0 | apply IsS30.set_1 | apply IsS30.set_2 | apply IsS30.set_3 | apply IsS30.set_4 | apply IsS30.set_5 | apply IsS30.set_6 | apply IsS30.set_7 | apply IsS30.set_8 | apply IsS30.set_9 | apply IsS30.set_10) | exact h_)) : p := k h
theorem spec_l06Found.k1 {p q : Prop} (h : q) (k : q → p := by intro h_; repeat (first | (with_reducible first | exact h_ | apply below_alloc | apply pw_below_drewN | apply below_drew1 | refine below_set ?_ (IsS30.ge HI1.out)) | exact h_)) : p := k h
theorem spec_l06Found.k2 {p q : Prop} (h : q) (k : q → p := by intro h_; repeat (first | (with_reducible first | exact h_ | apply Kept.alloc | apply Kept.drewN | apply Kept.drew | refine Kept.setCell ?_ (.inl (.inr rfl)) _) | exact h_)) : p := k h
set_option maxHeartbeats 8000000 in
set_option maxRecDepth 100000 in
theorem spec_l06Found.calls (P0_ : Nat → Prop) (u9000_ : Value) (l0 : List Int) (g : Nat) (s1_0 : Int) (s1_1 : Int) (s1_2 : Int) (s1_3 : Int) (s1_4 : Int) (s1_5 : Int) (s1_6 : Int) (s1_7 : Int) (s1_8 : Int) (s1_9 : Bool) (s1_10 : Int) (r1 : Int) (r2 : Int) (r3 : Int) (r4 : Int) (r5 : Int) (r6 : Int) (r7 : Int) (r8 : Int) (r9 : Int) (r10 : Bool) (r11 : Int) (r12 : List Int) (w0 w : World) (hI : IsS30 w0 w g s1_0 s1_1 s1_2 s1_3 s1_4 s1_5 s1_6 s1_7 s1_8 s1_9 s1_10) (hB : Below w0.heap.size w0 w) (ho0 : Kd.R (Kd.int .i64) 3 w w0.heap.size P0_ u9000_ l0) (h : spec_l06Found.f l0 s1_0 s1_1 s1_2 s1_3 s1_4 s1_5 s1_6 s1_7 s1_8 s1_9 s1_10 = some (r1, r2, r3, r4, r5, r6, r7, r8, r9, r10, r11, r12)) :
  Calls Try.prog 99 #[u9000_, .pointer (some ⟨g, 0, none⟩)] w fun e w' => e = .returned (.tuple #[]) ∧ IsS30 w0 w' g r1 r2 r3 r4 r5 r6 r7 r8 r9 r10 r11 ∧ Kd.R (Kd.int .i64) 3 w' w0.heap.size (fun k_ => (P0_ k_ ∨ w.heap.size ≤ k_)) u9000_ r12 ∧ Below w0.heap.size w0 w' ∧ Kept w w' (fun k_ => (P0_ k_) ∨ k_ = g) := by
 have HO0 := Aside0.mk (show Kd.R (Kd.int .i64) 3 w w0.heap.size (fun k_ => (P0_ k_ ∨ w.heap.size ≤ k_)) u9000_ l0 from Kd.R_mono ho0 (fun k_ hk => (.inl hk)))
 have HI1 := Aside0.mk hI
 have HL := Aside0.mk hB.size
 clear hI
 have HK := Aside0.mk (Kept.refl w (fun k_ => (P0_ k_) ∨ k_ = g))
 have HW0 := Aside0.mk hB.size
 have HB := Aside0.mk hB
 clear hB
 have H : (if 0 ≤ (wrap64 (3 * s1_6)) then (if (wrap64 (3 * s1_6)) < (l0.length : Int) then (if (rd l0 (wrap64 (3 * s1_6))) = s1_1 then (if s1_0 = 1 then (if 0 ≤ (wrap64 ((wrap64 (3 * s1_6)) + 1)) then (if (wrap64 ((wrap64 (3 * s1_6)) + 1)) < (l0.length : Int) then (some (s1_0, s1_1, s1_2, s1_3, s1_4, s1_5, s1_6, s1_7, s1_8, true, wrap64 ((rd l0 (wrap64 ((wrap64 (3 * s1_6)) + 1))) + 1), l0)) else (none)) else (none)) else (if s1_0 = 2 then (some (s1_0, s1_1, s1_2, s1_3, s1_4, s1_5, s1_6, s1_7, s1_8, true, 0, l0)) else (some (s1_0, s1_1, s1_2, s1_3, 5, s1_5, s1_6, s1_7, s1_8, s1_9, s1_10, l0)))) else ((spec_l06Nobody.f l0 s1_0 s1_1 s1_2 s1_3 s1_4 s1_5 s1_6 s1_7 s1_8 s1_9 s1_10).bind fun bt138 => (some (bt138.1, bt138.2.1, bt138.2.2.1, bt138.2.2.2.1, bt138.2.2.2.2.1, bt138.2.2.2.2.2.1, bt138.2.2.2.2.2.2.1, bt138.2.2.2.2.2.2.2.1, bt138.2.2.2.2.2.2.2.2.1, bt138.2.2.2.2.2.2.2.2.2.1, bt138.2.2.2.2.2.2.2.2.2.2.1, bt138.2.2.2.2.2.2.2.2.2.2.2)))) else (none)) else (none)) = some (r1, r2, r3, r4, r5, r6, r7, r8, r9, r10, r11, r12) := h
 clear h
 obtain ⟨ji3, hji3⟩ : ∃ j_ : Int, (wrap64 (3 * s1_6)) = j_ := ⟨_, rfl⟩
 replace H : (if 0 ≤ (ji3) then (if (ji3) < (l0.length : Int) then (if (rd l0 (ji3)) = s1_1 then (if s1_0 = 1 then (if 0 ≤ (wrap64 ((ji3) + 1)) then (if (wrap64 ((ji3) + 1)) < (l0.length : Int) then (some (s1_0, s1_1, s1_2, s1_3, s1_4, s1_5, s1_6, s1_7, s1_8, true, wrap64 ((rd l0 (wrap64 ((ji3) + 1))) + 1), l0)) else (none)) else (none)) else (if s1_0 = 2 then (some (s1_0, s1_1, s1_2, s1_3, s1_4, s1_5, s1_6, s1_7, s1_8, true, 0, l0)) else (some (s1_0, s1_1, s1_2, s1_3, 5, s1_5, s1_6, s1_7, s1_8, s1_9, s1_10, l0)))) else ((spec_l06Nobody.f l0 s1_0 s1_1 s1_2 s1_3 s1_4 s1_5 s1_6 s1_7 s1_8 s1_9 s1_10).bind fun bt138 => (some (bt138.1, bt138.2.1, bt138.2.2.1, bt138.2.2.2.1, bt138.2.2.2.2.1, bt138.2.2.2.2.2.1, bt138.2.2.2.2.2.2.1, bt138.2.2.2.2.2.2.2.1, bt138.2.2.2.2.2.2.2.2.1, bt138.2.2.2.2.2.2.2.2.2.1, bt138.2.2.2.2.2.2.2.2.2.2.1, bt138.2.2.2.2.2.2.2.2.2.2.2)))) else (none)) else (none)) = some (r1, r2, r3, r4, r5, r6, r7, r8, r9, r10, r11, r12) := by first | (rw [hji3] at H; exact H) | (simp only [hji3] at H ⊢; exact H)
 have hji3w : (IntKind.i64.wrap (3 * s1_6)) = ji3 := (i64_w _).trans hji3
 by_cases c4 : 0 ≤ (ji3); rotate_left
 ·
  rw [if_neg c4] at H; exact absurd H (by simp)
 rw [if_pos c4] at H
 have c4b0 : decide (0 ≤ (ji3)) = true := decide_eq_true c4
 clear c4
 by_cases c5 : (ji3) < (l0.length : Int); rotate_left
 ·
  rw [if_neg c5] at H; exact absurd H (by simp)
 rw [if_pos c5] at H
 have c5b0 : decide ((ji3) < (l0.length : Int)) = true := decide_eq_true c5
 clear c5
 by_cases c6 : (rd l0 (ji3)) = s1_1; rotate_left
 ·
  rw [if_neg c6] at H; have c6b0 : ((rd l0 (ji3)) == s1_1) = false := beq_eq_false_iff_ne.mpr c6; have c6b1 : ((rd l0 (ji3)) != s1_1) = true := bne_iff_ne.mpr c6; replace H := Option.bind_eq_some_iff.mp H; obtain ⟨⟨t138, t139, t140, t141, t142, t143, t144, t145, t146, t147, t148, t149⟩, A180, H⟩ := H; replace H : (some (t138, t139, t140, t141, t142, t143, t144, t145, t146, t147, t148, t149)) = some (r1, r2, r3, r4, r5, r6, r7, r8, r9, r10, r11, r12) := H; have A18 := Aside0.mk A180; clear A180; simp only [Option.some.injEq, Prod.mk.injEq] at H; obtain ⟨rfl, rfl, rfl, rfl, rfl, rfl, rfl, rfl, rfl, rfl, rfl, rfl⟩ := H; obtain ⟨HGz19, hgz19⟩ := HI1.out; have hcz19_0 := cellS30_0 HGz19; have hcz19_1 := cellS30_1 HGz19; have hcz19_2 := cellS30_2 HGz19; have hcz19_3 := cellS30_3 HGz19; have hcz19_4 := cellS30_4 HGz19; have hcz19_5 := cellS30_5 HGz19; have hcz19_6 := cellS30_6 HGz19; have hcz19_7 := cellS30_7 HGz19; have hcz19_8 := cellS30_8 HGz19; have hcz19_9 := cellS30_9 HGz19; have hcz19_10 := cellS30_10 HGz19; have hfz19_0 := blk_frozen HGz19 0; have hfz19_1 := blk_frozen HGz19 1; have hfz19_2 := blk_frozen HGz19 2; have hfz19_3 := blk_frozen HGz19 3; have hfz19_4 := blk_frozen HGz19 4; have hfz19_5 := blk_frozen HGz19 5; have hfz19_6 := blk_frozen HGz19 6; have hfz19_7 := blk_frozen HGz19 7; have hfz19_8 := blk_frozen HGz19 8; have hfz19_9 := blk_frozen HGz19 9; have hfz19_10 := blk_frozen HGz19 10; clear HGz19 hgz19; obtain ⟨Ao20, co20, eo20⟩ := Kd.R_slice HO0.out; subst eo20; have p137 : 0 ≤ ((ji3) : Int) := of_decide_eq_true AS; have q137 : (ji3) < (l0.length : Int) := of_decide_eq_true AS; obtain ⟨ad137, e137, hx137_0⟩ := Kd.at_int (Kd.R_reads' HO0.out).2.2 (ji3) p137 q137; cases e137; replace p137 := eq_true p137; replace q137 := eq_true q137
  go_enter Try.func99, Try.ntmps99
  go_wp2_with (first | (go_at_call 96; (with_reducible refine (spec_l06Nobody.calls (fun k_ => some k_ = (.slice (some ad137) l0.length co20 : Value).ownBlock) (.slice (some ad137) l0.length co20) l0 g s1_0 s1_1 s1_2 s1_3 s1_4 s1_5 s1_6 s1_7 s1_8 s1_9 s1_10 t138 t139 t140 t141 t142 t143 t144 t145 t146 t147 t148 t149 w0 _ ?side1 ?side2 ?side3 A18.out).mono ?_); (case side1 => exact spec_l06Found.k0 HI1.out); (case side2 => exact spec_l06Found.k1 HB.out); (case side3 => exact Kd.R_tight rfl HO0.out); rintro e w21 ⟨rfl, hi, hy0, hb, hkp⟩; replace HI1 := Aside0.mk (hi); replace HK := Aside0.mk (Kept.then_ (S := (fun k_ => (P0_ k_) ∨ k_ = g)) (spec_l06Found.k2 HK.out) hkp (fun k_ hs_ => Or.elim hs_ (fun hs_ => (fun e_ => Or.imp_left Or.inl ((HO0.out.1 k_ e_.symm))) hs_) (fun e_ => .inl (.inr e_)))); replace HO0 := Aside0.mk (Kd.R_reok rfl hy0 (fun k_ e_ => HO0.out.1 k_ e_)); replace HB := Aside0.mk (hb); (try clear hb); (try clear hkp); (try clear hy0)))
  repeat (go_quiet (first | (go_at_call 96; (with_reducible refine (spec_l06Nobody.calls (fun k_ => some k_ = (.slice (some ad137) l0.length co20 : Value).ownBlock) (.slice (some ad137) l0.length co20) l0 g s1_0 s1_1 s1_2 s1_3 s1_4 s1_5 s1_6 s1_7 s1_8 s1_9 s1_10 t138 t139 t140 t141 t142 t143 t144 t145 t146 t147 t148 t149 w0 _ ?side1 ?side2 ?side3 A18.out).mono ?_); (case side1 => exact spec_l06Found.k0 HI1.out); (case side2 => exact spec_l06Found.k1 HB.out); (case side3 => exact Kd.R_tight rfl HO0.out); rintro e w21 ⟨rfl, hi, hy0, hb, hkp⟩; replace HI1 := Aside0.mk (hi); replace HK := Aside0.mk (Kept.then_ (S := (fun k_ => (P0_ k_) ∨ k_ = g)) (spec_l06Found.k2 HK.out) hkp (fun k_ hs_ => Or.elim hs_ (fun hs_ => (fun e_ => Or.imp_left Or.inl ((HO0.out.1 k_ e_.symm))) hs_) (fun e_ => .inl (.inr e_)))); replace HO0 := Aside0.mk (Kd.R_reok rfl hy0 (fun k_ e_ => HO0.out.1 k_ e_)); replace HB := Aside0.mk (hb); (try clear hb); (try clear hkp); (try clear hy0))); try go_wp2_with (first | (go_at_call 96; (with_reducible refine (spec_l06Nobody.calls (fun k_ => some k_ = (.slice (some ad137) l0.length co20 : Value).ownBlock) (.slice (some ad137) l0.length co20) l0 g s1_0 s1_1 s1_2 s1_3 s1_4 s1_5 s1_6 s1_7 s1_8 s1_9 s1_10 t138 t139 t140 t141 t142 t143 t144 t145 t146 t147 t148 t149 w0 _ ?side1 ?side2 ?side3 A18.out).mono ?_); (case side1 => exact spec_l06Found.k0 HI1.out); (case side2 => exact spec_l06Found.k1 HB.out); (case side3 => exact Kd.R_tight rfl HO0.out); rintro e w21 ⟨rfl, hi, hy0, hb, hkp⟩; replace HI1 := Aside0.mk (hi); replace HK := Aside0.mk (Kept.then_ (S := (fun k_ => (P0_ k_) ∨ k_ = g)) (spec_l06Found.k2 HK.out) hkp (fun k_ hs_ => Or.elim hs_ (fun hs_ => (fun e_ => Or.imp_left Or.inl ((HO0.out.1 k_ e_.symm))) hs_) (fun e_ => .inl (.inr e_)))); replace HO0 := Aside0.mk (Kd.R_reok rfl hy0 (fun k_ e_ => HO0.out.1 k_ e_)); replace HB := Aside0.mk (hb); (try clear hb); (try clear hkp); (try clear hy0))))
  first | go_end0 | ((try simp only [Exit.inBlock, Exit.then]); refine bodyPost_ret (results_none rfl _ _ _) rfl ?_)
  exact ⟨by first | rfl | (simp [errW_none, errW_some] <;> rfl) | (simp only [← hji3]; first | rfl | (simp [errW_none, errW_some] <;> rfl)) | (simp [*, errW_none, errW_some] <;> rfl), spec_l06Found.k0 HI1.out, RQ HO0.out, spec_l06Found.k1 HB.out, spec_l06Found.k2 HK.out⟩
 rw [if_pos c6] at H
 have c6b0 : ((rd l0 (ji3)) == s1_1) = true := beq_iff_eq.mpr c6
 have c6b1 : ((rd l0 (ji3)) != s1_1) = false := bne_eq_false_iff_eq.mpr c6
 clear c6
 by_cases c7 : s1_0 = 1
 ·
  rw [if_pos c7] at H; have c7b0 : (s1_0 == 1) = true := beq_iff_eq.mpr c7; have c7b1 : (s1_0 != 1) = false := bne_eq_false_iff_eq.mpr c7; clear c7; obtain ⟨ji8, hji8⟩ : ∃ j_ : Int, (wrap64 ((ji3) + 1)) = j_ := ⟨_, rfl⟩
  replace H : (if 0 ≤ (ji8) then (if (ji8) < (l0.length : Int) then (some (s1_0, s1_1, s1_2, s1_3, s1_4, s1_5, s1_6, s1_7, s1_8, true, wrap64 ((rd l0 (ji8)) + 1), l0)) else (none)) else (none)) = some (r1, r2, r3, r4, r5, r6, r7, r8, r9, r10, r11, r12) := by first | (rw [hji8] at H; exact H) | (simp only [hji8] at H ⊢; exact H)
  have hji8w : (IntKind.i64.wrap ((ji3) + 1)) = ji8 := (i64_w _).trans hji8
  by_cases c9 : 0 ≤ (ji8); rotate_left
  ·
   rw [if_neg c9] at H; exact absurd H (by simp)
  rw [if_pos c9] at H; have c9b0 : decide (0 ≤ (ji8)) = true := decide_eq_true c9; clear c9
  by_cases c10 : (ji8) < (l0.length : Int); rotate_left
  ·
   rw [if_neg c10] at H; exact absurd H (by simp)
  rw [if_pos c10] at H; have c10b0 : decide ((ji8) < (l0.length : Int)) = true := decide_eq_true c10; clear c10; simp only [Option.some.injEq, Prod.mk.injEq] at H; obtain ⟨rfl, rfl, rfl, rfl, rfl, rfl, rfl, rfl, rfl, rfl, rfl, rfl⟩ := H; obtain ⟨HGz11, hgz11⟩ := HI1.out; have hcz11_0 := cellS30_0 HGz11; have hcz11_1 := cellS30_1 HGz11; have hcz11_2 := cellS30_2 HGz11; have hcz11_3 := cellS30_3 HGz11; have hcz11_4 := cellS30_4 HGz11; have hcz11_5 := cellS30_5 HGz11; have hcz11_6 := cellS30_6 HGz11; have hcz11_7 := cellS30_7 HGz11; have hcz11_8 := cellS30_8 HGz11; have hcz11_9 := cellS30_9 HGz11; have hcz11_10 := cellS30_10 HGz11; have hfz11_0 := blk_frozen HGz11 0; have hfz11_1 := blk_frozen HGz11 1; have hfz11_2 := blk_frozen HGz11 2; have hfz11_3 := blk_frozen HGz11 3; have hfz11_4 := blk_frozen HGz11 4; have hfz11_5 := blk_frozen HGz11 5; have hfz11_6 := blk_frozen HGz11 6; have hfz11_7 := blk_frozen HGz11 7; have hfz11_8 := blk_frozen HGz11 8; have hfz11_9 := blk_frozen HGz11 9; have hfz11_10 := blk_frozen HGz11 10; clear HGz11 hgz11; obtain ⟨Ao12, co12, eo12⟩ := Kd.R_slice HO0.out; subst eo12; have p137 : 0 ≤ ((ji3) : Int) := of_decide_eq_true AS; have q137 : (ji3) < (l0.length : Int) := of_decide_eq_true AS; obtain ⟨ad137, e137, hx137_0⟩ := Kd.at_int (Kd.R_reads' HO0.out).2.2 (ji3) p137 q137; cases e137; replace p137 := eq_true p137; replace q137 := eq_true q137; have p150 : 0 ≤ ((ji8) : Int) := of_decide_eq_true AS; have q150 : (ji8) < (l0.length : Int) := of_decide_eq_true AS; obtain ⟨ad150, e150, hx150_0⟩ := Kd.at_int (Kd.R_reads' HO0.out).2.2 (ji8) p150 q150; obtain rfl : ad137 = ad150 := (by injection e150); have hn150_0 : ad137.block ≠ g := Kd.own_blk (IsS30.own_ne HI1.out HO0.out (by decide)); replace hx150_0 := (cell_far (p := ⟨g, 9, none⟩) (by first | (rw [add_block]; exact hn150_0) | (show (Addr.add _ _).block ≠ _; rw [add_block]; exact hn150_0) | exact hn150_0) (.bool true)).trans hx150_0
  (try have hy150_0 := fun (n_ : Nat) => (show (((w.drewN n_).setCell ⟨g, 9, none⟩ (.bool true))).cell? _ = some _ from hx150_0))
  clear hn150_0; replace p150 := eq_true p150; replace q150 := eq_true q150
  go_enter Try.func99, Try.ntmps99
  go_wp2
  repeat (go_quiet (fail); try go_wp2)
  first | go_end0 | ((try simp only [Exit.inBlock, Exit.then]); refine bodyPost_ret (results_none rfl _ _ _) rfl ?_)
  exact ⟨by first | rfl | (simp [errW_none, errW_some] <;> rfl) | (simp only [← hji3, ← hji8]; first | rfl | (simp [errW_none, errW_some] <;> rfl)) | (simp [*, errW_none, errW_some] <;> rfl), spec_l06Found.k0 HI1.out, by (with_reducible repeat (first | apply r1 | apply r2 | apply r3)); exact Kd.R_mono (Kd.R_far (p := ⟨g, 10, none⟩) (Kd.R_far (p := ⟨g, 9, none⟩) (IsS30.apart HI1.out HO0.out (by decide)) (fun _ hk => hk.2) (.bool true)) (fun _ hk => hk.2) (.int .i64 (wrap64 ((rd l0 (ji8)) + 1)))) (fun _ hk => hk.1), spec_l06Found.k1 HB.out, spec_l06Found.k2 HK.out⟩
 rw [if_neg c7] at H
 have c7b0 : (s1_0 == 1) = false := beq_eq_false_iff_ne.mpr c7
 have c7b1 : (s1_0 != 1) = true := bne_iff_ne.mpr c7
 by_cases c13 : s1_0 = 2; rotate_left
 ·
  rw [if_neg c13] at H; have c13b0 : (s1_0 == 2) = false := beq_eq_false_iff_ne.mpr c13; have c13b1 : (s1_0 != 2) = true := bne_iff_ne.mpr c13; simp only [Option.some.injEq, Prod.mk.injEq] at H; obtain ⟨rfl, rfl, rfl, rfl, rfl, rfl, rfl, rfl, rfl, rfl, rfl, rfl⟩ := H; obtain ⟨HGz16, hgz16⟩ := HI1.out; have hcz16_0 := cellS30_0 HGz16; have hcz16_1 := cellS30_1 HGz16; have hcz16_2 := cellS30_2 HGz16; have hcz16_3 := cellS30_3 HGz16; have hcz16_4 := cellS30_4 HGz16; have hcz16_5 := cellS30_5 HGz16; have hcz16_6 := cellS30_6 HGz16; have hcz16_7 := cellS30_7 HGz16; have hcz16_8 := cellS30_8 HGz16; have hcz16_9 := cellS30_9 HGz16; have hcz16_10 := cellS30_10 HGz16; have hfz16_0 := blk_frozen HGz16 0; have hfz16_1 := blk_frozen HGz16 1; have hfz16_2 := blk_frozen HGz16 2; have hfz16_3 := blk_frozen HGz16 3; have hfz16_4 := blk_frozen HGz16 4; have hfz16_5 := blk_frozen HGz16 5; have hfz16_6 := blk_frozen HGz16 6; have hfz16_7 := blk_frozen HGz16 7; have hfz16_8 := blk_frozen HGz16 8; have hfz16_9 := blk_frozen HGz16 9; have hfz16_10 := blk_frozen HGz16 10; clear HGz16 hgz16; obtain ⟨Ao17, co17, eo17⟩ := Kd.R_slice HO0.out; subst eo17; have p137 : 0 ≤ ((ji3) : Int) := of_decide_eq_true AS; have q137 : (ji3) < (l0.length : Int) := of_decide_eq_true AS; obtain ⟨ad137, e137, hx137_0⟩ := Kd.at_int (Kd.R_reads' HO0.out).2.2 (ji3) p137 q137; cases e137; replace p137 := eq_true p137; replace q137 := eq_true q137
  go_enter Try.func99, Try.ntmps99
  go_wp2
  repeat (go_quiet (fail); try go_wp2)
  first | go_end0 | ((try simp only [Exit.inBlock, Exit.then]); refine bodyPost_ret (results_none rfl _ _ _) rfl ?_)
  exact ⟨by first | rfl | (simp [errW_none, errW_some] <;> rfl) | (simp only [← hji3]; first | rfl | (simp [errW_none, errW_some] <;> rfl)) | (simp [*, errW_none, errW_some] <;> rfl), spec_l06Found.k0 HI1.out, by (with_reducible repeat (first | apply r1 | apply r2 | apply r3)); exact Kd.R_mono (Kd.R_far (p := ⟨g, 4, none⟩) (IsS30.apart HI1.out HO0.out (by decide)) (fun _ hk => hk.2) (.int .i64 5)) (fun _ hk => hk.1), spec_l06Found.k1 HB.out, spec_l06Found.k2 HK.out⟩
 rw [if_pos c13] at H
 have c13b0 : (s1_0 == 2) = true := beq_iff_eq.mpr c13
 have c13b1 : (s1_0 != 2) = false := bne_eq_false_iff_eq.mpr c13
 clear c13
 simp only [Option.some.injEq, Prod.mk.injEq] at H
 obtain ⟨rfl, rfl, rfl, rfl, rfl, rfl, rfl, rfl, rfl, rfl, rfl, rfl⟩ := H
 obtain ⟨HGz14, hgz14⟩ := HI1.out
 have hcz14_0 := cellS30_0 HGz14
 have hcz14_1 := cellS30_1 HGz14
 have hcz14_2 := cellS30_2 HGz14
 have hcz14_3 := cellS30_3 HGz14
 have hcz14_4 := cellS30_4 HGz14
 have hcz14_5 := cellS30_5 HGz14
 have hcz14_6 := cellS30_6 HGz14
 have hcz14_7 := cellS30_7 HGz14
 have hcz14_8 := cellS30_8 HGz14
 have hcz14_9 := cellS30_9 HGz14
 have hcz14_10 := cellS30_10 HGz14
 have hfz14_0 := blk_frozen HGz14 0
 have hfz14_1 := blk_frozen HGz14 1
 have hfz14_2 := blk_frozen HGz14 2
 have hfz14_3 := blk_frozen HGz14 3
 have hfz14_4 := blk_frozen HGz14 4
 have hfz14_5 := blk_frozen HGz14 5
 have hfz14_6 := blk_frozen HGz14 6
 have hfz14_7 := blk_frozen HGz14 7
 have hfz14_8 := blk_frozen HGz14 8
 have hfz14_9 := blk_frozen HGz14 9
 have hfz14_10 := blk_frozen HGz14 10
 clear HGz14 hgz14
 obtain ⟨Ao15, co15, eo15⟩ := Kd.R_slice HO0.out
 subst eo15
 have p137 : 0 ≤ ((ji3) : Int) := of_decide_eq_true AS
 have q137 : (ji3) < (l0.length : Int) := of_decide_eq_true AS
 obtain ⟨ad137, e137, hx137_0⟩ := Kd.at_int (Kd.R_reads' HO0.out).2.2 (ji3) p137 q137
 cases e137
 replace p137 := eq_true p137
 replace q137 := eq_true q137
 go_enter Try.func99, Try.ntmps99
 go_wp2
 repeat (go_quiet (fail); try go_wp2)
 first | go_end0 | ((try simp only [Exit.inBlock, Exit.then]); refine bodyPost_ret (results_none rfl _ _ _) rfl ?_)
 exact ⟨by first | rfl | (simp [errW_none, errW_some] <;> rfl) | (simp only [← hji3]; first | rfl | (simp [errW_none, errW_some] <;> rfl)) | (simp [*, errW_none, errW_some] <;> rfl), spec_l06Found.k0 HI1.out, by (with_reducible repeat (first | apply r1 | apply r2 | apply r3)); exact Kd.R_mono (Kd.R_far (p := ⟨g, 10, none⟩) (Kd.R_far (p := ⟨g, 9, none⟩) (IsS30.apart HI1.out HO0.out (by decide)) (fun _ hk => hk.2) (.bool true)) (fun _ hk => hk.2) (.int .i64 0)) (fun _ hk => hk.1), spec_l06Found.k1 HB.out, spec_l06Found.k2 HK.out⟩

end Go.Proofs.Ytfkhncoiifojnaa.Qrt
