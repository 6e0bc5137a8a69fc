-- Laid by myprint.py, a program of this session's own, over the kit's print. Not trusted: Lean checks it.
import Derived.Test.YtfkhncoiifojnaaQsox0
import Derived.Test.YtfkhncoiifojnaaQsox1
import Derived.Test.YtfkhncoiifojnaaQsox2
namespace Go.Proofs.Ytfkhncoiifojnaa.Qso
open Go.RowKit Go.Proofs.YtfkhncoiifojnaaW.PrintWords Go.Proofs.YtfkhncoiifojnaaW.PrintLast Go.Proofs.YtfkhncoiifojnaaW.PrintMore
attribute [local go_sem] Go.Proofs.Ytfkhncoiifojnaa.StrCmp.gtr_less Go.Proofs.Ytfkhncoiifojnaa.StrCmp.geq_less Go.Proofs.Ytfkhncoiifojnaa.StrCmp.leq_less max2_int min2_int max_two min_two max_three min_three max_four min_four   -- for this text's walks alone
set_option linter.unusedVariables false
set_option linter.unusedSimpArgs false

/-! ### slices_Delete_int_int: function 82 -/
section
open Go.Proofs.Ytfkhncoiifojnaa.Row
def enI (x : Int) : List Value := [.int .i64 x]
theorem enI_len (x : Int) : (enI x).length = 1 := rfl
theorem enI_M {w : World} {b : Nat} {o : Nat → Prop} {x : Int} {cs : List Value} (h : (Kd.int .i64).M w b o x cs) : cs = enI x := h
theorem enI_mk (w : World) (b : Nat) (o : Nat → Prop) (x : Int) : (Kd.int .i64).M w b o x (enI x) := rfl
/-- One cell behind the row is emptied. -/
theorem clear_one (w : World) (g o c : Nat) (L : List Value) (h : RowIs w g 3 L) (hl : o + 1 ≤ L.length) :
    ∃ zs : List Value, zs.length = 1 ∧ ∀ ty, (Builtin.clear_ #[38] ty #[.slice (some ⟨g, o, none⟩) 1 c]).run Try.prog w = .ok (.tuple #[]) (w.setCells g o zs) := by
  refine ⟨[.int .i64 0], rfl, fun ty => ?_⟩
  have hv : ∀ W, (zeroValue 3).run Try.prog W = .ok (.int .i64 0) W := fun W => by kernel_rfl
  have hst := run_storeCells_cells (P := Try.prog) g o (Builtin.zeroCells #[.int .i64 0] 1).toList 0 w (fun j hj => h.isSome (by simp [Builtin.zeroCells] at hj; omega)) (fun j _ => h.free _) (by
    intro v hv'
    simp only [Builtin.zeroCells, Array.toList_map, List.mem_map] at hv'
    obtain ⟨i, hi, rfl⟩ := hv'
    have : i = 0 := by simp at hi; omega
    subst this; rfl)
  simp only [Nat.add_zero] at hst
  have e : (Builtin.zeroCells #[.int .i64 0] 1).toList = [.int .i64 0] := by simp [Builtin.zeroCells]
  rw [e] at hst
  simp only [Builtin.clear_, run_underlying Try.underlying38, hv, Value.cells, hst]
  simp [run_underlying Try.underlying38, hv, hst, Value.cells]
  rw [e, hst]; rfl
def slices_Delete_int_int.f (l : List Int) (i j : Int) : Option (List Int) := if 0 ≤ i then if i < (l.length : Int) then if j = i + 1 then some (l.eraseIdx i.toNat) else none else none else none
set_option maxHeartbeats 8000000 in
set_option maxRecDepth 100000 in
theorem slices_Delete_int_int.calls (base : Nat) (ok : Nat → Prop) (v : Value) (l : List Int) (i j : Int) (r : List Int) (w : World) (hR : Kd.R (Kd.int .i64) 3 w base ok v l) (h : slices_Delete_int_int.f l i j = some r) :
    Calls Try.prog 82 #[v, .int .i64 i, .int .i64 j] w fun e w' => ∃ v', e = .returned v' ∧ Kd.R (Kd.int .i64) 3 w' base ok v' r ∧ w.grownBy w' v.ownBlock := by
  unfold slices_Delete_int_int.f at h
  by_cases h0 : 0 ≤ i; rotate_left
  · rw [if_neg h0] at h; cases h
  rw [if_pos h0] at h
  by_cases h1 : i < (l.length : Int); rotate_left
  · rw [if_neg h1] at h; cases h
  rw [if_pos h1] at h
  by_cases h2 : j = i + 1; rotate_left
  · rw [if_neg h2] at h; cases h
  rw [if_pos h2] at h
  obtain rfl := Option.some.inj h
  subst h2
  obtain ⟨n, rfl⟩ := Int.eq_ofNat_of_zero_le h0
  rcases R_rows (d := Kd.int .i64) (enc := enI) enI_len enI_M hR with ⟨_, rfl⟩ | ⟨g, cap, rest, ev, hbg, hokg, hcap, hmx, hrow, hrl⟩
  · simp at h1; omega
  cases ev
  have hu38 := Try.underlying38
  have hlt := hrow.lt
  unfold maxLen at hmx
  have hn : n < l.length := by omega
  have HR := Aside0.mk hR
  have HROW := Aside0.mk hrow
  clear h hR hrow hrl h0
  have e1 : ((n : Int) == (n : Int) + 1) = false := beq_eq_false_iff_ne.2 (by omega)
  have hnc : n ≤ cap := by omega
  have hn1 : n + 1 ≤ l.length := by omega
  have hz0 : (0 : Int) ≤ (n : Int) + 1 := by omega
  have hz1 : (n : Int) + 1 ≤ (l.length : Int) := by omega
  have hn2 : n + 1 ≤ cap := by omega
  have hn3 : l.length ≤ cap := by omega
  obtain ⟨A, hA⟩ : ∃ A : Option Addr, A = if cap = n + 1 then some ⟨g, 0, none⟩ else (some (⟨g, 0, none⟩ : Addr)).map (·.add ((n + 1) * 1)) := ⟨_, rfl⟩
  have hAx : (if cap = n + 1 then some (⟨g, 0, none⟩ : Addr) else some ⟨g, n + 1, none⟩) = A := by
    rw [hA]; split
    · rfl
    · simp [Addr.add]
  have HA := Aside0.mk hA
  have hbs : base ≤ w.heap.size := by omega
  clear hA
  go_enter Try.func82, Try.ntmps82
  go_wp2
  go_region_law (refine Kd.R_delete_step (Kd.int .i64) (w0 := w) base (by rfl) (.tmp 22) (.tmp 25) 38 3 rfl Try.underlying38 (by kernel_rfl) (g := g) (n := l.length) (c := cap) (k := n) rfl rfl HA.out rfl (Kd.R_drew HR.out) hn (below_drew (Below.refl _ _)) hbs ?_; intro w1 ho hb hg; have HO1 := Aside0.mk ho; have HG1 := Aside0.mk hg; clear ho hb hg)
  have hel : (l.eraseIdx n).length = l.length - 1 := List.length_eraseIdx_of_lt hn
  have hmR := HO1.out
  rw [← hel] at hmR
  rcases R_rows (d := Kd.int .i64) (enc := enI) enI_len enI_M hmR with ⟨ev, _⟩ | ⟨g', cap', rest', ev, hbg', hokg', hcap', hmx', hrow', hrl'⟩
  · cases ev
  cases ev
  have hfl := flat_length enI_len (l.eraseIdx n)
  have hszk : (Kd.int .i64).sz = 1 := rfl
  rw [hszk, Nat.mul_one, hel] at hrl'
  rw [hel, Nat.mul_one] at hfl
  obtain ⟨zs, hz, hcl⟩ := clear_one w1 g (l.length - 1) (cap - (l.length - 1)) _ hrow' (by rw [List.length_append, hfl, hrl']; omega)
  have hs := hrow'.set (l.length - 1) zs (by rw [List.length_append, hfl, hrl', hz]; omega)
  rw [List.take_left' hfl, ← List.drop_drop, List.drop_left' hfl, hz, List.append_assoc] at hs
  have HS := Aside0.mk hs
  have HEL := Aside0.mk hel
  have HRL := Aside0.mk hrl'
  have HZ := Aside0.mk hz
  have hq1 : (0 : Int) ≤ ((l.length - 1 : Nat) : Int) := by omega
  have hq2 : l.length - 1 ≤ l.length := by omega
  have hq3 : ¬ (cap = l.length - 1) := by omega
  have hq4 : l.length - (l.length - 1) = 1 := by omega
  have hq5 : ((l.length - 1 : Nat) : Int) ≤ (l.length : Int) := by omega
  have hq6 : (l.length : Int) ≤ (cap : Int) := by omega
  clear hs hmR hrow' hrl' hel hz hfl hszk
  go_wp2
  go_ret
  refine ⟨.slice (some ⟨g, 0, none⟩) (l.eraseIdx n).length cap, by rw [HEL.out]; rfl, ?_, grown_trans (grown_trans (grown_of_below (below_drew (Below.refl _ _)) _) HG1.out) (grown_set w1 g (l.length - 1) zs)⟩
  exact R_of_rows (d := Kd.int .i64) (rest := zs ++ rest'.drop 1) enI_len enI_mk hbg hokg hcap' hmx' HS.out (by
    rw [List.length_append, HZ.out, List.length_drop, HRL.out, HEL.out, show (Kd.int .i64).sz = 1 from rfl]; omega)
end

/-! ### impl_copyInts: function 83 -/
def impl_copyInts.f (l0 : List Int) : Option (List Int) := (some (([] : List Int) : List Int)).bind fun y219 => (if y219.length + l0.length < 17592186044416 then (some (y219 ++ l0)) else (none))
set_option maxHeartbeats 8000000 in
set_option maxRecDepth 100000 in
theorem impl_copyInts.calls (A0 : Option Addr) (c0 : Nat) (l0 : List Int) (r : List Int) (w : World) (hr0 : Kd.C (Kd.int .i64) w A0 l0.length l0) (hc0 : l0.length ≤ c0) (h : impl_copyInts.f l0 = some r) :
  Calls Try.prog 83 #[.slice A0 l0.length c0] w fun e w' => ∃ v0_ : Value, e = .returned (v0_) ∧ Kd.R (Kd.int .i64) 3 w' w.heap.size (fun _ => True) v0_ r ∧ Below w.heap.size w w' := by
 have HR0 := Aside0.mk hr0
 have HC0 := Aside0.mk hc0
 clear hr0 hc0
 have HB := Aside0.mk (Below.refl w.heap.size w)
 have H : ((some (([] : List Int) : List Int)).bind fun y219 => (if y219.length + l0.length < 17592186044416 then (some (y219 ++ l0)) else (none))) = some r := h
 clear h
 obtain ⟨y219, hy219⟩ : ∃ y_ : List Int, y_ = (([] : List Int)) := ⟨_, rfl⟩
 replace H : (if y219.length + l0.length < 17592186044416 then (some (y219 ++ l0)) else (none)) = some r := by first | (rw [hy219]; with_reducible exact H) | (have H2_ := (Option.bind_some _ _).symm.trans H; rw [hy219]; with_reducible exact H2_) | (have H2_ := (Option.bind_some _ _).symm.trans H; with_reducible exact H2_) | with_reducible exact H | (rw [hy219]; exact H) | exact H
 have Ny219 := Aside0.mk hy219
 clear hy219
 by_cases c2 : y219.length + l0.length < 17592186044416; rotate_left
 ·
  rw [if_neg c2] at H; exact absurd H (by simp)
 rw [if_pos c2] at H
 have LMc2 := Aside0.mk c2
 clear c2
 obtain ⟨y222, hy222⟩ : ∃ y_ : List Int, y_ = (y219 ++ l0) := ⟨_, rfl⟩
 replace H : (some y222) = some r := by first | (rw [hy222]; with_reducible exact H) | (have H2_ := (Option.bind_some _ _).symm.trans H; rw [hy222]; with_reducible exact H2_) | (have H2_ := (Option.bind_some _ _).symm.trans H; with_reducible exact H2_) | with_reducible exact H | (rw [hy222]; exact H) | exact H
 have Ny222 := Aside0.mk hy222
 clear hy222
 obtain rfl := Option.some.inj H
 go_enter Try.func83, Try.ntmps83
 go_wp2_with (first | ((with_reducible refine gate_dst (N := 3) rfl ?_); refine Kd.R_lit (Kd.int .i64) _ 3 ?hg (N := 3) ?hd (xs := ([] : List Int)) (inner := []) (ok := fun _ => True) (okp := fun _ => True) ?hr ?hp (fun _ hk => hk) trivial (Below.refl _ _) (Nat.le_refl _) (by simp) ?_; (case hd => rfl); (case hg => rfl); (case hr => first | (go_simp; done) | (go_simp; rfl)); (case hp => exact (Reps.none _ _)); intro v220 w3 ho4 hb hg_ hnew_; clear hg_ hnew_; (first | rw [← Ny219.out] at ho4 | (simp only [Int.reduceToNat] at ho4; rw [← Ny219.out] at ho4)); have HO221 := Aside0.mk (Kd.R_lower ho4 (below_size (BL))); replace HB := Aside0.mk (below_step (BL) hb); clear hb ho4) | ((with_reducible refine gate_builtin (b := .append) (xs := #[.tmp 3, .tmp 4]) rfl ?_); at_builtin; refine Kd.R_append_rows (Kd.int .i64) (w0 := w) w.heap.size rfl (.tmp 3) (.tmp 4) 38 3 (.int .i64 0) 8 rfl Try.underlying38 info3 rfl (by decide) (by omega) v220 y219 l0 _ _ _ (fun _ => True) (fun _ => False) rfl rfl ?aO ?aR (fun _ _ h => h) (fun _ h => h.elim) ?aF ?aB ?aS ?aL ?_; (case aR => exact CB HR0.out); (case aB => exact (BL)); (case aF => exact (fun _ _ => trivial)); (case aO => exact RQ HO221.out); (case aS => exact (below_size (BL))); (case aL => have := LMc2.out; omega); intro v223 w5 ho hb hg hat; rw [← Ny222.out] at ho; have n0_ := Aside0.mk (hb); have n1_ := Aside0.mk (ho); clear HB; clear HO221; have HB := n0_; have HO224 := n1_; clear n0_ n1_; clear ho hb hg hat))
 go_ret
 exact ⟨_, EE, RQ HO224.out, BL⟩

/-! ### impl_ordered: function 63 -/
mutual
def impl_ordered.l0 : Nat → List (S67) → List Int → List (S71) → List Int → Int → Int → Option (Bool)
 | 0, _, _, _, _, _, _ => none
 | k + 1, x0, x1, x2, x12, x13, x14 => if x14 < x13 then (if 0 ≤ x14 then (if x14 < (x12.length : Int) then ((impl_mayBeNext.f k x0 x1 (rd x12 x14)).bind fun t226 => (if t226 = true then (if 0 ≤ (rd x12 x14) then (if (rd x12 x14) < (x0.length : Int) then ((impl_DoTask.f k x2 ((rd_T67 x0 (rd x12 x14)).f0.f0) ((rd_T67 x0 (rd x12 x14)).f0.f1) ((rd_T67 x0 (rd x12 x14)).f0.f2) ((rd_T67 x0 (rd x12 x14)).f0.f3) ((rd_T67 x0 (rd x12 x14)).f0.f4) ((rd_T67 x0 (rd x12 x14)).f0.f5) ((rd_T67 x0 (rd x12 x14)).f0.f6) ((rd_T67 x0 (rd x12 x14)).f0.f7) ((rd_T67 x0 (rd x12 x14)).f0.f8) ((rd_T67 x0 (rd x12 x14)).f0.f9) ((rd_T67 x0 (rd x12 x14)).f0.f10)).bind fun bt228 => ((impl_copyInts.f x1).bind fun t232 => ((slices_Delete_int_int.f t232 x14 (wrap64 (x14 + 1))).bind fun t235 => (if bt228.2 = ((rd_T67 x0 (rd x12 x14)).f0.f10) then ((impl_ordered.f k x0 t235 bt228.1).bind fun t239 => (if t239 = true then (some true) else (impl_ordered.l0 k x0 x1 x2 x12 x13 (wrap64 (x14 + 1))))) else (impl_ordered.l0 k x0 x1 x2 x12 x13 (wrap64 (x14 + 1))))))) else (none)) else (none)) else (impl_ordered.l0 k x0 x1 x2 x12 x13 (wrap64 (x14 + 1))))) else (none)) else (none)) else (some ((x1.length : Int) == 0))
def impl_ordered.f : Nat → List (S67) → List Int → List (S71) → Option (Bool)
 | 0, _, _, _ => none
 | k + 1, l0, l1, l2 => impl_ordered.l0 k l0 l1 l2 l1 (l1.length : Int) 0
end
theorem impl_ordered.mono_l : ∀ k, (∀ y0 y1 y2, LeO (impl_ordered.f k y0 y1 y2) (impl_ordered.f (k + 1) y0 y1 y2)) ∧ (∀ y0 y1 y2 y3 y4 y5, LeO (impl_ordered.l0 k y0 y1 y2 y3 y4 y5) (impl_ordered.l0 (k + 1) y0 y1 y2 y3 y4 y5))
 | 0 => ⟨fun _ _ _ r h => by simp [impl_ordered.f] at h, fun _ _ _ _ _ _ r h => by simp [impl_ordered.l0] at h⟩
 | k + 1 => by
  obtain ⟨ih0, ih1⟩ := impl_ordered.mono_l k; refine ⟨?_, ?_⟩
  ·
   intro y0 y1 y2
   unfold impl_ordered.f
   repeat' first
   | (with_reducible exact ih0 _ _ _)
   | (with_reducible exact ih1 _ _ _ _ _ _)
   | (with_reducible exact impl_DoTask.mono _ _ _ _ _ _ _ _ _ _ _ _ _)
   | (with_reducible exact impl_mayBeNext.mono _ _ _ _)
   | (with_reducible exact LeO.refl _)
   | (with_reducible exact LeO.none _)
   | (with_reducible refine LeO.ite ?_ ?_)
   | (with_reducible refine LeO.bind ?_ (fun _ => ?_))
   | exact ih0 _ _ _
   | exact ih1 _ _ _ _ _ _
   | exact impl_DoTask.mono _ _ _ _ _ _ _ _ _ _ _ _ _
   | exact impl_mayBeNext.mono _ _ _ _
   | exact LeO.none _
   | refine LeO.ite ?_ ?_
   | refine LeO.bind ?_ (fun _ => ?_)
  ·
   intro y0 y1 y2 y3 y4 y5
   unfold impl_ordered.l0
   repeat' first
   | (with_reducible exact ih0 _ _ _)
   | (with_reducible exact ih1 _ _ _ _ _ _)
   | (with_reducible exact impl_DoTask.mono _ _ _ _ _ _ _ _ _ _ _ _ _)
   | (with_reducible exact impl_mayBeNext.mono _ _ _ _)
   | (with_reducible exact LeO.refl _)
   | (with_reducible exact LeO.none _)
   | (with_reducible refine LeO.ite ?_ ?_)
   | (with_reducible refine LeO.bind ?_ (fun _ => ?_))
   | exact ih0 _ _ _
   | exact ih1 _ _ _ _ _ _
   | exact impl_DoTask.mono _ _ _ _ _ _ _ _ _ _ _ _ _
   | exact impl_mayBeNext.mono _ _ _ _
   | exact LeO.none _
   | refine LeO.ite ?_ ?_
   | refine LeO.bind ?_ (fun _ => ?_)
theorem impl_ordered.mono : ∀ a0 a1 a2 k, LeO (impl_ordered.f k a0 a1 a2) (impl_ordered.f (k + 1) a0 a1 a2) := by
 intro a0 a1 a2 k
 obtain ⟨ih0, ih1⟩ := impl_ordered.mono_l k
 exact ih0 a0 a1 a2
set_option maxHeartbeats 8000000 in
set_option maxRecDepth 100000 in
theorem impl_ordered.calls (k : Nat) : ∀ (A0 : Option Addr) (c0 : Nat) (l0 : List (S67)) (A1 : Option Addr) (c1 : Nat) (l1 : List Int) (A2 : Option Addr) (c2 : Nat) (l2 : List (S71)) (r : Bool) (w : World) (hr0 : Kd.C k67 w A0 l0.length l0) (hc0 : l0.length ≤ c0) (hr1 : Kd.C (Kd.int .i64) w A1 l1.length l1) (hc1 : l1.length ≤ c1) (hr2 : Kd.C k71 w A2 l2.length l2) (hc2 : l2.length ≤ c2) (h : impl_ordered.f k l0 l1 l2 = some r),
  Calls Try.prog 63 #[.slice A0 l0.length c0, .slice A1 l1.length c1, .slice A2 l2.length c2] w fun e w' => e = .returned (.bool r) ∧ Below w.heap.size w w' := by
 induction k using Nat.strongRecOn with
 | _ k ih =>
 intro A0 c0 l0 A1 c1 l1 A2 c2 l2 r w hr0 hc0 hr1 hc1 hr2 hc2 h
 cases k with
 | zero => exact absurd h (by simp [impl_ordered.f])
 | succ k =>
 simp only [impl_ordered.f] at h
 have hu30 := Try.underlying30
 have HR0 := Aside0.mk hr0
 have HC0 := Aside0.mk hc0
 clear hr0 hc0
 have HR1 := Aside0.mk hr1
 have HC1 := Aside0.mk hc1
 clear hr1 hc1
 have HR2 := Aside0.mk hr2
 have HC2 := Aside0.mk hc2
 clear hr2 hc2
 have HB := Aside0.mk (Below.refl w.heap.size w)
 have H : (impl_ordered.l0 k l0 l1 l2 l1 (l1.length : Int) 0) = some r := h
 clear h
 have H' := Aside0.mk H
 clear H
 go_enter Try.func63, Try.ntmps63
 go_wp2
 go_loopg [14] k (fun kq v14 w' => ∃ (x14_1 : Int), v14 = .int .i64 x14_1 ∧ Aside0 (impl_ordered.l0 kq l0 l1 l2 l1 (l1.length : Int) x14_1 = some r) ∧ Aside0 (kq ≤ k) ∧ Aside0 (Below w.heap.size w w'))
 case atStart => exact ⟨(0), SD, H', ⟨Nat.le_refl _⟩, ⟨BL⟩⟩
 case round =>
  clear H'
  try clear c1 c2 p2
  obtain ⟨x14_1, rfl, HA, HK1, HB⟩ := hrel; cases gk with
  | zero => exact absurd HA.out (by simp [impl_ordered.l0])
  | succ k1 =>
   have H := HA.out; clear HA; simp only [impl_ordered.l0] at H
   by_cases c4 : x14_1 < (l1.length : Int); rotate_left
   ·
    rw [if_neg c4] at H; have c4b0 : decide (x14_1 < (l1.length : Int)) = false := decide_eq_false c4; clear c4; obtain rfl := Option.some.inj H
    go_wp2
    go_ret
    exact ⟨EE, BL⟩
   rw [if_pos c4] at H; have c4b0 : decide (x14_1 < (l1.length : Int)) = true := decide_eq_true c4; clear c4
   by_cases c5 : 0 ≤ x14_1; rotate_left
   ·
    rw [if_neg c5] at H; exact absurd H (by simp)
   rw [if_pos c5] at H; have c5b0 : decide (0 ≤ x14_1) = true := decide_eq_true c5; clear c5
   by_cases c6 : x14_1 < (l1.length : Int); rotate_left
   ·
    rw [if_neg c6] at H; exact absurd H (by simp)
   rw [if_pos c6] at H; have c6b0 : decide (x14_1 < (l1.length : Int)) = true := decide_eq_true c6; clear c6; replace H := Option.bind_eq_some_iff.mp H; obtain ⟨t226, A70, H⟩ := H; have A7 := Aside0.mk A70; clear A70
   by_cases c8 : t226 = true; rotate_left
   ·
    replace c8 := Bool.eq_false_iff.mpr c8; subst c8
    have H1 : (impl_ordered.l0 k1 l0 l1 l2 l1 (l1.length : Int) (wrap64 (x14_1 + 1))) = some r := by rw [if_neg (show ¬ (false = true) by decide)] at H; exact H
    clear H; have H := H1; clear H1; have H' := Aside0.mk H; clear H; have p225 : 0 ≤ (x14_1 : Int) := of_decide_eq_true AS; have q225 : x14_1 < (l1.length : Int) := of_decide_eq_true AS; obtain ⟨ad225, e225, hx225_0⟩ := Kd.at_int HR1.out x14_1 p225 q225; cases e225; replace hx225_0 := (HB.out.cell (World.block_lt_of_cell? w _ hx225_0)).trans hx225_0; replace p225 := eq_true p225; replace q225 := eq_true q225
    go_wp2_with (first | ((with_reducible refine gate_callee (f := 81) rfl ?_); refine goesL_ (some 22) rfl rfl Try.func81 (by kernel_rfl) rfl #[.slice A0 l0.length c0, .slice (some ad225) l1.length c1, .int .i64 (rd l1 x14_1)] rfl (MA) ?_; (with_reducible refine (impl_mayBeNext.calls k1 _ _ l0 _ _ l1 (rd l1 x14_1) false _ ?side1 ?side2 ?side3 ?side4 A7.out).mono ?_); (case side1 => exact CB HR0.out); (case side2 => exact HC0.out); (case side3 => exact CB HR1.out); (case side4 => exact HC1.out); rintro e w' ⟨rfl, ⟨nd, rfl⟩⟩; refine ⟨_, rfl, ?_⟩))
    go_roundg k1
    case measure => have := HK1.out; omega
    case rel => exact ⟨(wrap64 (x14_1 + 1)), SD, H', ⟨by have := HK1.out; omega⟩, ⟨BL⟩⟩
   subst c8
   have H1 : (if 0 ≤ (rd l1 x14_1) then (if (rd l1 x14_1) < (l0.length : Int) then ((impl_DoTask.f k1 l2 ((rd_T67 l0 (rd l1 x14_1)).f0.f0) ((rd_T67 l0 (rd l1 x14_1)).f0.f1) ((rd_T67 l0 (rd l1 x14_1)).f0.f2) ((rd_T67 l0 (rd l1 x14_1)).f0.f3) ((rd_T67 l0 (rd l1 x14_1)).f0.f4) ((rd_T67 l0 (rd l1 x14_1)).f0.f5) ((rd_T67 l0 (rd l1 x14_1)).f0.f6) ((rd_T67 l0 (rd l1 x14_1)).f0.f7) ((rd_T67 l0 (rd l1 x14_1)).f0.f8) ((rd_T67 l0 (rd l1 x14_1)).f0.f9) ((rd_T67 l0 (rd l1 x14_1)).f0.f10)).bind fun bt228 => ((impl_copyInts.f l1).bind fun t232 => ((slices_Delete_int_int.f t232 x14_1 (wrap64 (x14_1 + 1))).bind fun t235 => (if bt228.2 = ((rd_T67 l0 (rd l1 x14_1)).f0.f10) then ((impl_ordered.f k1 l0 t235 bt228.1).bind fun t239 => (if t239 = true then (some true) else (impl_ordered.l0 k1 l0 l1 l2 l1 (l1.length : Int) (wrap64 (x14_1 + 1))))) else (impl_ordered.l0 k1 l0 l1 l2 l1 (l1.length : Int) (wrap64 (x14_1 + 1))))))) else (none)) else (none)) = some r := by rw [if_pos rfl] at H; exact H
   clear H; have H := H1; clear H1
   by_cases c9 : 0 ≤ (rd l1 x14_1); rotate_left
   ·
    rw [if_neg c9] at H; exact absurd H (by simp)
   rw [if_pos c9] at H; have c9b0 : decide (0 ≤ (rd l1 x14_1)) = true := decide_eq_true c9; clear c9
   by_cases c10 : (rd l1 x14_1) < (l0.length : Int); rotate_left
   ·
    rw [if_neg c10] at H; exact absurd H (by simp)
   rw [if_pos c10] at H; have c10b0 : decide ((rd l1 x14_1) < (l0.length : Int)) = true := decide_eq_true c10; clear c10; replace H := Option.bind_eq_some_iff.mp H; obtain ⟨⟨t228, t231⟩, A110, H⟩ := H; replace H : ((impl_copyInts.f l1).bind fun t232 => ((slices_Delete_int_int.f t232 x14_1 (wrap64 (x14_1 + 1))).bind fun t235 => (if t231 = ((rd_T67 l0 (rd l1 x14_1)).f0.f10) then ((impl_ordered.f k1 l0 t235 t228).bind fun t239 => (if t239 = true then (some true) else (impl_ordered.l0 k1 l0 l1 l2 l1 (l1.length : Int) (wrap64 (x14_1 + 1))))) else (impl_ordered.l0 k1 l0 l1 l2 l1 (l1.length : Int) (wrap64 (x14_1 + 1)))))) = some r := H; have A11 := Aside0.mk A110; clear A110; replace H := Option.bind_eq_some_iff.mp H; obtain ⟨t232, A120, H⟩ := H; have A12 := Aside0.mk A120; clear A120; replace H := Option.bind_eq_some_iff.mp H; obtain ⟨t235, A130, H⟩ := H; have A13 := Aside0.mk A130; clear A130
   by_cases c14 : t231 = ((rd_T67 l0 (rd l1 x14_1)).f0.f10); rotate_left
   ·
    rw [if_neg c14] at H; have c14b0 : (t231 == ((rd_T67 l0 (rd l1 x14_1)).f0.f10)) = false := beq_eq_false_iff_ne.mpr c14; have c14b1 : (t231 != ((rd_T67 l0 (rd l1 x14_1)).f0.f10)) = true := bne_iff_ne.mpr c14; have H' := Aside0.mk H; clear H; have p225 : 0 ≤ (x14_1 : Int) := of_decide_eq_true AS; have q225 : x14_1 < (l1.length : Int) := of_decide_eq_true AS; obtain ⟨ad225, e225, hx225_0⟩ := Kd.at_int HR1.out x14_1 p225 q225; cases e225; replace hx225_0 := (HB.out.cell (World.block_lt_of_cell? w _ hx225_0)).trans hx225_0; replace p225 := eq_true p225; replace q225 := eq_true q225
    go_wp2_with (first | ((with_reducible refine gate_callee (f := 81) rfl ?_); refine goesL_ (some 22) rfl rfl Try.func81 (by kernel_rfl) rfl #[.slice A0 l0.length c0, .slice (some ad225) l1.length c1, .int .i64 (rd l1 x14_1)] rfl (MA) ?_; (with_reducible refine (impl_mayBeNext.calls k1 _ _ l0 _ _ l1 (rd l1 x14_1) true _ ?side1 ?side2 ?side3 ?side4 A7.out).mono ?_); (case side1 => exact CB HR0.out); (case side2 => exact HC0.out); (case side3 => exact CB HR1.out); (case side4 => exact HC1.out); rintro e w' ⟨rfl, ⟨nd, rfl⟩⟩; refine ⟨_, rfl, ?_⟩; have p227 : 0 ≤ ((rd l1 x14_1) : Int) := of_decide_eq_true AS; have q227 : (rd l1 x14_1) < (l0.length : Int) := of_decide_eq_true AS; obtain ⟨ad227, e227, hx227_0, hx227_1, hx227_2, hx227_3, hx227_4, hx227_5, hx227_6, hx227_7, hx227_8, hx227_9, hx227_10, hx227_11, hx227_12⟩ := at_T67 HR0.out (rd l1 x14_1) p227 q227; cases e227; replace hx227_0 := (HB.out.cell (World.block_lt_of_cell? w _ hx227_0)).trans hx227_0; replace hx227_1 := (HB.out.cell (World.block_lt_of_cell? w _ hx227_1)).trans hx227_1; replace hx227_2 := (HB.out.cell (World.block_lt_of_cell? w _ hx227_2)).trans hx227_2; replace hx227_3 := (HB.out.cell (World.block_lt_of_cell? w _ hx227_3)).trans hx227_3; replace hx227_4 := (HB.out.cell (World.block_lt_of_cell? w _ hx227_4)).trans hx227_4; replace hx227_5 := (HB.out.cell (World.block_lt_of_cell? w _ hx227_5)).trans hx227_5; replace hx227_6 := (HB.out.cell (World.block_lt_of_cell? w _ hx227_6)).trans hx227_6; replace hx227_7 := (HB.out.cell (World.block_lt_of_cell? w _ hx227_7)).trans hx227_7; replace hx227_8 := (HB.out.cell (World.block_lt_of_cell? w _ hx227_8)).trans hx227_8; replace hx227_9 := (HB.out.cell (World.block_lt_of_cell? w _ hx227_9)).trans hx227_9; replace hx227_10 := (HB.out.cell (World.block_lt_of_cell? w _ hx227_10)).trans hx227_10; replace hx227_11 := (HB.out.cell (World.block_lt_of_cell? w _ hx227_11)).trans hx227_11; replace hx227_12 := (HB.out.cell (World.block_lt_of_cell? w _ hx227_12)).trans hx227_12; replace p227 := eq_true p227; replace q227 := eq_true q227) | ((with_reducible refine gate_callee (f := 14) rfl ?_); refine goesL_ (some 31) rfl rfl Try.func14 (by kernel_rfl) rfl #[.slice A2 l2.length c2, .agg #[.int .i64 ((rd_T67 l0 (rd l1 x14_1)).f0.f0), .int .i64 ((rd_T67 l0 (rd l1 x14_1)).f0.f1), .int .i64 ((rd_T67 l0 (rd l1 x14_1)).f0.f2), .int .i64 ((rd_T67 l0 (rd l1 x14_1)).f0.f3), .int .i64 ((rd_T67 l0 (rd l1 x14_1)).f0.f4), .int .i64 ((rd_T67 l0 (rd l1 x14_1)).f0.f5), .int .i64 ((rd_T67 l0 (rd l1 x14_1)).f0.f6), .int .i64 ((rd_T67 l0 (rd l1 x14_1)).f0.f7), .int .i64 ((rd_T67 l0 (rd l1 x14_1)).f0.f8), .bool ((rd_T67 l0 (rd l1 x14_1)).f0.f9), .int .i64 ((rd_T67 l0 (rd l1 x14_1)).f0.f10)]] rfl (MA) ?_; (with_reducible refine (impl_DoTask.calls k1 _ _ l2 ((rd_T67 l0 (rd l1 x14_1)).f0.f0) ((rd_T67 l0 (rd l1 x14_1)).f0.f1) ((rd_T67 l0 (rd l1 x14_1)).f0.f2) ((rd_T67 l0 (rd l1 x14_1)).f0.f3) ((rd_T67 l0 (rd l1 x14_1)).f0.f4) ((rd_T67 l0 (rd l1 x14_1)).f0.f5) ((rd_T67 l0 (rd l1 x14_1)).f0.f6) ((rd_T67 l0 (rd l1 x14_1)).f0.f7) ((rd_T67 l0 (rd l1 x14_1)).f0.f8) ((rd_T67 l0 (rd l1 x14_1)).f0.f9) ((rd_T67 l0 (rd l1 x14_1)).f0.f10) t228 t231 _ ?side1 ?side2 A11.out).mono ?_); (case side1 => repeat (first | exact (Kd.C_below HR2.out (BL)) | (with_reducible refine Kd.C_alloc ?_ _) | (with_reducible refine Kd.C_drewN ?_ _) | (with_reducible refine Kd.C_drew ?_))); (case side2 => exact HC2.out); rintro e w31 ⟨v229, rfl, ho0, hb⟩; refine ⟨_, rfl, ?_⟩; have HO230 := Aside0.mk (Kd.R_lower ho0 (below_size (BL))); replace HB := Aside0.mk (below_step (BL) hb); (try clear hb); (try clear hb2); (try clear hk); (try clear hi); (try clear ho0)) | ((with_reducible refine gate_callee (f := 83) rfl ?_); refine goesL_ (some 35) rfl rfl Try.func83 (by kernel_rfl) rfl #[.slice (some ad225) l1.length c1] rfl (MA) ?_; (with_reducible refine (impl_copyInts.calls _ _ l1 t232 _ ?side1 ?side2 A12.out).mono ?_); (case side1 => exact CB HR1.out); (case side2 => exact HC1.out); rintro e w32 ⟨v233, rfl, ho0, hb⟩; refine ⟨_, rfl, ?_⟩; have HO234 := Aside0.mk (Kd.R_lower ho0 (below_size (BL))); replace HO230 := Aside0.mk (Kd.R_below (RQ HO230.out) hb); replace HB := Aside0.mk (below_step (BL) hb); (try clear hb); (try clear hb2); (try clear hk); (try clear hi); (try clear ho0); obtain ⟨Ao33, co33, eo33⟩ := Kd.R_slice HO234.out; subst eo33) | ((with_reducible refine gate_callee (f := 82) rfl ?_); refine goesL_ (some 39) rfl rfl Try.func82 (by kernel_rfl) rfl #[.slice Ao33 t232.length co33, .int .i64 x14_1, .int .i64 (wrap64 (x14_1 + 1))] rfl (MA) ?_; (with_reducible refine (slices_Delete_int_int.calls w.heap.size (fun _ => True) (.slice Ao33 t232.length co33) t232 x14_1 (wrap64 (x14_1 + 1)) t235 _ ?side1 A13.out).mono ?_); (case side1 => exact RQ HO234.out); rintro e w34 ⟨v236, rfl, ho0, hg⟩; refine ⟨_, rfl, ?_⟩; have HO237 := Aside0.mk ho0; replace HO230 := Aside0.mk (Kd.R_over (RQ HO230.out) (RQ HO234.out) (by decide) hg); replace HB := Aside0.mk (HB.out.grown hg HB.out.size (fun k hk => Kd.R_base HO234.out k hk)); clear HO234; (try clear hg); (try clear hb); (try clear hb2); (try clear hk); (try clear hi); (try clear ho0); have p238 : 0 ≤ ((rd l1 x14_1) : Int) := of_decide_eq_true AS; have q238 : (rd l1 x14_1) < (l0.length : Int) := of_decide_eq_true AS; obtain ⟨ad238, e238, hx238_0, hx238_1, hx238_2, hx238_3, hx238_4, hx238_5, hx238_6, hx238_7, hx238_8, hx238_9, hx238_10, hx238_11, hx238_12⟩ := at_T67 HR0.out (rd l1 x14_1) p238 q238; obtain rfl : ad227 = ad238 := (by injection e238); replace hx238_0 := (HB.out.cell (World.block_lt_of_cell? w _ hx238_0)).trans hx238_0; replace hx238_1 := (HB.out.cell (World.block_lt_of_cell? w _ hx238_1)).trans hx238_1; replace hx238_2 := (HB.out.cell (World.block_lt_of_cell? w _ hx238_2)).trans hx238_2; replace hx238_3 := (HB.out.cell (World.block_lt_of_cell? w _ hx238_3)).trans hx238_3; replace hx238_4 := (HB.out.cell (World.block_lt_of_cell? w _ hx238_4)).trans hx238_4; replace hx238_5 := (HB.out.cell (World.block_lt_of_cell? w _ hx238_5)).trans hx238_5; replace hx238_6 := (HB.out.cell (World.block_lt_of_cell? w _ hx238_6)).trans hx238_6; replace hx238_7 := (HB.out.cell (World.block_lt_of_cell? w _ hx238_7)).trans hx238_7; replace hx238_8 := (HB.out.cell (World.block_lt_of_cell? w _ hx238_8)).trans hx238_8; replace hx238_9 := (HB.out.cell (World.block_lt_of_cell? w _ hx238_9)).trans hx238_9; replace hx238_10 := (HB.out.cell (World.block_lt_of_cell? w _ hx238_10)).trans hx238_10; replace hx238_11 := (HB.out.cell (World.block_lt_of_cell? w _ hx238_11)).trans hx238_11; replace hx238_12 := (HB.out.cell (World.block_lt_of_cell? w _ hx238_12)).trans hx238_12; replace p238 := eq_true p238; replace q238 := eq_true q238))
    go_roundg k1
    case measure => have := HK1.out; omega
    case rel => exact ⟨(wrap64 (x14_1 + 1)), SD, H', ⟨by have := HK1.out; omega⟩, ⟨BL⟩⟩
   rw [if_pos c14] at H; have c14b0 : (t231 == ((rd_T67 l0 (rd l1 x14_1)).f0.f10)) = true := beq_iff_eq.mpr c14; have c14b1 : (t231 != ((rd_T67 l0 (rd l1 x14_1)).f0.f10)) = false := bne_eq_false_iff_eq.mpr c14; clear c14; replace H := Option.bind_eq_some_iff.mp H; obtain ⟨t239, A150, H⟩ := H; have A15 := Aside0.mk A150; clear A150
   by_cases c16 : t239 = true
   ·
    subst c16
    have H1 : (some true) = some r := by rw [if_pos rfl] at H; exact H
    clear H; have H := H1; clear H1; obtain rfl := Option.some.inj H; have p225 : 0 ≤ (x14_1 : Int) := of_decide_eq_true AS; have q225 : x14_1 < (l1.length : Int) := of_decide_eq_true AS; obtain ⟨ad225, e225, hx225_0⟩ := Kd.at_int HR1.out x14_1 p225 q225; cases e225; replace hx225_0 := (HB.out.cell (World.block_lt_of_cell? w _ hx225_0)).trans hx225_0; replace p225 := eq_true p225; replace q225 := eq_true q225
    go_wp2_with (first | ((with_reducible refine gate_callee (f := 81) rfl ?_); refine goesL_ (some 22) rfl rfl Try.func81 (by kernel_rfl) rfl #[.slice A0 l0.length c0, .slice (some ad225) l1.length c1, .int .i64 (rd l1 x14_1)] rfl (MA) ?_; (with_reducible refine (impl_mayBeNext.calls k1 _ _ l0 _ _ l1 (rd l1 x14_1) true _ ?side1 ?side2 ?side3 ?side4 A7.out).mono ?_); (case side1 => exact CB HR0.out); (case side2 => exact HC0.out); (case side3 => exact CB HR1.out); (case side4 => exact HC1.out); rintro e w' ⟨rfl, ⟨nd, rfl⟩⟩; refine ⟨_, rfl, ?_⟩; have p227 : 0 ≤ ((rd l1 x14_1) : Int) := of_decide_eq_true AS; have q227 : (rd l1 x14_1) < (l0.length : Int) := of_decide_eq_true AS; obtain ⟨ad227, e227, hx227_0, hx227_1, hx227_2, hx227_3, hx227_4, hx227_5, hx227_6, hx227_7, hx227_8, hx227_9, hx227_10, hx227_11, hx227_12⟩ := at_T67 HR0.out (rd l1 x14_1) p227 q227; cases e227; replace hx227_0 := (HB.out.cell (World.block_lt_of_cell? w _ hx227_0)).trans hx227_0; replace hx227_1 := (HB.out.cell (World.block_lt_of_cell? w _ hx227_1)).trans hx227_1; replace hx227_2 := (HB.out.cell (World.block_lt_of_cell? w _ hx227_2)).trans hx227_2; replace hx227_3 := (HB.out.cell (World.block_lt_of_cell? w _ hx227_3)).trans hx227_3; replace hx227_4 := (HB.out.cell (World.block_lt_of_cell? w _ hx227_4)).trans hx227_4; replace hx227_5 := (HB.out.cell (World.block_lt_of_cell? w _ hx227_5)).trans hx227_5; replace hx227_6 := (HB.out.cell (World.block_lt_of_cell? w _ hx227_6)).trans hx227_6; replace hx227_7 := (HB.out.cell (World.block_lt_of_cell? w _ hx227_7)).trans hx227_7; replace hx227_8 := (HB.out.cell (World.block_lt_of_cell? w _ hx227_8)).trans hx227_8; replace hx227_9 := (HB.out.cell (World.block_lt_of_cell? w _ hx227_9)).trans hx227_9; replace hx227_10 := (HB.out.cell (World.block_lt_of_cell? w _ hx227_10)).trans hx227_10; replace hx227_11 := (HB.out.cell (World.block_lt_of_cell? w _ hx227_11)).trans hx227_11; replace hx227_12 := (HB.out.cell (World.block_lt_of_cell? w _ hx227_12)).trans hx227_12; replace p227 := eq_true p227; replace q227 := eq_true q227) | ((with_reducible refine gate_callee (f := 14) rfl ?_); refine goesL_ (some 31) rfl rfl Try.func14 (by kernel_rfl) rfl #[.slice A2 l2.length c2, .agg #[.int .i64 ((rd_T67 l0 (rd l1 x14_1)).f0.f0), .int .i64 ((rd_T67 l0 (rd l1 x14_1)).f0.f1), .int .i64 ((rd_T67 l0 (rd l1 x14_1)).f0.f2), .int .i64 ((rd_T67 l0 (rd l1 x14_1)).f0.f3), .int .i64 ((rd_T67 l0 (rd l1 x14_1)).f0.f4), .int .i64 ((rd_T67 l0 (rd l1 x14_1)).f0.f5), .int .i64 ((rd_T67 l0 (rd l1 x14_1)).f0.f6), .int .i64 ((rd_T67 l0 (rd l1 x14_1)).f0.f7), .int .i64 ((rd_T67 l0 (rd l1 x14_1)).f0.f8), .bool ((rd_T67 l0 (rd l1 x14_1)).f0.f9), .int .i64 ((rd_T67 l0 (rd l1 x14_1)).f0.f10)]] rfl (MA) ?_; (with_reducible refine (impl_DoTask.calls k1 _ _ l2 ((rd_T67 l0 (rd l1 x14_1)).f0.f0) ((rd_T67 l0 (rd l1 x14_1)).f0.f1) ((rd_T67 l0 (rd l1 x14_1)).f0.f2) ((rd_T67 l0 (rd l1 x14_1)).f0.f3) ((rd_T67 l0 (rd l1 x14_1)).f0.f4) ((rd_T67 l0 (rd l1 x14_1)).f0.f5) ((rd_T67 l0 (rd l1 x14_1)).f0.f6) ((rd_T67 l0 (rd l1 x14_1)).f0.f7) ((rd_T67 l0 (rd l1 x14_1)).f0.f8) ((rd_T67 l0 (rd l1 x14_1)).f0.f9) ((rd_T67 l0 (rd l1 x14_1)).f0.f10) t228 t231 _ ?side1 ?side2 A11.out).mono ?_); (case side1 => repeat (first | exact (Kd.C_below HR2.out (BL)) | (with_reducible refine Kd.C_alloc ?_ _) | (with_reducible refine Kd.C_drewN ?_ _) | (with_reducible refine Kd.C_drew ?_))); (case side2 => exact HC2.out); rintro e w17 ⟨v229, rfl, ho0, hb⟩; refine ⟨_, rfl, ?_⟩; have HO230 := Aside0.mk (Kd.R_lower ho0 (below_size (BL))); replace HB := Aside0.mk (below_step (BL) hb); (try clear hb); (try clear hb2); (try clear hk); (try clear hi); (try clear ho0)) | ((with_reducible refine gate_callee (f := 83) rfl ?_); refine goesL_ (some 35) rfl rfl Try.func83 (by kernel_rfl) rfl #[.slice (some ad225) l1.length c1] rfl (MA) ?_; (with_reducible refine (impl_copyInts.calls _ _ l1 t232 _ ?side1 ?side2 A12.out).mono ?_); (case side1 => exact CB HR1.out); (case side2 => exact HC1.out); rintro e w18 ⟨v233, rfl, ho0, hb⟩; refine ⟨_, rfl, ?_⟩; have HO234 := Aside0.mk (Kd.R_lower ho0 (below_size (BL))); replace HO230 := Aside0.mk (Kd.R_below (RQ HO230.out) hb); replace HB := Aside0.mk (below_step (BL) hb); (try clear hb); (try clear hb2); (try clear hk); (try clear hi); (try clear ho0); obtain ⟨Ao19, co19, eo19⟩ := Kd.R_slice HO234.out; subst eo19) | ((with_reducible refine gate_callee (f := 82) rfl ?_); refine goesL_ (some 39) rfl rfl Try.func82 (by kernel_rfl) rfl #[.slice Ao19 t232.length co19, .int .i64 x14_1, .int .i64 (wrap64 (x14_1 + 1))] rfl (MA) ?_; (with_reducible refine (slices_Delete_int_int.calls w.heap.size (fun _ => True) (.slice Ao19 t232.length co19) t232 x14_1 (wrap64 (x14_1 + 1)) t235 _ ?side1 A13.out).mono ?_); (case side1 => exact RQ HO234.out); rintro e w20 ⟨v236, rfl, ho0, hg⟩; refine ⟨_, rfl, ?_⟩; have HO237 := Aside0.mk ho0; replace HO230 := Aside0.mk (Kd.R_over (RQ HO230.out) (RQ HO234.out) (by decide) hg); replace HB := Aside0.mk (HB.out.grown hg HB.out.size (fun k hk => Kd.R_base HO234.out k hk)); clear HO234; (try clear hg); (try clear hb); (try clear hb2); (try clear hk); (try clear hi); (try clear ho0); have p238 : 0 ≤ ((rd l1 x14_1) : Int) := of_decide_eq_true AS; have q238 : (rd l1 x14_1) < (l0.length : Int) := of_decide_eq_true AS; obtain ⟨ad238, e238, hx238_0, hx238_1, hx238_2, hx238_3, hx238_4, hx238_5, hx238_6, hx238_7, hx238_8, hx238_9, hx238_10, hx238_11, hx238_12⟩ := at_T67 HR0.out (rd l1 x14_1) p238 q238; obtain rfl : ad227 = ad238 := (by injection e238); replace hx238_0 := (HB.out.cell (World.block_lt_of_cell? w _ hx238_0)).trans hx238_0; replace hx238_1 := (HB.out.cell (World.block_lt_of_cell? w _ hx238_1)).trans hx238_1; replace hx238_2 := (HB.out.cell (World.block_lt_of_cell? w _ hx238_2)).trans hx238_2; replace hx238_3 := (HB.out.cell (World.block_lt_of_cell? w _ hx238_3)).trans hx238_3; replace hx238_4 := (HB.out.cell (World.block_lt_of_cell? w _ hx238_4)).trans hx238_4; replace hx238_5 := (HB.out.cell (World.block_lt_of_cell? w _ hx238_5)).trans hx238_5; replace hx238_6 := (HB.out.cell (World.block_lt_of_cell? w _ hx238_6)).trans hx238_6; replace hx238_7 := (HB.out.cell (World.block_lt_of_cell? w _ hx238_7)).trans hx238_7; replace hx238_8 := (HB.out.cell (World.block_lt_of_cell? w _ hx238_8)).trans hx238_8; replace hx238_9 := (HB.out.cell (World.block_lt_of_cell? w _ hx238_9)).trans hx238_9; replace hx238_10 := (HB.out.cell (World.block_lt_of_cell? w _ hx238_10)).trans hx238_10; replace hx238_11 := (HB.out.cell (World.block_lt_of_cell? w _ hx238_11)).trans hx238_11; replace hx238_12 := (HB.out.cell (World.block_lt_of_cell? w _ hx238_12)).trans hx238_12; replace p238 := eq_true p238; replace q238 := eq_true q238; obtain ⟨Ao21, co21, eo21⟩ := Kd.R_slice HO237.out; subst eo21; obtain ⟨Ao22, co22, eo22⟩ := Kd.R_slice HO230.out; subst eo22) | (go_at_call 63; (with_reducible refine (ih k1 (by have := HK1.out; omega) _ _ l0 _ _ t235 _ _ t228 true _ ?side1 ?side2 ?side3 ?side4 ?side5 ?side6 A15.out).mono ?_); (case side1 => exact CB HR0.out); (case side2 => exact HC0.out); (case side3 => repeat (first | exact (Kd.R_reads' HO237.out).2.2 | (with_reducible refine Kd.C_alloc ?_ _) | (with_reducible refine Kd.C_drewN ?_ _) | (with_reducible refine Kd.C_drew ?_))); (case side4 => exact (Kd.R_reads' HO237.out).2.1); (case side5 => repeat (first | exact (Kd.R_reads' HO230.out).2.2 | (with_reducible refine Kd.C_alloc ?_ _) | (with_reducible refine Kd.C_drewN ?_ _) | (with_reducible refine Kd.C_drew ?_))); (case side6 => exact (Kd.R_reads' HO230.out).2.1); rintro e w23 ⟨rfl, hb⟩; replace HO230 := Aside0.mk (Kd.R_below (RQ HO230.out) hb); replace HO237 := Aside0.mk (Kd.R_below (RQ HO237.out) hb); replace HB := Aside0.mk (below_step (BL) hb); (try clear hb); (try clear hb2); (try clear hk); (try clear hi)))
    go_ret
    exact ⟨EE, BL⟩
   replace c16 := Bool.eq_false_iff.mpr c16; subst c16
   have H1 : (impl_ordered.l0 k1 l0 l1 l2 l1 (l1.length : Int) (wrap64 (x14_1 + 1))) = some r := by rw [if_neg (show ¬ (false = true) by decide)] at H; exact H
   clear H; have H := H1; clear H1; have H' := Aside0.mk H; clear H; have p225 : 0 ≤ (x14_1 : Int) := of_decide_eq_true AS; have q225 : x14_1 < (l1.length : Int) := of_decide_eq_true AS; obtain ⟨ad225, e225, hx225_0⟩ := Kd.at_int HR1.out x14_1 p225 q225; cases e225; replace hx225_0 := (HB.out.cell (World.block_lt_of_cell? w _ hx225_0)).trans hx225_0; replace p225 := eq_true p225; replace q225 := eq_true q225
   go_wp2_with (first | ((with_reducible refine gate_callee (f := 81) rfl ?_); refine goesL_ (some 22) rfl rfl Try.func81 (by kernel_rfl) rfl #[.slice A0 l0.length c0, .slice (some ad225) l1.length c1, .int .i64 (rd l1 x14_1)] rfl (MA) ?_; (with_reducible refine (impl_mayBeNext.calls k1 _ _ l0 _ _ l1 (rd l1 x14_1) true _ ?side1 ?side2 ?side3 ?side4 A7.out).mono ?_); (case side1 => exact CB HR0.out); (case side2 => exact HC0.out); (case side3 => exact CB HR1.out); (case side4 => exact HC1.out); rintro e w' ⟨rfl, ⟨nd, rfl⟩⟩; refine ⟨_, rfl, ?_⟩; have p227 : 0 ≤ ((rd l1 x14_1) : Int) := of_decide_eq_true AS; have q227 : (rd l1 x14_1) < (l0.length : Int) := of_decide_eq_true AS; obtain ⟨ad227, e227, hx227_0, hx227_1, hx227_2, hx227_3, hx227_4, hx227_5, hx227_6, hx227_7, hx227_8, hx227_9, hx227_10, hx227_11, hx227_12⟩ := at_T67 HR0.out (rd l1 x14_1) p227 q227; cases e227; replace hx227_0 := (HB.out.cell (World.block_lt_of_cell? w _ hx227_0)).trans hx227_0; replace hx227_1 := (HB.out.cell (World.block_lt_of_cell? w _ hx227_1)).trans hx227_1; replace hx227_2 := (HB.out.cell (World.block_lt_of_cell? w _ hx227_2)).trans hx227_2; replace hx227_3 := (HB.out.cell (World.block_lt_of_cell? w _ hx227_3)).trans hx227_3; replace hx227_4 := (HB.out.cell (World.block_lt_of_cell? w _ hx227_4)).trans hx227_4; replace hx227_5 := (HB.out.cell (World.block_lt_of_cell? w _ hx227_5)).trans hx227_5; replace hx227_6 := (HB.out.cell (World.block_lt_of_cell? w _ hx227_6)).trans hx227_6; replace hx227_7 := (HB.out.cell (World.block_lt_of_cell? w _ hx227_7)).trans hx227_7; replace hx227_8 := (HB.out.cell (World.block_lt_of_cell? w _ hx227_8)).trans hx227_8; replace hx227_9 := (HB.out.cell (World.block_lt_of_cell? w _ hx227_9)).trans hx227_9; replace hx227_10 := (HB.out.cell (World.block_lt_of_cell? w _ hx227_10)).trans hx227_10; replace hx227_11 := (HB.out.cell (World.block_lt_of_cell? w _ hx227_11)).trans hx227_11; replace hx227_12 := (HB.out.cell (World.block_lt_of_cell? w _ hx227_12)).trans hx227_12; replace p227 := eq_true p227; replace q227 := eq_true q227) | ((with_reducible refine gate_callee (f := 14) rfl ?_); refine goesL_ (some 31) rfl rfl Try.func14 (by kernel_rfl) rfl #[.slice A2 l2.length c2, .agg #[.int .i64 ((rd_T67 l0 (rd l1 x14_1)).f0.f0), .int .i64 ((rd_T67 l0 (rd l1 x14_1)).f0.f1), .int .i64 ((rd_T67 l0 (rd l1 x14_1)).f0.f2), .int .i64 ((rd_T67 l0 (rd l1 x14_1)).f0.f3), .int .i64 ((rd_T67 l0 (rd l1 x14_1)).f0.f4), .int .i64 ((rd_T67 l0 (rd l1 x14_1)).f0.f5), .int .i64 ((rd_T67 l0 (rd l1 x14_1)).f0.f6), .int .i64 ((rd_T67 l0 (rd l1 x14_1)).f0.f7), .int .i64 ((rd_T67 l0 (rd l1 x14_1)).f0.f8), .bool ((rd_T67 l0 (rd l1 x14_1)).f0.f9), .int .i64 ((rd_T67 l0 (rd l1 x14_1)).f0.f10)]] rfl (MA) ?_; (with_reducible refine (impl_DoTask.calls k1 _ _ l2 ((rd_T67 l0 (rd l1 x14_1)).f0.f0) ((rd_T67 l0 (rd l1 x14_1)).f0.f1) ((rd_T67 l0 (rd l1 x14_1)).f0.f2) ((rd_T67 l0 (rd l1 x14_1)).f0.f3) ((rd_T67 l0 (rd l1 x14_1)).f0.f4) ((rd_T67 l0 (rd l1 x14_1)).f0.f5) ((rd_T67 l0 (rd l1 x14_1)).f0.f6) ((rd_T67 l0 (rd l1 x14_1)).f0.f7) ((rd_T67 l0 (rd l1 x14_1)).f0.f8) ((rd_T67 l0 (rd l1 x14_1)).f0.f9) ((rd_T67 l0 (rd l1 x14_1)).f0.f10) t228 t231 _ ?side1 ?side2 A11.out).mono ?_); (case side1 => repeat (first | exact (Kd.C_below HR2.out (BL)) | (with_reducible refine Kd.C_alloc ?_ _) | (with_reducible refine Kd.C_drewN ?_ _) | (with_reducible refine Kd.C_drew ?_))); (case side2 => exact HC2.out); rintro e w24 ⟨v229, rfl, ho0, hb⟩; refine ⟨_, rfl, ?_⟩; have HO230 := Aside0.mk (Kd.R_lower ho0 (below_size (BL))); replace HB := Aside0.mk (below_step (BL) hb); (try clear hb); (try clear hb2); (try clear hk); (try clear hi); (try clear ho0)) | ((with_reducible refine gate_callee (f := 83) rfl ?_); refine goesL_ (some 35) rfl rfl Try.func83 (by kernel_rfl) rfl #[.slice (some ad225) l1.length c1] rfl (MA) ?_; (with_reducible refine (impl_copyInts.calls _ _ l1 t232 _ ?side1 ?side2 A12.out).mono ?_); (case side1 => exact CB HR1.out); (case side2 => exact HC1.out); rintro e w25 ⟨v233, rfl, ho0, hb⟩; refine ⟨_, rfl, ?_⟩; have HO234 := Aside0.mk (Kd.R_lower ho0 (below_size (BL))); replace HO230 := Aside0.mk (Kd.R_below (RQ HO230.out) hb); replace HB := Aside0.mk (below_step (BL) hb); (try clear hb); (try clear hb2); (try clear hk); (try clear hi); (try clear ho0); obtain ⟨Ao26, co26, eo26⟩ := Kd.R_slice HO234.out; subst eo26) | ((with_reducible refine gate_callee (f := 82) rfl ?_); refine goesL_ (some 39) rfl rfl Try.func82 (by kernel_rfl) rfl #[.slice Ao26 t232.length co26, .int .i64 x14_1, .int .i64 (wrap64 (x14_1 + 1))] rfl (MA) ?_; (with_reducible refine (slices_Delete_int_int.calls w.heap.size (fun _ => True) (.slice Ao26 t232.length co26) t232 x14_1 (wrap64 (x14_1 + 1)) t235 _ ?side1 A13.out).mono ?_); (case side1 => exact RQ HO234.out); rintro e w27 ⟨v236, rfl, ho0, hg⟩; refine ⟨_, rfl, ?_⟩; have HO237 := Aside0.mk ho0; replace HO230 := Aside0.mk (Kd.R_over (RQ HO230.out) (RQ HO234.out) (by decide) hg); replace HB := Aside0.mk (HB.out.grown hg HB.out.size (fun k hk => Kd.R_base HO234.out k hk)); clear HO234; (try clear hg); (try clear hb); (try clear hb2); (try clear hk); (try clear hi); (try clear ho0); have p238 : 0 ≤ ((rd l1 x14_1) : Int) := of_decide_eq_true AS; have q238 : (rd l1 x14_1) < (l0.length : Int) := of_decide_eq_true AS; obtain ⟨ad238, e238, hx238_0, hx238_1, hx238_2, hx238_3, hx238_4, hx238_5, hx238_6, hx238_7, hx238_8, hx238_9, hx238_10, hx238_11, hx238_12⟩ := at_T67 HR0.out (rd l1 x14_1) p238 q238; obtain rfl : ad227 = ad238 := (by injection e238); replace hx238_0 := (HB.out.cell (World.block_lt_of_cell? w _ hx238_0)).trans hx238_0; replace hx238_1 := (HB.out.cell (World.block_lt_of_cell? w _ hx238_1)).trans hx238_1; replace hx238_2 := (HB.out.cell (World.block_lt_of_cell? w _ hx238_2)).trans hx238_2; replace hx238_3 := (HB.out.cell (World.block_lt_of_cell? w _ hx238_3)).trans hx238_3; replace hx238_4 := (HB.out.cell (World.block_lt_of_cell? w _ hx238_4)).trans hx238_4; replace hx238_5 := (HB.out.cell (World.block_lt_of_cell? w _ hx238_5)).trans hx238_5; replace hx238_6 := (HB.out.cell (World.block_lt_of_cell? w _ hx238_6)).trans hx238_6; replace hx238_7 := (HB.out.cell (World.block_lt_of_cell? w _ hx238_7)).trans hx238_7; replace hx238_8 := (HB.out.cell (World.block_lt_of_cell? w _ hx238_8)).trans hx238_8; replace hx238_9 := (HB.out.cell (World.block_lt_of_cell? w _ hx238_9)).trans hx238_9; replace hx238_10 := (HB.out.cell (World.block_lt_of_cell? w _ hx238_10)).trans hx238_10; replace hx238_11 := (HB.out.cell (World.block_lt_of_cell? w _ hx238_11)).trans hx238_11; replace hx238_12 := (HB.out.cell (World.block_lt_of_cell? w _ hx238_12)).trans hx238_12; replace p238 := eq_true p238; replace q238 := eq_true q238; obtain ⟨Ao28, co28, eo28⟩ := Kd.R_slice HO237.out; subst eo28; obtain ⟨Ao29, co29, eo29⟩ := Kd.R_slice HO230.out; subst eo29) | (go_at_call 63; (with_reducible refine (ih k1 (by have := HK1.out; omega) _ _ l0 _ _ t235 _ _ t228 false _ ?side1 ?side2 ?side3 ?side4 ?side5 ?side6 A15.out).mono ?_); (case side1 => exact CB HR0.out); (case side2 => exact HC0.out); (case side3 => repeat (first | exact (Kd.R_reads' HO237.out).2.2 | (with_reducible refine Kd.C_alloc ?_ _) | (with_reducible refine Kd.C_drewN ?_ _) | (with_reducible refine Kd.C_drew ?_))); (case side4 => exact (Kd.R_reads' HO237.out).2.1); (case side5 => repeat (first | exact (Kd.R_reads' HO230.out).2.2 | (with_reducible refine Kd.C_alloc ?_ _) | (with_reducible refine Kd.C_drewN ?_ _) | (with_reducible refine Kd.C_drew ?_))); (case side6 => exact (Kd.R_reads' HO230.out).2.1); rintro e w30 ⟨rfl, hb⟩; replace HO230 := Aside0.mk (Kd.R_below (RQ HO230.out) hb); replace HO237 := Aside0.mk (Kd.R_below (RQ HO237.out) hb); replace HB := Aside0.mk (below_step (BL) hb); (try clear hb); (try clear hb2); (try clear hk); (try clear hi)))
   go_roundg k1
   case measure => have := HK1.out; omega
   case rel => exact ⟨(wrap64 (x14_1 + 1)), SD, H', ⟨by have := HK1.out; omega⟩, ⟨BL⟩⟩

/-! ### impl_InSomeOrder: function 27 -/
def impl_InSomeOrder.l0 : Nat → List (S67) → List Int → Int → Int → Option (Bool)
 | 0, _, _, _, _ => none
 | k + 1, x0, x3, x10, x11 => if x11 < x10 then (if x3.length < 17592186044416 then (impl_InSomeOrder.l0 k x0 (x3 ++ [x11]) x10 (wrap64 (x11 + 1))) else (none)) else ((impl_ordered.f k x0 x3 ([] : List (S71))).bind fun t246 => (some t246))
def impl_InSomeOrder.f (k : Nat) (l0 : List (S67)) : Option (Bool) := if (l0.length : Int) > 6 then (some false) else (impl_InSomeOrder.l0 k l0 (([] : List Int)) (l0.length : Int) 0)
theorem impl_InSomeOrder.mono_l : ∀ k, (∀ y0 y1 y2 y3, LeO (impl_InSomeOrder.l0 k y0 y1 y2 y3) (impl_InSomeOrder.l0 (k + 1) y0 y1 y2 y3))
 | 0 => fun _ _ _ _ r h => by simp [impl_InSomeOrder.l0] at h
 | k + 1 => by
  have ih0 := impl_InSomeOrder.mono_l k
  ·
   intro y0 y1 y2 y3
   unfold impl_InSomeOrder.l0
   repeat' first
   | (with_reducible exact ih0 _ _ _ _)
   | (with_reducible exact impl_ordered.mono _ _ _ _)
   | (with_reducible exact LeO.refl _)
   | (with_reducible exact LeO.none _)
   | (with_reducible refine LeO.ite ?_ ?_)
   | (with_reducible refine LeO.bind ?_ (fun _ => ?_))
   | exact ih0 _ _ _ _
   | exact impl_ordered.mono _ _ _ _
   | exact LeO.none _
   | refine LeO.ite ?_ ?_
   | refine LeO.bind ?_ (fun _ => ?_)
theorem impl_InSomeOrder.mono : ∀ a0 k, LeO (impl_InSomeOrder.f k a0) (impl_InSomeOrder.f (k + 1) a0) := by
 intro a0 k
 have ih0 := impl_InSomeOrder.mono_l k
 unfold impl_InSomeOrder.f
 repeat' first
   | (with_reducible exact ih0 _ _ _ _)
   | (with_reducible exact impl_ordered.mono _ _ _ _)
   | (with_reducible exact LeO.refl _)
   | (with_reducible exact LeO.none _)
   | (with_reducible refine LeO.ite ?_ ?_)
   | (with_reducible refine LeO.bind ?_ (fun _ => ?_))
   | exact ih0 _ _ _ _
   | exact impl_ordered.mono _ _ _ _
   | exact LeO.none _
   | refine LeO.ite ?_ ?_
   | refine LeO.bind ?_ (fun _ => ?_)
set_option maxHeartbeats 8000000 in
set_option maxRecDepth 100000 in
theorem impl_InSomeOrder.calls (k : Nat) (A0 : Option Addr) (c0 : Nat) (l0 : List (S67)) (r : Bool) (w : World) (hr0 : Kd.C k67 w A0 l0.length l0) (hc0 : l0.length ≤ c0) (h : impl_InSomeOrder.f k l0 = some r) :
  Calls Try.prog 27 #[.slice A0 l0.length c0] w fun e w' => e = .returned (.bool r) ∧ Below w.heap.size w w' := by
 have HR0 := Aside0.mk hr0
 have HC0 := Aside0.mk hc0
 clear hr0 hc0
 have HB := Aside0.mk (Below.refl w.heap.size w)
 have H : (if (l0.length : Int) > 6 then (some false) else (impl_InSomeOrder.l0 k l0 (([] : List Int)) (l0.length : Int) 0)) = some r := h
 clear h
 by_cases c2 : (l0.length : Int) > 6
 ·
  rw [if_pos c2] at H; have c2b0 : decide (6 < (l0.length : Int)) = true := decide_eq_true c2; have c2b1 : decide (6 < l0.length) = true := decide_eq_true (by omega); clear c2; obtain rfl := Option.some.inj H
  go_enter Try.func27, Try.ntmps27
  go_wp2
  go_ret
  exact ⟨EE, BL⟩
 rw [if_neg c2] at H
 have c2b0 : decide (6 < (l0.length : Int)) = false := decide_eq_false c2
 have c2b1 : decide (6 < l0.length) = false := decide_eq_false (by omega)
 clear c2
 obtain ⟨y240, hy240⟩ : ∃ y_ : List Int, y_ = (([] : List Int)) := ⟨_, rfl⟩
 replace H : (impl_InSomeOrder.l0 k l0 y240 (l0.length : Int) 0) = some r := by first | (rw [hy240]; with_reducible exact H) | (have H2_ := (Option.bind_some _ _).symm.trans H; rw [hy240]; with_reducible exact H2_) | (have H2_ := (Option.bind_some _ _).symm.trans H; with_reducible exact H2_) | with_reducible exact H | (rw [hy240]; exact H) | exact H
 have Ny240 := Aside0.mk hy240
 clear hy240
 have H' := Aside0.mk H
 clear H
 go_enter Try.func27, Try.ntmps27
 go_wp2_with (first | ((with_reducible refine gate_dst (N := 8) rfl ?_); refine Kd.R_lit (Kd.int .i64) _ 3 ?hg (N := 8) ?hd (xs := ([] : List Int)) (inner := []) (ok := fun _ => True) (okp := fun _ => True) ?hr ?hp (fun _ hk => hk) trivial (Below.refl _ _) (Nat.le_refl _) (by simp) ?_; (case hd => rfl); (case hg => rfl); (case hr => first | (go_simp; done) | (go_simp; rfl)); (case hp => exact (Reps.none _ _)); intro v241 w3 ho4 hb hg_ hnew_; clear hg_ hnew_; (first | rw [← Ny240.out] at ho4 | (simp only [Int.reduceToNat] at ho4; rw [← Ny240.out] at ho4)); have HO242 := Aside0.mk (Kd.R_lower ho4 (below_size (BL))); replace HB := Aside0.mk (below_step (BL) hb); clear hb ho4))
 go_loopg [3, 11] k (fun kq v3 v11 w' => ∃ (x3_1 : List Int) (x11_1 : Int), v11 = .int .i64 x11_1 ∧ Aside0 (impl_InSomeOrder.l0 kq l0 x3_1 (l0.length : Int) x11_1 = some r) ∧ Aside0 (kq ≤ k) ∧ Aside0 (Kd.R (Kd.int .i64) 3 w' w.heap.size (fun _ => True) v3 x3_1) ∧ Aside0 (Below w.heap.size w w'))
 case atStart => exact ⟨(y240), (0), SD, H', ⟨Nat.le_refl _⟩, ⟨RQ HO242.out⟩, ⟨BL⟩⟩
 case round =>
  clear H'
  try clear c2 c2b0 c2b1 p2
  obtain ⟨x3_1, x11_1, rfl, HA, HK1, HO_3, HB⟩ := hrel; cases gk with
  | zero => exact absurd HA.out (by simp [impl_InSomeOrder.l0])
  | succ k1 =>
   have H := HA.out; clear HA; simp only [impl_InSomeOrder.l0] at H
   by_cases c5 : x11_1 < (l0.length : Int); rotate_left
   ·
    rw [if_neg c5] at H; have c5b0 : decide (x11_1 < (l0.length : Int)) = false := decide_eq_false c5; clear c5; replace H := Option.bind_eq_some_iff.mp H; obtain ⟨t246, A80, H⟩ := H; have A8 := Aside0.mk A80; clear A80; obtain rfl := Option.some.inj H; obtain ⟨Ao9, co9, eo9⟩ := Kd.R_slice HO_3.out; subst eo9
    go_wp2_with (first | ((with_reducible refine gate_callee (f := 63) rfl ?_); refine goesL_ (some 21) rfl rfl Try.func63 (by kernel_rfl) rfl #[.slice A0 l0.length c0, .slice Ao9 x3_1.length co9, .slice none 0 0] rfl (MA) ?_; (refine (impl_ordered.calls k1 _ _ l0 _ _ x3_1 _ _ ([] : List (S71)) t246 _ ?side1 ?side2 ?side3 ?side4 ?side5 ?side6 A8.out).mono ?_); (case side1 => exact CB HR0.out); (case side2 => exact HC0.out); (case side3 => repeat (first | exact (Kd.R_reads' HO_3.out).2.2 | (with_reducible refine Kd.C_alloc ?_ _) | (with_reducible refine Kd.C_drewN ?_ _) | (with_reducible refine Kd.C_drew ?_))); (case side4 => exact (Kd.R_reads' HO_3.out).2.1); (case side5 => exact Kd.C_nil _ _); (case side6 => exact Nat.le_refl _); rintro e w10 ⟨rfl, hb⟩; refine ⟨_, rfl, ?_⟩; replace HO_3 := Aside0.mk (Kd.R_below (RQ HO_3.out) hb); replace HB := Aside0.mk (below_step (BL) hb); (try clear hb); (try clear hb2); (try clear hk); (try clear hi)))
    go_ret
    exact ⟨EE, BL⟩
   rw [if_pos c5] at H; have c5b0 : decide (x11_1 < (l0.length : Int)) = true := decide_eq_true c5; clear c5
   by_cases c6 : x3_1.length < 17592186044416; rotate_left
   ·
    rw [if_neg c6] at H; exact absurd H (by simp)
   rw [if_pos c6] at H; have LMc6 := Aside0.mk c6; clear c6; obtain ⟨y243, hy243⟩ : ∃ y_ : List Int, y_ = (x3_1 ++ [x11_1]) := ⟨_, rfl⟩
   replace H : (impl_InSomeOrder.l0 k1 l0 y243 (l0.length : Int) (wrap64 (x11_1 + 1))) = some r := by first | (rw [hy243]; with_reducible exact H) | (have H2_ := (Option.bind_some _ _).symm.trans H; rw [hy243]; with_reducible exact H2_) | (have H2_ := (Option.bind_some _ _).symm.trans H; with_reducible exact H2_) | with_reducible exact H | (rw [hy243]; exact H) | exact H
   have Ny243 := Aside0.mk hy243; clear hy243; have H' := Aside0.mk H; clear H
   go_wp2_with (first | ((with_reducible refine gate_builtin (b := .append) (xs := #[.tmp 14, .tmp 16]) rfl ?_); at_builtin; refine Kd.R_append (Kd.int .i64) (w0 := w) w.heap.size rfl (.tmp 14) (.tmp 16) 38 3 (.int .i64 0) 8 rfl Try.underlying38 info3 rfl (by decide) (by omega) u3 x3_1 x11_1 [.int .i64 x11_1] (fun _ => True) (fun _ => False) rfl rfl ?aP (fun _ hk => hk.elim) ?aF ?aO ?aB ?aS ?aL ?_; (case aP => exact rfl); (case aB => exact (BL)); (case aF => exact (fun _ _ => trivial)); (case aO => exact RQ HO_3.out); (case aS => exact (below_size (BL))); (case aL => have := LMc6.out; omega); intro v244 w7 ho hb hg hat; rw [← Ny243.out] at ho; have n0_ := Aside0.mk (hb); have n1_ := Aside0.mk (ho); clear HB; clear HO_3; have HB := n0_; have HO245 := n1_; clear n0_ n1_; clear ho hb hg hat))
   go_roundg k1
   case measure => have := HK1.out; omega
   case rel => exact ⟨(y243), (wrap64 (x11_1 + 1)), SD, H', ⟨by have := HK1.out; omega⟩, ⟨RQ HO245.out⟩, ⟨BL⟩⟩

/-! ### laws_eqTask: function 74 -/
def laws_eqTask.f (a0_0 : Int) (a0_1 : Int) (a0_2 : Int) (a0_3 : Int) (a0_4 : Int) (a0_5 : Int) (a0_6 : Int) (a0_7 : Int) (a0_8 : Int) (a0_9 : Bool) (a0_10 : Int) (a1_0 : Int) (a1_1 : Int) (a1_2 : Int) (a1_3 : Int) (a1_4 : Int) (a1_5 : Int) (a1_6 : Int) (a1_7 : Int) (a1_8 : Int) (a1_9 : Bool) (a1_10 : Int) : Option (Bool) := if a0_0 = a1_0 then (if a0_1 = a1_1 then (if a0_2 = a1_2 then (if a0_3 = a1_3 then (if a0_4 = a1_4 then (if a0_5 = a1_5 then (if a0_6 = a1_6 then (if a0_7 = a1_7 then (if a0_8 = a1_8 then (if (a0_9 != a1_9) = true then (some false) else (if a0_10 = a1_10 then (some true) else (some false))) else (some false)) else (some false)) else (some false)) else (some false)) else (some false)) else (some false)) else (some false)) else (some false)) else (some false)
set_option maxHeartbeats 8000000 in
set_option maxRecDepth 100000 in
theorem laws_eqTask.calls (a0_0 : Int) (a0_1 : Int) (a0_2 : Int) (a0_3 : Int) (a0_4 : Int) (a0_5 : Int) (a0_6 : Int) (a0_7 : Int) (a0_8 : Int) (a0_9 : Bool) (a0_10 : Int) (a1_0 : Int) (a1_1 : Int) (a1_2 : Int) (a1_3 : Int) (a1_4 : Int) (a1_5 : Int) (a1_6 : Int) (a1_7 : Int) (a1_8 : Int) (a1_9 : Bool) (a1_10 : Int) (r : Bool) (w : World) (h : laws_eqTask.f a0_0 a0_1 a0_2 a0_3 a0_4 a0_5 a0_6 a0_7 a0_8 a0_9 a0_10 a1_0 a1_1 a1_2 a1_3 a1_4 a1_5 a1_6 a1_7 a1_8 a1_9 a1_10 = some r) :
  Calls Try.prog 74 #[.agg #[.int .i64 a0_0, .int .i64 a0_1, .int .i64 a0_2, .int .i64 a0_3, .int .i64 a0_4, .int .i64 a0_5, .int .i64 a0_6, .int .i64 a0_7, .int .i64 a0_8, .bool a0_9, .int .i64 a0_10], .agg #[.int .i64 a1_0, .int .i64 a1_1, .int .i64 a1_2, .int .i64 a1_3, .int .i64 a1_4, .int .i64 a1_5, .int .i64 a1_6, .int .i64 a1_7, .int .i64 a1_8, .bool a1_9, .int .i64 a1_10]] w fun e w' => e = .returned (.bool r) ∧ Below w.heap.size w w' := by
 have hu30 := Try.underlying30
 have HB := Aside0.mk (Below.refl w.heap.size w)
 have H : (if a0_0 = a1_0 then (if a0_1 = a1_1 then (if a0_2 = a1_2 then (if a0_3 = a1_3 then (if a0_4 = a1_4 then (if a0_5 = a1_5 then (if a0_6 = a1_6 then (if a0_7 = a1_7 then (if a0_8 = a1_8 then (if (a0_9 != a1_9) = true then (some false) else (if a0_10 = a1_10 then (some true) else (some false))) else (some false)) else (some false)) else (some false)) else (some false)) else (some false)) else (some false)) else (some false)) else (some false)) else (some false)) = some r := h
 clear h
 by_cases c3 : a0_0 = a1_0; rotate_left
 ·
  rw [if_neg c3] at H; have c3b0 : (a0_0 == a1_0) = false := beq_eq_false_iff_ne.mpr c3; have c3b1 : (a0_0 != a1_0) = true := bne_iff_ne.mpr c3; obtain rfl := Option.some.inj H
  go_enter Try.func74, Try.ntmps74
  go_wp2_with (first | ((with_reducible refine gate_dst (N := 2) rfl ?_); refine bE 2 #[.int .i64 a0_0, .int .i64 a0_1, .int .i64 a0_2, .int .i64 a0_3, .int .i64 a0_4, .int .i64 a0_5, .int .i64 a0_6, .int .i64 a0_7, .int .i64 a0_8, .bool a0_9, .int .i64 a0_10] 30 ?_; intro gb247 hg w69 hbox hb; have BK247 := Aside0.mk (hbox); have GW247 : Aside0 (w.heap.size ≤ gb247) := GS; have GE247 := GW247; replace HB := Aside0.mk (below_step (BL) hb); clear hb hbox hg) | ((with_reducible refine gate_dst (N := 3) rfl ?_); refine bE 3 #[.int .i64 a1_0, .int .i64 a1_1, .int .i64 a1_2, .int .i64 a1_3, .int .i64 a1_4, .int .i64 a1_5, .int .i64 a1_6, .int .i64 a1_7, .int .i64 a1_8, .bool a1_9, .int .i64 a1_10] 30 ?_; intro gb248 hg w70 hbox hb; have BK248 := Aside0.mk (hbox); have GW248 : Aside0 (w.heap.size ≤ gb248) := GS; have GE248 := GW248; have NB247_248 := NL BK247.out hg; have NB248_247 := NG BK247.out hg; replace BK247 := BB BK247.out hb; replace HB := Aside0.mk (below_step (BL) hb); clear hb hbox hg; have hnb71 := NB247_248.out; have hnc71 := NB248_247.out; obtain ⟨hcz72_0, hcz72_1, hcz72_2, hcz72_3, hcz72_4, hcz72_5, hcz72_6, hcz72_7, hcz72_8, hcz72_9, hcz72_10, hfz72_0, hfz72_1, hfz72_2, hfz72_3, hfz72_4, hfz72_5, hfz72_6, hfz72_7, hfz72_8, hfz72_9, hfz72_10⟩ := KC11 BK247.out; obtain ⟨hcz73_0, hcz73_1, hcz73_2, hcz73_3, hcz73_4, hcz73_5, hcz73_6, hcz73_7, hcz73_8, hcz73_9, hcz73_10, hfz73_0, hfz73_1, hfz73_2, hfz73_3, hfz73_4, hfz73_5, hfz73_6, hfz73_7, hfz73_8, hfz73_9, hfz73_10⟩ := KC11 BK248.out))
  go_ret
  exact ⟨EE, BL⟩
 rw [if_pos c3] at H
 have c3b0 : (a0_0 == a1_0) = true := beq_iff_eq.mpr c3
 have c3b1 : (a0_0 != a1_0) = false := bne_eq_false_iff_eq.mpr c3
 clear c3
 by_cases c4 : a0_1 = a1_1; rotate_left
 ·
  rw [if_neg c4] at H; have c4b0 : (a0_1 == a1_1) = false := beq_eq_false_iff_ne.mpr c4; have c4b1 : (a0_1 != a1_1) = true := bne_iff_ne.mpr c4; obtain rfl := Option.some.inj H
  go_enter Try.func74, Try.ntmps74
  go_wp2_with (first | ((with_reducible refine gate_dst (N := 2) rfl ?_); refine bE 2 #[.int .i64 a0_0, .int .i64 a0_1, .int .i64 a0_2, .int .i64 a0_3, .int .i64 a0_4, .int .i64 a0_5, .int .i64 a0_6, .int .i64 a0_7, .int .i64 a0_8, .bool a0_9, .int .i64 a0_10] 30 ?_; intro gb247 hg w64 hbox hb; have BK247 := Aside0.mk (hbox); have GW247 : Aside0 (w.heap.size ≤ gb247) := GS; have GE247 := GW247; replace HB := Aside0.mk (below_step (BL) hb); clear hb hbox hg) | ((with_reducible refine gate_dst (N := 3) rfl ?_); refine bE 3 #[.int .i64 a1_0, .int .i64 a1_1, .int .i64 a1_2, .int .i64 a1_3, .int .i64 a1_4, .int .i64 a1_5, .int .i64 a1_6, .int .i64 a1_7, .int .i64 a1_8, .bool a1_9, .int .i64 a1_10] 30 ?_; intro gb248 hg w65 hbox hb; have BK248 := Aside0.mk (hbox); have GW248 : Aside0 (w.heap.size ≤ gb248) := GS; have GE248 := GW248; have NB247_248 := NL BK247.out hg; have NB248_247 := NG BK247.out hg; replace BK247 := BB BK247.out hb; replace HB := Aside0.mk (below_step (BL) hb); clear hb hbox hg; have hnb66 := NB247_248.out; have hnc66 := NB248_247.out; obtain ⟨hcz67_0, hcz67_1, hcz67_2, hcz67_3, hcz67_4, hcz67_5, hcz67_6, hcz67_7, hcz67_8, hcz67_9, hcz67_10, hfz67_0, hfz67_1, hfz67_2, hfz67_3, hfz67_4, hfz67_5, hfz67_6, hfz67_7, hfz67_8, hfz67_9, hfz67_10⟩ := KC11 BK247.out; obtain ⟨hcz68_0, hcz68_1, hcz68_2, hcz68_3, hcz68_4, hcz68_5, hcz68_6, hcz68_7, hcz68_8, hcz68_9, hcz68_10, hfz68_0, hfz68_1, hfz68_2, hfz68_3, hfz68_4, hfz68_5, hfz68_6, hfz68_7, hfz68_8, hfz68_9, hfz68_10⟩ := KC11 BK248.out))
  go_ret
  exact ⟨EE, BL⟩
 rw [if_pos c4] at H
 have c4b0 : (a0_1 == a1_1) = true := beq_iff_eq.mpr c4
 have c4b1 : (a0_1 != a1_1) = false := bne_eq_false_iff_eq.mpr c4
 clear c4
 by_cases c5 : a0_2 = a1_2; rotate_left
 ·
  rw [if_neg c5] at H; have c5b0 : (a0_2 == a1_2) = false := beq_eq_false_iff_ne.mpr c5; have c5b1 : (a0_2 != a1_2) = true := bne_iff_ne.mpr c5; obtain rfl := Option.some.inj H
  go_enter Try.func74, Try.ntmps74
  go_wp2_with (first | ((with_reducible refine gate_dst (N := 2) rfl ?_); refine bE 2 #[.int .i64 a0_0, .int .i64 a0_1, .int .i64 a0_2, .int .i64 a0_3, .int .i64 a0_4, .int .i64 a0_5, .int .i64 a0_6, .int .i64 a0_7, .int .i64 a0_8, .bool a0_9, .int .i64 a0_10] 30 ?_; intro gb247 hg w59 hbox hb; have BK247 := Aside0.mk (hbox); have GW247 : Aside0 (w.heap.size ≤ gb247) := GS; have GE247 := GW247; replace HB := Aside0.mk (below_step (BL) hb); clear hb hbox hg) | ((with_reducible refine gate_dst (N := 3) rfl ?_); refine bE 3 #[.int .i64 a1_0, .int .i64 a1_1, .int .i64 a1_2, .int .i64 a1_3, .int .i64 a1_4, .int .i64 a1_5, .int .i64 a1_6, .int .i64 a1_7, .int .i64 a1_8, .bool a1_9, .int .i64 a1_10] 30 ?_; intro gb248 hg w60 hbox hb; have BK248 := Aside0.mk (hbox); have GW248 : Aside0 (w.heap.size ≤ gb248) := GS; have GE248 := GW248; have NB247_248 := NL BK247.out hg; have NB248_247 := NG BK247.out hg; replace BK247 := BB BK247.out hb; replace HB := Aside0.mk (below_step (BL) hb); clear hb hbox hg; have hnb61 := NB247_248.out; have hnc61 := NB248_247.out; obtain ⟨hcz62_0, hcz62_1, hcz62_2, hcz62_3, hcz62_4, hcz62_5, hcz62_6, hcz62_7, hcz62_8, hcz62_9, hcz62_10, hfz62_0, hfz62_1, hfz62_2, hfz62_3, hfz62_4, hfz62_5, hfz62_6, hfz62_7, hfz62_8, hfz62_9, hfz62_10⟩ := KC11 BK247.out; obtain ⟨hcz63_0, hcz63_1, hcz63_2, hcz63_3, hcz63_4, hcz63_5, hcz63_6, hcz63_7, hcz63_8, hcz63_9, hcz63_10, hfz63_0, hfz63_1, hfz63_2, hfz63_3, hfz63_4, hfz63_5, hfz63_6, hfz63_7, hfz63_8, hfz63_9, hfz63_10⟩ := KC11 BK248.out))
  go_ret
  exact ⟨EE, BL⟩
 rw [if_pos c5] at H
 have c5b0 : (a0_2 == a1_2) = true := beq_iff_eq.mpr c5
 have c5b1 : (a0_2 != a1_2) = false := bne_eq_false_iff_eq.mpr c5
 clear c5
 by_cases c6 : a0_3 = a1_3; rotate_left
 ·
  rw [if_neg c6] at H; have c6b0 : (a0_3 == a1_3) = false := beq_eq_false_iff_ne.mpr c6; have c6b1 : (a0_3 != a1_3) = true := bne_iff_ne.mpr c6; obtain rfl := Option.some.inj H
  go_enter Try.func74, Try.ntmps74
  go_wp2_with (first | ((with_reducible refine gate_dst (N := 2) rfl ?_); refine bE 2 #[.int .i64 a0_0, .int .i64 a0_1, .int .i64 a0_2, .int .i64 a0_3, .int .i64 a0_4, .int .i64 a0_5, .int .i64 a0_6, .int .i64 a0_7, .int .i64 a0_8, .bool a0_9, .int .i64 a0_10] 30 ?_; intro gb247 hg w54 hbox hb; have BK247 := Aside0.mk (hbox); have GW247 : Aside0 (w.heap.size ≤ gb247) := GS; have GE247 := GW247; replace HB := Aside0.mk (below_step (BL) hb); clear hb hbox hg) | ((with_reducible refine gate_dst (N := 3) rfl ?_); refine bE 3 #[.int .i64 a1_0, .int .i64 a1_1, .int .i64 a1_2, .int .i64 a1_3, .int .i64 a1_4, .int .i64 a1_5, .int .i64 a1_6, .int .i64 a1_7, .int .i64 a1_8, .bool a1_9, .int .i64 a1_10] 30 ?_; intro gb248 hg w55 hbox hb; have BK248 := Aside0.mk (hbox); have GW248 : Aside0 (w.heap.size ≤ gb248) := GS; have GE248 := GW248; have NB247_248 := NL BK247.out hg; have NB248_247 := NG BK247.out hg; replace BK247 := BB BK247.out hb; replace HB := Aside0.mk (below_step (BL) hb); clear hb hbox hg; have hnb56 := NB247_248.out; have hnc56 := NB248_247.out; obtain ⟨hcz57_0, hcz57_1, hcz57_2, hcz57_3, hcz57_4, hcz57_5, hcz57_6, hcz57_7, hcz57_8, hcz57_9, hcz57_10, hfz57_0, hfz57_1, hfz57_2, hfz57_3, hfz57_4, hfz57_5, hfz57_6, hfz57_7, hfz57_8, hfz57_9, hfz57_10⟩ := KC11 BK247.out; obtain ⟨hcz58_0, hcz58_1, hcz58_2, hcz58_3, hcz58_4, hcz58_5, hcz58_6, hcz58_7, hcz58_8, hcz58_9, hcz58_10, hfz58_0, hfz58_1, hfz58_2, hfz58_3, hfz58_4, hfz58_5, hfz58_6, hfz58_7, hfz58_8, hfz58_9, hfz58_10⟩ := KC11 BK248.out))
  go_ret
  exact ⟨EE, BL⟩
 rw [if_pos c6] at H
 have c6b0 : (a0_3 == a1_3) = true := beq_iff_eq.mpr c6
 have c6b1 : (a0_3 != a1_3) = false := bne_eq_false_iff_eq.mpr c6
 clear c6
 by_cases c7 : a0_4 = a1_4; rotate_left
 ·
  rw [if_neg c7] at H; have c7b0 : (a0_4 == a1_4) = false := beq_eq_false_iff_ne.mpr c7; have c7b1 : (a0_4 != a1_4) = true := bne_iff_ne.mpr c7; obtain rfl := Option.some.inj H
  go_enter Try.func74, Try.ntmps74
  go_wp2_with (first | ((with_reducible refine gate_dst (N := 2) rfl ?_); refine bE 2 #[.int .i64 a0_0, .int .i64 a0_1, .int .i64 a0_2, .int .i64 a0_3, .int .i64 a0_4, .int .i64 a0_5, .int .i64 a0_6, .int .i64 a0_7, .int .i64 a0_8, .bool a0_9, .int .i64 a0_10] 30 ?_; intro gb247 hg w49 hbox hb; have BK247 := Aside0.mk (hbox); have GW247 : Aside0 (w.heap.size ≤ gb247) := GS; have GE247 := GW247; replace HB := Aside0.mk (below_step (BL) hb); clear hb hbox hg) | ((with_reducible refine gate_dst (N := 3) rfl ?_); refine bE 3 #[.int .i64 a1_0, .int .i64 a1_1, .int .i64 a1_2, .int .i64 a1_3, .int .i64 a1_4, .int .i64 a1_5, .int .i64 a1_6, .int .i64 a1_7, .int .i64 a1_8, .bool a1_9, .int .i64 a1_10] 30 ?_; intro gb248 hg w50 hbox hb; have BK248 := Aside0.mk (hbox); have GW248 : Aside0 (w.heap.size ≤ gb248) := GS; have GE248 := GW248; have NB247_248 := NL BK247.out hg; have NB248_247 := NG BK247.out hg; replace BK247 := BB BK247.out hb; replace HB := Aside0.mk (below_step (BL) hb); clear hb hbox hg; have hnb51 := NB247_248.out; have hnc51 := NB248_247.out; obtain ⟨hcz52_0, hcz52_1, hcz52_2, hcz52_3, hcz52_4, hcz52_5, hcz52_6, hcz52_7, hcz52_8, hcz52_9, hcz52_10, hfz52_0, hfz52_1, hfz52_2, hfz52_3, hfz52_4, hfz52_5, hfz52_6, hfz52_7, hfz52_8, hfz52_9, hfz52_10⟩ := KC11 BK247.out; obtain ⟨hcz53_0, hcz53_1, hcz53_2, hcz53_3, hcz53_4, hcz53_5, hcz53_6, hcz53_7, hcz53_8, hcz53_9, hcz53_10, hfz53_0, hfz53_1, hfz53_2, hfz53_3, hfz53_4, hfz53_5, hfz53_6, hfz53_7, hfz53_8, hfz53_9, hfz53_10⟩ := KC11 BK248.out))
  go_ret
  exact ⟨EE, BL⟩
 rw [if_pos c7] at H
 have c7b0 : (a0_4 == a1_4) = true := beq_iff_eq.mpr c7
 have c7b1 : (a0_4 != a1_4) = false := bne_eq_false_iff_eq.mpr c7
 clear c7
 by_cases c8 : a0_5 = a1_5; rotate_left
 ·
  rw [if_neg c8] at H; have c8b0 : (a0_5 == a1_5) = false := beq_eq_false_iff_ne.mpr c8; have c8b1 : (a0_5 != a1_5) = true := bne_iff_ne.mpr c8; obtain rfl := Option.some.inj H
  go_enter Try.func74, Try.ntmps74
  go_wp2_with (first | ((with_reducible refine gate_dst (N := 2) rfl ?_); refine bE 2 #[.int .i64 a0_0, .int .i64 a0_1, .int .i64 a0_2, .int .i64 a0_3, .int .i64 a0_4, .int .i64 a0_5, .int .i64 a0_6, .int .i64 a0_7, .int .i64 a0_8, .bool a0_9, .int .i64 a0_10] 30 ?_; intro gb247 hg w44 hbox hb; have BK247 := Aside0.mk (hbox); have GW247 : Aside0 (w.heap.size ≤ gb247) := GS; have GE247 := GW247; replace HB := Aside0.mk (below_step (BL) hb); clear hb hbox hg) | ((with_reducible refine gate_dst (N := 3) rfl ?_); refine bE 3 #[.int .i64 a1_0, .int .i64 a1_1, .int .i64 a1_2, .int .i64 a1_3, .int .i64 a1_4, .int .i64 a1_5, .int .i64 a1_6, .int .i64 a1_7, .int .i64 a1_8, .bool a1_9, .int .i64 a1_10] 30 ?_; intro gb248 hg w45 hbox hb; have BK248 := Aside0.mk (hbox); have GW248 : Aside0 (w.heap.size ≤ gb248) := GS; have GE248 := GW248; have NB247_248 := NL BK247.out hg; have NB248_247 := NG BK247.out hg; replace BK247 := BB BK247.out hb; replace HB := Aside0.mk (below_step (BL) hb); clear hb hbox hg; have hnb46 := NB247_248.out; have hnc46 := NB248_247.out; obtain ⟨hcz47_0, hcz47_1, hcz47_2, hcz47_3, hcz47_4, hcz47_5, hcz47_6, hcz47_7, hcz47_8, hcz47_9, hcz47_10, hfz47_0, hfz47_1, hfz47_2, hfz47_3, hfz47_4, hfz47_5, hfz47_6, hfz47_7, hfz47_8, hfz47_9, hfz47_10⟩ := KC11 BK247.out; obtain ⟨hcz48_0, hcz48_1, hcz48_2, hcz48_3, hcz48_4, hcz48_5, hcz48_6, hcz48_7, hcz48_8, hcz48_9, hcz48_10, hfz48_0, hfz48_1, hfz48_2, hfz48_3, hfz48_4, hfz48_5, hfz48_6, hfz48_7, hfz48_8, hfz48_9, hfz48_10⟩ := KC11 BK248.out))
  go_ret
  exact ⟨EE, BL⟩
 rw [if_pos c8] at H
 have c8b0 : (a0_5 == a1_5) = true := beq_iff_eq.mpr c8
 have c8b1 : (a0_5 != a1_5) = false := bne_eq_false_iff_eq.mpr c8
 clear c8
 by_cases c9 : a0_6 = a1_6; rotate_left
 ·
  rw [if_neg c9] at H; have c9b0 : (a0_6 == a1_6) = false := beq_eq_false_iff_ne.mpr c9; have c9b1 : (a0_6 != a1_6) = true := bne_iff_ne.mpr c9; obtain rfl := Option.some.inj H
  go_enter Try.func74, Try.ntmps74
  go_wp2_with (first | ((with_reducible refine gate_dst (N := 2) rfl ?_); refine bE 2 #[.int .i64 a0_0, .int .i64 a0_1, .int .i64 a0_2, .int .i64 a0_3, .int .i64 a0_4, .int .i64 a0_5, .int .i64 a0_6, .int .i64 a0_7, .int .i64 a0_8, .bool a0_9, .int .i64 a0_10] 30 ?_; intro gb247 hg w39 hbox hb; have BK247 := Aside0.mk (hbox); have GW247 : Aside0 (w.heap.size ≤ gb247) := GS; have GE247 := GW247; replace HB := Aside0.mk (below_step (BL) hb); clear hb hbox hg) | ((with_reducible refine gate_dst (N := 3) rfl ?_); refine bE 3 #[.int .i64 a1_0, .int .i64 a1_1, .int .i64 a1_2, .int .i64 a1_3, .int .i64 a1_4, .int .i64 a1_5, .int .i64 a1_6, .int .i64 a1_7, .int .i64 a1_8, .bool a1_9, .int .i64 a1_10] 30 ?_; intro gb248 hg w40 hbox hb; have BK248 := Aside0.mk (hbox); have GW248 : Aside0 (w.heap.size ≤ gb248) := GS; have GE248 := GW248; have NB247_248 := NL BK247.out hg; have NB248_247 := NG BK247.out hg; replace BK247 := BB BK247.out hb; replace HB := Aside0.mk (below_step (BL) hb); clear hb hbox hg; have hnb41 := NB247_248.out; have hnc41 := NB248_247.out; obtain ⟨hcz42_0, hcz42_1, hcz42_2, hcz42_3, hcz42_4, hcz42_5, hcz42_6, hcz42_7, hcz42_8, hcz42_9, hcz42_10, hfz42_0, hfz42_1, hfz42_2, hfz42_3, hfz42_4, hfz42_5, hfz42_6, hfz42_7, hfz42_8, hfz42_9, hfz42_10⟩ := KC11 BK247.out; obtain ⟨hcz43_0, hcz43_1, hcz43_2, hcz43_3, hcz43_4, hcz43_5, hcz43_6, hcz43_7, hcz43_8, hcz43_9, hcz43_10, hfz43_0, hfz43_1, hfz43_2, hfz43_3, hfz43_4, hfz43_5, hfz43_6, hfz43_7, hfz43_8, hfz43_9, hfz43_10⟩ := KC11 BK248.out))
  go_ret
  exact ⟨EE, BL⟩
 rw [if_pos c9] at H
 have c9b0 : (a0_6 == a1_6) = true := beq_iff_eq.mpr c9
 have c9b1 : (a0_6 != a1_6) = false := bne_eq_false_iff_eq.mpr c9
 clear c9
 by_cases c10 : a0_7 = a1_7; rotate_left
 ·
  rw [if_neg c10] at H; have c10b0 : (a0_7 == a1_7) = false := beq_eq_false_iff_ne.mpr c10; have c10b1 : (a0_7 != a1_7) = true := bne_iff_ne.mpr c10; obtain rfl := Option.some.inj H
  go_enter Try.func74, Try.ntmps74
  go_wp2_with (first | ((with_reducible refine gate_dst (N := 2) rfl ?_); refine bE 2 #[.int .i64 a0_0, .int .i64 a0_1, .int .i64 a0_2, .int .i64 a0_3, .int .i64 a0_4, .int .i64 a0_5, .int .i64 a0_6, .int .i64 a0_7, .int .i64 a0_8, .bool a0_9, .int .i64 a0_10] 30 ?_; intro gb247 hg w34 hbox hb; have BK247 := Aside0.mk (hbox); have GW247 : Aside0 (w.heap.size ≤ gb247) := GS; have GE247 := GW247; replace HB := Aside0.mk (below_step (BL) hb); clear hb hbox hg) | ((with_reducible refine gate_dst (N := 3) rfl ?_); refine bE 3 #[.int .i64 a1_0, .int .i64 a1_1, .int .i64 a1_2, .int .i64 a1_3, .int .i64 a1_4, .int .i64 a1_5, .int .i64 a1_6, .int .i64 a1_7, .int .i64 a1_8, .bool a1_9, .int .i64 a1_10] 30 ?_; intro gb248 hg w35 hbox hb; have BK248 := Aside0.mk (hbox); have GW248 : Aside0 (w.heap.size ≤ gb248) := GS; have GE248 := GW248; have NB247_248 := NL BK247.out hg; have NB248_247 := NG BK247.out hg; replace BK247 := BB BK247.out hb; replace HB := Aside0.mk (below_step (BL) hb); clear hb hbox hg; have hnb36 := NB247_248.out; have hnc36 := NB248_247.out; obtain ⟨hcz37_0, hcz37_1, hcz37_2, hcz37_3, hcz37_4, hcz37_5, hcz37_6, hcz37_7, hcz37_8, hcz37_9, hcz37_10, hfz37_0, hfz37_1, hfz37_2, hfz37_3, hfz37_4, hfz37_5, hfz37_6, hfz37_7, hfz37_8, hfz37_9, hfz37_10⟩ := KC11 BK247.out; obtain ⟨hcz38_0, hcz38_1, hcz38_2, hcz38_3, hcz38_4, hcz38_5, hcz38_6, hcz38_7, hcz38_8, hcz38_9, hcz38_10, hfz38_0, hfz38_1, hfz38_2, hfz38_3, hfz38_4, hfz38_5, hfz38_6, hfz38_7, hfz38_8, hfz38_9, hfz38_10⟩ := KC11 BK248.out))
  go_ret
  exact ⟨EE, BL⟩
 rw [if_pos c10] at H
 have c10b0 : (a0_7 == a1_7) = true := beq_iff_eq.mpr c10
 have c10b1 : (a0_7 != a1_7) = false := bne_eq_false_iff_eq.mpr c10
 clear c10
 by_cases c11 : a0_8 = a1_8; rotate_left
 ·
  rw [if_neg c11] at H; have c11b0 : (a0_8 == a1_8) = false := beq_eq_false_iff_ne.mpr c11; have c11b1 : (a0_8 != a1_8) = true := bne_iff_ne.mpr c11; obtain rfl := Option.some.inj H
  go_enter Try.func74, Try.ntmps74
  go_wp2_with (first | ((with_reducible refine gate_dst (N := 2) rfl ?_); refine bE 2 #[.int .i64 a0_0, .int .i64 a0_1, .int .i64 a0_2, .int .i64 a0_3, .int .i64 a0_4, .int .i64 a0_5, .int .i64 a0_6, .int .i64 a0_7, .int .i64 a0_8, .bool a0_9, .int .i64 a0_10] 30 ?_; intro gb247 hg w29 hbox hb; have BK247 := Aside0.mk (hbox); have GW247 : Aside0 (w.heap.size ≤ gb247) := GS; have GE247 := GW247; replace HB := Aside0.mk (below_step (BL) hb); clear hb hbox hg) | ((with_reducible refine gate_dst (N := 3) rfl ?_); refine bE 3 #[.int .i64 a1_0, .int .i64 a1_1, .int .i64 a1_2, .int .i64 a1_3, .int .i64 a1_4, .int .i64 a1_5, .int .i64 a1_6, .int .i64 a1_7, .int .i64 a1_8, .bool a1_9, .int .i64 a1_10] 30 ?_; intro gb248 hg w30 hbox hb; have BK248 := Aside0.mk (hbox); have GW248 : Aside0 (w.heap.size ≤ gb248) := GS; have GE248 := GW248; have NB247_248 := NL BK247.out hg; have NB248_247 := NG BK247.out hg; replace BK247 := BB BK247.out hb; replace HB := Aside0.mk (below_step (BL) hb); clear hb hbox hg; have hnb31 := NB247_248.out; have hnc31 := NB248_247.out; obtain ⟨hcz32_0, hcz32_1, hcz32_2, hcz32_3, hcz32_4, hcz32_5, hcz32_6, hcz32_7, hcz32_8, hcz32_9, hcz32_10, hfz32_0, hfz32_1, hfz32_2, hfz32_3, hfz32_4, hfz32_5, hfz32_6, hfz32_7, hfz32_8, hfz32_9, hfz32_10⟩ := KC11 BK247.out; obtain ⟨hcz33_0, hcz33_1, hcz33_2, hcz33_3, hcz33_4, hcz33_5, hcz33_6, hcz33_7, hcz33_8, hcz33_9, hcz33_10, hfz33_0, hfz33_1, hfz33_2, hfz33_3, hfz33_4, hfz33_5, hfz33_6, hfz33_7, hfz33_8, hfz33_9, hfz33_10⟩ := KC11 BK248.out))
  go_ret
  exact ⟨EE, BL⟩
 rw [if_pos c11] at H
 have c11b0 : (a0_8 == a1_8) = true := beq_iff_eq.mpr c11
 have c11b1 : (a0_8 != a1_8) = false := bne_eq_false_iff_eq.mpr c11
 clear c11
 by_cases c12 : (a0_9 != a1_9) = true
 ·
  rw [if_pos c12] at H; have c12b0 : (a0_9 != a1_9) = true := c12
  (try (have c12b1 : decide (a0_9 = a1_9) = false := by simpa using c12))
  (try (have c12b2 : (a0_9 == a1_9) = false := by simpa using c12))
  (try (have c12b3 : ¬ (a0_9 = a1_9) := by simpa using c12))
  clear c12; obtain rfl := Option.some.inj H
  go_enter Try.func74, Try.ntmps74
  go_wp2_with (first | ((with_reducible refine gate_dst (N := 2) rfl ?_); refine bE 2 #[.int .i64 a0_0, .int .i64 a0_1, .int .i64 a0_2, .int .i64 a0_3, .int .i64 a0_4, .int .i64 a0_5, .int .i64 a0_6, .int .i64 a0_7, .int .i64 a0_8, .bool a0_9, .int .i64 a0_10] 30 ?_; intro gb247 hg w13 hbox hb; have BK247 := Aside0.mk (hbox); have GW247 : Aside0 (w.heap.size ≤ gb247) := GS; have GE247 := GW247; replace HB := Aside0.mk (below_step (BL) hb); clear hb hbox hg) | ((with_reducible refine gate_dst (N := 3) rfl ?_); refine bE 3 #[.int .i64 a1_0, .int .i64 a1_1, .int .i64 a1_2, .int .i64 a1_3, .int .i64 a1_4, .int .i64 a1_5, .int .i64 a1_6, .int .i64 a1_7, .int .i64 a1_8, .bool a1_9, .int .i64 a1_10] 30 ?_; intro gb248 hg w14 hbox hb; have BK248 := Aside0.mk (hbox); have GW248 : Aside0 (w.heap.size ≤ gb248) := GS; have GE248 := GW248; have NB247_248 := NL BK247.out hg; have NB248_247 := NG BK247.out hg; replace BK247 := BB BK247.out hb; replace HB := Aside0.mk (below_step (BL) hb); clear hb hbox hg; have hnb15 := NB247_248.out; have hnc15 := NB248_247.out; obtain ⟨hcz16_0, hcz16_1, hcz16_2, hcz16_3, hcz16_4, hcz16_5, hcz16_6, hcz16_7, hcz16_8, hcz16_9, hcz16_10, hfz16_0, hfz16_1, hfz16_2, hfz16_3, hfz16_4, hfz16_5, hfz16_6, hfz16_7, hfz16_8, hfz16_9, hfz16_10⟩ := KC11 BK247.out; obtain ⟨hcz17_0, hcz17_1, hcz17_2, hcz17_3, hcz17_4, hcz17_5, hcz17_6, hcz17_7, hcz17_8, hcz17_9, hcz17_10, hfz17_0, hfz17_1, hfz17_2, hfz17_3, hfz17_4, hfz17_5, hfz17_6, hfz17_7, hfz17_8, hfz17_9, hfz17_10⟩ := KC11 BK248.out))
  go_ret
  exact ⟨EE, BL⟩
 rw [if_neg c12] at H
 have c12b0 : (a0_9 != a1_9) = false := by simpa using c12
 (try (have c12b1 : decide (a0_9 = a1_9) = true := by simpa using c12))
 (try (have c12b2 : (a0_9 == a1_9) = true := by simpa using c12))
 clear c12
 by_cases c18 : a0_10 = a1_10; rotate_left
 ·
  rw [if_neg c18] at H; have c18b0 : (a0_10 == a1_10) = false := beq_eq_false_iff_ne.mpr c18; have c18b1 : (a0_10 != a1_10) = true := bne_iff_ne.mpr c18; obtain rfl := Option.some.inj H
  go_enter Try.func74, Try.ntmps74
  go_wp2_with (first | ((with_reducible refine gate_dst (N := 2) rfl ?_); refine bE 2 #[.int .i64 a0_0, .int .i64 a0_1, .int .i64 a0_2, .int .i64 a0_3, .int .i64 a0_4, .int .i64 a0_5, .int .i64 a0_6, .int .i64 a0_7, .int .i64 a0_8, .bool a0_9, .int .i64 a0_10] 30 ?_; intro gb247 hg w24 hbox hb; have BK247 := Aside0.mk (hbox); have GW247 : Aside0 (w.heap.size ≤ gb247) := GS; have GE247 := GW247; replace HB := Aside0.mk (below_step (BL) hb); clear hb hbox hg) | ((with_reducible refine gate_dst (N := 3) rfl ?_); refine bE 3 #[.int .i64 a1_0, .int .i64 a1_1, .int .i64 a1_2, .int .i64 a1_3, .int .i64 a1_4, .int .i64 a1_5, .int .i64 a1_6, .int .i64 a1_7, .int .i64 a1_8, .bool a1_9, .int .i64 a1_10] 30 ?_; intro gb248 hg w25 hbox hb; have BK248 := Aside0.mk (hbox); have GW248 : Aside0 (w.heap.size ≤ gb248) := GS; have GE248 := GW248; have NB247_248 := NL BK247.out hg; have NB248_247 := NG BK247.out hg; replace BK247 := BB BK247.out hb; replace HB := Aside0.mk (below_step (BL) hb); clear hb hbox hg; have hnb26 := NB247_248.out; have hnc26 := NB248_247.out; obtain ⟨hcz27_0, hcz27_1, hcz27_2, hcz27_3, hcz27_4, hcz27_5, hcz27_6, hcz27_7, hcz27_8, hcz27_9, hcz27_10, hfz27_0, hfz27_1, hfz27_2, hfz27_3, hfz27_4, hfz27_5, hfz27_6, hfz27_7, hfz27_8, hfz27_9, hfz27_10⟩ := KC11 BK247.out; obtain ⟨hcz28_0, hcz28_1, hcz28_2, hcz28_3, hcz28_4, hcz28_5, hcz28_6, hcz28_7, hcz28_8, hcz28_9, hcz28_10, hfz28_0, hfz28_1, hfz28_2, hfz28_3, hfz28_4, hfz28_5, hfz28_6, hfz28_7, hfz28_8, hfz28_9, hfz28_10⟩ := KC11 BK248.out))
  go_ret
  exact ⟨EE, BL⟩
 rw [if_pos c18] at H
 have c18b0 : (a0_10 == a1_10) = true := beq_iff_eq.mpr c18
 have c18b1 : (a0_10 != a1_10) = false := bne_eq_false_iff_eq.mpr c18
 clear c18
 obtain rfl := Option.some.inj H
 go_enter Try.func74, Try.ntmps74
 go_wp2_with (first | ((with_reducible refine gate_dst (N := 2) rfl ?_); refine bE 2 #[.int .i64 a0_0, .int .i64 a0_1, .int .i64 a0_2, .int .i64 a0_3, .int .i64 a0_4, .int .i64 a0_5, .int .i64 a0_6, .int .i64 a0_7, .int .i64 a0_8, .bool a0_9, .int .i64 a0_10] 30 ?_; intro gb247 hg w19 hbox hb; have BK247 := Aside0.mk (hbox); have GW247 : Aside0 (w.heap.size ≤ gb247) := GS; have GE247 := GW247; replace HB := Aside0.mk (below_step (BL) hb); clear hb hbox hg) | ((with_reducible refine gate_dst (N := 3) rfl ?_); refine bE 3 #[.int .i64 a1_0, .int .i64 a1_1, .int .i64 a1_2, .int .i64 a1_3, .int .i64 a1_4, .int .i64 a1_5, .int .i64 a1_6, .int .i64 a1_7, .int .i64 a1_8, .bool a1_9, .int .i64 a1_10] 30 ?_; intro gb248 hg w20 hbox hb; have BK248 := Aside0.mk (hbox); have GW248 : Aside0 (w.heap.size ≤ gb248) := GS; have GE248 := GW248; have NB247_248 := NL BK247.out hg; have NB248_247 := NG BK247.out hg; replace BK247 := BB BK247.out hb; replace HB := Aside0.mk (below_step (BL) hb); clear hb hbox hg; have hnb21 := NB247_248.out; have hnc21 := NB248_247.out; obtain ⟨hcz22_0, hcz22_1, hcz22_2, hcz22_3, hcz22_4, hcz22_5, hcz22_6, hcz22_7, hcz22_8, hcz22_9, hcz22_10, hfz22_0, hfz22_1, hfz22_2, hfz22_3, hfz22_4, hfz22_5, hfz22_6, hfz22_7, hfz22_8, hfz22_9, hfz22_10⟩ := KC11 BK247.out; obtain ⟨hcz23_0, hcz23_1, hcz23_2, hcz23_3, hcz23_4, hcz23_5, hcz23_6, hcz23_7, hcz23_8, hcz23_9, hcz23_10, hfz23_0, hfz23_1, hfz23_2, hfz23_3, hfz23_4, hfz23_5, hfz23_6, hfz23_7, hfz23_8, hfz23_9, hfz23_10⟩ := KC11 BK248.out))
 go_ret
 exact ⟨EE, BL⟩

/-! ### laws_eqCall: function 64 -/
def laws_eqCall.f (a0_0 : Int) (a0_1 : Int) (a0_2 : Int) (a0_3 : Int) (a0_4 : Int) (a0_5 : Int) (a0_6 : Int) (a0_7 : Int) (a0_8 : Int) (a0_9 : Bool) (a0_10 : Int) (a0_11 : Int) (a0_12 : Int) (a1_0 : Int) (a1_1 : Int) (a1_2 : Int) (a1_3 : Int) (a1_4 : Int) (a1_5 : Int) (a1_6 : Int) (a1_7 : Int) (a1_8 : Int) (a1_9 : Bool) (a1_10 : Int) (a1_11 : Int) (a1_12 : Int) : Option (Bool) := (laws_eqTask.f a0_0 a0_1 a0_2 a0_3 a0_4 a0_5 a0_6 a0_7 a0_8 a0_9 a0_10 a1_0 a1_1 a1_2 a1_3 a1_4 a1_5 a1_6 a1_7 a1_8 a1_9 a1_10).bind fun t251 => (if t251 = true then (if a0_11 = a1_11 then (if a0_12 = a1_12 then (some true) else (some false)) else (some false)) else (some false))
set_option maxHeartbeats 8000000 in
set_option maxRecDepth 100000 in
theorem laws_eqCall.calls (a0_0 : Int) (a0_1 : Int) (a0_2 : Int) (a0_3 : Int) (a0_4 : Int) (a0_5 : Int) (a0_6 : Int) (a0_7 : Int) (a0_8 : Int) (a0_9 : Bool) (a0_10 : Int) (a0_11 : Int) (a0_12 : Int) (a1_0 : Int) (a1_1 : Int) (a1_2 : Int) (a1_3 : Int) (a1_4 : Int) (a1_5 : Int) (a1_6 : Int) (a1_7 : Int) (a1_8 : Int) (a1_9 : Bool) (a1_10 : Int) (a1_11 : Int) (a1_12 : Int) (r : Bool) (w : World) (h : laws_eqCall.f a0_0 a0_1 a0_2 a0_3 a0_4 a0_5 a0_6 a0_7 a0_8 a0_9 a0_10 a0_11 a0_12 a1_0 a1_1 a1_2 a1_3 a1_4 a1_5 a1_6 a1_7 a1_8 a1_9 a1_10 a1_11 a1_12 = some r) :
  Calls Try.prog 64 #[.agg #[.int .i64 a0_0, .int .i64 a0_1, .int .i64 a0_2, .int .i64 a0_3, .int .i64 a0_4, .int .i64 a0_5, .int .i64 a0_6, .int .i64 a0_7, .int .i64 a0_8, .bool a0_9, .int .i64 a0_10, .int .i64 a0_11, .int .i64 a0_12], .agg #[.int .i64 a1_0, .int .i64 a1_1, .int .i64 a1_2, .int .i64 a1_3, .int .i64 a1_4, .int .i64 a1_5, .int .i64 a1_6, .int .i64 a1_7, .int .i64 a1_8, .bool a1_9, .int .i64 a1_10, .int .i64 a1_11, .int .i64 a1_12]] w fun e w' => e = .returned (.bool r) ∧ Below w.heap.size w w' := by
 have hu67 := Try.underlying67
 have hu30 := Try.underlying30
 have HB := Aside0.mk (Below.refl w.heap.size w)
 have H : ((laws_eqTask.f a0_0 a0_1 a0_2 a0_3 a0_4 a0_5 a0_6 a0_7 a0_8 a0_9 a0_10 a1_0 a1_1 a1_2 a1_3 a1_4 a1_5 a1_6 a1_7 a1_8 a1_9 a1_10).bind fun t251 => (if t251 = true then (if a0_11 = a1_11 then (if a0_12 = a1_12 then (some true) else (some false)) else (some false)) else (some false))) = some r := h
 clear h
 replace H := Option.bind_eq_some_iff.mp H
 obtain ⟨t251, A30, H⟩ := H
 have A3 := Aside0.mk A30
 clear A30
 by_cases c4 : t251 = true; rotate_left
 ·
  replace c4 := Bool.eq_false_iff.mpr c4; subst c4
  have H1 : (some false) = some r := by rw [if_neg (show ¬ (false = true) by decide)] at H; exact H
  clear H; have H := H1; clear H1; obtain rfl := Option.some.inj H
  go_enter Try.func64, Try.ntmps64
  go_wp2_with (first | ((with_reducible refine gate_dst (N := 2) rfl ?_); refine bE 2 #[.int .i64 a0_0, .int .i64 a0_1, .int .i64 a0_2, .int .i64 a0_3, .int .i64 a0_4, .int .i64 a0_5, .int .i64 a0_6, .int .i64 a0_7, .int .i64 a0_8, .bool a0_9, .int .i64 a0_10, .int .i64 a0_11, .int .i64 a0_12] 67 ?_; intro gb249 hg w31 hbox hb; have BK249 := Aside0.mk (hbox); have GW249 : Aside0 (w.heap.size ≤ gb249) := GS; have GE249 := GW249; replace HB := Aside0.mk (below_step (BL) hb); clear hb hbox hg) | ((with_reducible refine gate_dst (N := 3) rfl ?_); refine bE 3 #[.int .i64 a1_0, .int .i64 a1_1, .int .i64 a1_2, .int .i64 a1_3, .int .i64 a1_4, .int .i64 a1_5, .int .i64 a1_6, .int .i64 a1_7, .int .i64 a1_8, .bool a1_9, .int .i64 a1_10, .int .i64 a1_11, .int .i64 a1_12] 67 ?_; intro gb250 hg w32 hbox hb; have BK250 := Aside0.mk (hbox); have GW250 : Aside0 (w.heap.size ≤ gb250) := GS; have GE250 := GW250; have NB249_250 := NL BK249.out hg; have NB250_249 := NG BK249.out hg; replace BK249 := BB BK249.out hb; replace HB := Aside0.mk (below_step (BL) hb); clear hb hbox hg; have hnb33 := NB249_250.out; have hnc33 := NB250_249.out; have hcz34_0 : w32.cell? ⟨gb249, 0, none⟩ = some (.int .i64 a0_0) := CZ BK249.out 0; have hcz34_1 : w32.cell? ⟨gb249, 1, none⟩ = some (.int .i64 a0_1) := CZ BK249.out 1; have hcz34_2 : w32.cell? ⟨gb249, 2, none⟩ = some (.int .i64 a0_2) := CZ BK249.out 2; have hcz34_3 : w32.cell? ⟨gb249, 3, none⟩ = some (.int .i64 a0_3) := CZ BK249.out 3; have hcz34_4 : w32.cell? ⟨gb249, 4, none⟩ = some (.int .i64 a0_4) := CZ BK249.out 4; have hcz34_5 : w32.cell? ⟨gb249, 5, none⟩ = some (.int .i64 a0_5) := CZ BK249.out 5; have hcz34_6 : w32.cell? ⟨gb249, 6, none⟩ = some (.int .i64 a0_6) := CZ BK249.out 6; have hcz34_7 : w32.cell? ⟨gb249, 7, none⟩ = some (.int .i64 a0_7) := CZ BK249.out 7; have hcz34_8 : w32.cell? ⟨gb249, 8, none⟩ = some (.int .i64 a0_8) := CZ BK249.out 8; have hcz34_9 : w32.cell? ⟨gb249, 9, none⟩ = some (.bool a0_9) := CZ BK249.out 9; have hcz34_10 : w32.cell? ⟨gb249, 10, none⟩ = some (.int .i64 a0_10) := CZ BK249.out 10; have hcz34_11 : w32.cell? ⟨gb249, 11, none⟩ = some (.int .i64 a0_11) := CZ BK249.out 11; have hcz34_12 : w32.cell? ⟨gb249, 12, none⟩ = some (.int .i64 a0_12) := CZ BK249.out 12; have hfz34_0 := blk_frozen BK249.out 0; have hfz34_1 := blk_frozen BK249.out 1; have hfz34_2 := blk_frozen BK249.out 2; have hfz34_3 := blk_frozen BK249.out 3; have hfz34_4 := blk_frozen BK249.out 4; have hfz34_5 := blk_frozen BK249.out 5; have hfz34_6 := blk_frozen BK249.out 6; have hfz34_7 := blk_frozen BK249.out 7; have hfz34_8 := blk_frozen BK249.out 8; have hfz34_9 := blk_frozen BK249.out 9; have hfz34_10 := blk_frozen BK249.out 10; have hfz34_11 := blk_frozen BK249.out 11; have hfz34_12 := blk_frozen BK249.out 12; have hcz35_0 : w32.cell? ⟨gb250, 0, none⟩ = some (.int .i64 a1_0) := CZ BK250.out 0; have hcz35_1 : w32.cell? ⟨gb250, 1, none⟩ = some (.int .i64 a1_1) := CZ BK250.out 1; have hcz35_2 : w32.cell? ⟨gb250, 2, none⟩ = some (.int .i64 a1_2) := CZ BK250.out 2; have hcz35_3 : w32.cell? ⟨gb250, 3, none⟩ = some (.int .i64 a1_3) := CZ BK250.out 3; have hcz35_4 : w32.cell? ⟨gb250, 4, none⟩ = some (.int .i64 a1_4) := CZ BK250.out 4; have hcz35_5 : w32.cell? ⟨gb250, 5, none⟩ = some (.int .i64 a1_5) := CZ BK250.out 5; have hcz35_6 : w32.cell? ⟨gb250, 6, none⟩ = some (.int .i64 a1_6) := CZ BK250.out 6; have hcz35_7 : w32.cell? ⟨gb250, 7, none⟩ = some (.int .i64 a1_7) := CZ BK250.out 7; have hcz35_8 : w32.cell? ⟨gb250, 8, none⟩ = some (.int .i64 a1_8) := CZ BK250.out 8; have hcz35_9 : w32.cell? ⟨gb250, 9, none⟩ = some (.bool a1_9) := CZ BK250.out 9; have hcz35_10 : w32.cell? ⟨gb250, 10, none⟩ = some (.int .i64 a1_10) := CZ BK250.out 10; have hcz35_11 : w32.cell? ⟨gb250, 11, none⟩ = some (.int .i64 a1_11) := CZ BK250.out 11; have hcz35_12 : w32.cell? ⟨gb250, 12, none⟩ = some (.int .i64 a1_12) := CZ BK250.out 12; have hfz35_0 := blk_frozen BK250.out 0; have hfz35_1 := blk_frozen BK250.out 1; have hfz35_2 := blk_frozen BK250.out 2; have hfz35_3 := blk_frozen BK250.out 3; have hfz35_4 := blk_frozen BK250.out 4; have hfz35_5 := blk_frozen BK250.out 5; have hfz35_6 := blk_frozen BK250.out 6; have hfz35_7 := blk_frozen BK250.out 7; have hfz35_8 := blk_frozen BK250.out 8; have hfz35_9 := blk_frozen BK250.out 9; have hfz35_10 := blk_frozen BK250.out 10; have hfz35_11 := blk_frozen BK250.out 11; have hfz35_12 := blk_frozen BK250.out 12) | ((with_reducible refine gate_callee (f := 74) rfl ?_); refine goesL_ (some 9) rfl rfl Try.func74 (by kernel_rfl) rfl #[.agg #[.int .i64 a0_0, .int .i64 a0_1, .int .i64 a0_2, .int .i64 a0_3, .int .i64 a0_4, .int .i64 a0_5, .int .i64 a0_6, .int .i64 a0_7, .int .i64 a0_8, .bool a0_9, .int .i64 a0_10], .agg #[.int .i64 a1_0, .int .i64 a1_1, .int .i64 a1_2, .int .i64 a1_3, .int .i64 a1_4, .int .i64 a1_5, .int .i64 a1_6, .int .i64 a1_7, .int .i64 a1_8, .bool a1_9, .int .i64 a1_10]] rfl (MA) ?_; (with_reducible refine (laws_eqTask.calls a0_0 a0_1 a0_2 a0_3 a0_4 a0_5 a0_6 a0_7 a0_8 a0_9 a0_10 a1_0 a1_1 a1_2 a1_3 a1_4 a1_5 a1_6 a1_7 a1_8 a1_9 a1_10 false _ A3.out).mono ?_); rintro e w36 ⟨rfl, hb⟩; refine ⟨_, rfl, ?_⟩; replace BK249 := BB BK249.out hb; replace BK250 := BB BK250.out hb; replace HB := Aside0.mk (below_step (BL) hb); (try clear hb); (try clear hb2); (try clear hk); (try clear hi)))
  go_ret
  exact ⟨EE, BL⟩
 subst c4
 have H1 : (if a0_11 = a1_11 then (if a0_12 = a1_12 then (some true) else (some false)) else (some false)) = some r := by rw [if_pos rfl] at H; exact H
 clear H
 have H := H1
 clear H1
 by_cases c5 : a0_11 = a1_11; rotate_left
 ·
  rw [if_neg c5] at H; have c5b0 : (a0_11 == a1_11) = false := beq_eq_false_iff_ne.mpr c5; have c5b1 : (a0_11 != a1_11) = true := bne_iff_ne.mpr c5; obtain rfl := Option.some.inj H
  go_enter Try.func64, Try.ntmps64
  go_wp2_with (first | ((with_reducible refine gate_dst (N := 2) rfl ?_); refine bE 2 #[.int .i64 a0_0, .int .i64 a0_1, .int .i64 a0_2, .int .i64 a0_3, .int .i64 a0_4, .int .i64 a0_5, .int .i64 a0_6, .int .i64 a0_7, .int .i64 a0_8, .bool a0_9, .int .i64 a0_10, .int .i64 a0_11, .int .i64 a0_12] 67 ?_; intro gb249 hg w23 hbox hb; have BK249 := Aside0.mk (hbox); have GW249 : Aside0 (w.heap.size ≤ gb249) := GS; have GE249 := GW249; replace HB := Aside0.mk (below_step (BL) hb); clear hb hbox hg) | ((with_reducible refine gate_dst (N := 3) rfl ?_); refine bE 3 #[.int .i64 a1_0, .int .i64 a1_1, .int .i64 a1_2, .int .i64 a1_3, .int .i64 a1_4, .int .i64 a1_5, .int .i64 a1_6, .int .i64 a1_7, .int .i64 a1_8, .bool a1_9, .int .i64 a1_10, .int .i64 a1_11, .int .i64 a1_12] 67 ?_; intro gb250 hg w24 hbox hb; have BK250 := Aside0.mk (hbox); have GW250 : Aside0 (w.heap.size ≤ gb250) := GS; have GE250 := GW250; have NB249_250 := NL BK249.out hg; have NB250_249 := NG BK249.out hg; replace BK249 := BB BK249.out hb; replace HB := Aside0.mk (below_step (BL) hb); clear hb hbox hg; have hnb25 := NB249_250.out; have hnc25 := NB250_249.out; have hcz26_0 : w24.cell? ⟨gb249, 0, none⟩ = some (.int .i64 a0_0) := CZ BK249.out 0; have hcz26_1 : w24.cell? ⟨gb249, 1, none⟩ = some (.int .i64 a0_1) := CZ BK249.out 1; have hcz26_2 : w24.cell? ⟨gb249, 2, none⟩ = some (.int .i64 a0_2) := CZ BK249.out 2; have hcz26_3 : w24.cell? ⟨gb249, 3, none⟩ = some (.int .i64 a0_3) := CZ BK249.out 3; have hcz26_4 : w24.cell? ⟨gb249, 4, none⟩ = some (.int .i64 a0_4) := CZ BK249.out 4; have hcz26_5 : w24.cell? ⟨gb249, 5, none⟩ = some (.int .i64 a0_5) := CZ BK249.out 5; have hcz26_6 : w24.cell? ⟨gb249, 6, none⟩ = some (.int .i64 a0_6) := CZ BK249.out 6; have hcz26_7 : w24.cell? ⟨gb249, 7, none⟩ = some (.int .i64 a0_7) := CZ BK249.out 7; have hcz26_8 : w24.cell? ⟨gb249, 8, none⟩ = some (.int .i64 a0_8) := CZ BK249.out 8; have hcz26_9 : w24.cell? ⟨gb249, 9, none⟩ = some (.bool a0_9) := CZ BK249.out 9; have hcz26_10 : w24.cell? ⟨gb249, 10, none⟩ = some (.int .i64 a0_10) := CZ BK249.out 10; have hcz26_11 : w24.cell? ⟨gb249, 11, none⟩ = some (.int .i64 a0_11) := CZ BK249.out 11; have hcz26_12 : w24.cell? ⟨gb249, 12, none⟩ = some (.int .i64 a0_12) := CZ BK249.out 12; have hfz26_0 := blk_frozen BK249.out 0; have hfz26_1 := blk_frozen BK249.out 1; have hfz26_2 := blk_frozen BK249.out 2; have hfz26_3 := blk_frozen BK249.out 3; have hfz26_4 := blk_frozen BK249.out 4; have hfz26_5 := blk_frozen BK249.out 5; have hfz26_6 := blk_frozen BK249.out 6; have hfz26_7 := blk_frozen BK249.out 7; have hfz26_8 := blk_frozen BK249.out 8; have hfz26_9 := blk_frozen BK249.out 9; have hfz26_10 := blk_frozen BK249.out 10; have hfz26_11 := blk_frozen BK249.out 11; have hfz26_12 := blk_frozen BK249.out 12; have hcz27_0 : w24.cell? ⟨gb250, 0, none⟩ = some (.int .i64 a1_0) := CZ BK250.out 0; have hcz27_1 : w24.cell? ⟨gb250, 1, none⟩ = some (.int .i64 a1_1) := CZ BK250.out 1; have hcz27_2 : w24.cell? ⟨gb250, 2, none⟩ = some (.int .i64 a1_2) := CZ BK250.out 2; have hcz27_3 : w24.cell? ⟨gb250, 3, none⟩ = some (.int .i64 a1_3) := CZ BK250.out 3; have hcz27_4 : w24.cell? ⟨gb250, 4, none⟩ = some (.int .i64 a1_4) := CZ BK250.out 4; have hcz27_5 : w24.cell? ⟨gb250, 5, none⟩ = some (.int .i64 a1_5) := CZ BK250.out 5; have hcz27_6 : w24.cell? ⟨gb250, 6, none⟩ = some (.int .i64 a1_6) := CZ BK250.out 6; have hcz27_7 : w24.cell? ⟨gb250, 7, none⟩ = some (.int .i64 a1_7) := CZ BK250.out 7; have hcz27_8 : w24.cell? ⟨gb250, 8, none⟩ = some (.int .i64 a1_8) := CZ BK250.out 8; have hcz27_9 : w24.cell? ⟨gb250, 9, none⟩ = some (.bool a1_9) := CZ BK250.out 9; have hcz27_10 : w24.cell? ⟨gb250, 10, none⟩ = some (.int .i64 a1_10) := CZ BK250.out 10; have hcz27_11 : w24.cell? ⟨gb250, 11, none⟩ = some (.int .i64 a1_11) := CZ BK250.out 11; have hcz27_12 : w24.cell? ⟨gb250, 12, none⟩ = some (.int .i64 a1_12) := CZ BK250.out 12; have hfz27_0 := blk_frozen BK250.out 0; have hfz27_1 := blk_frozen BK250.out 1; have hfz27_2 := blk_frozen BK250.out 2; have hfz27_3 := blk_frozen BK250.out 3; have hfz27_4 := blk_frozen BK250.out 4; have hfz27_5 := blk_frozen BK250.out 5; have hfz27_6 := blk_frozen BK250.out 6; have hfz27_7 := blk_frozen BK250.out 7; have hfz27_8 := blk_frozen BK250.out 8; have hfz27_9 := blk_frozen BK250.out 9; have hfz27_10 := blk_frozen BK250.out 10; have hfz27_11 := blk_frozen BK250.out 11; have hfz27_12 := blk_frozen BK250.out 12) | ((with_reducible refine gate_callee (f := 74) rfl ?_); refine goesL_ (some 9) rfl rfl Try.func74 (by kernel_rfl) rfl #[.agg #[.int .i64 a0_0, .int .i64 a0_1, .int .i64 a0_2, .int .i64 a0_3, .int .i64 a0_4, .int .i64 a0_5, .int .i64 a0_6, .int .i64 a0_7, .int .i64 a0_8, .bool a0_9, .int .i64 a0_10], .agg #[.int .i64 a1_0, .int .i64 a1_1, .int .i64 a1_2, .int .i64 a1_3, .int .i64 a1_4, .int .i64 a1_5, .int .i64 a1_6, .int .i64 a1_7, .int .i64 a1_8, .bool a1_9, .int .i64 a1_10]] rfl (MA) ?_; (with_reducible refine (laws_eqTask.calls a0_0 a0_1 a0_2 a0_3 a0_4 a0_5 a0_6 a0_7 a0_8 a0_9 a0_10 a1_0 a1_1 a1_2 a1_3 a1_4 a1_5 a1_6 a1_7 a1_8 a1_9 a1_10 true _ A3.out).mono ?_); rintro e w28 ⟨rfl, hb⟩; refine ⟨_, rfl, ?_⟩; replace BK249 := BB BK249.out hb; replace BK250 := BB BK250.out hb; replace HB := Aside0.mk (below_step (BL) hb); (try clear hb); (try clear hb2); (try clear hk); (try clear hi); have hcz29_0 : w28.cell? ⟨gb249, 0, none⟩ = some (.int .i64 a0_0) := CZ BK249.out 0; have hcz29_1 : w28.cell? ⟨gb249, 1, none⟩ = some (.int .i64 a0_1) := CZ BK249.out 1; have hcz29_2 : w28.cell? ⟨gb249, 2, none⟩ = some (.int .i64 a0_2) := CZ BK249.out 2; have hcz29_3 : w28.cell? ⟨gb249, 3, none⟩ = some (.int .i64 a0_3) := CZ BK249.out 3; have hcz29_4 : w28.cell? ⟨gb249, 4, none⟩ = some (.int .i64 a0_4) := CZ BK249.out 4; have hcz29_5 : w28.cell? ⟨gb249, 5, none⟩ = some (.int .i64 a0_5) := CZ BK249.out 5; have hcz29_6 : w28.cell? ⟨gb249, 6, none⟩ = some (.int .i64 a0_6) := CZ BK249.out 6; have hcz29_7 : w28.cell? ⟨gb249, 7, none⟩ = some (.int .i64 a0_7) := CZ BK249.out 7; have hcz29_8 : w28.cell? ⟨gb249, 8, none⟩ = some (.int .i64 a0_8) := CZ BK249.out 8; have hcz29_9 : w28.cell? ⟨gb249, 9, none⟩ = some (.bool a0_9) := CZ BK249.out 9; have hcz29_10 : w28.cell? ⟨gb249, 10, none⟩ = some (.int .i64 a0_10) := CZ BK249.out 10; have hcz29_11 : w28.cell? ⟨gb249, 11, none⟩ = some (.int .i64 a0_11) := CZ BK249.out 11; have hcz29_12 : w28.cell? ⟨gb249, 12, none⟩ = some (.int .i64 a0_12) := CZ BK249.out 12; have hfz29_0 := blk_frozen BK249.out 0; have hfz29_1 := blk_frozen BK249.out 1; have hfz29_2 := blk_frozen BK249.out 2; have hfz29_3 := blk_frozen BK249.out 3; have hfz29_4 := blk_frozen BK249.out 4; have hfz29_5 := blk_frozen BK249.out 5; have hfz29_6 := blk_frozen BK249.out 6; have hfz29_7 := blk_frozen BK249.out 7; have hfz29_8 := blk_frozen BK249.out 8; have hfz29_9 := blk_frozen BK249.out 9; have hfz29_10 := blk_frozen BK249.out 10; have hfz29_11 := blk_frozen BK249.out 11; have hfz29_12 := blk_frozen BK249.out 12; have hcz30_0 : w28.cell? ⟨gb250, 0, none⟩ = some (.int .i64 a1_0) := CZ BK250.out 0; have hcz30_1 : w28.cell? ⟨gb250, 1, none⟩ = some (.int .i64 a1_1) := CZ BK250.out 1; have hcz30_2 : w28.cell? ⟨gb250, 2, none⟩ = some (.int .i64 a1_2) := CZ BK250.out 2; have hcz30_3 : w28.cell? ⟨gb250, 3, none⟩ = some (.int .i64 a1_3) := CZ BK250.out 3; have hcz30_4 : w28.cell? ⟨gb250, 4, none⟩ = some (.int .i64 a1_4) := CZ BK250.out 4; have hcz30_5 : w28.cell? ⟨gb250, 5, none⟩ = some (.int .i64 a1_5) := CZ BK250.out 5; have hcz30_6 : w28.cell? ⟨gb250, 6, none⟩ = some (.int .i64 a1_6) := CZ BK250.out 6; have hcz30_7 : w28.cell? ⟨gb250, 7, none⟩ = some (.int .i64 a1_7) := CZ BK250.out 7; have hcz30_8 : w28.cell? ⟨gb250, 8, none⟩ = some (.int .i64 a1_8) := CZ BK250.out 8; have hcz30_9 : w28.cell? ⟨gb250, 9, none⟩ = some (.bool a1_9) := CZ BK250.out 9; have hcz30_10 : w28.cell? ⟨gb250, 10, none⟩ = some (.int .i64 a1_10) := CZ BK250.out 10; have hcz30_11 : w28.cell? ⟨gb250, 11, none⟩ = some (.int .i64 a1_11) := CZ BK250.out 11; have hcz30_12 : w28.cell? ⟨gb250, 12, none⟩ = some (.int .i64 a1_12) := CZ BK250.out 12; have hfz30_0 := blk_frozen BK250.out 0; have hfz30_1 := blk_frozen BK250.out 1; have hfz30_2 := blk_frozen BK250.out 2; have hfz30_3 := blk_frozen BK250.out 3; have hfz30_4 := blk_frozen BK250.out 4; have hfz30_5 := blk_frozen BK250.out 5; have hfz30_6 := blk_frozen BK250.out 6; have hfz30_7 := blk_frozen BK250.out 7; have hfz30_8 := blk_frozen BK250.out 8; have hfz30_9 := blk_frozen BK250.out 9; have hfz30_10 := blk_frozen BK250.out 10; have hfz30_11 := blk_frozen BK250.out 11; have hfz30_12 := blk_frozen BK250.out 12))
  go_ret
  exact ⟨EE, BL⟩
 rw [if_pos c5] at H
 have c5b0 : (a0_11 == a1_11) = true := beq_iff_eq.mpr c5
 have c5b1 : (a0_11 != a1_11) = false := bne_eq_false_iff_eq.mpr c5
 clear c5
 by_cases c6 : a0_12 = a1_12; rotate_left
 ·
  rw [if_neg c6] at H; have c6b0 : (a0_12 == a1_12) = false := beq_eq_false_iff_ne.mpr c6; have c6b1 : (a0_12 != a1_12) = true := bne_iff_ne.mpr c6; obtain rfl := Option.some.inj H
  go_enter Try.func64, Try.ntmps64
  go_wp2_with (first | ((with_reducible refine gate_dst (N := 2) rfl ?_); refine bE 2 #[.int .i64 a0_0, .int .i64 a0_1, .int .i64 a0_2, .int .i64 a0_3, .int .i64 a0_4, .int .i64 a0_5, .int .i64 a0_6, .int .i64 a0_7, .int .i64 a0_8, .bool a0_9, .int .i64 a0_10, .int .i64 a0_11, .int .i64 a0_12] 67 ?_; intro gb249 hg w15 hbox hb; have BK249 := Aside0.mk (hbox); have GW249 : Aside0 (w.heap.size ≤ gb249) := GS; have GE249 := GW249; replace HB := Aside0.mk (below_step (BL) hb); clear hb hbox hg) | ((with_reducible refine gate_dst (N := 3) rfl ?_); refine bE 3 #[.int .i64 a1_0, .int .i64 a1_1, .int .i64 a1_2, .int .i64 a1_3, .int .i64 a1_4, .int .i64 a1_5, .int .i64 a1_6, .int .i64 a1_7, .int .i64 a1_8, .bool a1_9, .int .i64 a1_10, .int .i64 a1_11, .int .i64 a1_12] 67 ?_; intro gb250 hg w16 hbox hb; have BK250 := Aside0.mk (hbox); have GW250 : Aside0 (w.heap.size ≤ gb250) := GS; have GE250 := GW250; have NB249_250 := NL BK249.out hg; have NB250_249 := NG BK249.out hg; replace BK249 := BB BK249.out hb; replace HB := Aside0.mk (below_step (BL) hb); clear hb hbox hg; have hnb17 := NB249_250.out; have hnc17 := NB250_249.out; have hcz18_0 : w16.cell? ⟨gb249, 0, none⟩ = some (.int .i64 a0_0) := CZ BK249.out 0; have hcz18_1 : w16.cell? ⟨gb249, 1, none⟩ = some (.int .i64 a0_1) := CZ BK249.out 1; have hcz18_2 : w16.cell? ⟨gb249, 2, none⟩ = some (.int .i64 a0_2) := CZ BK249.out 2; have hcz18_3 : w16.cell? ⟨gb249, 3, none⟩ = some (.int .i64 a0_3) := CZ BK249.out 3; have hcz18_4 : w16.cell? ⟨gb249, 4, none⟩ = some (.int .i64 a0_4) := CZ BK249.out 4; have hcz18_5 : w16.cell? ⟨gb249, 5, none⟩ = some (.int .i64 a0_5) := CZ BK249.out 5; have hcz18_6 : w16.cell? ⟨gb249, 6, none⟩ = some (.int .i64 a0_6) := CZ BK249.out 6; have hcz18_7 : w16.cell? ⟨gb249, 7, none⟩ = some (.int .i64 a0_7) := CZ BK249.out 7; have hcz18_8 : w16.cell? ⟨gb249, 8, none⟩ = some (.int .i64 a0_8) := CZ BK249.out 8; have hcz18_9 : w16.cell? ⟨gb249, 9, none⟩ = some (.bool a0_9) := CZ BK249.out 9; have hcz18_10 : w16.cell? ⟨gb249, 10, none⟩ = some (.int .i64 a0_10) := CZ BK249.out 10; have hcz18_11 : w16.cell? ⟨gb249, 11, none⟩ = some (.int .i64 a0_11) := CZ BK249.out 11; have hcz18_12 : w16.cell? ⟨gb249, 12, none⟩ = some (.int .i64 a0_12) := CZ BK249.out 12; have hfz18_0 := blk_frozen BK249.out 0; have hfz18_1 := blk_frozen BK249.out 1; have hfz18_2 := blk_frozen BK249.out 2; have hfz18_3 := blk_frozen BK249.out 3; have hfz18_4 := blk_frozen BK249.out 4; have hfz18_5 := blk_frozen BK249.out 5; have hfz18_6 := blk_frozen BK249.out 6; have hfz18_7 := blk_frozen BK249.out 7; have hfz18_8 := blk_frozen BK249.out 8; have hfz18_9 := blk_frozen BK249.out 9; have hfz18_10 := blk_frozen BK249.out 10; have hfz18_11 := blk_frozen BK249.out 11; have hfz18_12 := blk_frozen BK249.out 12; have hcz19_0 : w16.cell? ⟨gb250, 0, none⟩ = some (.int .i64 a1_0) := CZ BK250.out 0; have hcz19_1 : w16.cell? ⟨gb250, 1, none⟩ = some (.int .i64 a1_1) := CZ BK250.out 1; have hcz19_2 : w16.cell? ⟨gb250, 2, none⟩ = some (.int .i64 a1_2) := CZ BK250.out 2; have hcz19_3 : w16.cell? ⟨gb250, 3, none⟩ = some (.int .i64 a1_3) := CZ BK250.out 3; have hcz19_4 : w16.cell? ⟨gb250, 4, none⟩ = some (.int .i64 a1_4) := CZ BK250.out 4; have hcz19_5 : w16.cell? ⟨gb250, 5, none⟩ = some (.int .i64 a1_5) := CZ BK250.out 5; have hcz19_6 : w16.cell? ⟨gb250, 6, none⟩ = some (.int .i64 a1_6) := CZ BK250.out 6; have hcz19_7 : w16.cell? ⟨gb250, 7, none⟩ = some (.int .i64 a1_7) := CZ BK250.out 7; have hcz19_8 : w16.cell? ⟨gb250, 8, none⟩ = some (.int .i64 a1_8) := CZ BK250.out 8; have hcz19_9 : w16.cell? ⟨gb250, 9, none⟩ = some (.bool a1_9) := CZ BK250.out 9; have hcz19_10 : w16.cell? ⟨gb250, 10, none⟩ = some (.int .i64 a1_10) := CZ BK250.out 10; have hcz19_11 : w16.cell? ⟨gb250, 11, none⟩ = some (.int .i64 a1_11) := CZ BK250.out 11; have hcz19_12 : w16.cell? ⟨gb250, 12, none⟩ = some (.int .i64 a1_12) := CZ BK250.out 12; have hfz19_0 := blk_frozen BK250.out 0; have hfz19_1 := blk_frozen BK250.out 1; have hfz19_2 := blk_frozen BK250.out 2; have hfz19_3 := blk_frozen BK250.out 3; have hfz19_4 := blk_frozen BK250.out 4; have hfz19_5 := blk_frozen BK250.out 5; have hfz19_6 := blk_frozen BK250.out 6; have hfz19_7 := blk_frozen BK250.out 7; have hfz19_8 := blk_frozen BK250.out 8; have hfz19_9 := blk_frozen BK250.out 9; have hfz19_10 := blk_frozen BK250.out 10; have hfz19_11 := blk_frozen BK250.out 11; have hfz19_12 := blk_frozen BK250.out 12) | ((with_reducible refine gate_callee (f := 74) rfl ?_); refine goesL_ (some 9) rfl rfl Try.func74 (by kernel_rfl) rfl #[.agg #[.int .i64 a0_0, .int .i64 a0_1, .int .i64 a0_2, .int .i64 a0_3, .int .i64 a0_4, .int .i64 a0_5, .int .i64 a0_6, .int .i64 a0_7, .int .i64 a0_8, .bool a0_9, .int .i64 a0_10], .agg #[.int .i64 a1_0, .int .i64 a1_1, .int .i64 a1_2, .int .i64 a1_3, .int .i64 a1_4, .int .i64 a1_5, .int .i64 a1_6, .int .i64 a1_7, .int .i64 a1_8, .bool a1_9, .int .i64 a1_10]] rfl (MA) ?_; (with_reducible refine (laws_eqTask.calls a0_0 a0_1 a0_2 a0_3 a0_4 a0_5 a0_6 a0_7 a0_8 a0_9 a0_10 a1_0 a1_1 a1_2 a1_3 a1_4 a1_5 a1_6 a1_7 a1_8 a1_9 a1_10 true _ A3.out).mono ?_); rintro e w20 ⟨rfl, hb⟩; refine ⟨_, rfl, ?_⟩; replace BK249 := BB BK249.out hb; replace BK250 := BB BK250.out hb; replace HB := Aside0.mk (below_step (BL) hb); (try clear hb); (try clear hb2); (try clear hk); (try clear hi); have hcz21_0 : w20.cell? ⟨gb249, 0, none⟩ = some (.int .i64 a0_0) := CZ BK249.out 0; have hcz21_1 : w20.cell? ⟨gb249, 1, none⟩ = some (.int .i64 a0_1) := CZ BK249.out 1; have hcz21_2 : w20.cell? ⟨gb249, 2, none⟩ = some (.int .i64 a0_2) := CZ BK249.out 2; have hcz21_3 : w20.cell? ⟨gb249, 3, none⟩ = some (.int .i64 a0_3) := CZ BK249.out 3; have hcz21_4 : w20.cell? ⟨gb249, 4, none⟩ = some (.int .i64 a0_4) := CZ BK249.out 4; have hcz21_5 : w20.cell? ⟨gb249, 5, none⟩ = some (.int .i64 a0_5) := CZ BK249.out 5; have hcz21_6 : w20.cell? ⟨gb249, 6, none⟩ = some (.int .i64 a0_6) := CZ BK249.out 6; have hcz21_7 : w20.cell? ⟨gb249, 7, none⟩ = some (.int .i64 a0_7) := CZ BK249.out 7; have hcz21_8 : w20.cell? ⟨gb249, 8, none⟩ = some (.int .i64 a0_8) := CZ BK249.out 8; have hcz21_9 : w20.cell? ⟨gb249, 9, none⟩ = some (.bool a0_9) := CZ BK249.out 9; have hcz21_10 : w20.cell? ⟨gb249, 10, none⟩ = some (.int .i64 a0_10) := CZ BK249.out 10; have hcz21_11 : w20.cell? ⟨gb249, 11, none⟩ = some (.int .i64 a0_11) := CZ BK249.out 11; have hcz21_12 : w20.cell? ⟨gb249, 12, none⟩ = some (.int .i64 a0_12) := CZ BK249.out 12; have hfz21_0 := blk_frozen BK249.out 0; have hfz21_1 := blk_frozen BK249.out 1; have hfz21_2 := blk_frozen BK249.out 2; have hfz21_3 := blk_frozen BK249.out 3; have hfz21_4 := blk_frozen BK249.out 4; have hfz21_5 := blk_frozen BK249.out 5; have hfz21_6 := blk_frozen BK249.out 6; have hfz21_7 := blk_frozen BK249.out 7; have hfz21_8 := blk_frozen BK249.out 8; have hfz21_9 := blk_frozen BK249.out 9; have hfz21_10 := blk_frozen BK249.out 10; have hfz21_11 := blk_frozen BK249.out 11; have hfz21_12 := blk_frozen BK249.out 12; have hcz22_0 : w20.cell? ⟨gb250, 0, none⟩ = some (.int .i64 a1_0) := CZ BK250.out 0; have hcz22_1 : w20.cell? ⟨gb250, 1, none⟩ = some (.int .i64 a1_1) := CZ BK250.out 1; have hcz22_2 : w20.cell? ⟨gb250, 2, none⟩ = some (.int .i64 a1_2) := CZ BK250.out 2; have hcz22_3 : w20.cell? ⟨gb250, 3, none⟩ = some (.int .i64 a1_3) := CZ BK250.out 3; have hcz22_4 : w20.cell? ⟨gb250, 4, none⟩ = some (.int .i64 a1_4) := CZ BK250.out 4; have hcz22_5 : w20.cell? ⟨gb250, 5, none⟩ = some (.int .i64 a1_5) := CZ BK250.out 5; have hcz22_6 : w20.cell? ⟨gb250, 6, none⟩ = some (.int .i64 a1_6) := CZ BK250.out 6; have hcz22_7 : w20.cell? ⟨gb250, 7, none⟩ = some (.int .i64 a1_7) := CZ BK250.out 7; have hcz22_8 : w20.cell? ⟨gb250, 8, none⟩ = some (.int .i64 a1_8) := CZ BK250.out 8; have hcz22_9 : w20.cell? ⟨gb250, 9, none⟩ = some (.bool a1_9) := CZ BK250.out 9; have hcz22_10 : w20.cell? ⟨gb250, 10, none⟩ = some (.int .i64 a1_10) := CZ BK250.out 10; have hcz22_11 : w20.cell? ⟨gb250, 11, none⟩ = some (.int .i64 a1_11) := CZ BK250.out 11; have hcz22_12 : w20.cell? ⟨gb250, 12, none⟩ = some (.int .i64 a1_12) := CZ BK250.out 12; have hfz22_0 := blk_frozen BK250.out 0; have hfz22_1 := blk_frozen BK250.out 1; have hfz22_2 := blk_frozen BK250.out 2; have hfz22_3 := blk_frozen BK250.out 3; have hfz22_4 := blk_frozen BK250.out 4; have hfz22_5 := blk_frozen BK250.out 5; have hfz22_6 := blk_frozen BK250.out 6; have hfz22_7 := blk_frozen BK250.out 7; have hfz22_8 := blk_frozen BK250.out 8; have hfz22_9 := blk_frozen BK250.out 9; have hfz22_10 := blk_frozen BK250.out 10; have hfz22_11 := blk_frozen BK250.out 11; have hfz22_12 := blk_frozen BK250.out 12))
  go_ret
  exact ⟨EE, BL⟩
 rw [if_pos c6] at H
 have c6b0 : (a0_12 == a1_12) = true := beq_iff_eq.mpr c6
 have c6b1 : (a0_12 != a1_12) = false := bne_eq_false_iff_eq.mpr c6
 clear c6
 obtain rfl := Option.some.inj H
 go_enter Try.func64, Try.ntmps64
 go_wp2_with (first | ((with_reducible refine gate_dst (N := 2) rfl ?_); refine bE 2 #[.int .i64 a0_0, .int .i64 a0_1, .int .i64 a0_2, .int .i64 a0_3, .int .i64 a0_4, .int .i64 a0_5, .int .i64 a0_6, .int .i64 a0_7, .int .i64 a0_8, .bool a0_9, .int .i64 a0_10, .int .i64 a0_11, .int .i64 a0_12] 67 ?_; intro gb249 hg w7 hbox hb; have BK249 := Aside0.mk (hbox); have GW249 : Aside0 (w.heap.size ≤ gb249) := GS; have GE249 := GW249; replace HB := Aside0.mk (below_step (BL) hb); clear hb hbox hg) | ((with_reducible refine gate_dst (N := 3) rfl ?_); refine bE 3 #[.int .i64 a1_0, .int .i64 a1_1, .int .i64 a1_2, .int .i64 a1_3, .int .i64 a1_4, .int .i64 a1_5, .int .i64 a1_6, .int .i64 a1_7, .int .i64 a1_8, .bool a1_9, .int .i64 a1_10, .int .i64 a1_11, .int .i64 a1_12] 67 ?_; intro gb250 hg w8 hbox hb; have BK250 := Aside0.mk (hbox); have GW250 : Aside0 (w.heap.size ≤ gb250) := GS; have GE250 := GW250; have NB249_250 := NL BK249.out hg; have NB250_249 := NG BK249.out hg; replace BK249 := BB BK249.out hb; replace HB := Aside0.mk (below_step (BL) hb); clear hb hbox hg; have hnb9 := NB249_250.out; have hnc9 := NB250_249.out; have hcz10_0 : w8.cell? ⟨gb249, 0, none⟩ = some (.int .i64 a0_0) := CZ BK249.out 0; have hcz10_1 : w8.cell? ⟨gb249, 1, none⟩ = some (.int .i64 a0_1) := CZ BK249.out 1; have hcz10_2 : w8.cell? ⟨gb249, 2, none⟩ = some (.int .i64 a0_2) := CZ BK249.out 2; have hcz10_3 : w8.cell? ⟨gb249, 3, none⟩ = some (.int .i64 a0_3) := CZ BK249.out 3; have hcz10_4 : w8.cell? ⟨gb249, 4, none⟩ = some (.int .i64 a0_4) := CZ BK249.out 4; have hcz10_5 : w8.cell? ⟨gb249, 5, none⟩ = some (.int .i64 a0_5) := CZ BK249.out 5; have hcz10_6 : w8.cell? ⟨gb249, 6, none⟩ = some (.int .i64 a0_6) := CZ BK249.out 6; have hcz10_7 : w8.cell? ⟨gb249, 7, none⟩ = some (.int .i64 a0_7) := CZ BK249.out 7; have hcz10_8 : w8.cell? ⟨gb249, 8, none⟩ = some (.int .i64 a0_8) := CZ BK249.out 8; have hcz10_9 : w8.cell? ⟨gb249, 9, none⟩ = some (.bool a0_9) := CZ BK249.out 9; have hcz10_10 : w8.cell? ⟨gb249, 10, none⟩ = some (.int .i64 a0_10) := CZ BK249.out 10; have hcz10_11 : w8.cell? ⟨gb249, 11, none⟩ = some (.int .i64 a0_11) := CZ BK249.out 11; have hcz10_12 : w8.cell? ⟨gb249, 12, none⟩ = some (.int .i64 a0_12) := CZ BK249.out 12; have hfz10_0 := blk_frozen BK249.out 0; have hfz10_1 := blk_frozen BK249.out 1; have hfz10_2 := blk_frozen BK249.out 2; have hfz10_3 := blk_frozen BK249.out 3; have hfz10_4 := blk_frozen BK249.out 4; have hfz10_5 := blk_frozen BK249.out 5; have hfz10_6 := blk_frozen BK249.out 6; have hfz10_7 := blk_frozen BK249.out 7; have hfz10_8 := blk_frozen BK249.out 8; have hfz10_9 := blk_frozen BK249.out 9; have hfz10_10 := blk_frozen BK249.out 10; have hfz10_11 := blk_frozen BK249.out 11; have hfz10_12 := blk_frozen BK249.out 12; have hcz11_0 : w8.cell? ⟨gb250, 0, none⟩ = some (.int .i64 a1_0) := CZ BK250.out 0; have hcz11_1 : w8.cell? ⟨gb250, 1, none⟩ = some (.int .i64 a1_1) := CZ BK250.out 1; have hcz11_2 : w8.cell? ⟨gb250, 2, none⟩ = some (.int .i64 a1_2) := CZ BK250.out 2; have hcz11_3 : w8.cell? ⟨gb250, 3, none⟩ = some (.int .i64 a1_3) := CZ BK250.out 3; have hcz11_4 : w8.cell? ⟨gb250, 4, none⟩ = some (.int .i64 a1_4) := CZ BK250.out 4; have hcz11_5 : w8.cell? ⟨gb250, 5, none⟩ = some (.int .i64 a1_5) := CZ BK250.out 5; have hcz11_6 : w8.cell? ⟨gb250, 6, none⟩ = some (.int .i64 a1_6) := CZ BK250.out 6; have hcz11_7 : w8.cell? ⟨gb250, 7, none⟩ = some (.int .i64 a1_7) := CZ BK250.out 7; have hcz11_8 : w8.cell? ⟨gb250, 8, none⟩ = some (.int .i64 a1_8) := CZ BK250.out 8; have hcz11_9 : w8.cell? ⟨gb250, 9, none⟩ = some (.bool a1_9) := CZ BK250.out 9; have hcz11_10 : w8.cell? ⟨gb250, 10, none⟩ = some (.int .i64 a1_10) := CZ BK250.out 10; have hcz11_11 : w8.cell? ⟨gb250, 11, none⟩ = some (.int .i64 a1_11) := CZ BK250.out 11; have hcz11_12 : w8.cell? ⟨gb250, 12, none⟩ = some (.int .i64 a1_12) := CZ BK250.out 12; have hfz11_0 := blk_frozen BK250.out 0; have hfz11_1 := blk_frozen BK250.out 1; have hfz11_2 := blk_frozen BK250.out 2; have hfz11_3 := blk_frozen BK250.out 3; have hfz11_4 := blk_frozen BK250.out 4; have hfz11_5 := blk_frozen BK250.out 5; have hfz11_6 := blk_frozen BK250.out 6; have hfz11_7 := blk_frozen BK250.out 7; have hfz11_8 := blk_frozen BK250.out 8; have hfz11_9 := blk_frozen BK250.out 9; have hfz11_10 := blk_frozen BK250.out 10; have hfz11_11 := blk_frozen BK250.out 11; have hfz11_12 := blk_frozen BK250.out 12) | ((with_reducible refine gate_callee (f := 74) rfl ?_); refine goesL_ (some 9) rfl rfl Try.func74 (by kernel_rfl) rfl #[.agg #[.int .i64 a0_0, .int .i64 a0_1, .int .i64 a0_2, .int .i64 a0_3, .int .i64 a0_4, .int .i64 a0_5, .int .i64 a0_6, .int .i64 a0_7, .int .i64 a0_8, .bool a0_9, .int .i64 a0_10], .agg #[.int .i64 a1_0, .int .i64 a1_1, .int .i64 a1_2, .int .i64 a1_3, .int .i64 a1_4, .int .i64 a1_5, .int .i64 a1_6, .int .i64 a1_7, .int .i64 a1_8, .bool a1_9, .int .i64 a1_10]] rfl (MA) ?_; (with_reducible refine (laws_eqTask.calls a0_0 a0_1 a0_2 a0_3 a0_4 a0_5 a0_6 a0_7 a0_8 a0_9 a0_10 a1_0 a1_1 a1_2 a1_3 a1_4 a1_5 a1_6 a1_7 a1_8 a1_9 a1_10 true _ A3.out).mono ?_); rintro e w12 ⟨rfl, hb⟩; refine ⟨_, rfl, ?_⟩; replace BK249 := BB BK249.out hb; replace BK250 := BB BK250.out hb; replace HB := Aside0.mk (below_step (BL) hb); (try clear hb); (try clear hb2); (try clear hk); (try clear hi); have hcz13_0 : w12.cell? ⟨gb249, 0, none⟩ = some (.int .i64 a0_0) := CZ BK249.out 0; have hcz13_1 : w12.cell? ⟨gb249, 1, none⟩ = some (.int .i64 a0_1) := CZ BK249.out 1; have hcz13_2 : w12.cell? ⟨gb249, 2, none⟩ = some (.int .i64 a0_2) := CZ BK249.out 2; have hcz13_3 : w12.cell? ⟨gb249, 3, none⟩ = some (.int .i64 a0_3) := CZ BK249.out 3; have hcz13_4 : w12.cell? ⟨gb249, 4, none⟩ = some (.int .i64 a0_4) := CZ BK249.out 4; have hcz13_5 : w12.cell? ⟨gb249, 5, none⟩ = some (.int .i64 a0_5) := CZ BK249.out 5; have hcz13_6 : w12.cell? ⟨gb249, 6, none⟩ = some (.int .i64 a0_6) := CZ BK249.out 6; have hcz13_7 : w12.cell? ⟨gb249, 7, none⟩ = some (.int .i64 a0_7) := CZ BK249.out 7; have hcz13_8 : w12.cell? ⟨gb249, 8, none⟩ = some (.int .i64 a0_8) := CZ BK249.out 8; have hcz13_9 : w12.cell? ⟨gb249, 9, none⟩ = some (.bool a0_9) := CZ BK249.out 9; have hcz13_10 : w12.cell? ⟨gb249, 10, none⟩ = some (.int .i64 a0_10) := CZ BK249.out 10; have hcz13_11 : w12.cell? ⟨gb249, 11, none⟩ = some (.int .i64 a0_11) := CZ BK249.out 11; have hcz13_12 : w12.cell? ⟨gb249, 12, none⟩ = some (.int .i64 a0_12) := CZ BK249.out 12; have hfz13_0 := blk_frozen BK249.out 0; have hfz13_1 := blk_frozen BK249.out 1; have hfz13_2 := blk_frozen BK249.out 2; have hfz13_3 := blk_frozen BK249.out 3; have hfz13_4 := blk_frozen BK249.out 4; have hfz13_5 := blk_frozen BK249.out 5; have hfz13_6 := blk_frozen BK249.out 6; have hfz13_7 := blk_frozen BK249.out 7; have hfz13_8 := blk_frozen BK249.out 8; have hfz13_9 := blk_frozen BK249.out 9; have hfz13_10 := blk_frozen BK249.out 10; have hfz13_11 := blk_frozen BK249.out 11; have hfz13_12 := blk_frozen BK249.out 12; have hcz14_0 : w12.cell? ⟨gb250, 0, none⟩ = some (.int .i64 a1_0) := CZ BK250.out 0; have hcz14_1 : w12.cell? ⟨gb250, 1, none⟩ = some (.int .i64 a1_1) := CZ BK250.out 1; have hcz14_2 : w12.cell? ⟨gb250, 2, none⟩ = some (.int .i64 a1_2) := CZ BK250.out 2; have hcz14_3 : w12.cell? ⟨gb250, 3, none⟩ = some (.int .i64 a1_3) := CZ BK250.out 3; have hcz14_4 : w12.cell? ⟨gb250, 4, none⟩ = some (.int .i64 a1_4) := CZ BK250.out 4; have hcz14_5 : w12.cell? ⟨gb250, 5, none⟩ = some (.int .i64 a1_5) := CZ BK250.out 5; have hcz14_6 : w12.cell? ⟨gb250, 6, none⟩ = some (.int .i64 a1_6) := CZ BK250.out 6; have hcz14_7 : w12.cell? ⟨gb250, 7, none⟩ = some (.int .i64 a1_7) := CZ BK250.out 7; have hcz14_8 : w12.cell? ⟨gb250, 8, none⟩ = some (.int .i64 a1_8) := CZ BK250.out 8; have hcz14_9 : w12.cell? ⟨gb250, 9, none⟩ = some (.bool a1_9) := CZ BK250.out 9; have hcz14_10 : w12.cell? ⟨gb250, 10, none⟩ = some (.int .i64 a1_10) := CZ BK250.out 10; have hcz14_11 : w12.cell? ⟨gb250, 11, none⟩ = some (.int .i64 a1_11) := CZ BK250.out 11; have hcz14_12 : w12.cell? ⟨gb250, 12, none⟩ = some (.int .i64 a1_12) := CZ BK250.out 12; have hfz14_0 := blk_frozen BK250.out 0; have hfz14_1 := blk_frozen BK250.out 1; have hfz14_2 := blk_frozen BK250.out 2; have hfz14_3 := blk_frozen BK250.out 3; have hfz14_4 := blk_frozen BK250.out 4; have hfz14_5 := blk_frozen BK250.out 5; have hfz14_6 := blk_frozen BK250.out 6; have hfz14_7 := blk_frozen BK250.out 7; have hfz14_8 := blk_frozen BK250.out 8; have hfz14_9 := blk_frozen BK250.out 9; have hfz14_10 := blk_frozen BK250.out 10; have hfz14_11 := blk_frozen BK250.out 11; have hfz14_12 := blk_frozen BK250.out 12))
 go_ret
 exact ⟨EE, BL⟩

/-! ### laws_eqCallS: function 28 -/
def laws_eqCallS.l0 : Nat → List (S67) → List (S67) → Int → Option (Bool)
 | 0, _, _, _ => none
 | k + 1, x0, x1, x5 => if x5 < (x0.length : Int) then (if 0 ≤ x5 then (if x5 < (x1.length : Int) then ((laws_eqCall.f ((rd_T67 x0 x5).f0.f0) ((rd_T67 x0 x5).f0.f1) ((rd_T67 x0 x5).f0.f2) ((rd_T67 x0 x5).f0.f3) ((rd_T67 x0 x5).f0.f4) ((rd_T67 x0 x5).f0.f5) ((rd_T67 x0 x5).f0.f6) ((rd_T67 x0 x5).f0.f7) ((rd_T67 x0 x5).f0.f8) ((rd_T67 x0 x5).f0.f9) ((rd_T67 x0 x5).f0.f10) ((rd_T67 x0 x5).f1) ((rd_T67 x0 x5).f2) ((rd_T67 x1 x5).f0.f0) ((rd_T67 x1 x5).f0.f1) ((rd_T67 x1 x5).f0.f2) ((rd_T67 x1 x5).f0.f3) ((rd_T67 x1 x5).f0.f4) ((rd_T67 x1 x5).f0.f5) ((rd_T67 x1 x5).f0.f6) ((rd_T67 x1 x5).f0.f7) ((rd_T67 x1 x5).f0.f8) ((rd_T67 x1 x5).f0.f9) ((rd_T67 x1 x5).f0.f10) ((rd_T67 x1 x5).f1) ((rd_T67 x1 x5).f2)).bind fun t254 => (if t254 = true then (laws_eqCallS.l0 k x0 x1 (wrap64 (x5 + 1))) else (some false))) else (none)) else (none)) else (some true)
def laws_eqCallS.f (k : Nat) (l0 : List (S67)) (l1 : List (S67)) : Option (Bool) := if (l0.length : Int) = (l1.length : Int) then (laws_eqCallS.l0 k l0 l1 0) else (some false)
theorem laws_eqCallS.mono_l : ∀ k, (∀ y0 y1 y2, LeO (laws_eqCallS.l0 k y0 y1 y2) (laws_eqCallS.l0 (k + 1) y0 y1 y2))
 | 0 => fun _ _ _ r h => by simp [laws_eqCallS.l0] at h
 | k + 1 => by
  have ih0 := laws_eqCallS.mono_l k
  ·
   intro y0 y1 y2
   unfold laws_eqCallS.l0
   repeat' first
   | (with_reducible exact ih0 _ _ _)
   | (with_reducible exact LeO.refl _)
   | (with_reducible exact LeO.none _)
   | (with_reducible refine LeO.ite ?_ ?_)
   | (with_reducible refine LeO.bind ?_ (fun _ => ?_))
   | exact ih0 _ _ _
   | exact LeO.none _
   | refine LeO.ite ?_ ?_
   | refine LeO.bind ?_ (fun _ => ?_)
theorem laws_eqCallS.mono : ∀ a0 a1 k, LeO (laws_eqCallS.f k a0 a1) (laws_eqCallS.f (k + 1) a0 a1) := by
 intro a0 a1 k
 have ih0 := laws_eqCallS.mono_l k
 unfold laws_eqCallS.f
 repeat' first
   | (with_reducible exact ih0 _ _ _)
   | (with_reducible exact LeO.refl _)
   | (with_reducible exact LeO.none _)
   | (with_reducible refine LeO.ite ?_ ?_)
   | (with_reducible refine LeO.bind ?_ (fun _ => ?_))
   | exact ih0 _ _ _
   | exact LeO.none _
   | refine LeO.ite ?_ ?_
   | refine LeO.bind ?_ (fun _ => ?_)
def laws_eqCallS.T6 : Bool × List (List Nat × List Nat) := (true, [([], []), ([], []), ([0, 1], [0, 1]), ([2], [2]), ([], []), ([], []), ([4, 5], [4, 5]), ([6], [6]), ([3, 7], [3, 7]), ([8], [8])])
def laws_eqCallS.B6 : List Nat := [0, 0, 3, 7, 0, 0, 48, 112, 255, 511]
theorem laws_eqCallS.tab6 : rtab .any (opsOf Try.f28 6) = laws_eqCallS.T6 := by kernel_rfl
theorem laws_eqCallS.bits6 : waitsOk laws_eqCallS.T6.2 laws_eqCallS.B6 = true := by kernel_rfl
set_option maxHeartbeats 8000000 in
set_option maxRecDepth 100000 in
theorem laws_eqCallS.calls (k : Nat) (A0 : Option Addr) (c0 : Nat) (l0 : List (S67)) (A1 : Option Addr) (c1 : Nat) (l1 : List (S67)) (r : Bool) (w : World) (hr0 : Kd.C k67 w A0 l0.length l0) (hc0 : l0.length ≤ c0) (hr1 : Kd.C k67 w A1 l1.length l1) (hc1 : l1.length ≤ c1) (h : laws_eqCallS.f k l0 l1 = some r) :
  Calls Try.prog 28 #[.slice A0 l0.length c0, .slice A1 l1.length c1] w fun e w' => e = .returned (.bool r) ∧ Below w.heap.size w w' := by
 have hu67 := Try.underlying67
 have HR0 := Aside0.mk hr0
 have HC0 := Aside0.mk hc0
 clear hr0 hc0
 have HR1 := Aside0.mk hr1
 have HC1 := Aside0.mk hc1
 clear hr1 hc1
 have HB := Aside0.mk (Below.refl w.heap.size w)
 have H : (if (l0.length : Int) = (l1.length : Int) then (laws_eqCallS.l0 k l0 l1 0) else (some false)) = some r := h
 clear h
 by_cases c3 : (l0.length : Int) = (l1.length : Int); rotate_left
 ·
  rw [if_neg c3] at H; have c3b0 : ((l0.length : Int) == (l1.length : Int)) = false := beq_eq_false_iff_ne.mpr c3; have c3b1 : ((l0.length : Int) != (l1.length : Int)) = true := bne_iff_ne.mpr c3
  have c3b2 : (l0.length == l1.length) = false := by first | simpa using c3 | (simp at c3 ⊢; omega)
  obtain rfl := Option.some.inj H
  go_enter Try.func28, Try.ntmps28
  go_wp2
  go_ret
  exact ⟨EE, BL⟩
 rw [if_pos c3] at H
 have c3b0 : ((l0.length : Int) == (l1.length : Int)) = true := beq_iff_eq.mpr c3
 have c3b1 : ((l0.length : Int) != (l1.length : Int)) = false := bne_eq_false_iff_eq.mpr c3
 have c3b2 : (l0.length == l1.length) = true := by first | simpa using c3 | (simp at c3 ⊢; omega)
 clear c3
 have H' := Aside0.mk H
 clear H
 go_enter Try.func28, Try.ntmps28
 go_wp2
 go_loopg [5] k (fun kq v5 w' => ∃ (x5_1 : Int), v5 = .int .i64 x5_1 ∧ Aside0 (laws_eqCallS.l0 kq l0 l1 x5_1 = some r) ∧ Aside0 (kq ≤ k) ∧ Aside0 (Below w.heap.size w w'))
 case atStart => exact ⟨(0), SD, H', ⟨Nat.le_refl _⟩, ⟨BL⟩⟩
 case round =>
  clear H'
  try clear c1 c2 p2 c3 c3b0 c3b1 c3b2
  obtain ⟨x5_1, rfl, HA, HK1, HB⟩ := hrel; cases gk with
  | zero => exact absurd HA.out (by simp [laws_eqCallS.l0])
  | succ k1 =>
   have H := HA.out; clear HA; simp only [laws_eqCallS.l0] at H
   by_cases c4 : x5_1 < (l0.length : Int); rotate_left
   ·
    rw [if_neg c4] at H; have c4b0 : decide (x5_1 < (l0.length : Int)) = false := decide_eq_false c4; clear c4; obtain rfl := Option.some.inj H
    go_wp2
    go_ret
    exact ⟨EE, BL⟩
   rw [if_pos c4] at H; have c4b0 : decide (x5_1 < (l0.length : Int)) = true := decide_eq_true c4; clear c4
   by_cases c5 : 0 ≤ x5_1; rotate_left
   ·
    rw [if_neg c5] at H; exact absurd H (by simp)
   rw [if_pos c5] at H; have c5b0 : decide (0 ≤ x5_1) = true := decide_eq_true c5; clear c5
   by_cases c6 : x5_1 < (l1.length : Int); rotate_left
   ·
    rw [if_neg c6] at H; exact absurd H (by simp)
   rw [if_pos c6] at H; have c6b0 : decide (x5_1 < (l1.length : Int)) = true := decide_eq_true c6; clear c6; replace H := Option.bind_eq_some_iff.mp H; obtain ⟨t254, A70, H⟩ := H; have A7 := Aside0.mk A70; clear A70
   by_cases c8 : t254 = true; rotate_left
   ·
    replace c8 := Bool.eq_false_iff.mpr c8; subst c8
    have H1 : (some false) = some r := by rw [if_neg (show ¬ (false = true) by decide)] at H; exact H
    clear H; have H := H1; clear H1; obtain rfl := Option.some.inj H
    try go_wp2
    have n0_ := Aside0.mk (below_drew1 HB.out); clear HB; have HB := n0_; clear n0_; have p252 : 0 ≤ (x5_1 : Int) := of_decide_eq_true AS; have q252 : x5_1 < (l0.length : Int) := of_decide_eq_true AS; obtain ⟨ad252, e252, hx252_0, hx252_1, hx252_2, hx252_3, hx252_4, hx252_5, hx252_6, hx252_7, hx252_8, hx252_9, hx252_10, hx252_11, hx252_12⟩ := at_T67 HR0.out x5_1 p252 q252; have hw252_12 := hx252_12; have hw252_11 := hx252_11; have hw252_10 := hx252_10; have hw252_9 := hx252_9; have hw252_8 := hx252_8; have hw252_7 := hx252_7; have hw252_6 := hx252_6; have hw252_5 := hx252_5; have hw252_4 := hx252_4; have hw252_3 := hx252_3; have hw252_2 := hx252_2; have hw252_1 := hx252_1; have hw252_0 := hx252_0; cases e252; replace hx252_0 := (HB.out.cell (World.block_lt_of_cell? w _ hx252_0)).trans hx252_0; replace hx252_1 := (HB.out.cell (World.block_lt_of_cell? w _ hx252_1)).trans hx252_1; replace hx252_2 := (HB.out.cell (World.block_lt_of_cell? w _ hx252_2)).trans hx252_2; replace hx252_3 := (HB.out.cell (World.block_lt_of_cell? w _ hx252_3)).trans hx252_3; replace hx252_4 := (HB.out.cell (World.block_lt_of_cell? w _ hx252_4)).trans hx252_4; replace hx252_5 := (HB.out.cell (World.block_lt_of_cell? w _ hx252_5)).trans hx252_5; replace hx252_6 := (HB.out.cell (World.block_lt_of_cell? w _ hx252_6)).trans hx252_6; replace hx252_7 := (HB.out.cell (World.block_lt_of_cell? w _ hx252_7)).trans hx252_7; replace hx252_8 := (HB.out.cell (World.block_lt_of_cell? w _ hx252_8)).trans hx252_8; replace hx252_9 := (HB.out.cell (World.block_lt_of_cell? w _ hx252_9)).trans hx252_9; replace hx252_10 := (HB.out.cell (World.block_lt_of_cell? w _ hx252_10)).trans hx252_10; replace hx252_11 := (HB.out.cell (World.block_lt_of_cell? w _ hx252_11)).trans hx252_11; replace hx252_12 := (HB.out.cell (World.block_lt_of_cell? w _ hx252_12)).trans hx252_12; replace p252 := eq_true p252; replace q252 := eq_true q252; have p253 : 0 ≤ (x5_1 : Int) := of_decide_eq_true AS; have q253 : x5_1 < (l1.length : Int) := of_decide_eq_true AS; obtain ⟨ad253, e253, hx253_0, hx253_1, hx253_2, hx253_3, hx253_4, hx253_5, hx253_6, hx253_7, hx253_8, hx253_9, hx253_10, hx253_11, hx253_12⟩ := at_T67 HR1.out x5_1 p253 q253; have hw253_12 := hx253_12; have hw253_11 := hx253_11; have hw253_10 := hx253_10; have hw253_9 := hx253_9; have hw253_8 := hx253_8; have hw253_7 := hx253_7; have hw253_6 := hx253_6; have hw253_5 := hx253_5; have hw253_4 := hx253_4; have hw253_3 := hx253_3; have hw253_2 := hx253_2; have hw253_1 := hx253_1; have hw253_0 := hx253_0; cases e253; replace hx253_0 := (HB.out.cell (World.block_lt_of_cell? w _ hx253_0)).trans hx253_0; replace hx253_1 := (HB.out.cell (World.block_lt_of_cell? w _ hx253_1)).trans hx253_1; replace hx253_2 := (HB.out.cell (World.block_lt_of_cell? w _ hx253_2)).trans hx253_2; replace hx253_3 := (HB.out.cell (World.block_lt_of_cell? w _ hx253_3)).trans hx253_3; replace hx253_4 := (HB.out.cell (World.block_lt_of_cell? w _ hx253_4)).trans hx253_4; replace hx253_5 := (HB.out.cell (World.block_lt_of_cell? w _ hx253_5)).trans hx253_5; replace hx253_6 := (HB.out.cell (World.block_lt_of_cell? w _ hx253_6)).trans hx253_6; replace hx253_7 := (HB.out.cell (World.block_lt_of_cell? w _ hx253_7)).trans hx253_7; replace hx253_8 := (HB.out.cell (World.block_lt_of_cell? w _ hx253_8)).trans hx253_8; replace hx253_9 := (HB.out.cell (World.block_lt_of_cell? w _ hx253_9)).trans hx253_9; replace hx253_10 := (HB.out.cell (World.block_lt_of_cell? w _ hx253_10)).trans hx253_10; replace hx253_11 := (HB.out.cell (World.block_lt_of_cell? w _ hx253_11)).trans hx253_11; replace hx253_12 := (HB.out.cell (World.block_lt_of_cell? w _ hx253_12)).trans hx253_12; replace p253 := eq_true p253; replace q253 := eq_true q253; refine start_ (n := 10) (S := fun w' => w'.cell? (ad252.add ((x5_1).toNat * 13)) = some (.int .i64 ((rd_T67 l0 x5_1).f0.f0)) ∧ w'.cell? ⟨(ad252.add ((x5_1).toNat * 13)).block, (ad252.add ((x5_1).toNat * 13)).off + 1, none⟩ = some (.int .i64 ((rd_T67 l0 x5_1).f0.f1)) ∧ w'.cell? ⟨(ad252.add ((x5_1).toNat * 13)).block, (ad252.add ((x5_1).toNat * 13)).off + 2, none⟩ = some (.int .i64 ((rd_T67 l0 x5_1).f0.f2)) ∧ w'.cell? ⟨(ad252.add ((x5_1).toNat * 13)).block, (ad252.add ((x5_1).toNat * 13)).off + 3, none⟩ = some (.int .i64 ((rd_T67 l0 x5_1).f0.f3)) ∧ w'.cell? ⟨(ad252.add ((x5_1).toNat * 13)).block, (ad252.add ((x5_1).toNat * 13)).off + 4, none⟩ = some (.int .i64 ((rd_T67 l0 x5_1).f0.f4)) ∧ w'.cell? ⟨(ad252.add ((x5_1).toNat * 13)).block, (ad252.add ((x5_1).toNat * 13)).off + 5, none⟩ = some (.int .i64 ((rd_T67 l0 x5_1).f0.f5)) ∧ w'.cell? ⟨(ad252.add ((x5_1).toNat * 13)).block, (ad252.add ((x5_1).toNat * 13)).off + 6, none⟩ = some (.int .i64 ((rd_T67 l0 x5_1).f0.f6)) ∧ w'.cell? ⟨(ad252.add ((x5_1).toNat * 13)).block, (ad252.add ((x5_1).toNat * 13)).off + 7, none⟩ = some (.int .i64 ((rd_T67 l0 x5_1).f0.f7)) ∧ w'.cell? ⟨(ad252.add ((x5_1).toNat * 13)).block, (ad252.add ((x5_1).toNat * 13)).off + 8, none⟩ = some (.int .i64 ((rd_T67 l0 x5_1).f0.f8)) ∧ w'.cell? ⟨(ad252.add ((x5_1).toNat * 13)).block, (ad252.add ((x5_1).toNat * 13)).off + 9, none⟩ = some (.bool ((rd_T67 l0 x5_1).f0.f9)) ∧ w'.cell? ⟨(ad252.add ((x5_1).toNat * 13)).block, (ad252.add ((x5_1).toNat * 13)).off + 10, none⟩ = some (.int .i64 ((rd_T67 l0 x5_1).f0.f10)) ∧ w'.cell? ⟨(ad252.add ((x5_1).toNat * 13)).block, (ad252.add ((x5_1).toNat * 13)).off + 11, none⟩ = some (.int .i64 ((rd_T67 l0 x5_1).f1)) ∧ w'.cell? ⟨(ad252.add ((x5_1).toNat * 13)).block, (ad252.add ((x5_1).toNat * 13)).off + 12, none⟩ = some (.int .i64 ((rd_T67 l0 x5_1).f2)) ∧ w'.cell? (ad253.add ((x5_1).toNat * 13)) = some (.int .i64 ((rd_T67 l1 x5_1).f0.f0)) ∧ w'.cell? ⟨(ad253.add ((x5_1).toNat * 13)).block, (ad253.add ((x5_1).toNat * 13)).off + 1, none⟩ = some (.int .i64 ((rd_T67 l1 x5_1).f0.f1)) ∧ w'.cell? ⟨(ad253.add ((x5_1).toNat * 13)).block, (ad253.add ((x5_1).toNat * 13)).off + 2, none⟩ = some (.int .i64 ((rd_T67 l1 x5_1).f0.f2)) ∧ w'.cell? ⟨(ad253.add ((x5_1).toNat * 13)).block, (ad253.add ((x5_1).toNat * 13)).off + 3, none⟩ = some (.int .i64 ((rd_T67 l1 x5_1).f0.f3)) ∧ w'.cell? ⟨(ad253.add ((x5_1).toNat * 13)).block, (ad253.add ((x5_1).toNat * 13)).off + 4, none⟩ = some (.int .i64 ((rd_T67 l1 x5_1).f0.f4)) ∧ w'.cell? ⟨(ad253.add ((x5_1).toNat * 13)).block, (ad253.add ((x5_1).toNat * 13)).off + 5, none⟩ = some (.int .i64 ((rd_T67 l1 x5_1).f0.f5)) ∧ w'.cell? ⟨(ad253.add ((x5_1).toNat * 13)).block, (ad253.add ((x5_1).toNat * 13)).off + 6, none⟩ = some (.int .i64 ((rd_T67 l1 x5_1).f0.f6)) ∧ w'.cell? ⟨(ad253.add ((x5_1).toNat * 13)).block, (ad253.add ((x5_1).toNat * 13)).off + 7, none⟩ = some (.int .i64 ((rd_T67 l1 x5_1).f0.f7)) ∧ w'.cell? ⟨(ad253.add ((x5_1).toNat * 13)).block, (ad253.add ((x5_1).toNat * 13)).off + 8, none⟩ = some (.int .i64 ((rd_T67 l1 x5_1).f0.f8)) ∧ w'.cell? ⟨(ad253.add ((x5_1).toNat * 13)).block, (ad253.add ((x5_1).toNat * 13)).off + 9, none⟩ = some (.bool ((rd_T67 l1 x5_1).f0.f9)) ∧ w'.cell? ⟨(ad253.add ((x5_1).toNat * 13)).block, (ad253.add ((x5_1).toNat * 13)).off + 10, none⟩ = some (.int .i64 ((rd_T67 l1 x5_1).f0.f10)) ∧ w'.cell? ⟨(ad253.add ((x5_1).toNat * 13)).block, (ad253.add ((x5_1).toNat * 13)).off + 11, none⟩ = some (.int .i64 ((rd_T67 l1 x5_1).f1)) ∧ w'.cell? ⟨(ad253.add ((x5_1).toNat * 13)).block, (ad253.add ((x5_1).toNat * 13)).off + 12, none⟩ = some (.int .i64 ((rd_T67 l1 x5_1).f2))) (ds := []) #[false, false, false, false, false, false, false, false, false, false] (by kernel_rfl) rfl rfl ⟨((HB.out.cell (World.block_lt_of_cell? w _ hw252_0)).trans hw252_0), ((HB.out.cell (World.block_lt_of_cell? w _ hw252_1)).trans hw252_1), ((HB.out.cell (World.block_lt_of_cell? w _ hw252_2)).trans hw252_2), ((HB.out.cell (World.block_lt_of_cell? w _ hw252_3)).trans hw252_3), ((HB.out.cell (World.block_lt_of_cell? w _ hw252_4)).trans hw252_4), ((HB.out.cell (World.block_lt_of_cell? w _ hw252_5)).trans hw252_5), ((HB.out.cell (World.block_lt_of_cell? w _ hw252_6)).trans hw252_6), ((HB.out.cell (World.block_lt_of_cell? w _ hw252_7)).trans hw252_7), ((HB.out.cell (World.block_lt_of_cell? w _ hw252_8)).trans hw252_8), ((HB.out.cell (World.block_lt_of_cell? w _ hw252_9)).trans hw252_9), ((HB.out.cell (World.block_lt_of_cell? w _ hw252_10)).trans hw252_10), ((HB.out.cell (World.block_lt_of_cell? w _ hw252_11)).trans hw252_11), ((HB.out.cell (World.block_lt_of_cell? w _ hw252_12)).trans hw252_12), ((HB.out.cell (World.block_lt_of_cell? w _ hw253_0)).trans hw253_0), ((HB.out.cell (World.block_lt_of_cell? w _ hw253_1)).trans hw253_1), ((HB.out.cell (World.block_lt_of_cell? w _ hw253_2)).trans hw253_2), ((HB.out.cell (World.block_lt_of_cell? w _ hw253_3)).trans hw253_3), ((HB.out.cell (World.block_lt_of_cell? w _ hw253_4)).trans hw253_4), ((HB.out.cell (World.block_lt_of_cell? w _ hw253_5)).trans hw253_5), ((HB.out.cell (World.block_lt_of_cell? w _ hw253_6)).trans hw253_6), ((HB.out.cell (World.block_lt_of_cell? w _ hw253_7)).trans hw253_7), ((HB.out.cell (World.block_lt_of_cell? w _ hw253_8)).trans hw253_8), ((HB.out.cell (World.block_lt_of_cell? w _ hw253_9)).trans hw253_9), ((HB.out.cell (World.block_lt_of_cell? w _ hw253_10)).trans hw253_10), ((HB.out.cell (World.block_lt_of_cell? w _ hw253_11)).trans hw253_11), ((HB.out.cell (World.block_lt_of_cell? w _ hw253_12)).trans hw253_12)⟩ (fun hHeld => ?_); refine with_tabW laws_eqCallS.tab6 laws_eqCallS.bits6 (fun HT_ HW_ => ?_)
    generalize wr.drew = w11 at HB hx252_0 hx252_1 hx252_10 hx252_11 hx252_12 hx252_2 hx252_3 hx252_4 hx252_5 hx252_6 hx252_7 hx252_8 hx252_9 hx253_0 hx253_1 hx253_10 hx253_11 hx253_12 hx253_2 hx253_3 hx253_4 hx253_5 hx253_6 hx253_7 hx253_8 hx253_9 hHeld ⊢; refine pV 0 17 (OB 10 1) ?_; refine pV 1 18 (OB 10 3) ?_; refine pV 2 19 (OB 10 7) ?_; refine pV 4 21 (OB 10 23) ?_; refine pV 5 22 (OB 10 55) ?_; refine pV 6 23 (OB 10 119) ?_; refine pT 3 20 (OB 10 127) ?_; refine pT 7 24 (OB 10 255) ?_; refine one_ (i := 8) (N := some 25) (OB 10 511) rfl rfl (one_of HT_.out (by kernel_rfl)) (by decide) (fun K hK => ?_); refine goes_ Try.func64 (by kernel_rfl) rfl #[.agg #[.int .i64 ((rd_T67 l0 x5_1).f0.f0), .int .i64 ((rd_T67 l0 x5_1).f0.f1), .int .i64 ((rd_T67 l0 x5_1).f0.f2), .int .i64 ((rd_T67 l0 x5_1).f0.f3), .int .i64 ((rd_T67 l0 x5_1).f0.f4), .int .i64 ((rd_T67 l0 x5_1).f0.f5), .int .i64 ((rd_T67 l0 x5_1).f0.f6), .int .i64 ((rd_T67 l0 x5_1).f0.f7), .int .i64 ((rd_T67 l0 x5_1).f0.f8), .bool ((rd_T67 l0 x5_1).f0.f9), .int .i64 ((rd_T67 l0 x5_1).f0.f10), .int .i64 ((rd_T67 l0 x5_1).f1), .int .i64 ((rd_T67 l0 x5_1).f2)], .agg #[.int .i64 ((rd_T67 l1 x5_1).f0.f0), .int .i64 ((rd_T67 l1 x5_1).f0.f1), .int .i64 ((rd_T67 l1 x5_1).f0.f2), .int .i64 ((rd_T67 l1 x5_1).f0.f3), .int .i64 ((rd_T67 l1 x5_1).f0.f4), .int .i64 ((rd_T67 l1 x5_1).f0.f5), .int .i64 ((rd_T67 l1 x5_1).f0.f6), .int .i64 ((rd_T67 l1 x5_1).f0.f7), .int .i64 ((rd_T67 l1 x5_1).f0.f8), .bool ((rd_T67 l1 x5_1).f0.f9), .int .i64 ((rd_T67 l1 x5_1).f0.f10), .int .i64 ((rd_T67 l1 x5_1).f1), .int .i64 ((rd_T67 l1 x5_1).f2)]] (by rfl) rfl rfl (MA) ?_
    with_reducible refine (laws_eqCall.calls ((rd_T67 l0 x5_1).f0.f0) ((rd_T67 l0 x5_1).f0.f1) ((rd_T67 l0 x5_1).f0.f2) ((rd_T67 l0 x5_1).f0.f3) ((rd_T67 l0 x5_1).f0.f4) ((rd_T67 l0 x5_1).f0.f5) ((rd_T67 l0 x5_1).f0.f6) ((rd_T67 l0 x5_1).f0.f7) ((rd_T67 l0 x5_1).f0.f8) ((rd_T67 l0 x5_1).f0.f9) ((rd_T67 l0 x5_1).f0.f10) ((rd_T67 l0 x5_1).f1) ((rd_T67 l0 x5_1).f2) ((rd_T67 l1 x5_1).f0.f0) ((rd_T67 l1 x5_1).f0.f1) ((rd_T67 l1 x5_1).f0.f2) ((rd_T67 l1 x5_1).f0.f3) ((rd_T67 l1 x5_1).f0.f4) ((rd_T67 l1 x5_1).f0.f5) ((rd_T67 l1 x5_1).f0.f6) ((rd_T67 l1 x5_1).f0.f7) ((rd_T67 l1 x5_1).f0.f8) ((rd_T67 l1 x5_1).f0.f9) ((rd_T67 l1 x5_1).f0.f10) ((rd_T67 l1 x5_1).f1) ((rd_T67 l1 x5_1).f2) false _ A7.out).mono ?_
    rintro e w12 ⟨rfl, hb⟩; refine ⟨_, rfl, ?_⟩; have n0_ := Aside0.mk (below_step (BL) hb); clear HB; have HB := n0_; clear n0_
    (try clear hb)
    (try clear hb2)
    (try clear hk)
    (try clear hi)
    refine hK.out _ _ ⟨((HB.out.cell (World.block_lt_of_cell? w _ hw252_0)).trans hw252_0), ((HB.out.cell (World.block_lt_of_cell? w _ hw252_1)).trans hw252_1), ((HB.out.cell (World.block_lt_of_cell? w _ hw252_2)).trans hw252_2), ((HB.out.cell (World.block_lt_of_cell? w _ hw252_3)).trans hw252_3), ((HB.out.cell (World.block_lt_of_cell? w _ hw252_4)).trans hw252_4), ((HB.out.cell (World.block_lt_of_cell? w _ hw252_5)).trans hw252_5), ((HB.out.cell (World.block_lt_of_cell? w _ hw252_6)).trans hw252_6), ((HB.out.cell (World.block_lt_of_cell? w _ hw252_7)).trans hw252_7), ((HB.out.cell (World.block_lt_of_cell? w _ hw252_8)).trans hw252_8), ((HB.out.cell (World.block_lt_of_cell? w _ hw252_9)).trans hw252_9), ((HB.out.cell (World.block_lt_of_cell? w _ hw252_10)).trans hw252_10), ((HB.out.cell (World.block_lt_of_cell? w _ hw252_11)).trans hw252_11), ((HB.out.cell (World.block_lt_of_cell? w _ hw252_12)).trans hw252_12), ((HB.out.cell (World.block_lt_of_cell? w _ hw253_0)).trans hw253_0), ((HB.out.cell (World.block_lt_of_cell? w _ hw253_1)).trans hw253_1), ((HB.out.cell (World.block_lt_of_cell? w _ hw253_2)).trans hw253_2), ((HB.out.cell (World.block_lt_of_cell? w _ hw253_3)).trans hw253_3), ((HB.out.cell (World.block_lt_of_cell? w _ hw253_4)).trans hw253_4), ((HB.out.cell (World.block_lt_of_cell? w _ hw253_5)).trans hw253_5), ((HB.out.cell (World.block_lt_of_cell? w _ hw253_6)).trans hw253_6), ((HB.out.cell (World.block_lt_of_cell? w _ hw253_7)).trans hw253_7), ((HB.out.cell (World.block_lt_of_cell? w _ hw253_8)).trans hw253_8), ((HB.out.cell (World.block_lt_of_cell? w _ hw253_9)).trans hw253_9), ((HB.out.cell (World.block_lt_of_cell? w _ hw253_10)).trans hw253_10), ((HB.out.cell (World.block_lt_of_cell? w _ hw253_11)).trans hw253_11), ((HB.out.cell (World.block_lt_of_cell? w _ hw253_12)).trans hw253_12)⟩ (fun hHeld => ?_); clear hK K; refine norm_ (a' := ?_) ?_ ?_; rotate_left
    ·
     show Act.put _ (some 25) _ = _; simp only [Act.put, zA, zB, zC, i64_w, i32_w]; rfl
    refine pV 9 26 (OB 10 1023) ?_; refine done_ (done_of HT_.out (by kernel_rfl)) ?_
    try go_wp2
    go_ret
    exact ⟨EE, BL⟩
   subst c8
   have H1 : (laws_eqCallS.l0 k1 l0 l1 (wrap64 (x5_1 + 1))) = some r := by rw [if_pos rfl] at H; exact H
   clear H; have H := H1; clear H1; have H' := Aside0.mk H; clear H
   try go_wp2
   have n0_ := Aside0.mk (below_drew1 HB.out); clear HB; have HB := n0_; clear n0_; have p252 : 0 ≤ (x5_1 : Int) := of_decide_eq_true AS; have q252 : x5_1 < (l0.length : Int) := of_decide_eq_true AS; obtain ⟨ad252, e252, hx252_0, hx252_1, hx252_2, hx252_3, hx252_4, hx252_5, hx252_6, hx252_7, hx252_8, hx252_9, hx252_10, hx252_11, hx252_12⟩ := at_T67 HR0.out x5_1 p252 q252; have hw252_12 := hx252_12; have hw252_11 := hx252_11; have hw252_10 := hx252_10; have hw252_9 := hx252_9; have hw252_8 := hx252_8; have hw252_7 := hx252_7; have hw252_6 := hx252_6; have hw252_5 := hx252_5; have hw252_4 := hx252_4; have hw252_3 := hx252_3; have hw252_2 := hx252_2; have hw252_1 := hx252_1; have hw252_0 := hx252_0; cases e252; replace hx252_0 := (HB.out.cell (World.block_lt_of_cell? w _ hx252_0)).trans hx252_0; replace hx252_1 := (HB.out.cell (World.block_lt_of_cell? w _ hx252_1)).trans hx252_1; replace hx252_2 := (HB.out.cell (World.block_lt_of_cell? w _ hx252_2)).trans hx252_2; replace hx252_3 := (HB.out.cell (World.block_lt_of_cell? w _ hx252_3)).trans hx252_3; replace hx252_4 := (HB.out.cell (World.block_lt_of_cell? w _ hx252_4)).trans hx252_4; replace hx252_5 := (HB.out.cell (World.block_lt_of_cell? w _ hx252_5)).trans hx252_5; replace hx252_6 := (HB.out.cell (World.block_lt_of_cell? w _ hx252_6)).trans hx252_6; replace hx252_7 := (HB.out.cell (World.block_lt_of_cell? w _ hx252_7)).trans hx252_7; replace hx252_8 := (HB.out.cell (World.block_lt_of_cell? w _ hx252_8)).trans hx252_8; replace hx252_9 := (HB.out.cell (World.block_lt_of_cell? w _ hx252_9)).trans hx252_9; replace hx252_10 := (HB.out.cell (World.block_lt_of_cell? w _ hx252_10)).trans hx252_10; replace hx252_11 := (HB.out.cell (World.block_lt_of_cell? w _ hx252_11)).trans hx252_11; replace hx252_12 := (HB.out.cell (World.block_lt_of_cell? w _ hx252_12)).trans hx252_12; replace p252 := eq_true p252; replace q252 := eq_true q252; have p253 : 0 ≤ (x5_1 : Int) := of_decide_eq_true AS; have q253 : x5_1 < (l1.length : Int) := of_decide_eq_true AS; obtain ⟨ad253, e253, hx253_0, hx253_1, hx253_2, hx253_3, hx253_4, hx253_5, hx253_6, hx253_7, hx253_8, hx253_9, hx253_10, hx253_11, hx253_12⟩ := at_T67 HR1.out x5_1 p253 q253; have hw253_12 := hx253_12; have hw253_11 := hx253_11; have hw253_10 := hx253_10; have hw253_9 := hx253_9; have hw253_8 := hx253_8; have hw253_7 := hx253_7; have hw253_6 := hx253_6; have hw253_5 := hx253_5; have hw253_4 := hx253_4; have hw253_3 := hx253_3; have hw253_2 := hx253_2; have hw253_1 := hx253_1; have hw253_0 := hx253_0; cases e253; replace hx253_0 := (HB.out.cell (World.block_lt_of_cell? w _ hx253_0)).trans hx253_0; replace hx253_1 := (HB.out.cell (World.block_lt_of_cell? w _ hx253_1)).trans hx253_1; replace hx253_2 := (HB.out.cell (World.block_lt_of_cell? w _ hx253_2)).trans hx253_2; replace hx253_3 := (HB.out.cell (World.block_lt_of_cell? w _ hx253_3)).trans hx253_3; replace hx253_4 := (HB.out.cell (World.block_lt_of_cell? w _ hx253_4)).trans hx253_4; replace hx253_5 := (HB.out.cell (World.block_lt_of_cell? w _ hx253_5)).trans hx253_5; replace hx253_6 := (HB.out.cell (World.block_lt_of_cell? w _ hx253_6)).trans hx253_6; replace hx253_7 := (HB.out.cell (World.block_lt_of_cell? w _ hx253_7)).trans hx253_7; replace hx253_8 := (HB.out.cell (World.block_lt_of_cell? w _ hx253_8)).trans hx253_8; replace hx253_9 := (HB.out.cell (World.block_lt_of_cell? w _ hx253_9)).trans hx253_9; replace hx253_10 := (HB.out.cell (World.block_lt_of_cell? w _ hx253_10)).trans hx253_10; replace hx253_11 := (HB.out.cell (World.block_lt_of_cell? w _ hx253_11)).trans hx253_11; replace hx253_12 := (HB.out.cell (World.block_lt_of_cell? w _ hx253_12)).trans hx253_12; replace p253 := eq_true p253; replace q253 := eq_true q253; refine start_ (n := 10) (S := fun w' => w'.cell? (ad252.add ((x5_1).toNat * 13)) = some (.int .i64 ((rd_T67 l0 x5_1).f0.f0)) ∧ w'.cell? ⟨(ad252.add ((x5_1).toNat * 13)).block, (ad252.add ((x5_1).toNat * 13)).off + 1, none⟩ = some (.int .i64 ((rd_T67 l0 x5_1).f0.f1)) ∧ w'.cell? ⟨(ad252.add ((x5_1).toNat * 13)).block, (ad252.add ((x5_1).toNat * 13)).off + 2, none⟩ = some (.int .i64 ((rd_T67 l0 x5_1).f0.f2)) ∧ w'.cell? ⟨(ad252.add ((x5_1).toNat * 13)).block, (ad252.add ((x5_1).toNat * 13)).off + 3, none⟩ = some (.int .i64 ((rd_T67 l0 x5_1).f0.f3)) ∧ w'.cell? ⟨(ad252.add ((x5_1).toNat * 13)).block, (ad252.add ((x5_1).toNat * 13)).off + 4, none⟩ = some (.int .i64 ((rd_T67 l0 x5_1).f0.f4)) ∧ w'.cell? ⟨(ad252.add ((x5_1).toNat * 13)).block, (ad252.add ((x5_1).toNat * 13)).off + 5, none⟩ = some (.int .i64 ((rd_T67 l0 x5_1).f0.f5)) ∧ w'.cell? ⟨(ad252.add ((x5_1).toNat * 13)).block, (ad252.add ((x5_1).toNat * 13)).off + 6, none⟩ = some (.int .i64 ((rd_T67 l0 x5_1).f0.f6)) ∧ w'.cell? ⟨(ad252.add ((x5_1).toNat * 13)).block, (ad252.add ((x5_1).toNat * 13)).off + 7, none⟩ = some (.int .i64 ((rd_T67 l0 x5_1).f0.f7)) ∧ w'.cell? ⟨(ad252.add ((x5_1).toNat * 13)).block, (ad252.add ((x5_1).toNat * 13)).off + 8, none⟩ = some (.int .i64 ((rd_T67 l0 x5_1).f0.f8)) ∧ w'.cell? ⟨(ad252.add ((x5_1).toNat * 13)).block, (ad252.add ((x5_1).toNat * 13)).off + 9, none⟩ = some (.bool ((rd_T67 l0 x5_1).f0.f9)) ∧ w'.cell? ⟨(ad252.add ((x5_1).toNat * 13)).block, (ad252.add ((x5_1).toNat * 13)).off + 10, none⟩ = some (.int .i64 ((rd_T67 l0 x5_1).f0.f10)) ∧ w'.cell? ⟨(ad252.add ((x5_1).toNat * 13)).block, (ad252.add ((x5_1).toNat * 13)).off + 11, none⟩ = some (.int .i64 ((rd_T67 l0 x5_1).f1)) ∧ w'.cell? ⟨(ad252.add ((x5_1).toNat * 13)).block, (ad252.add ((x5_1).toNat * 13)).off + 12, none⟩ = some (.int .i64 ((rd_T67 l0 x5_1).f2)) ∧ w'.cell? (ad253.add ((x5_1).toNat * 13)) = some (.int .i64 ((rd_T67 l1 x5_1).f0.f0)) ∧ w'.cell? ⟨(ad253.add ((x5_1).toNat * 13)).block, (ad253.add ((x5_1).toNat * 13)).off + 1, none⟩ = some (.int .i64 ((rd_T67 l1 x5_1).f0.f1)) ∧ w'.cell? ⟨(ad253.add ((x5_1).toNat * 13)).block, (ad253.add ((x5_1).toNat * 13)).off + 2, none⟩ = some (.int .i64 ((rd_T67 l1 x5_1).f0.f2)) ∧ w'.cell? ⟨(ad253.add ((x5_1).toNat * 13)).block, (ad253.add ((x5_1).toNat * 13)).off + 3, none⟩ = some (.int .i64 ((rd_T67 l1 x5_1).f0.f3)) ∧ w'.cell? ⟨(ad253.add ((x5_1).toNat * 13)).block, (ad253.add ((x5_1).toNat * 13)).off + 4, none⟩ = some (.int .i64 ((rd_T67 l1 x5_1).f0.f4)) ∧ w'.cell? ⟨(ad253.add ((x5_1).toNat * 13)).block, (ad253.add ((x5_1).toNat * 13)).off + 5, none⟩ = some (.int .i64 ((rd_T67 l1 x5_1).f0.f5)) ∧ w'.cell? ⟨(ad253.add ((x5_1).toNat * 13)).block, (ad253.add ((x5_1).toNat * 13)).off + 6, none⟩ = some (.int .i64 ((rd_T67 l1 x5_1).f0.f6)) ∧ w'.cell? ⟨(ad253.add ((x5_1).toNat * 13)).block, (ad253.add ((x5_1).toNat * 13)).off + 7, none⟩ = some (.int .i64 ((rd_T67 l1 x5_1).f0.f7)) ∧ w'.cell? ⟨(ad253.add ((x5_1).toNat * 13)).block, (ad253.add ((x5_1).toNat * 13)).off + 8, none⟩ = some (.int .i64 ((rd_T67 l1 x5_1).f0.f8)) ∧ w'.cell? ⟨(ad253.add ((x5_1).toNat * 13)).block, (ad253.add ((x5_1).toNat * 13)).off + 9, none⟩ = some (.bool ((rd_T67 l1 x5_1).f0.f9)) ∧ w'.cell? ⟨(ad253.add ((x5_1).toNat * 13)).block, (ad253.add ((x5_1).toNat * 13)).off + 10, none⟩ = some (.int .i64 ((rd_T67 l1 x5_1).f0.f10)) ∧ w'.cell? ⟨(ad253.add ((x5_1).toNat * 13)).block, (ad253.add ((x5_1).toNat * 13)).off + 11, none⟩ = some (.int .i64 ((rd_T67 l1 x5_1).f1)) ∧ w'.cell? ⟨(ad253.add ((x5_1).toNat * 13)).block, (ad253.add ((x5_1).toNat * 13)).off + 12, none⟩ = some (.int .i64 ((rd_T67 l1 x5_1).f2))) (ds := []) #[false, false, false, false, false, false, false, false, false, false] (by kernel_rfl) rfl rfl ⟨((HB.out.cell (World.block_lt_of_cell? w _ hw252_0)).trans hw252_0), ((HB.out.cell (World.block_lt_of_cell? w _ hw252_1)).trans hw252_1), ((HB.out.cell (World.block_lt_of_cell? w _ hw252_2)).trans hw252_2), ((HB.out.cell (World.block_lt_of_cell? w _ hw252_3)).trans hw252_3), ((HB.out.cell (World.block_lt_of_cell? w _ hw252_4)).trans hw252_4), ((HB.out.cell (World.block_lt_of_cell? w _ hw252_5)).trans hw252_5), ((HB.out.cell (World.block_lt_of_cell? w _ hw252_6)).trans hw252_6), ((HB.out.cell (World.block_lt_of_cell? w _ hw252_7)).trans hw252_7), ((HB.out.cell (World.block_lt_of_cell? w _ hw252_8)).trans hw252_8), ((HB.out.cell (World.block_lt_of_cell? w _ hw252_9)).trans hw252_9), ((HB.out.cell (World.block_lt_of_cell? w _ hw252_10)).trans hw252_10), ((HB.out.cell (World.block_lt_of_cell? w _ hw252_11)).trans hw252_11), ((HB.out.cell (World.block_lt_of_cell? w _ hw252_12)).trans hw252_12), ((HB.out.cell (World.block_lt_of_cell? w _ hw253_0)).trans hw253_0), ((HB.out.cell (World.block_lt_of_cell? w _ hw253_1)).trans hw253_1), ((HB.out.cell (World.block_lt_of_cell? w _ hw253_2)).trans hw253_2), ((HB.out.cell (World.block_lt_of_cell? w _ hw253_3)).trans hw253_3), ((HB.out.cell (World.block_lt_of_cell? w _ hw253_4)).trans hw253_4), ((HB.out.cell (World.block_lt_of_cell? w _ hw253_5)).trans hw253_5), ((HB.out.cell (World.block_lt_of_cell? w _ hw253_6)).trans hw253_6), ((HB.out.cell (World.block_lt_of_cell? w _ hw253_7)).trans hw253_7), ((HB.out.cell (World.block_lt_of_cell? w _ hw253_8)).trans hw253_8), ((HB.out.cell (World.block_lt_of_cell? w _ hw253_9)).trans hw253_9), ((HB.out.cell (World.block_lt_of_cell? w _ hw253_10)).trans hw253_10), ((HB.out.cell (World.block_lt_of_cell? w _ hw253_11)).trans hw253_11), ((HB.out.cell (World.block_lt_of_cell? w _ hw253_12)).trans hw253_12)⟩ (fun hHeld => ?_); refine with_tabW laws_eqCallS.tab6 laws_eqCallS.bits6 (fun HT_ HW_ => ?_)
   generalize wr.drew = w9 at HB hx252_0 hx252_1 hx252_10 hx252_11 hx252_12 hx252_2 hx252_3 hx252_4 hx252_5 hx252_6 hx252_7 hx252_8 hx252_9 hx253_0 hx253_1 hx253_10 hx253_11 hx253_12 hx253_2 hx253_3 hx253_4 hx253_5 hx253_6 hx253_7 hx253_8 hx253_9 hHeld ⊢; refine pV 0 17 (OB 10 1) ?_; refine pV 1 18 (OB 10 3) ?_; refine pV 2 19 (OB 10 7) ?_; refine pV 4 21 (OB 10 23) ?_; refine pV 5 22 (OB 10 55) ?_; refine pV 6 23 (OB 10 119) ?_; refine pT 3 20 (OB 10 127) ?_; refine pT 7 24 (OB 10 255) ?_; refine one_ (i := 8) (N := some 25) (OB 10 511) rfl rfl (one_of HT_.out (by kernel_rfl)) (by decide) (fun K hK => ?_); refine goes_ Try.func64 (by kernel_rfl) rfl #[.agg #[.int .i64 ((rd_T67 l0 x5_1).f0.f0), .int .i64 ((rd_T67 l0 x5_1).f0.f1), .int .i64 ((rd_T67 l0 x5_1).f0.f2), .int .i64 ((rd_T67 l0 x5_1).f0.f3), .int .i64 ((rd_T67 l0 x5_1).f0.f4), .int .i64 ((rd_T67 l0 x5_1).f0.f5), .int .i64 ((rd_T67 l0 x5_1).f0.f6), .int .i64 ((rd_T67 l0 x5_1).f0.f7), .int .i64 ((rd_T67 l0 x5_1).f0.f8), .bool ((rd_T67 l0 x5_1).f0.f9), .int .i64 ((rd_T67 l0 x5_1).f0.f10), .int .i64 ((rd_T67 l0 x5_1).f1), .int .i64 ((rd_T67 l0 x5_1).f2)], .agg #[.int .i64 ((rd_T67 l1 x5_1).f0.f0), .int .i64 ((rd_T67 l1 x5_1).f0.f1), .int .i64 ((rd_T67 l1 x5_1).f0.f2), .int .i64 ((rd_T67 l1 x5_1).f0.f3), .int .i64 ((rd_T67 l1 x5_1).f0.f4), .int .i64 ((rd_T67 l1 x5_1).f0.f5), .int .i64 ((rd_T67 l1 x5_1).f0.f6), .int .i64 ((rd_T67 l1 x5_1).f0.f7), .int .i64 ((rd_T67 l1 x5_1).f0.f8), .bool ((rd_T67 l1 x5_1).f0.f9), .int .i64 ((rd_T67 l1 x5_1).f0.f10), .int .i64 ((rd_T67 l1 x5_1).f1), .int .i64 ((rd_T67 l1 x5_1).f2)]] (by rfl) rfl rfl (MA) ?_
   with_reducible refine (laws_eqCall.calls ((rd_T67 l0 x5_1).f0.f0) ((rd_T67 l0 x5_1).f0.f1) ((rd_T67 l0 x5_1).f0.f2) ((rd_T67 l0 x5_1).f0.f3) ((rd_T67 l0 x5_1).f0.f4) ((rd_T67 l0 x5_1).f0.f5) ((rd_T67 l0 x5_1).f0.f6) ((rd_T67 l0 x5_1).f0.f7) ((rd_T67 l0 x5_1).f0.f8) ((rd_T67 l0 x5_1).f0.f9) ((rd_T67 l0 x5_1).f0.f10) ((rd_T67 l0 x5_1).f1) ((rd_T67 l0 x5_1).f2) ((rd_T67 l1 x5_1).f0.f0) ((rd_T67 l1 x5_1).f0.f1) ((rd_T67 l1 x5_1).f0.f2) ((rd_T67 l1 x5_1).f0.f3) ((rd_T67 l1 x5_1).f0.f4) ((rd_T67 l1 x5_1).f0.f5) ((rd_T67 l1 x5_1).f0.f6) ((rd_T67 l1 x5_1).f0.f7) ((rd_T67 l1 x5_1).f0.f8) ((rd_T67 l1 x5_1).f0.f9) ((rd_T67 l1 x5_1).f0.f10) ((rd_T67 l1 x5_1).f1) ((rd_T67 l1 x5_1).f2) true _ A7.out).mono ?_
   rintro e w10 ⟨rfl, hb⟩; refine ⟨_, rfl, ?_⟩; have n0_ := Aside0.mk (below_step (BL) hb); clear HB; have HB := n0_; clear n0_
   (try clear hb)
   (try clear hb2)
   (try clear hk)
   (try clear hi)
   refine hK.out _ _ ⟨((HB.out.cell (World.block_lt_of_cell? w _ hw252_0)).trans hw252_0), ((HB.out.cell (World.block_lt_of_cell? w _ hw252_1)).trans hw252_1), ((HB.out.cell (World.block_lt_of_cell? w _ hw252_2)).trans hw252_2), ((HB.out.cell (World.block_lt_of_cell? w _ hw252_3)).trans hw252_3), ((HB.out.cell (World.block_lt_of_cell? w _ hw252_4)).trans hw252_4), ((HB.out.cell (World.block_lt_of_cell? w _ hw252_5)).trans hw252_5), ((HB.out.cell (World.block_lt_of_cell? w _ hw252_6)).trans hw252_6), ((HB.out.cell (World.block_lt_of_cell? w _ hw252_7)).trans hw252_7), ((HB.out.cell (World.block_lt_of_cell? w _ hw252_8)).trans hw252_8), ((HB.out.cell (World.block_lt_of_cell? w _ hw252_9)).trans hw252_9), ((HB.out.cell (World.block_lt_of_cell? w _ hw252_10)).trans hw252_10), ((HB.out.cell (World.block_lt_of_cell? w _ hw252_11)).trans hw252_11), ((HB.out.cell (World.block_lt_of_cell? w _ hw252_12)).trans hw252_12), ((HB.out.cell (World.block_lt_of_cell? w _ hw253_0)).trans hw253_0), ((HB.out.cell (World.block_lt_of_cell? w _ hw253_1)).trans hw253_1), ((HB.out.cell (World.block_lt_of_cell? w _ hw253_2)).trans hw253_2), ((HB.out.cell (World.block_lt_of_cell? w _ hw253_3)).trans hw253_3), ((HB.out.cell (World.block_lt_of_cell? w _ hw253_4)).trans hw253_4), ((HB.out.cell (World.block_lt_of_cell? w _ hw253_5)).trans hw253_5), ((HB.out.cell (World.block_lt_of_cell? w _ hw253_6)).trans hw253_6), ((HB.out.cell (World.block_lt_of_cell? w _ hw253_7)).trans hw253_7), ((HB.out.cell (World.block_lt_of_cell? w _ hw253_8)).trans hw253_8), ((HB.out.cell (World.block_lt_of_cell? w _ hw253_9)).trans hw253_9), ((HB.out.cell (World.block_lt_of_cell? w _ hw253_10)).trans hw253_10), ((HB.out.cell (World.block_lt_of_cell? w _ hw253_11)).trans hw253_11), ((HB.out.cell (World.block_lt_of_cell? w _ hw253_12)).trans hw253_12)⟩ (fun hHeld => ?_); clear hK K; refine norm_ (a' := ?_) ?_ ?_; rotate_left
   ·
    show Act.put _ (some 25) _ = _; simp only [Act.put, zA, zB, zC, i64_w, i32_w]; rfl
   refine pV 9 26 (OB 10 1023) ?_; refine done_ (done_of HT_.out (by kernel_rfl)) ?_
   try go_wp2
   go_roundg k1
   case measure => have := HK1.out; omega
   case rel => exact ⟨(wrap64 (x5_1 + 1)), SD, H', ⟨by have := HK1.out; omega⟩, ⟨BL⟩⟩

/-! ### laws_FnExactInSomeOrder: function 5 -/
def laws_FnExactInSomeOrder.f (k : Nat) (l0 : List (S91)) : Option (Bool) := (laws_szCallS.f l0 1048576).bind fun t255 => (if t255 < 0 then (some true) else ((laws_toCallS.f k l0).bind fun t256 => ((spec_InSomeOrder.f k t256).bind fun t259 => ((laws_toCallS.f k l0).bind fun t260 => ((impl_InSomeOrder.f k t260).bind fun t263 => (if (t263 != t259) = true then (none) else ((laws_toCallS.f k l0).bind fun t264 => ((laws_eqCallS.f k t260 t264).bind fun t267 => (if t267 = true then (some true) else (none))))))))))
theorem laws_FnExactInSomeOrder.mono : ∀ a0 k, LeO (laws_FnExactInSomeOrder.f k a0) (laws_FnExactInSomeOrder.f (k + 1) a0) := by
 intro a0 k
 unfold laws_FnExactInSomeOrder.f
 repeat' first
   | (with_reducible exact impl_InSomeOrder.mono _ _)
   | (with_reducible exact laws_eqCallS.mono _ _ _)
   | (with_reducible exact laws_toCallS.mono _ _)
   | (with_reducible exact spec_InSomeOrder.mono _ _)
   | (with_reducible exact LeO.refl _)
   | (with_reducible exact LeO.none _)
   | (with_reducible refine LeO.ite ?_ ?_)
   | (with_reducible refine LeO.bind ?_ (fun _ => ?_))
   | exact impl_InSomeOrder.mono _ _
   | exact laws_eqCallS.mono _ _ _
   | exact laws_toCallS.mono _ _
   | exact spec_InSomeOrder.mono _ _
   | exact LeO.none _
   | refine LeO.ite ?_ ?_
   | refine LeO.bind ?_ (fun _ => ?_)
set_option maxHeartbeats 8000000 in
set_option maxRecDepth 100000 in
theorem laws_FnExactInSomeOrder.calls (k : Nat) (A0 : Option Addr) (c0 : Nat) (l0 : List (S91)) (r : Bool) (w : World) (hr0 : Kd.C k91 w A0 l0.length l0) (hc0 : l0.length ≤ c0) (h : laws_FnExactInSomeOrder.f k l0 = some r) :
  Calls Try.prog 5 #[.slice A0 l0.length c0] w fun e w' => e = .returned (.bool r) ∧ Below w.heap.size w w' := by
 have HR0 := Aside0.mk hr0
 have HC0 := Aside0.mk hc0
 clear hr0 hc0
 have HB := Aside0.mk (Below.refl w.heap.size w)
 have H : ((laws_szCallS.f l0 1048576).bind fun t255 => (if t255 < 0 then (some true) else ((laws_toCallS.f k l0).bind fun t256 => ((spec_InSomeOrder.f k t256).bind fun t259 => ((laws_toCallS.f k l0).bind fun t260 => ((impl_InSomeOrder.f k t260).bind fun t263 => (if (t263 != t259) = true then (none) else ((laws_toCallS.f k l0).bind fun t264 => ((laws_eqCallS.f k t260 t264).bind fun t267 => (if t267 = true then (some true) else (none))))))))))) = some r := h
 clear h
 replace H := Option.bind_eq_some_iff.mp H
 obtain ⟨t255, A20, H⟩ := H
 have A2 := Aside0.mk A20
 clear A20
 by_cases c3 : t255 < 0
 ·
  rw [if_pos c3] at H; have c3b0 : decide (t255 < 0) = true := decide_eq_true c3; clear c3; obtain rfl := Option.some.inj H
  go_enter Try.func5, Try.ntmps5
  go_wp2_with (first | ((with_reducible refine gate_callee (f := 24) rfl ?_); refine goesL_ (some 9) rfl rfl Try.func24 (by kernel_rfl) rfl #[.slice A0 l0.length c0, .int .i64 1048576] rfl (MA) ?_; (with_reducible refine (laws_szCallS.calls _ _ l0 1048576 t255 _ ?side1 ?side2 A2.out).mono ?_); (case side1 => repeat (first | exact HR0.out | (with_reducible refine Kd.C_alloc ?_ _) | (with_reducible refine Kd.C_drewN ?_ _) | (with_reducible refine Kd.C_drew ?_))); (case side2 => exact HC0.out); rintro e w' ⟨rfl, ⟨nd, rfl⟩⟩; refine ⟨_, rfl, ?_⟩))
  go_ret
  exact ⟨EE, BL⟩
 rw [if_neg c3] at H
 have c3b0 : decide (t255 < 0) = false := decide_eq_false c3
 clear c3
 replace H := Option.bind_eq_some_iff.mp H
 obtain ⟨t256, A40, H⟩ := H
 have A4 := Aside0.mk A40
 clear A40
 replace H := Option.bind_eq_some_iff.mp H
 obtain ⟨t259, A50, H⟩ := H
 have A5 := Aside0.mk A50
 clear A50
 replace H := Option.bind_eq_some_iff.mp H
 obtain ⟨t260, A60, H⟩ := H
 have A6 := Aside0.mk A60
 clear A60
 replace H := Option.bind_eq_some_iff.mp H
 obtain ⟨t263, A70, H⟩ := H
 have A7 := Aside0.mk A70
 clear A70
 by_cases c8 : (t263 != t259) = true
 ·
  rw [if_pos c8] at H; exact absurd H (by simp)
 rw [if_neg c8] at H
 have c8b0 : (t263 != t259) = false := by simpa using c8
 (try (have c8b1 : decide (t263 = t259) = true := by simpa using c8))
 (try (have c8b2 : (t263 == t259) = true := by simpa using c8))
 clear c8
 replace H := Option.bind_eq_some_iff.mp H
 obtain ⟨t264, A90, H⟩ := H
 have A9 := Aside0.mk A90
 clear A90
 replace H := Option.bind_eq_some_iff.mp H
 obtain ⟨t267, A100, H⟩ := H
 have A10 := Aside0.mk A100
 clear A100
 by_cases c11 : t267 = true; rotate_left
 ·
  replace c11 := Bool.eq_false_iff.mpr c11; subst c11
  have H1 : (none) = some r := by rw [if_neg (show ¬ (false = true) by decide)] at H; exact H
  clear H; have H := H1; clear H1; exact absurd H (by simp)
 subst c11
 have H1 : (some true) = some r := by rw [if_pos rfl] at H; exact H
 clear H
 have H := H1
 clear H1
 obtain rfl := Option.some.inj H
 go_enter Try.func5, Try.ntmps5
 go_wp2_with (first | ((with_reducible refine gate_callee (f := 24) rfl ?_); refine goesL_ (some 9) rfl rfl Try.func24 (by kernel_rfl) rfl #[.slice A0 l0.length c0, .int .i64 1048576] rfl (MA) ?_; (with_reducible refine (laws_szCallS.calls _ _ l0 1048576 t255 _ ?side1 ?side2 A2.out).mono ?_); (case side1 => repeat (first | exact HR0.out | (with_reducible refine Kd.C_alloc ?_ _) | (with_reducible refine Kd.C_drewN ?_ _) | (with_reducible refine Kd.C_drew ?_))); (case side2 => exact HC0.out); rintro e w' ⟨rfl, ⟨nd, rfl⟩⟩; refine ⟨_, rfl, ?_⟩) | ((with_reducible refine gate_callee (f := 26) rfl ?_); refine goesL_ (some 13) rfl rfl Try.func26 (by kernel_rfl) rfl #[.slice A0 l0.length c0] rfl (MA) ?_; (with_reducible refine (laws_toCallS.calls k _ _ l0 t256 _ ?side1 ?side2 A4.out).mono ?_); (case side1 => repeat (first | exact HR0.out | (with_reducible refine Kd.C_alloc ?_ _) | (with_reducible refine Kd.C_drewN ?_ _) | (with_reducible refine Kd.C_drew ?_))); (case side2 => exact HC0.out); rintro e w12 ⟨v257, rfl, ho0, hb⟩; refine ⟨_, rfl, ?_⟩; have HO258 := Aside0.mk (Kd.R_lower ho0 (below_size (BL))); replace HB := Aside0.mk (below_step (BL) hb); (try clear hb); (try clear hb2); (try clear hk); (try clear hi); (try clear ho0); obtain ⟨Ao13, co13, eo13⟩ := Kd.R_slice HO258.out; subst eo13) | ((with_reducible refine gate_callee (f := 25) rfl ?_); refine goesL_ (some 14) rfl rfl Try.func25 (by kernel_rfl) rfl #[.slice Ao13 t256.length co13] rfl (MA) ?_; (with_reducible refine (spec_InSomeOrder.calls k _ _ t256 t259 _ ?side1 ?side2 A5.out).mono ?_); (case side1 => repeat (first | exact (Kd.R_reads' HO258.out).2.2 | (with_reducible refine Kd.C_alloc ?_ _) | (with_reducible refine Kd.C_drewN ?_ _) | (with_reducible refine Kd.C_drew ?_))); (case side2 => exact (Kd.R_reads' HO258.out).2.1); rintro e w14 ⟨rfl, hb⟩; refine ⟨_, rfl, ?_⟩; replace HO258 := Aside0.mk (Kd.R_below (RQ HO258.out) hb); replace HB := Aside0.mk (below_step (BL) hb); (try clear hb); (try clear hb2); (try clear hk); (try clear hi)) | ((with_reducible refine gate_callee (f := 26) rfl ?_); refine goesL_ (some 16) rfl rfl Try.func26 (by kernel_rfl) rfl #[.slice A0 l0.length c0] rfl (MA) ?_; (with_reducible refine (laws_toCallS.calls k _ _ l0 t260 _ ?side1 ?side2 A6.out).mono ?_); (case side1 => exact CB HR0.out); (case side2 => exact HC0.out); rintro e w15 ⟨v261, rfl, ho0, hb⟩; refine ⟨_, rfl, ?_⟩; have HO262 := Aside0.mk (Kd.R_lower (Kd.R_new' ho0 (Kd.R_lt (RQ HO258.out))) (below_size (BL))); replace HO258 := Aside0.mk (Kd.R_elder' (RQ HO258.out) (Kd.R_base ho0) hb); replace HB := Aside0.mk (below_step (BL) hb); (try clear hb); (try clear hb2); (try clear hk); (try clear hi); (try clear ho0); obtain ⟨Ao16, co16, eo16⟩ := Kd.R_slice HO262.out; subst eo16) | ((with_reducible refine gate_callee (f := 27) rfl ?_); refine goesL_ (some 18) rfl rfl Try.func27 (by kernel_rfl) rfl #[.slice Ao16 t260.length co16] rfl (MA) ?_; (with_reducible refine (impl_InSomeOrder.calls k _ _ t260 t263 _ ?side1 ?side2 A7.out).mono ?_); (case side1 => repeat (first | exact (Kd.R_reads' HO262.out).2.2 | (with_reducible refine Kd.C_alloc ?_ _) | (with_reducible refine Kd.C_drewN ?_ _) | (with_reducible refine Kd.C_drew ?_))); (case side2 => exact (Kd.R_reads' HO262.out).2.1); rintro e w17 ⟨rfl, hb⟩; refine ⟨_, rfl, ?_⟩; replace HO258 := Aside0.mk (Kd.R_below (RQ HO258.out) hb); replace HO262 := Aside0.mk (Kd.R_below (RQ HO262.out) hb); replace HB := Aside0.mk (below_step (BL) hb); (try clear hb); (try clear hb2); (try clear hk); (try clear hi)) | ((with_reducible refine gate_callee (f := 26) rfl ?_); refine goesL_ (some 24) rfl rfl Try.func26 (by kernel_rfl) rfl #[.slice A0 l0.length c0] rfl (MA) ?_; (with_reducible refine (laws_toCallS.calls k _ _ l0 t264 _ ?side1 ?side2 A9.out).mono ?_); (case side1 => exact CB HR0.out); (case side2 => exact HC0.out); rintro e w18 ⟨v265, rfl, ho0, hb⟩; refine ⟨_, rfl, ?_⟩; have HO266 := Aside0.mk (Kd.R_lower (Kd.R_new' (Kd.R_new' ho0 (Kd.R_lt (RQ HO258.out))) (Kd.R_lt (RQ HO262.out))) (below_size (BL))); replace HO258 := Aside0.mk (Kd.R_elder' (RQ HO258.out) (Kd.R_base ho0) hb); replace HO262 := Aside0.mk (Kd.R_elder' (RQ HO262.out) (Kd.R_base ho0) hb); replace HB := Aside0.mk (below_step (BL) hb); (try clear hb); (try clear hb2); (try clear hk); (try clear hi); (try clear ho0); obtain ⟨Ao19, co19, eo19⟩ := Kd.R_slice HO266.out; subst eo19) | ((with_reducible refine gate_callee (f := 28) rfl ?_); refine goesL_ (some 25) rfl rfl Try.func28 (by kernel_rfl) rfl #[.slice Ao16 t260.length co16, .slice Ao19 t264.length co19] rfl (MA) ?_; (with_reducible refine (laws_eqCallS.calls k _ _ t260 _ _ t264 true _ ?side1 ?side2 ?side3 ?side4 A10.out).mono ?_); (case side1 => repeat (first | exact (Kd.R_reads' HO262.out).2.2 | (with_reducible refine Kd.C_alloc ?_ _) | (with_reducible refine Kd.C_drewN ?_ _) | (with_reducible refine Kd.C_drew ?_))); (case side2 => exact (Kd.R_reads' HO262.out).2.1); (case side3 => repeat (first | exact (Kd.R_reads' HO266.out).2.2 | (with_reducible refine Kd.C_alloc ?_ _) | (with_reducible refine Kd.C_drewN ?_ _) | (with_reducible refine Kd.C_drew ?_))); (case side4 => exact (Kd.R_reads' HO266.out).2.1); rintro e w20 ⟨rfl, hb⟩; refine ⟨_, rfl, ?_⟩; replace HO258 := Aside0.mk (Kd.R_below (RQ HO258.out) hb); replace HO262 := Aside0.mk (Kd.R_below (RQ HO262.out) hb); replace HO266 := Aside0.mk (Kd.R_below (RQ HO266.out) hb); replace HB := Aside0.mk (below_step (BL) hb); (try clear hb); (try clear hb2); (try clear hk); (try clear hi)))
 go_ret
 exact ⟨EE, BL⟩

/-- THE PURE STATEMENT of laws_FnExactInSomeOrder. -/
def laws_FnExactInSomeOrder.Pure : Prop := ∀ (l0 : List (S91)), ((∀ x_ ∈ l0, (((Lit.int .i64 x_.f0.f0).wf = true ∧ (Lit.int .i64 x_.f0.f1).wf = true ∧ (Lit.int .i64 x_.f0.f2).wf = true ∧ (Lit.int .i64 x_.f0.f3).wf = true ∧ (Lit.int .i64 x_.f0.f4).wf = true ∧ (Lit.int .i64 x_.f0.f5).wf = true ∧ (Lit.int .i64 x_.f0.f6).wf = true ∧ (Lit.int .i64 x_.f0.f7).wf = true ∧ (Lit.int .i64 x_.f0.f8).wf = true ∧ True ∧ (Lit.int .i64 x_.f0.f10).wf = true) ∧ (Lit.int .i64 x_.f1).wf = true ∧ (Lit.int .i64 x_.f2).wf = true)) ∧ l0.length ≤ maxLen) → ∃ k, laws_FnExactInSomeOrder.f k l0 = some true

end Go.Proofs.Ytfkhncoiifojnaa.Qso
