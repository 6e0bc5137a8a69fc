-- Laid by myprint.py, a program of this session's own, over the kit's print. Not trusted: Lean checks it.
import Derived.Test.YthfppepnpngfmaaQcux0
import Derived.Test.YthfppepnpngfmaaQcux3
import Derived.Test.YthfppepnpngfmaaQcux4
namespace Go.Proofs.Ythfppepnpngfmaa.Qcu
open Go.RowKit Go.Proofs.YthfppepnpngfmaaW.PrintWords Go.Proofs.YthfppepnpngfmaaW.PrintLast Go.Proofs.YthfppepnpngfmaaW.PrintMore
attribute [local go_sem] Go.Proofs.Ythfppepnpngfmaa.StrCmp.gtr_less Go.Proofs.Ythfppepnpngfmaa.StrCmp.geq_less Go.Proofs.Ythfppepnpngfmaa.StrCmp.leq_less max2_int min2_int max_two min_two max_three min_three max_four min_four   -- for this text's walks alone
set_option linter.unusedVariables false
set_option linter.unusedSimpArgs false

/-! ### impl_withFile: function 66 -/
section
open Go.Proofs.Ythfppepnpngfmaa.Row
set_option maxHeartbeats 4000000 in
set_option maxRecDepth 100000 in
theorem impl_withFile.insert_end (l : List S45) (v : Value) (x : S45) (vb base : Nat) (ok : Nat → Prop) (w : World) (hR : Kd.R k45 45 w base ok v l) (hv : RowIs w vb 45 (en45 x)) (hn : l.length < 1000000) (hbase : base ≤ w.heap.size) (hfresh : ∀ k, w.heap.size ≤ k → ok k) :
    Calls Try.prog 80 #[v, .int .i64 l.length, .slice (some ⟨vb, 0, none⟩) 1 1] w fun e w' => ∃ v', e = .returned v' ∧ Kd.R k45 45 w' base ok v' (l ++ [x]) ∧ w.grownBy w' v.ownBlock := by
  have hC : Kd.C k45 w (some ⟨vb, 0, none⟩) 1 [x] := ⟨rfl, by omega, fun _ => ⟨⟨vb, 0, none⟩, rfl, fun j p hj => by
    have hj0 : j = 0 := by have := (List.getElem?_eq_some_iff.1 hj).1; simp at this; omega
    subst hj0
    obtain rfl : x = p := by simpa using hj
    refine ⟨en45 x, rfl, k45_mk _ _, fun i u hi => ?_⟩
    rw [add_at]
    exact hv.cell (by simpa using hi)⟩⟩
  obtain ⟨A, c, rfl, hlc, _⟩ := Kd.R_reads hR
  obtain ⟨row, hrow⟩ : ∃ row, Aside0 ((Value.slice A l.length c).ownBlock = row) := ⟨_, ⟨rfl⟩⟩
  rw [hrow.out]
  have HR := Aside0.mk hR
  have HC := Aside0.mk hC
  have hln : ((l.length : Int) == (l.length : Int)) = true := by simp
  clear hR hC hv
  go_enter Try.func80, Try.ntmps80
  go_wp2_with (at_builtin; refine Kd.R_append_rows k45 (w0 := w) base rfl (.tmp 23) (.tmp 24) 27 45 (.agg #[(.string ⟨#[]⟩), (.string ⟨#[]⟩), (.int .i64 0)]) 40 rfl Try.underlying27 info45 rfl (by decide) (by omega) (.slice A l.length c) l [x] _ _ _ ok (fun _ => False) rfl rfl HR.out HC.out (fun x cs h => h) (fun _ h => h.elim) hfresh (Below.refl _ _) hbase (by omega) ?_; intro v1 w1 hR1 hb1 hg1 hat1)
  all_goals go_ret
  all_goals exact ⟨_, rfl, hR1, by rw [← hrow.out]; exact hg1⟩

theorem row_shift {g m : Nat} {F D R : List Value} {x : S45} {W : World} (h : RowIs W g 45 (F ++ (D ++ R))) (hF : F.length = m) (hR : 3 ≤ R.length) :
    RowIs ((W.setCells g (m + 3) D).setCells g m (en45 x)) g 45 (F ++ en45 x ++ (D ++ R.drop 3)) := by
  subst hF
  have h1 := h.set (F.length + 3) D (by simp; omega)
  have e1 : (F ++ (D ++ R)).take (F.length + 3) = F ++ (D ++ R).take 3 := by rw [List.take_append, List.take_of_length_le (by omega), Nat.add_sub_cancel_left]
  have e2 : (F ++ (D ++ R)).drop (F.length + 3 + D.length) = R.drop 3 := by
    rw [show F.length + 3 + D.length = F.length + (D.length + 3) by omega, ← List.drop_drop, List.drop_left' rfl, ← List.drop_drop, List.drop_left' rfl]
  rw [e1, e2] at h1
  have h2 := h1.set F.length (en45 x) (by simp [en45]; omega)
  have e3 : (F ++ (D ++ R).take 3 ++ D ++ R.drop 3).take F.length = F := by rw [List.append_assoc, List.append_assoc]; exact List.take_left' rfl
  have e4 : (F ++ (D ++ R).take 3 ++ D ++ R.drop 3).drop (F.length + (en45 x).length) = D ++ R.drop 3 := by
    rw [en45_len, List.append_assoc, List.append_assoc, ← List.drop_drop, List.drop_left' rfl, List.drop_left' (by simp; omega)]
  rw [e3, e4] at h2
  exact h2
set_option maxHeartbeats 4000000 in
set_option maxRecDepth 100000 in
theorem impl_withFile.insert_shift (l : List S45) (g c i : Nat) (rest : List Value) (x : S45) (vb : Nat) (w : World) (hi : i < l.length) (hroom : l.length + 1 ≤ c) (hmx : c ≤ 9223372036854775807) (hrow : RowIs w g 45 (flat en45 l ++ rest)) (hrl : rest.length = (c - l.length) * 3) (hv : RowIs w vb 45 (en45 x)) (hvb : vb ≠ g) :
    Calls Try.prog 80 #[.slice (some ⟨g, 0, none⟩) l.length c, .int .i64 i, .slice (some ⟨vb, 0, none⟩) 1 1] w fun e w' => e = .returned (.slice (some ⟨g, 0, none⟩) (l.length + 1) c) ∧ RowIs w' g 45 (flat en45 (l.take i ++ [x] ++ l.drop i) ++ rest.drop 3) ∧ w.grownBy w' (some g) := by
  have hfl : (flat en45 l).length = l.length * 3 := flat_length en45_len l
  have hz2 : ¬ ((i : Int) = (l.length : Int)) := by omega
  have hov : ∀ lb cb, (callFunc 88 #[.slice (some ⟨vb, 0, none⟩) 1 1, .slice (some ⟨g, (i + 1) * 3, none⟩) lb cb]).run Try.prog w = .ok (.value (.bool false)) w := fun lb cb => by
    rw [run_callFunc_extern Try.func88 (by kernel_rfl) (by kernel_rfl) (by kernel_rfl) (e := Extern.SlicesOverlaps.overlaps #[27, 27] #[4]) (by kernel_rfl),
      Lib.run_overlaps_apart w 27 4 45 Try.underlying27 3 (fun W => by kernel_rfl) ⟨vb, 0, none⟩ ⟨g, (i + 1) * 3, none⟩ 1 1 lb cb hvb 45 45 3 (flat en45 l ++ rest).length hv.shape hrow.shape (by simp [hfl]; omega) (hv.free 0) (hv.free 3)]
    rfl
  have hsz : (Try.prog.info? 45).map (·.size) = some 3 := by kernel_rfl
  have hD : (flat en45 (l.drop i)).length = (l.length - i) * 3 := by rw [flat_length en45_len, List.length_drop]
  have hF : (flat en45 (l.take i)).length = i * 3 := by rw [flat_length en45_len, List.length_take]; omega
  have hsplit : flat en45 l ++ rest = flat en45 (l.take i) ++ (flat en45 (l.drop i) ++ rest) := by rw [← List.append_assoc, ← flat_append, List.take_append_drop]
  have hone : ∀ (ys : List S45), ∀ v ∈ flat en45 ys, v.oneCell' = true := fun ys v hv' => by
    obtain ⟨y, _, hy⟩ := List.mem_flatMap.1 hv'
    exact en45_one y v hy
  have hw1 : IntKind.i64.wrap ((i : Int) + 1) = (i : Int) + 1 := by rw [IntKind.wrap_i64]; omega
  have hb1 : (0 : Int) ≤ (i : Int) + 1 := by omega
  have htn : ((i : Int) + 1).toNat = i + 1 := by omega
  have hb2 : ¬ (c = i + 1) := by omega
  have hb3 : (i : Int) ≤ (l.length : Int) + 1 := by omega
  have hb4 : ¬ (c = i) := by omega
  have hb5 : i ≤ l.length := by omega
  have hlen : (flat en45 l ++ rest).length = c * 3 := by rw [List.length_append, hfl, hrl, ← Nat.add_mul]; congr 1; omega
  have hcp1 : ∀ ty dc sc, (Builtin.copy_ #[27, 27] ty #[.slice (some ⟨g, (i + 1) * 3, none⟩) (l.length - i) dc, .slice (some ⟨g, i * 3, none⟩) (l.length + 1 - i) sc]).run Try.prog w.drew = .ok (goInt (Nat.min (l.length + 1 - i) (l.length - i))) (w.drew.setCells g (i * 3 + 3) (flat en45 (l.drop i))) := fun ty dc sc => by
    have := run_copy_k (P := Try.prog) w.drew 27 27 ty 45 g ((i + 1) * 3) (l.length - i) dc ⟨g, i * 3, none⟩ (l.length + 1 - i) sc 3 (flat en45 (l.drop i)) Try.underlying27 hsz (by rw [hD]; simp only [Nat.min_def]; split <;> omega)
      (hrow.drew.cells (i * 3) _ (fun j hj => by rw [hsplit, ← hF, List.getElem?_append_right (by omega), Nat.add_sub_cancel_left, List.getElem?_append_left hj]))
      (fun j hj => hrow.drew.isSome (by rw [hlen]; omega)) (fun j _ => hrow.drew.free _) (hone _)
    have e : (i + 1) * 3 = i * 3 + 3 := by omega
    rw [e] at this ⊢
    exact this
  have HROW := Aside0.mk hrow
  have HSP := Aside0.mk hsplit
  have HF := Aside0.mk hF
  have HD := Aside0.mk hD
  have HV := Aside0.mk hv
  have HFL := Aside0.mk hfl
  have HLN := Aside0.mk hlen
  have HRL := Aside0.mk hrl
  have HONE := Aside0.mk hone
  have HSZ := Aside0.mk hsz
  have hdrew : ∀ W : World, Aside0 (W = w.drew.setCells g (i * 3 + 3) (flat en45 (l.drop i)) → ∀ ty dc, (Builtin.copy_ #[27, 27] ty #[.slice (some ⟨g, i * 3, none⟩) (l.length + 1 - i) dc, .slice (some ⟨vb, 0, none⟩) 1 1]).run Try.prog W = .ok (goInt (Nat.min 1 (l.length + 1 - i))) (W.setCells g (i * 3) (en45 x))) := fun W => ⟨fun hW ty dc => by
    subst hW
    have hs := HROW.out.drew.set (i * 3 + 3) (flat en45 (l.drop i)) (by rw [HLN.out, HD.out]; omega)
    have hV : RowIs (w.drew.setCells g (i * 3 + 3) (flat en45 (l.drop i))) vb 45 (en45 x) := HV.out.to (setCells_far _ _ vb hvb)
    refine run_copy_k (P := Try.prog) _ 27 27 ty 45 g (i * 3) (l.length + 1 - i) dc ⟨vb, 0, none⟩ 1 1 3 (en45 x) Try.underlying27 HSZ.out (by rw [en45_len]; simp only [Nat.min_def]; split <;> omega) (hV.cells 0 _ (fun j _ => by simp)) (fun j hj => hs.isSome ?_) (fun j _ => hs.free _) (en45_one x)
    rw [en45_len] at hj
    simp only [List.length_append, List.length_take, List.length_drop, HD.out, HRL.out, HFL.out] at *
    omega⟩
  clear hrow hsplit hF hD hv hfl hlen hrl hone hsz
  go_enter Try.func80, Try.ntmps80
  go_wp2_with (simp only [hov])
  go_region_law (refine step_copy_run rfl _ _ 27 27 rfl _ _ (by simp [Act.eval, Act.put]) (by simp [Act.eval, Act.put]) (hcp1 _ _ _) ?_)
  obtain ⟨W1, hW1⟩ : ∃ W1, W1 = w.drew.setCells g (i * 3 + 3) (flat en45 (l.drop i)) := ⟨_, rfl⟩
  have hcp2 := (hdrew W1).out hW1
  rw [← hW1]
  have HW1 := Aside0.mk hW1
  clear hW1 hdrew hcp1
  go_wp2_with (at_builtin; refine wpList_copy_run _ rfl _ _ 27 27 rfl _ _ rfl rfl (hcp2 _ _) ?_)
  go_ret
  refine ⟨rfl, ?_, ?_⟩
  · have h0 := HROW.out.drew
    rw [HSP.out] at h0
    have h := row_shift (x := x) h0 HF.out (by rw [HRL.out]; omega)
    rw [HW1.out, flat_append, flat_append]
    simpa [flat_cons, flat_nil, List.append_assoc] using h
  · rw [HW1.out]
    exact grown_trans (grown_trans (grown_of_below (below_drew (Below.refl _ _)) _) (grown_set w.drew g _ _)) (grown_set _ g _ _)
theorem row_grow {N m : Nat} {F Z D : List Value} {x : S45} {W : World} (h : RowIs W N 45 (F ++ Z)) (hF : F.length = m) (hZ : 3 + D.length ≤ Z.length) :
    RowIs (((W.setCells N m (en45 x)).drew).setCells N (m + 3) D) N 45 (F ++ en45 x ++ (D ++ Z.drop (3 + D.length))) := by
  subst hF
  have h1 := h.set F.length (en45 x) (by simp [en45]; omega)
  rw [List.take_left' rfl, en45_len, ← List.drop_drop, List.drop_left' rfl] at h1
  have h2 := h1.drew.set (F.length + 3) D (by simp [en45]; omega)
  have e1 : (F ++ en45 x ++ Z.drop 3).take (F.length + 3) = F ++ en45 x := List.take_left' (by simp [en45])
  have e2 : (F ++ en45 x ++ Z.drop 3).drop (F.length + 3 + D.length) = Z.drop (3 + D.length) := by
    rw [← List.drop_drop, List.drop_left' (by simp [en45]), List.drop_drop]
  rw [e1, e2] at h2
  rw [← List.append_assoc]
  exact h2
set_option maxHeartbeats 4000000 in
set_option maxRecDepth 100000 in
theorem impl_withFile.insert_grow (l : List S45) (g c i : Nat) (rest : List Value) (x : S45) (vb : Nat) (w : World) (hi : i < l.length) (hn : l.length < 1000000) (hcl : l.length ≤ c) (hroom : c < l.length + 1) (hrow : RowIs w g 45 (flat en45 l ++ rest)) (hv : RowIs w vb 45 (en45 x)) :
    Calls Try.prog 80 #[.slice (some ⟨g, 0, none⟩) l.length c, .int .i64 i, .slice (some ⟨vb, 0, none⟩) 1 1] w fun e w' => ∃ G rest', e = .returned (.slice (some ⟨w.heap.size, 0, none⟩) (l.length + 1) G) ∧ l.length + 1 ≤ G ∧ G ≤ maxLen ∧ rest'.length = (G - (l.length + 1)) * 3 ∧ RowIs w' w.heap.size 45 (flat en45 (l.take i ++ [x] ++ l.drop i) ++ rest') ∧ Below w.heap.size w w' := by
  have hfl : (flat en45 l).length = l.length * 3 := flat_length en45_len l
  have hz2 : ¬ ((i : Int) = (l.length : Int)) := by omega
  have hz3 : (c : Int) < (l.length : Int) + 1 := by omega
  have hsz : (Try.prog.info? 45).map (·.size) = some 3 := by kernel_rfl
  have hD : (flat en45 (l.drop i)).length = (l.length - i) * 3 := by rw [flat_length en45_len, List.length_drop]
  have hF : (flat en45 (l.take i)).length = i * 3 := by rw [flat_length en45_len, List.length_take]; omega
  have hsplit : flat en45 l ++ rest = flat en45 (l.take i) ++ (flat en45 (l.drop i) ++ rest) := by rw [← List.append_assoc, ← flat_append, List.take_append_drop]
  have hone : ∀ (ys : List S45), ∀ v ∈ flat en45 ys, v.oneCell' = true := fun ys v hv' => by
    obtain ⟨y, _, hy⟩ := List.mem_flatMap.1 hv'
    exact en45_one y v hy
  obtain ⟨N, hN⟩ : ∃ N, N = w.heap.size := ⟨_, rfl⟩
  obtain ⟨G, W1, Z, hrz, hG1, hG2, hZ, hR1, hB1⟩ : ∃ G W1 Z, (∀ ty, (Builtin.append_ #[27, 3] ty #[.slice (some ⟨g, 0, none⟩) i c, .int .i64 ((l.length : Int) + 1 - (i : Int))]).run Try.prog w = .ok (.slice (some ⟨N, 0, none⟩) (l.length + 1) G) W1) ∧ l.length + 1 ≤ G ∧ G ≤ maxLen ∧ Z.length = (G - i) * 3 ∧ RowIs W1 N 45 (flat en45 (l.take i) ++ Z) ∧ Below w.heap.size w W1 := by
    obtain ⟨i0, hi0, hz0, hzs, hzb⟩ := info_parts info45
    have hold : (Builtin.firstCells i0.size i (.slice (some ⟨g, 0, none⟩) i c)).run Try.prog w.drew = .ok (flat en45 (l.take i)).toArray w.drew := by
      rw [hzs]
      exact run_firstCells_some w.drew 3 i ⟨g, 0, none⟩ i c (flat en45 (l.take i)) (by rw [hF]) (hrow.drew.cells 0 _ (fun j hj => by rw [hsplit, Nat.zero_add, List.getElem?_append_left hj]))
    have hg := grownCap_ge w (l.length + 1) c 45
    have hik : i + (l.length + 1 - i) = l.length + 1 := by omega
    refine ⟨grownCap w (l.length + 1) c 45, w.drew.alloc (.cells ((flat en45 (l.take i)).toArray ++ Builtin.zeroCells (Value.agg #[.string ⟨#[]⟩, .string ⟨#[]⟩, .int .i64 0]).cells (l.length + 1 - i) ++ Builtin.zeroCells (Value.agg #[.string ⟨#[]⟩, .string ⟨#[]⟩, .int .i64 0]).cells (grownCap w (l.length + 1) c 45 - (l.length + 1))) 45), (Builtin.zeroCells #[.string ⟨#[]⟩, .string ⟨#[]⟩, .int .i64 0] (l.length + 1 - i)).toList ++ (Builtin.zeroCells #[.string ⟨#[]⟩, .string ⟨#[]⟩, .int .i64 0] (grownCap w (l.length + 1) c 45 - (l.length + 1))).toList, fun ty => ?_, hg, grownCap_le_maxLen w _ _ _ (by unfold maxLen; omega), ?_, ?_, ?_⟩
    · have h := Lib.run_append_grow_zeros w 27 3 ty 45 i0 _ .i64 .i64 Try.underlying27 Try.underlying3 hi0 hz0 (some ⟨g, 0, none⟩) i c _ hold (l.length + 1 - i) (by omega) (by omega) (by omega) (by omega) (by rw [hzb]; omega) (by rw [hzb, hik]; exact growslice_fits hroom (by omega))
      rw [hik] at h
      rw [show ((l.length : Int) + 1 - (i : Int)) = ((l.length + 1 - i : Nat) : Int) by omega, hN]
      exact h
    · simp [Builtin.zeroCells]; omega
    · rw [hN]
      have := RowIs.new w.drew 45 ((flat en45 (l.take i)).toArray ++ Builtin.zeroCells (Value.agg #[.string ⟨#[]⟩, .string ⟨#[]⟩, .int .i64 0]).cells (l.length + 1 - i) ++ Builtin.zeroCells (Value.agg #[.string ⟨#[]⟩, .string ⟨#[]⟩, .int .i64 0]).cells (grownCap w (l.length + 1) c 45 - (l.length + 1)))
      simpa [Value.cells, List.append_assoc] using this
    · exact below_alloc (below_drew (Below.refl _ _)) _
  rw [← hN] at hB1 ⊢
  have hlenN : (flat en45 (l.take i) ++ Z).length = G * 3 := by rw [List.length_append, hF, hZ, ← Nat.add_mul]; congr 1; omega
  have hvN : RowIs W1 vb 45 (en45 x) := hv.below (hN ▸ hB1)
  have hgN : RowIs W1 g 45 (flat en45 l ++ rest) := hrow.below (hN ▸ hB1)
  have hgne : g ≠ N := by have := hrow.lt; omega
  have hcpA : ∀ ty dc, (Builtin.copy_ #[27, 27] ty #[.slice (some ⟨N, i * 3, none⟩) (l.length + 1 - i) dc, .slice (some ⟨vb, 0, none⟩) 1 1]).run Try.prog W1 = .ok (goInt (Nat.min 1 (l.length + 1 - i))) (W1.setCells N (i * 3) (en45 x)) := fun ty dc =>
    run_copy_k (P := Try.prog) W1 27 27 ty 45 N (i * 3) (l.length + 1 - i) dc ⟨vb, 0, none⟩ 1 1 3 (en45 x) Try.underlying27 hsz (by rw [en45_len]; simp only [Nat.min_def]; split <;> omega) (hvN.cells 0 _ (fun j _ => by simp)) (fun j hj => hR1.isSome (by rw [hlenN]; rw [en45_len] at hj; omega)) (fun j _ => hR1.free _) (en45_one x)
  have hR2 := hR1.set (i * 3) (en45 x) (by rw [hlenN, en45_len]; omega)
  have hg2 : RowIs (W1.setCells N (i * 3) (en45 x)) g 45 (flat en45 l ++ rest) := hgN.to (setCells_far _ _ g hgne)
  have hcpB : ∀ ty dc sc, (Builtin.copy_ #[27, 27] ty #[.slice (some ⟨N, (i + 1) * 3, none⟩) (l.length - i) dc, .slice (some ⟨g, i * 3, none⟩) (l.length - i) sc]).run Try.prog (W1.setCells N (i * 3) (en45 x)).drew = .ok (goInt (Nat.min (l.length - i) (l.length - i))) ((W1.setCells N (i * 3) (en45 x)).drew.setCells N (i * 3 + 3) (flat en45 (l.drop i))) := fun ty dc sc => by
    have e : (i + 1) * 3 = i * 3 + 3 := by omega
    have := run_copy_k (P := Try.prog) (W1.setCells N (i * 3) (en45 x)).drew 27 27 ty 45 N ((i + 1) * 3) (l.length - i) dc ⟨g, i * 3, none⟩ (l.length - i) sc 3 (flat en45 (l.drop i)) Try.underlying27 hsz (by rw [hD]; simp [Nat.min_def])
      (hg2.drew.cells (i * 3) _ (fun j hj => by rw [hsplit, ← hF, List.getElem?_append_right (by omega), Nat.add_sub_cancel_left, List.getElem?_append_left hj]))
      (fun j hj => hR2.drew.isSome (by
        have := congrArg List.length (List.take_append_drop (i * 3) (flat en45 (l.take i) ++ Z))
        simp only [List.length_append, List.length_take, List.length_drop, hF, hZ, en45_len, hD] at *
        omega)) (fun j _ => hR2.drew.free _) (hone _)
    rw [e] at this ⊢
    exact this
  have hG9 : G ≤ 9223372036854775807 := by unfold maxLen at hG2; omega
  have hw1 : IntKind.i64.wrap ((i : Int) + 1) = (i : Int) + 1 := by rw [IntKind.wrap_i64]; omega
  have hb1 : (0 : Int) ≤ (i : Int) + 1 := by omega
  have htn : ((i : Int) + 1).toNat = i + 1 := by omega
  have hb2 : ¬ (G = i + 1) := by omega
  have hb3 : (i : Int) ≤ (l.length : Int) + 1 := by omega
  have hb4 : ¬ (G = i) := by omega
  have hb5 : i ≤ l.length := by omega
  have hb6 : ¬ (c = i) := by omega
  have hG2' := Aside0.mk hG2
  have HR1 := Aside0.mk hR1
  have HF := Aside0.mk hF
  have HD := Aside0.mk hD
  have HZ := Aside0.mk hZ
  have HB1 := Aside0.mk hB1
  have HN := Aside0.mk hN
  clear hG2 hR1 hF hD hZ hB1 hN hrow hv hfl hsz hsplit hone hlenN hvN hgN hR2 hg2
  go_enter Try.func80, Try.ntmps80
  go_wp2_with (first | (at_builtin; refine wpList_append_run _ rfl _ _ 27 3 rfl _ _ rfl rfl (hrz _) ?_) | (refine wpList_copy_run _ rfl _ _ 27 27 rfl _ _ rfl rfl (hcpA _ _) ?_))

  go_region_law (refine step_copy_run rfl _ _ 27 27 rfl _ _ (by simp [Act.eval, Act.put]) (by simp [Act.eval, Act.put]) (hcpB _ _ _) ?_)
  go_wp2
  go_ret
  have hx := row_grow (x := x) HR1.out HF.out (D := flat en45 (l.drop i)) (by rw [HD.out, HZ.out]; omega)
  refine ⟨G, Z.drop (3 + (flat en45 (l.drop i)).length), rfl, hG1, hG2'.out, by rw [List.length_drop, HZ.out, HD.out]; omega, ?_, ?_⟩
  · rw [flat_append, flat_append]
    simpa [flat_cons, flat_nil, List.append_assoc] using hx
  · have h1 := pw_below_grown HB1.out (some N) (by have := HN.out; have := HB1.out.size; omega) (grown_set W1 N (i * 3) (en45 x)) (fun k hk => by cases hk; have := HN.out; omega)
    have h2 := below_drew h1
    exact pw_below_grown h2 (some N) (by have := HN.out; have := h2.size; omega) (grown_set _ N _ _) (fun k hk => by cases hk; have := HN.out; omega)
theorem impl_withFile.insert (l : List S45) (v : Value) (x : S45) (i vb base : Nat) (ok : Nat → Prop) (w : World) (hi : i ≤ l.length) (hR : Kd.R k45 45 w base ok v l) (hv : RowIs w vb 45 (en45 x)) (hvn : ∀ k, v.ownBlock = some k → vb ≠ k) (hn : l.length < 1000000) (hbase : base ≤ w.heap.size) (hfresh : ∀ k, w.heap.size ≤ k → ok k) :
    Calls Try.prog 80 #[v, .int .i64 i, .slice (some ⟨vb, 0, none⟩) 1 1] w fun e w' => ∃ v', e = .returned v' ∧ Kd.R k45 45 w' base ok v' (l.take i ++ [x] ++ l.drop i) ∧ w.grownBy w' v.ownBlock := by
  by_cases he : i = l.length
  · subst he
    rw [List.take_length, List.drop_length, List.append_nil]
    exact impl_withFile.insert_end l v x vb base ok w hR hv hn hbase hfresh
  · rcases R_rows (enc := en45) en45_len en45_M hR with ⟨_, rfl⟩ | ⟨g, c, rest, rfl, hbg, hokg, hcap, hmx, hrow, hrl⟩
    · simp at hi he; omega
    have hlen : (l.take i ++ [x] ++ l.drop i).length = l.length + 1 := by simp; omega
    by_cases hroom : l.length + 1 ≤ c
    · refine (impl_withFile.insert_shift l g c i rest x vb w (by omega) hroom (by unfold maxLen at hmx; omega) hrow hrl hv (hvn g rfl)).mono ?_
      rintro e w' ⟨rfl, h1, h2⟩
      refine ⟨_, rfl, ?_, h2⟩
      rw [← hlen]
      exact R_of_rows en45_len en45_mk hbg hokg (by omega) hmx h1 (by rw [hlen, List.length_drop, hrl]; have e3 : k45.sz = 3 := rfl; rw [e3]; omega)
    · refine (impl_withFile.insert_grow l g c i rest x vb w (by omega) hn hcap (by omega) hrow hv).mono ?_
      rintro e w' ⟨G, rest', rfl, h1, h2, h3, h4, h5⟩
      refine ⟨_, rfl, ?_, grown_of_below h5 _⟩
      rw [← hlen]
      exact R_of_rows en45_len en45_mk hbase (hfresh _ (Nat.le_refl _)) (by omega) h2 h4 (by rw [hlen]; exact h3)
def impl_withFile.at_ (s : ByteArray) : List S45 → Nat
  | [] => 0
  | x :: r => if (Op.bytesLess x.f0.toList s.toList) = true then impl_withFile.at_ s r + 1 else 0
def impl_withFile.f (l0_0 : List S45) (a1_0 : ByteArray) (a1_1 : ByteArray) (a1_2 : Int) : Option (List S45) := (impl_withoutFile.f l0_0 a1_0).bind fun l => if l.length < 1000000 then some (l.take (impl_withFile.at_ a1_0 l) ++ [⟨a1_0, a1_1, a1_2⟩] ++ l.drop (impl_withFile.at_ a1_0 l)) else none
set_option maxHeartbeats 4000000 in
set_option maxRecDepth 100000 in
theorem impl_withFile.calls (A0_0 : Option Addr) (c0_0 : Nat) (l0_0 : List (S45)) (a1_0 : ByteArray) (a1_1 : ByteArray) (a1_2 : Int) (r : List S45) (w : World) (hr0_0 : Kd.C k45 w A0_0 l0_0.length l0_0) (hc0_0 : l0_0.length ≤ c0_0) (h : impl_withFile.f l0_0 a1_0 a1_1 a1_2 = some r) :
    Calls Try.prog 66 #[.agg #[.slice A0_0 l0_0.length c0_0], .agg #[.string a1_0, .string a1_1, .int .i64 a1_2]] w fun e w' => ∃ v0_ : Value, e = .returned (.agg #[v0_]) ∧ Kd.R k45 45 w' w.heap.size (fun _ => True) v0_ r ∧ Below w.heap.size w w' := by
  obtain ⟨l, h1, h2⟩ := Option.bind_eq_some_iff.1 h
  by_cases hn : l.length < 1000000
  · rw [if_pos hn] at h2
    obtain rfl := Option.some.inj h2
    have hu29 := Try.underlying29
    have hu45 := Try.underlying45
    have hb0 := below_alloc (below_alloc (below_alloc (Below.refl w.heap.size w) (.cells #[.slice A0_0 l0_0.length c0_0] 29)) (.cells #[.string a1_0, .string a1_1, .int .i64 a1_2] 45)) (.cells #[.slice none 0 0] 29)
    have hcp := impl_withoutFile.calls A0_0 c0_0 l0_0 a1_0 l (((w.alloc (.cells #[.slice A0_0 l0_0.length c0_0] 29)).alloc (.cells #[.string a1_0, .string a1_1, .int .i64 a1_2] 45)).alloc (.cells #[.slice none 0 0] 29)) (Kd.C_alloc (Kd.C_alloc (Kd.C_alloc hr0_0 _) _) _) hc0_0 h1
    have HB0 := Aside0.mk hb0
    clear h h1 h2 hr0_0 hc0_0 hb0
    go_enter Try.func66, Try.ntmps66
    go_wp2_with (first | (go_at_call 67; refine hcp.mono ?_; rintro e w1 ⟨v0, rfl, hR, hb1⟩; obtain ⟨Ao, co, rfl, hco, _⟩ := Kd.R_reads hR; have HR := Aside0.mk hR; have HB1 := Aside0.mk hb1; have hs1 : w1.heap.size > w.heap.size + 2 := (by have := hb1.size; simp at this; omega); have CN := Aside0.mk (pw_cell_below (below_then hb1 hb1.size (below_alloc (Below.refl _ _) (.cells #[.slice Ao l.length co] 29))) (show (((w.alloc (.cells #[.slice A0_0 l0_0.length c0_0] 29)).alloc (.cells #[.string a1_0, .string a1_1, .int .i64 a1_2] 45)).alloc (.cells #[.slice none 0 0] 29)).cell? ⟨w.heap.size + 1, 0, none⟩ = some (.string a1_0) from by go_simp)); have CN1 := Aside0.mk (pw_cell_below (below_then hb1 hb1.size (below_alloc (Below.refl _ _) (.cells #[.slice Ao l.length co] 29))) (show (((w.alloc (.cells #[.slice A0_0 l0_0.length c0_0] 29)).alloc (.cells #[.string a1_0, .string a1_1, .int .i64 a1_2] 45)).alloc (.cells #[.slice none 0 0] 29)).cell? ⟨w.heap.size + 1, 1, none⟩ = some (.string a1_1) from by go_simp)); have CN2 := Aside0.mk (pw_cell_below (below_then hb1 hb1.size (below_alloc (Below.refl _ _) (.cells #[.slice Ao l.length co] 29))) (show (((w.alloc (.cells #[.slice A0_0 l0_0.length c0_0] 29)).alloc (.cells #[.string a1_0, .string a1_1, .int .i64 a1_2] 45)).alloc (.cells #[.slice none 0 0] 29)).cell? ⟨w.heap.size + 1, 2, none⟩ = some (.int .i64 a1_2) from by go_simp)); clear hR hb1))
    obtain ⟨W2, hW2⟩ : ∃ W2, W2 = w1.alloc (.cells #[.slice Ao l.length co] 29) := ⟨_, rfl⟩
    rw [← hW2] at CN CN1 CN2 ⊢
    have CF : Aside0 (W2.heap[w1.heap.size]? = some (.cells #[.slice Ao l.length co] 29 (0, 0))) := ⟨by rw [hW2]; exact heap_alloc_new _ _⟩
    have CZ : Aside0 (W2.heap[w.heap.size + 2]? = some (.cells #[.slice none 0 0] 29 (0, 0))) := ⟨by rw [hW2]; exact ((below_alloc (Below.refl w1.heap.size w1) _).block (w.heap.size + 2) (by omega)).trans ((HB1.out.block (w.heap.size + 2) (by simp)).trans (heap3 w _ _ _))⟩
    have HR2 : Aside0 (Kd.R k45 45 W2 _ _ (.slice Ao l.length co) l) := ⟨by rw [hW2]; exact Kd.R_alloc HR.out _⟩
    have HB2 := Aside0.mk (show Below w1.heap.size w1 W2 from by rw [hW2]; exact below_alloc (Below.refl _ _) _)
    clear hW2
    go_loopg [6] l.length (fun gg s6 wr => ∃ j : Nat, j ≤ l.length ∧ l.length - j ≤ gg ∧ s6 = .int .i64 j ∧ Aside0 (Below W2.heap.size W2 wr) ∧ Aside0 (impl_withFile.at_ a1_0 (l.drop j) + j = impl_withFile.at_ a1_0 l))
    case atStart => exact ⟨0, Nat.zero_le _, by omega, rfl, ⟨Below.refl _ _⟩, ⟨rfl⟩⟩
    case round =>
      obtain ⟨j, hj, hg, rfl, BW, AT⟩ := hrel
      have cn := pw_cell_below BW.out CN.out
      have cf := pw_cell_below BW.out ((blk_cell CF.out 0).trans rfl)
      have CFW := Aside0.mk ((BW.out.block _ (blk_lt CF.out)).trans CF.out)
      have CZW := Aside0.mk ((BW.out.block _ (blk_lt CZ.out)).trans CZ.out)
      have cn1 := pw_cell_below BW.out CN1.out
      have cn2 := pw_cell_below BW.out CN2.out
      have HRW := Aside0.mk (Kd.R_below HR2.out BW.out)
      by_cases hlt : j < l.length
      · have hltz : (j : Int) < (l.length : Int) := by omega
        have hC := Kd.C_below (Kd.R_reads' HR2.out).2.2 BW.out
        obtain ⟨ad, e1, x0, x1, x2⟩ := at_T45 hC (j : Int) (by omega) hltz
        cases e1
        simp only [Int.toNat_natCast] at x0 x1 x2
        cases hq : Op.bytesLess (rd_T45 l (j : Int)).f0.toList a1_0.toList with
        | true =>
          clear hC
          go_wp2
          go_quiet (fail)
          go_wp2
          have hAT := AT.out
          rw [impl_placeOf.drop_rd l j hlt, impl_withFile.at_, if_pos hq] at hAT
          have HAT := Aside0.mk hAT
          go_roundg (l.length - (j + 1))
          case measure => omega
          case rel => exact ⟨j + 1, by omega, by omega, by go_num, ⟨pw_below_drewN BW.out _⟩, ⟨by have := HAT.out; omega⟩⟩
        | false =>
          have HAT : Aside0 (impl_withFile.at_ a1_0 l = j) := ⟨by have hAT := AT.out; rw [impl_placeOf.drop_rd l j hlt, impl_withFile.at_, if_neg (by rw [hq]; simp)] at hAT; omega⟩
          clear hC
          go_wp2
          go_quiet (fail)
          obtain ⟨res, hres⟩ : ∃ res, Aside0 (l.take j ++ [(⟨a1_0, a1_1, a1_2⟩ : S45)] ++ l.drop j = res) := ⟨_, ⟨rfl⟩⟩
          go_wp2_with (first | (go_at_call 80; refine (impl_withFile.insert l _ ⟨a1_0, a1_1, a1_2⟩ j wr.heap.size _ _ _ hj (Kd.R_alloc (Kd.R_drewN HRW.out _) _) (RowIs.new (wr.drewN _) 45 _) (fun k hk => by have := Kd.R_lt HRW.out k hk; omega) hn (by have := BW.out.size; have := HB2.out.size; simp; omega) (fun _ _ => trivial)).mono ?_; rintro e w3 ⟨v3, rfl, hR3, hg3⟩; rw [hres.out] at hR3; obtain ⟨A3, c3, rfl, hc3, _⟩ := Kd.R_reads hR3; have HBA := Aside0.mk (below_alloc (pw_below_drewN (Below.refl wr.heap.size wr) nq) (.cells #[.string a1_0, .string a1_1, .int .i64 a1_2] 45)); have bF := Aside0.mk ((hg3.block w1.heap.size (by have := BW.out.size; have := HB2.out.size; simp; have := blk_lt CF.out; omega) (Kd.R_ne HRW.out CFW.out (by decide))).trans ((HBA.out.block _ (blk_lt CFW.out)).trans CFW.out)); have bZ := Aside0.mk ((hg3.block (w.heap.size + 2) (by have := blk_lt CZW.out; simp; omega) (Kd.R_ne HRW.out CZW.out (by decide))).trans ((HBA.out.block _ (blk_lt CZW.out)).trans CZW.out)); have cF : w3.cell? ⟨w1.heap.size, 0, none⟩ = some (.slice (some ad) l.length co) := (blk_cell bF.out 0).trans rfl; have fF := blk_frozen bF.out 0; have cZ : w3.cell? ⟨w.heap.size + 1 + 1, 0, none⟩ = some (.slice none 0 0) := (blk_cell bZ.out 0).trans rfl; have fZ : w3.frozen? ⟨w.heap.size + 1 + 1, 0, none⟩ = false := blk_frozen bZ.out 0; have HR3 := Aside0.mk hR3; have HG3 := Aside0.mk hg3; have hne3 : w1.heap.size ≠ w.heap.size + 1 + 1 := (by omega); clear hR3 hg3))
          rw [HAT.out, hres.out]
          refine bodyPost_ret (results_cell_row rfl _ _ (w.heap.size + 1 + 1) 29 #[.slice A3 res.length c3] (0, 0) _ rfl (blk_put (cs := #[.slice none 0 0]) (blk_far bZ.out (p := ⟨w1.heap.size, 0, none⟩) (by show w.heap.size + 2 ≠ w1.heap.size; omega) _) 0 _ rfl) Try.underlying29 rfl (by kernel_rfl)) rfl ?_
          have hRb : ∀ k, (Value.slice (some ad) l.length co).ownBlock = some k → w.heap.size ≤ k := fun k hk => by have := Kd.R_base HR.out k hk; simp at this; omega
          have hW2 : Below w.heap.size w W2 := below_then (below_then HB0.out (by simp; omega) HB1.out) (by omega) HB2.out
          have hWr := below_then hW2 (by have := HB2.out.size; omega) BW.out
          have h3 := pw_below_grown (below_then hWr (by have := hWr.size; omega) HBA.out) _ (by have := hWr.size; simp; omega) HG3.out hRb
          have hF := blk_far bF.out (p := ⟨w.heap.size + 1 + 1, 0, none⟩) (by show w1.heap.size ≠ w.heap.size + 1 + 1; omega)
          refine ⟨_, rfl, Kd.R_lower (Kd.R_set (Kd.R_set (Kd.R_mono HR3.out (fun _ _ => trivial)) bF.out (by decide) 0 _) (blk_far bZ.out (p := ⟨w1.heap.size, 0, none⟩) (by show w.heap.size + 2 ≠ w1.heap.size; omega) _) (by decide) 0 _) (by simp; omega), below_set (below_set h3 (by omega)) (by omega)⟩
      · have hltz : ¬ (j : Int) < (l.length : Int) := by omega
        have hd : decide ((j : Int) < (l.length : Int)) = false := decide_eq_false hltz
        have hd2 : decide (j < l.length) = false := decide_eq_false hlt
        have HAT : Aside0 (impl_withFile.at_ a1_0 l = j) := ⟨by have hAT := AT.out; rw [List.drop_eq_nil_of_le (by omega), impl_withFile.at_] at hAT; omega⟩
        go_wp2
        go_quiet (fail)
        obtain ⟨res, hres⟩ : ∃ res, Aside0 (l.take j ++ [(⟨a1_0, a1_1, a1_2⟩ : S45)] ++ l.drop j = res) := ⟨_, ⟨rfl⟩⟩
        go_wp2_with (first | (go_at_call 80; refine (impl_withFile.insert l _ ⟨a1_0, a1_1, a1_2⟩ j wr.heap.size _ _ _ hj (Kd.R_alloc (Kd.R_drewN HRW.out _) _) (RowIs.new (wr.drewN _) 45 _) (fun k hk => by have := Kd.R_lt HRW.out k hk; omega) hn (by have := BW.out.size; have := HB2.out.size; simp; omega) (fun _ _ => trivial)).mono ?_; rintro e w3 ⟨v3, rfl, hR3, hg3⟩; rw [hres.out] at hR3; obtain ⟨A3, c3, rfl, hc3, _⟩ := Kd.R_reads hR3; have HBA := Aside0.mk (below_alloc (pw_below_drewN (Below.refl wr.heap.size wr) nq) (.cells #[.string a1_0, .string a1_1, .int .i64 a1_2] 45)); have bF := Aside0.mk ((hg3.block w1.heap.size (by have := BW.out.size; have := HB2.out.size; simp; have := blk_lt CF.out; omega) (Kd.R_ne HRW.out CFW.out (by decide))).trans ((HBA.out.block _ (blk_lt CFW.out)).trans CFW.out)); have bZ := Aside0.mk ((hg3.block (w.heap.size + 2) (by have := blk_lt CZW.out; simp; omega) (Kd.R_ne HRW.out CZW.out (by decide))).trans ((HBA.out.block _ (blk_lt CZW.out)).trans CZW.out)); have cF : w3.cell? ⟨w1.heap.size, 0, none⟩ = some (.slice Ao l.length co) := (blk_cell bF.out 0).trans rfl; have fF := blk_frozen bF.out 0; have cZ : w3.cell? ⟨w.heap.size + 1 + 1, 0, none⟩ = some (.slice none 0 0) := (blk_cell bZ.out 0).trans rfl; have fZ : w3.frozen? ⟨w.heap.size + 1 + 1, 0, none⟩ = false := blk_frozen bZ.out 0; have HR3 := Aside0.mk hR3; have HG3 := Aside0.mk hg3; have hne3 : w1.heap.size ≠ w.heap.size + 1 + 1 := (by omega); clear hR3 hg3))
        rw [HAT.out, hres.out]
        refine bodyPost_ret (results_cell_row rfl _ _ (w.heap.size + 1 + 1) 29 #[.slice A3 res.length c3] (0, 0) _ rfl (blk_put (cs := #[.slice none 0 0]) (blk_far bZ.out (p := ⟨w1.heap.size, 0, none⟩) (by show w.heap.size + 2 ≠ w1.heap.size; omega) _) 0 _ rfl) Try.underlying29 rfl (by kernel_rfl)) rfl ?_
        have hRb : ∀ k, (Value.slice Ao l.length co).ownBlock = some k → w.heap.size ≤ k := fun k hk => by have := Kd.R_base HR.out k hk; simp at this; omega
        have hW2 : Below w.heap.size w W2 := below_then (below_then HB0.out (by simp; omega) HB1.out) (by omega) HB2.out
        have hWr := below_then hW2 (by have := HB2.out.size; omega) BW.out
        have h3 := pw_below_grown (below_then hWr (by have := hWr.size; omega) HBA.out) _ (by have := hWr.size; simp; omega) HG3.out hRb
        have hF := blk_far bF.out (p := ⟨w.heap.size + 1 + 1, 0, none⟩) (by show w1.heap.size ≠ w.heap.size + 1 + 1; omega)
        refine ⟨_, rfl, Kd.R_lower (Kd.R_set (Kd.R_set (Kd.R_mono HR3.out (fun _ _ => trivial)) bF.out (by decide) 0 _) (blk_far bZ.out (p := ⟨w1.heap.size, 0, none⟩) (by show w.heap.size + 2 ≠ w1.heap.size; omega) _) (by decide) 0 _) (by simp; omega), below_set (below_set h3 (by omega)) (by omega)⟩
  · rw [if_neg hn] at h2
    cases h2
end

/-! ### impl_DoAct: function 37 -/
mutual
def impl_DoAct.j0 : Nat → Int → Bool → List (S45) → Int → ByteArray → ByteArray → ByteArray → Option ((List (S45)) × Bool)
 | 0, _, _, _, _, _, _, _ => none
 | k + 1, x6, x29, x217000, x218000, x218001, x218002, x218003 => if x29 = true then (some (([] : List (S45)), false)) else (if x6 ≥ 0 then (if 0 ≤ x6 then (if x6 < (x217000.length : Int) then (impl_DoAct.j1 k x217000 x218000 x218001 x218002 x218003 ((rd_T45 x217000 x6).f0) ((rd_T45 x217000 x6).f1) ((rd_T45 x217000 x6).f2)) else (none)) else (none)) else (impl_DoAct.j1 k x217000 x218000 x218001 x218002 x218003 x218001 (⟨#[]⟩ : ByteArray) 0))
def impl_DoAct.j1 : Nat → List (S45) → Int → ByteArray → ByteArray → ByteArray → ByteArray → ByteArray → Int → Option ((List (S45)) × Bool)
 | 0, _, _, _, _, _, _, _, _ => none
 | k + 1, x217000, x218000, x218001, x218002, x218003, x223000, x223001, x223002 => if x218000 = 1 then (if x223001.size + x218002.size ≤ 9223372036854775807 then ((impl_withFile.f x217000 x223000 (x223001 ++ x218002) x223002).bind fun t225 => ((impl_DiskOk.f k t225).bind fun t228 => (if t228 = true then (some (t225, true)) else (some (([] : List (S45)), false))))) else (none)) else (if x218000 = 2 then ((impl_withFile.f x217000 x223000 x223001 (x223001.size : Int)).bind fun t229 => ((impl_DiskOk.f k t229).bind fun t232 => (if t232 = true then (some (t229, true)) else (some (([] : List (S45)), false))))) else (if x218000 = 3 then (if x223002 = (x223001.size : Int) then (impl_DoAct.j2 k (x218003.toList == x218001.toList) x217000 x218000 x218001 x218002 x218003 x223000 x223001 x223002) else (impl_DoAct.j2 k true x217000 x218000 x218001 x218002 x218003 x223000 x223001 x223002)) else ((impl_withoutFile.f x217000 x218001).bind fun t240 => ((impl_DiskOk.f k t240).bind fun t243 => (if t243 = true then (some (t240, true)) else (some (([] : List (S45)), false)))))))
def impl_DoAct.j2 : Nat → Bool → List (S45) → Int → ByteArray → ByteArray → ByteArray → ByteArray → ByteArray → Int → Option ((List (S45)) × Bool)
 | 0, _, _, _, _, _, _, _, _, _ => none
 | k + 1, x82, x217000, x218000, x218001, x218002, x218003, x223000, x223001, x223002 => if x82 = true then (some (([] : List (S45)), false)) else ((impl_withoutFile.f x217000 x218001).bind fun t233 => ((impl_withFile.f t233 x218003 x223001 x223002).bind fun t236 => ((impl_DiskOk.f k t236).bind fun t239 => (if t239 = true then (some (t236, true)) else (some (([] : List (S45)), false))))))
end
def impl_DoAct.f (k : Nat) (l0_0 : List (S45)) (a1_0 : Int) (a1_1 : ByteArray) (a1_2 : ByteArray) (a1_3 : ByteArray) : Option ((List (S45)) × Bool) := (impl_placeOf.f l0_0 a1_1).bind fun t219 => ((impl_DiskOk.f k l0_0).bind fun t220 => (if t220 = true then ((impl_actOk.f a1_0 a1_1 a1_2 a1_3).bind fun t221 => (if t221 = true then (if t219 < 0 then (impl_DoAct.j0 k t219 (a1_0 != 1) l0_0 a1_0 a1_1 a1_2 a1_3) else (impl_DoAct.j0 k t219 false l0_0 a1_0 a1_1 a1_2 a1_3)) else (impl_DoAct.j0 k t219 true l0_0 a1_0 a1_1 a1_2 a1_3))) else (impl_DoAct.j0 k t219 true l0_0 a1_0 a1_1 a1_2 a1_3)))
theorem impl_DoAct.mono_l : ∀ k, (∀ y0 y1 y2 y3 y4 y5 y6, LeO (impl_DoAct.j0 k y0 y1 y2 y3 y4 y5 y6) (impl_DoAct.j0 (k + 1) y0 y1 y2 y3 y4 y5 y6)) ∧ (∀ y0 y1 y2 y3 y4 y5 y6 y7, LeO (impl_DoAct.j1 k y0 y1 y2 y3 y4 y5 y6 y7) (impl_DoAct.j1 (k + 1) y0 y1 y2 y3 y4 y5 y6 y7)) ∧ (∀ y0 y1 y2 y3 y4 y5 y6 y7 y8, LeO (impl_DoAct.j2 k y0 y1 y2 y3 y4 y5 y6 y7 y8) (impl_DoAct.j2 (k + 1) y0 y1 y2 y3 y4 y5 y6 y7 y8))
 | 0 => ⟨fun _ _ _ _ _ _ _ r h => by simp [impl_DoAct.j0] at h, fun _ _ _ _ _ _ _ _ r h => by simp [impl_DoAct.j1] at h, fun _ _ _ _ _ _ _ _ _ r h => by simp [impl_DoAct.j2] at h⟩
 | k + 1 => by
  obtain ⟨ih0, ih1, ih2⟩ := impl_DoAct.mono_l k; refine ⟨?_, ?_, ?_⟩
  ·
   intro y0 y1 y2 y3 y4 y5 y6
   unfold impl_DoAct.j0
   repeat' first
   | (with_reducible exact ih0 _ _ _ _ _ _ _)
   | (with_reducible exact ih1 _ _ _ _ _ _ _ _)
   | (with_reducible exact ih2 _ _ _ _ _ _ _ _ _)
   | (with_reducible exact impl_DiskOk.mono _ _)
   | (with_reducible exact LeO.refl _)
   | (with_reducible exact LeO.none _)
   | (with_reducible refine LeO.ite ?_ ?_)
   | (with_reducible refine LeO.bind ?_ (fun _ => ?_))
   | exact ih0 _ _ _ _ _ _ _
   | exact ih1 _ _ _ _ _ _ _ _
   | exact ih2 _ _ _ _ _ _ _ _ _
   | exact impl_DiskOk.mono _ _
   | exact LeO.none _
   | refine LeO.ite ?_ ?_
   | refine LeO.bind ?_ (fun _ => ?_)
  ·
   intro y0 y1 y2 y3 y4 y5 y6 y7
   unfold impl_DoAct.j1
   repeat' first
   | (with_reducible exact ih0 _ _ _ _ _ _ _)
   | (with_reducible exact ih1 _ _ _ _ _ _ _ _)
   | (with_reducible exact ih2 _ _ _ _ _ _ _ _ _)
   | (with_reducible exact impl_DiskOk.mono _ _)
   | (with_reducible exact LeO.refl _)
   | (with_reducible exact LeO.none _)
   | (with_reducible refine LeO.ite ?_ ?_)
   | (with_reducible refine LeO.bind ?_ (fun _ => ?_))
   | exact ih0 _ _ _ _ _ _ _
   | exact ih1 _ _ _ _ _ _ _ _
   | exact ih2 _ _ _ _ _ _ _ _ _
   | exact impl_DiskOk.mono _ _
   | exact LeO.none _
   | refine LeO.ite ?_ ?_
   | refine LeO.bind ?_ (fun _ => ?_)
  ·
   intro y0 y1 y2 y3 y4 y5 y6 y7 y8
   unfold impl_DoAct.j2
   repeat' first
   | (with_reducible exact ih0 _ _ _ _ _ _ _)
   | (with_reducible exact ih1 _ _ _ _ _ _ _ _)
   | (with_reducible exact ih2 _ _ _ _ _ _ _ _ _)
   | (with_reducible exact impl_DiskOk.mono _ _)
   | (with_reducible exact LeO.refl _)
   | (with_reducible exact LeO.none _)
   | (with_reducible refine LeO.ite ?_ ?_)
   | (with_reducible refine LeO.bind ?_ (fun _ => ?_))
   | exact ih0 _ _ _ _ _ _ _
   | exact ih1 _ _ _ _ _ _ _ _
   | exact ih2 _ _ _ _ _ _ _ _ _
   | exact impl_DiskOk.mono _ _
   | exact LeO.none _
   | refine LeO.ite ?_ ?_
   | refine LeO.bind ?_ (fun _ => ?_)
theorem impl_DoAct.mono : ∀ a0 a1 a2 a3 a4 k, LeO (impl_DoAct.f k a0 a1 a2 a3 a4) (impl_DoAct.f (k + 1) a0 a1 a2 a3 a4) := by
 intro a0 a1 a2 a3 a4 k
 obtain ⟨ih0, ih1, ih2⟩ := impl_DoAct.mono_l k
 unfold impl_DoAct.f
 repeat' first
   | (with_reducible exact ih0 _ _ _ _ _ _ _)
   | (with_reducible exact ih1 _ _ _ _ _ _ _ _)
   | (with_reducible exact ih2 _ _ _ _ _ _ _ _ _)
   | (with_reducible exact impl_DiskOk.mono _ _)
   | (with_reducible exact LeO.refl _)
   | (with_reducible exact LeO.none _)
   | (with_reducible refine LeO.ite ?_ ?_)
   | (with_reducible refine LeO.bind ?_ (fun _ => ?_))
   | exact ih0 _ _ _ _ _ _ _
   | exact ih1 _ _ _ _ _ _ _ _
   | exact ih2 _ _ _ _ _ _ _ _ _
   | exact impl_DiskOk.mono _ _
   | exact LeO.none _
   | refine LeO.ite ?_ ?_
   | refine LeO.bind ?_ (fun _ => ?_)
set_option maxHeartbeats 8000000 in
set_option maxRecDepth 100000 in
theorem impl_DoAct.calls (k : Nat) (A0_0 : Option Addr) (c0_0 : Nat) (l0_0 : List (S45)) (a1_0 : Int) (a1_1 : ByteArray) (a1_2 : ByteArray) (a1_3 : ByteArray) (r1 : List (S45)) (r2 : Bool) (w : World) (hr0_0 : Kd.C k45 w A0_0 l0_0.length l0_0) (hc0_0 : l0_0.length ≤ c0_0) (h : impl_DoAct.f k l0_0 a1_0 a1_1 a1_2 a1_3 = some (r1, r2)) :
  Calls Try.prog 37 #[.agg #[.slice A0_0 l0_0.length c0_0], .agg #[.int .i64 a1_0, .string a1_1, .string a1_2, .string a1_3]] w fun e w' => ∃ v0_ : Value, e = .returned (.tuple #[.agg #[v0_], .bool r2]) ∧ Kd.R k45 45 w' w.heap.size (fun _ => True) v0_ r1 ∧ Below w.heap.size w w' := by
 have hu29 := Try.underlying29
 have hu55 := Try.underlying55
 have hu45 := Try.underlying45
 have HR0_0 := Aside0.mk hr0_0
 have HC0_0 := Aside0.mk hc0_0
 clear hr0_0 hc0_0
 have HB := Aside0.mk (Below.refl w.heap.size w)
 have H : ((impl_placeOf.f l0_0 a1_1).bind fun t219 => ((impl_DiskOk.f k l0_0).bind fun t220 => (if t220 = true then ((impl_actOk.f a1_0 a1_1 a1_2 a1_3).bind fun t221 => (if t221 = true then (if t219 < 0 then (impl_DoAct.j0 k t219 (a1_0 != 1) l0_0 a1_0 a1_1 a1_2 a1_3) else (impl_DoAct.j0 k t219 false l0_0 a1_0 a1_1 a1_2 a1_3)) else (impl_DoAct.j0 k t219 true l0_0 a1_0 a1_1 a1_2 a1_3))) else (impl_DoAct.j0 k t219 true l0_0 a1_0 a1_1 a1_2 a1_3)))) = some (r1, r2) := h
 clear h
 replace H := Option.bind_eq_some_iff.mp H
 obtain ⟨t219, A30, H⟩ := H
 have A3 := Aside0.mk A30
 clear A30
 have HC4 := Aside0.mk H
 clear H
 go_enter Try.func37, Try.ntmps37
 go_upto_region 2 with (first | ((with_reducible refine gate_dst (N := 2) rfl ?_); refine bE 2 #[.slice A0_0 l0_0.length c0_0] 29 ?_; intro gb216 hg w5 hbox hb; have BK216 := Aside0.mk (hbox); have GW216 : Aside0 (w.heap.size ≤ gb216) := GS; have GE216 := GW216; replace HB := Aside0.mk (below_step (BL) hb); clear hb hbox hg) | ((with_reducible refine gate_dst (N := 3) rfl ?_); refine bE 3 #[.int .i64 a1_0, .string a1_1, .string a1_2, .string a1_3] 55 ?_; intro gb217 hg w6 hbox hb; have BK217 := Aside0.mk (hbox); have GW217 : Aside0 (w.heap.size ≤ gb217) := GS; have GE217 := GW217; have NB216_217 := NL BK216.out hg; have NB217_216 := NG BK216.out hg; replace BK216 := BB BK216.out hb; replace HB := Aside0.mk (below_step (BL) hb); clear hb hbox hg) | ((with_reducible refine gate_dst (N := 4) rfl ?_); refine bE 4 #[.slice none 0 0] 29 ?_; intro gb218 hg w7 hbox hb; have BK218 := Aside0.mk (hbox); have GW218 : Aside0 (w.heap.size ≤ gb218) := GS; have GE218 := GW218; have NB216_218 := NL BK216.out hg; have NB218_216 := NG BK216.out hg; have NB217_218 := NL BK217.out hg; have NB218_217 := NG BK217.out hg; replace BK216 := BB BK216.out hb; replace BK217 := BB BK217.out hb; replace HB := Aside0.mk (below_step (BL) hb); clear hb hbox hg; have hnb8 := NB216_217.out; have hnc8 := NB217_216.out; have hnb9 := NB216_218.out; have hnc9 := NB218_216.out; have hcz10_0 : w7.cell? ⟨gb216, 0, none⟩ = some (.slice A0_0 l0_0.length c0_0) := CZ BK216.out 0; have hfz10_0 := blk_frozen BK216.out 0; have hnb11 := NB217_218.out; have hnc11 := NB218_217.out; have hcz12_0 : w7.cell? ⟨gb217, 0, none⟩ = some (.int .i64 a1_0) := CZ BK217.out 0; have hcz12_1 : w7.cell? ⟨gb217, 1, none⟩ = some (.string a1_1) := CZ BK217.out 1; have hcz12_2 : w7.cell? ⟨gb217, 2, none⟩ = some (.string a1_2) := CZ BK217.out 2; have hcz12_3 : w7.cell? ⟨gb217, 3, none⟩ = some (.string a1_3) := CZ BK217.out 3; have hfz12_0 := blk_frozen BK217.out 0; have hfz12_1 := blk_frozen BK217.out 1; have hfz12_2 := blk_frozen BK217.out 2; have hfz12_3 := blk_frozen BK217.out 3) | ((with_reducible refine gate_callee (f := 54) rfl ?_); refine goesL_ (some 12) rfl rfl Try.func54 (by kernel_rfl) rfl #[.agg #[.slice A0_0 l0_0.length c0_0], .string a1_1] rfl (MA) ?_; (with_reducible refine (impl_placeOf.calls _ _ l0_0 a1_1 t219 _ ?side1 ?side2 A3.out).mono ?_); (case side1 => exact CB HR0_0.out); (case side2 => exact HC0_0.out); rintro e w13 ⟨rfl, hb⟩; refine ⟨_, rfl, ?_⟩; replace BK216 := BB BK216.out hb; replace BK217 := BB BK217.out hb; replace BK218 := BB BK218.out hb; replace HB := Aside0.mk (below_step (BL) hb); (try clear hb); (try clear hb2); (try clear hk); (try clear hi)))
 (try simp only [Act.put, zA, zB, zC])
 go_cut [29] (fun v29 wc => ∃ (kq : Nat) (x29_3 : Bool), v29 = .bool x29_3 ∧ Aside0 (impl_DoAct.j0 kq t219 x29_3 l0_0 a1_0 a1_1 a1_2 a1_3 = some (r1, r2)) ∧ Aside0 (kq ≤ k) ∧ Aside0 (wc.heap[gb216]? = some (.cells #[(.slice A0_0 l0_0.length c0_0)] 29 (0, 0))) ∧ Aside0 (wc.heap[gb217]? = some (.cells #[.int .i64 a1_0, .string a1_1, .string a1_2, .string a1_3] 55 (0, 0))) ∧ Aside0 (wc.heap[gb218]? = some (.cells #[(.slice none 0 0)] 29 (0, 0))) ∧ Aside0 (Below w.heap.size w wc))
 case first =>
  have H := HC4.out; clear HC4; replace H := Option.bind_eq_some_iff.mp H; obtain ⟨t220, A140, H⟩ := H; have A14 := Aside0.mk A140; clear A140
  by_cases c15 : t220 = true; rotate_left
  ·
   replace c15 := Bool.eq_false_iff.mpr c15; subst c15
   have H1 : (impl_DoAct.j0 k t219 true l0_0 a1_0 a1_1 a1_2 a1_3) = some (r1, r2) := by rw [if_neg (show ¬ (false = true) by decide)] at H; exact H
   clear H; have H := H1; clear H1; have H' := Aside0.mk H; clear H; have hnb41 := NB216_217.out; have hnc41 := NB217_216.out; have hnb42 := NB216_218.out; have hnc42 := NB218_216.out; have hcz43_0 : w13.cell? ⟨gb216, 0, none⟩ = some (.slice A0_0 l0_0.length c0_0) := CZ BK216.out 0; have hfz43_0 := blk_frozen BK216.out 0
   go_wp2_with (first | ((with_reducible refine gate_callee (f := 15) rfl ?_); refine goesL_ (some 14) rfl rfl Try.func15 (by kernel_rfl) rfl #[.agg #[.slice A0_0 l0_0.length c0_0]] rfl (MA) ?_; (with_reducible refine (impl_DiskOk.calls k _ _ l0_0 false _ ?side1 ?side2 A14.out).mono ?_); (case side1 => exact CB HR0_0.out); (case side2 => exact HC0_0.out); rintro e w44 ⟨rfl, hb⟩; refine ⟨_, rfl, ?_⟩; replace BK216 := BB BK216.out hb; replace BK217 := BB BK217.out hb; replace BK218 := BB BK218.out hb; replace HB := Aside0.mk (below_step (BL) hb); (try clear hb); (try clear hb2); (try clear hk); (try clear hi)))
   go_meet
   case rel => exact ⟨_, (true), SD, H', ⟨by first | omega | exact Nat.le_refl _⟩, ⟨BQ BK216.out⟩, ⟨BQ BK217.out⟩, ⟨BQ BK218.out⟩, ⟨BL⟩⟩
  subst c15
  have H1 : ((impl_actOk.f a1_0 a1_1 a1_2 a1_3).bind fun t221 => (if t221 = true then (if t219 < 0 then (impl_DoAct.j0 k t219 (a1_0 != 1) l0_0 a1_0 a1_1 a1_2 a1_3) else (impl_DoAct.j0 k t219 false l0_0 a1_0 a1_1 a1_2 a1_3)) else (impl_DoAct.j0 k t219 true l0_0 a1_0 a1_1 a1_2 a1_3))) = some (r1, r2) := by rw [if_pos rfl] at H; exact H
  clear H; have H := H1; clear H1; replace H := Option.bind_eq_some_iff.mp H; obtain ⟨t221, A160, H⟩ := H; have A16 := Aside0.mk A160; clear A160
  by_cases c17 : t221 = true; rotate_left
  ·
   replace c17 := Bool.eq_false_iff.mpr c17; subst c17
   have H1 : (impl_DoAct.j0 k t219 true l0_0 a1_0 a1_1 a1_2 a1_3) = some (r1, r2) := by rw [if_neg (show ¬ (false = true) by decide)] at H; exact H
   clear H; have H := H1; clear H1; have H' := Aside0.mk H; clear H; have hnb34 := NB216_217.out; have hnc34 := NB217_216.out; have hnb35 := NB216_218.out; have hnc35 := NB218_216.out; have hcz36_0 : w13.cell? ⟨gb216, 0, none⟩ = some (.slice A0_0 l0_0.length c0_0) := CZ BK216.out 0; have hfz36_0 := blk_frozen BK216.out 0
   go_wp2_with (first | ((with_reducible refine gate_callee (f := 15) rfl ?_); refine goesL_ (some 14) rfl rfl Try.func15 (by kernel_rfl) rfl #[.agg #[.slice A0_0 l0_0.length c0_0]] rfl (MA) ?_; (with_reducible refine (impl_DiskOk.calls k _ _ l0_0 true _ ?side1 ?side2 A14.out).mono ?_); (case side1 => exact CB HR0_0.out); (case side2 => exact HC0_0.out); rintro e w37 ⟨rfl, hb⟩; refine ⟨_, rfl, ?_⟩; replace BK216 := BB BK216.out hb; replace BK217 := BB BK217.out hb; replace BK218 := BB BK218.out hb; replace HB := Aside0.mk (below_step (BL) hb); (try clear hb); (try clear hb2); (try clear hk); (try clear hi); have hnb38 := NB217_218.out; have hnc38 := NB218_217.out; have hcz39_0 : w37.cell? ⟨gb217, 0, none⟩ = some (.int .i64 a1_0) := CZ BK217.out 0; have hcz39_1 : w37.cell? ⟨gb217, 1, none⟩ = some (.string a1_1) := CZ BK217.out 1; have hcz39_2 : w37.cell? ⟨gb217, 2, none⟩ = some (.string a1_2) := CZ BK217.out 2; have hcz39_3 : w37.cell? ⟨gb217, 3, none⟩ = some (.string a1_3) := CZ BK217.out 3; have hfz39_0 := blk_frozen BK217.out 0; have hfz39_1 := blk_frozen BK217.out 1; have hfz39_2 := blk_frozen BK217.out 2; have hfz39_3 := blk_frozen BK217.out 3) | (go_at_call 65; (with_reducible refine (impl_actOk.calls a1_0 a1_1 a1_2 a1_3 false _ A16.out).mono ?_); rintro e w40 ⟨rfl, hb⟩; replace BK216 := BB BK216.out hb; replace BK217 := BB BK217.out hb; replace BK218 := BB BK218.out hb; replace HB := Aside0.mk (below_step (BL) hb); (try clear hb); (try clear hb2); (try clear hk); (try clear hi)))
   go_meet
   case rel => exact ⟨_, (true), SD, H', ⟨by first | omega | exact Nat.le_refl _⟩, ⟨BQ BK216.out⟩, ⟨BQ BK217.out⟩, ⟨BQ BK218.out⟩, ⟨BL⟩⟩
  subst c17
  have H1 : (if t219 < 0 then (impl_DoAct.j0 k t219 (a1_0 != 1) l0_0 a1_0 a1_1 a1_2 a1_3) else (impl_DoAct.j0 k t219 false l0_0 a1_0 a1_1 a1_2 a1_3)) = some (r1, r2) := by rw [if_pos rfl] at H; exact H
  clear H; have H := H1; clear H1
  by_cases c18 : t219 < 0
  ·
   rw [if_pos c18] at H; have c18b0 : decide (t219 < 0) = true := decide_eq_true c18; clear c18
   (first | rw [c18b0] | (simp only [i64_w, i32_w]; rw [c18b0]) | skip)
   have H' := Aside0.mk H; clear H; have hnb19 := NB216_217.out; have hnc19 := NB217_216.out; have hnb20 := NB216_218.out; have hnc20 := NB218_216.out; have hcz21_0 : w13.cell? ⟨gb216, 0, none⟩ = some (.slice A0_0 l0_0.length c0_0) := CZ BK216.out 0; have hfz21_0 := blk_frozen BK216.out 0
   go_wp2_with (first | ((with_reducible refine gate_callee (f := 15) rfl ?_); refine goesL_ (some 14) rfl rfl Try.func15 (by kernel_rfl) rfl #[.agg #[.slice A0_0 l0_0.length c0_0]] rfl (MA) ?_; (with_reducible refine (impl_DiskOk.calls k _ _ l0_0 true _ ?side1 ?side2 A14.out).mono ?_); (case side1 => exact CB HR0_0.out); (case side2 => exact HC0_0.out); rintro e w22 ⟨rfl, hb⟩; refine ⟨_, rfl, ?_⟩; replace BK216 := BB BK216.out hb; replace BK217 := BB BK217.out hb; replace BK218 := BB BK218.out hb; replace HB := Aside0.mk (below_step (BL) hb); (try clear hb); (try clear hb2); (try clear hk); (try clear hi); have hnb23 := NB217_218.out; have hnc23 := NB218_217.out; have hcz24_0 : w22.cell? ⟨gb217, 0, none⟩ = some (.int .i64 a1_0) := CZ BK217.out 0; have hcz24_1 : w22.cell? ⟨gb217, 1, none⟩ = some (.string a1_1) := CZ BK217.out 1; have hcz24_2 : w22.cell? ⟨gb217, 2, none⟩ = some (.string a1_2) := CZ BK217.out 2; have hcz24_3 : w22.cell? ⟨gb217, 3, none⟩ = some (.string a1_3) := CZ BK217.out 3; have hfz24_0 := blk_frozen BK217.out 0; have hfz24_1 := blk_frozen BK217.out 1; have hfz24_2 := blk_frozen BK217.out 2; have hfz24_3 := blk_frozen BK217.out 3) | (go_at_call 65; (with_reducible refine (impl_actOk.calls a1_0 a1_1 a1_2 a1_3 true _ A16.out).mono ?_); rintro e w25 ⟨rfl, hb⟩; replace BK216 := BB BK216.out hb; replace BK217 := BB BK217.out hb; replace BK218 := BB BK218.out hb; replace HB := Aside0.mk (below_step (BL) hb); (try clear hb); (try clear hb2); (try clear hk); (try clear hi); have hcz26_0 : w25.cell? ⟨gb217, 0, none⟩ = some (.int .i64 a1_0) := CZ BK217.out 0; have hcz26_1 : w25.cell? ⟨gb217, 1, none⟩ = some (.string a1_1) := CZ BK217.out 1; have hcz26_2 : w25.cell? ⟨gb217, 2, none⟩ = some (.string a1_2) := CZ BK217.out 2; have hcz26_3 : w25.cell? ⟨gb217, 3, none⟩ = some (.string a1_3) := CZ BK217.out 3; have hfz26_0 := blk_frozen BK217.out 0; have hfz26_1 := blk_frozen BK217.out 1; have hfz26_2 := blk_frozen BK217.out 2; have hfz26_3 := blk_frozen BK217.out 3))
   go_meet
   case rel => exact ⟨_, ((a1_0 != 1)), SD, H', ⟨by first | omega | exact Nat.le_refl _⟩, ⟨BQ BK216.out⟩, ⟨BQ BK217.out⟩, ⟨BQ BK218.out⟩, ⟨BL⟩⟩
  rw [if_neg c18] at H; have c18b0 : decide (t219 < 0) = false := decide_eq_false c18; clear c18
  (first | rw [c18b0] | (simp only [i64_w, i32_w]; rw [c18b0]) | skip)
  have H' := Aside0.mk H; clear H; have hnb27 := NB216_217.out; have hnc27 := NB217_216.out; have hnb28 := NB216_218.out; have hnc28 := NB218_216.out; have hcz29_0 : w13.cell? ⟨gb216, 0, none⟩ = some (.slice A0_0 l0_0.length c0_0) := CZ BK216.out 0; have hfz29_0 := blk_frozen BK216.out 0
  go_wp2_with (first | ((with_reducible refine gate_callee (f := 15) rfl ?_); refine goesL_ (some 14) rfl rfl Try.func15 (by kernel_rfl) rfl #[.agg #[.slice A0_0 l0_0.length c0_0]] rfl (MA) ?_; (with_reducible refine (impl_DiskOk.calls k _ _ l0_0 true _ ?side1 ?side2 A14.out).mono ?_); (case side1 => exact CB HR0_0.out); (case side2 => exact HC0_0.out); rintro e w30 ⟨rfl, hb⟩; refine ⟨_, rfl, ?_⟩; replace BK216 := BB BK216.out hb; replace BK217 := BB BK217.out hb; replace BK218 := BB BK218.out hb; replace HB := Aside0.mk (below_step (BL) hb); (try clear hb); (try clear hb2); (try clear hk); (try clear hi); have hnb31 := NB217_218.out; have hnc31 := NB218_217.out; have hcz32_0 : w30.cell? ⟨gb217, 0, none⟩ = some (.int .i64 a1_0) := CZ BK217.out 0; have hcz32_1 : w30.cell? ⟨gb217, 1, none⟩ = some (.string a1_1) := CZ BK217.out 1; have hcz32_2 : w30.cell? ⟨gb217, 2, none⟩ = some (.string a1_2) := CZ BK217.out 2; have hcz32_3 : w30.cell? ⟨gb217, 3, none⟩ = some (.string a1_3) := CZ BK217.out 3; have hfz32_0 := blk_frozen BK217.out 0; have hfz32_1 := blk_frozen BK217.out 1; have hfz32_2 := blk_frozen BK217.out 2; have hfz32_3 := blk_frozen BK217.out 3) | (go_at_call 65; (with_reducible refine (impl_actOk.calls a1_0 a1_1 a1_2 a1_3 true _ A16.out).mono ?_); rintro e w33 ⟨rfl, hb⟩; replace BK216 := BB BK216.out hb; replace BK217 := BB BK217.out hb; replace BK218 := BB BK218.out hb; replace HB := Aside0.mk (below_step (BL) hb); (try clear hb); (try clear hb2); (try clear hk); (try clear hi)))
  go_meet
  case rel => exact ⟨_, (false), SD, H', ⟨by first | omega | exact Nat.le_refl _⟩, ⟨BQ BK216.out⟩, ⟨BQ BK217.out⟩, ⟨BQ BK218.out⟩, ⟨BL⟩⟩
 case rest =>
  clear HC4
  try clear c1 c2 p2 c3 c4 c5 c8 c9 c11 c15 c17 c18 c18b0 c19 c20 c23 c27 c28 c31 c34 c35 c37 c38 c41 c42 hcz10_0 hcz12_0 hcz12_1 hcz12_2 hcz12_3 hcz21_0 hcz24_0 hcz24_1 hcz24_2 hcz24_3 hcz26_0 hcz26_1 hcz26_2 hcz26_3 hcz29_0 hcz32_0 hcz32_1 hcz32_2 hcz32_3 hcz36_0 hcz39_0 hcz39_1 hcz39_2 hcz39_3 hcz43_0 hfz10_0 hfz12_0 hfz12_1 hfz12_2 hfz12_3 hfz21_0 hfz24_0 hfz24_1 hfz24_2 hfz24_3 hfz26_0 hfz26_1 hfz26_2 hfz26_3 hfz29_0 hfz32_0 hfz32_1 hfz32_2 hfz32_3 hfz36_0 hfz39_0 hfz39_1 hfz39_2 hfz39_3 hfz43_0
  obtain ⟨kq, x29_3, rfl, HA, HJ3, BK216, BK217, BK218, HB⟩ := hcut; cases kq with
  | zero => exact absurd HA.out (by simp [impl_DoAct.j0])
  | succ kj3 =>
   have H := HA.out; clear HA; simp only [impl_DoAct.j0] at H
   by_cases c45 : x29_3 = true
   ·
    subst c45
    have H1 : (some (([] : List (S45)), false)) = some (r1, r2) := by rw [if_pos rfl] at H; exact H
    clear H; have H := H1; clear H1; simp only [Option.some.injEq, Prod.mk.injEq] at H; obtain ⟨rfl, rfl⟩ := H; have hnb46 := NB218_216.out; have hnc46 := NB216_218.out; have hnb47 := NB218_217.out; have hnc47 := NB217_218.out; have hcz48_0 : wc.cell? ⟨gb218, 0, none⟩ = some (.slice none 0 0) := CZ BK218.out 0; have hfz48_0 := blk_frozen BK218.out 0
    go_wp2
    refine bodyPost_ret (results_ct rfl _ _ gb218 29 #[.slice none 0 0] (0, 0) _ rfl (BU BK218.out) Try.underlying29 rfl (by kernel_rfl)) rfl ?_; exact ⟨_, EE, by first | exact Kd.R_nil _ _ _ _ _ | exact Kd.N_nil _ _ _ _ _ | exact Kd.V_nil _ _ _ _ _ | exact Kd.Q_nil _ _ _ _ _ | exact Kd.S_nil _ _ _ _ _, BL⟩
   replace c45 := Bool.eq_false_iff.mpr c45; subst c45
   have H1 : (if t219 ≥ 0 then (if 0 ≤ t219 then (if t219 < (l0_0.length : Int) then (impl_DoAct.j1 kj3 l0_0 a1_0 a1_1 a1_2 a1_3 ((rd_T45 l0_0 t219).f0) ((rd_T45 l0_0 t219).f1) ((rd_T45 l0_0 t219).f2)) else (none)) else (none)) else (impl_DoAct.j1 kj3 l0_0 a1_0 a1_1 a1_2 a1_3 a1_1 (⟨#[]⟩ : ByteArray) 0)) = some (r1, r2) := by rw [if_neg (show ¬ (false = true) by decide)] at H; exact H
   clear H; have H := H1; clear H1; have HC49 := Aside0.mk H; clear H; have hnb50 := NB217_216.out; have hnc50 := NB216_217.out; have hnb51 := NB217_218.out; have hnc51 := NB218_217.out; have hcz52_0 : wc.cell? ⟨gb217, 0, none⟩ = some (.int .i64 a1_0) := CZ BK217.out 0; have hcz52_1 : wc.cell? ⟨gb217, 1, none⟩ = some (.string a1_1) := CZ BK217.out 1; have hcz52_2 : wc.cell? ⟨gb217, 2, none⟩ = some (.string a1_2) := CZ BK217.out 2; have hcz52_3 : wc.cell? ⟨gb217, 3, none⟩ = some (.string a1_3) := CZ BK217.out 3; have hfz52_0 := blk_frozen BK217.out 0; have hfz52_1 := blk_frozen BK217.out 1; have hfz52_2 := blk_frozen BK217.out 2; have hfz52_3 := blk_frozen BK217.out 3
   go_upto_if 35 with (first | ((with_reducible refine gate_dst (N := 7) rfl ?_); refine bE 7 #[.string (⟨#[]⟩ : ByteArray), .string (⟨#[]⟩ : ByteArray), .int .i64 0] 45 ?_; intro gb222 hg w53 hbox hb; have BK222 := Aside0.mk (hbox); have GW222 : Aside0 (w.heap.size ≤ gb222) := GS; have GE222 := GW222; have NB216_222 := NL BK216.out hg; have NB222_216 := NG BK216.out hg; have NB217_222 := NL BK217.out hg; have NB222_217 := NG BK217.out hg; have NB218_222 := NL BK218.out hg; have NB222_218 := NG BK218.out hg; replace BK216 := BB BK216.out hb; replace BK217 := BB BK217.out hb; replace BK218 := BB BK218.out hb; replace HB := Aside0.mk (below_step (BL) hb); clear hb hbox hg; have hnb54 := NB222_216.out; have hnc54 := NB216_222.out; have hnb55 := NB222_217.out; have hnc55 := NB217_222.out; have hnb56 := NB222_218.out; have hnc56 := NB218_222.out; have hcz57_0 : w53.cell? ⟨gb222, 0, none⟩ = some (.string (⟨#[]⟩ : ByteArray)) := CZ BK222.out 0; have hcz57_1 : w53.cell? ⟨gb222, 1, none⟩ = some (.string (⟨#[]⟩ : ByteArray)) := CZ BK222.out 1; have hcz57_2 : w53.cell? ⟨gb222, 2, none⟩ = some (.int .i64 0) := CZ BK222.out 2; have hfz57_0 := blk_frozen BK222.out 0; have hfz57_1 := blk_frozen BK222.out 1; have hfz57_2 := blk_frozen BK222.out 2))
   (try simp only [Act.put, zA, zB, zC])
   go_cut [] (fun wc => ∃ (kq : Nat) (x223000_48 : ByteArray) (x223001_48 : ByteArray) (x223002_48 : Int), Aside0 (impl_DoAct.j1 kq l0_0 a1_0 a1_1 a1_2 a1_3 x223000_48 x223001_48 x223002_48 = some (r1, r2)) ∧ Aside0 (kq ≤ kj3) ∧ Aside0 (wc.heap[gb216]? = some (.cells #[(.slice A0_0 l0_0.length c0_0)] 29 (0, 0))) ∧ Aside0 (wc.heap[gb217]? = some (.cells #[.int .i64 a1_0, .string a1_1, .string a1_2, .string a1_3] 55 (0, 0))) ∧ Aside0 (wc.heap[gb218]? = some (.cells #[(.slice none 0 0)] 29 (0, 0))) ∧ Aside0 (wc.heap[gb222]? = some (.cells #[.string x223000_48, .string x223001_48, .int .i64 x223002_48] 45 (0, 0))) ∧ Aside0 (Below w.heap.size w wc))
   case first =>
    have H := HC49.out; clear HC49
    by_cases c58 : t219 ≥ 0; rotate_left
    ·
     rw [if_neg c58] at H; have c58b0 : decide (0 ≤ t219) = false := decide_eq_false c58; clear c58
     (first | rw [c58b0] | (simp only [i64_w, i32_w]; rw [c58b0]) | skip)
     have H' := Aside0.mk H; clear H
     go_wp2
     go_meet
     case rel => exact ⟨_, (a1_1), ((⟨#[]⟩ : ByteArray)), (0), H', ⟨by have := HJ3.out; first | omega | exact Nat.le_refl _⟩, ⟨BP BK216.out⟩, ⟨BP BK217.out⟩, ⟨BP BK218.out⟩, ⟨BU BK222.out⟩, ⟨BL⟩⟩
    rw [if_pos c58] at H; have c58b0 : decide (0 ≤ t219) = true := decide_eq_true c58; clear c58
    (first | rw [c58b0] | (simp only [i64_w, i32_w]; rw [c58b0]) | skip)
    by_cases c59 : 0 ≤ t219; rotate_left
    ·
     rw [if_neg c59] at H; exact absurd H (by simp)
    rw [if_pos c59] at H; have c59b0 : decide (0 ≤ t219) = true := decide_eq_true c59; clear c59
    by_cases c60 : t219 < (l0_0.length : Int); rotate_left
    ·
     rw [if_neg c60] at H; exact absurd H (by simp)
    rw [if_pos c60] at H; have c60b0 : decide (t219 < (l0_0.length : Int)) = true := decide_eq_true c60; clear c60; have H' := Aside0.mk H; clear H; have hnb61 := NB216_217.out; have hnc61 := NB217_216.out; have hnb62 := NB216_218.out; have hnc62 := NB218_216.out; have hnb63 := NB216_222.out; have hnc63 := NB222_216.out; have hcz64_0 : w53.cell? ⟨gb216, 0, none⟩ = some (.slice A0_0 l0_0.length c0_0) := CZ BK216.out 0; have hfz64_0 := blk_frozen BK216.out 0; have p223 : 0 ≤ (t219 : Int) := of_decide_eq_true AS; have q223 : t219 < (l0_0.length : Int) := of_decide_eq_true AS; obtain ⟨ad223, e223, hx223_0, hx223_1, hx223_2⟩ := at_T45 HR0_0.out t219 p223 q223; cases e223; have hn223_0 : ad223.block ≠ gb222 := Nat.ne_of_lt (Nat.lt_of_lt_of_le (by have := World.block_lt_of_cell? _ _ hx223_0; first | rwa [add_block] at this | exact this) GW222.out); have hn223_1 : ad223.block ≠ gb222 := Nat.ne_of_lt (Nat.lt_of_lt_of_le (by have := World.block_lt_of_cell? _ _ hx223_0; first | rwa [add_block] at this | exact this) GW222.out); have hn223_2 : ad223.block ≠ gb222 := Nat.ne_of_lt (Nat.lt_of_lt_of_le (by have := World.block_lt_of_cell? _ _ hx223_0; first | rwa [add_block] at this | exact this) GW222.out); replace hx223_0 := (HB.out.cell (World.block_lt_of_cell? w _ hx223_0)).trans hx223_0; replace hx223_1 := (HB.out.cell (World.block_lt_of_cell? w _ hx223_1)).trans hx223_1; replace hx223_2 := (HB.out.cell (World.block_lt_of_cell? w _ hx223_2)).trans hx223_2; replace hx223_0 := (cell_far (p := ⟨gb222, 0, none⟩) (by first | (rw [add_block]; exact hn223_0) | (show (Addr.add _ _).block ≠ _; rw [add_block]; exact hn223_0) | exact hn223_0) (.string a1_1)).trans hx223_0; replace hx223_1 := (cell_far (p := ⟨gb222, 0, none⟩) (by first | (rw [add_block]; exact hn223_0) | (show (Addr.add _ _).block ≠ _; rw [add_block]; exact hn223_0) | exact hn223_0) (.string a1_1)).trans hx223_1; replace hx223_2 := (cell_far (p := ⟨gb222, 0, none⟩) (by first | (rw [add_block]; exact hn223_0) | (show (Addr.add _ _).block ≠ _; rw [add_block]; exact hn223_0) | exact hn223_0) (.string a1_1)).trans hx223_2; replace hx223_0 := (cell_far (p := ⟨gb222, 1, none⟩) (by first | (rw [add_block]; exact hn223_1) | (show (Addr.add _ _).block ≠ _; rw [add_block]; exact hn223_1) | exact hn223_1) (.string (⟨#[]⟩ : ByteArray))).trans hx223_0; replace hx223_1 := (cell_far (p := ⟨gb222, 1, none⟩) (by first | (rw [add_block]; exact hn223_1) | (show (Addr.add _ _).block ≠ _; rw [add_block]; exact hn223_1) | exact hn223_1) (.string (⟨#[]⟩ : ByteArray))).trans hx223_1; replace hx223_2 := (cell_far (p := ⟨gb222, 1, none⟩) (by first | (rw [add_block]; exact hn223_1) | (show (Addr.add _ _).block ≠ _; rw [add_block]; exact hn223_1) | exact hn223_1) (.string (⟨#[]⟩ : ByteArray))).trans hx223_2; replace hx223_0 := (cell_far (p := ⟨gb222, 2, none⟩) (by first | (rw [add_block]; exact hn223_2) | (show (Addr.add _ _).block ≠ _; rw [add_block]; exact hn223_2) | exact hn223_2) (.int .i64 0)).trans hx223_0; replace hx223_1 := (cell_far (p := ⟨gb222, 2, none⟩) (by first | (rw [add_block]; exact hn223_2) | (show (Addr.add _ _).block ≠ _; rw [add_block]; exact hn223_2) | exact hn223_2) (.int .i64 0)).trans hx223_1; replace hx223_2 := (cell_far (p := ⟨gb222, 2, none⟩) (by first | (rw [add_block]; exact hn223_2) | (show (Addr.add _ _).block ≠ _; rw [add_block]; exact hn223_2) | exact hn223_2) (.int .i64 0)).trans hx223_2; clear hn223_0; clear hn223_1; clear hn223_2; replace p223 := eq_true p223; replace q223 := eq_true q223; have hnb65 := NB222_217.out; have hnc65 := NB217_222.out; have hnb66 := NB222_218.out; have hnc66 := NB218_222.out; have hcz67_0 : w53.cell? ⟨gb222, 0, none⟩ = some (.string (⟨#[]⟩ : ByteArray)) := CZ BK222.out 0; have hcz67_1 : w53.cell? ⟨gb222, 1, none⟩ = some (.string (⟨#[]⟩ : ByteArray)) := CZ BK222.out 1; have hcz67_2 : w53.cell? ⟨gb222, 2, none⟩ = some (.int .i64 0) := CZ BK222.out 2; have hfz67_0 := blk_frozen BK222.out 0; have hfz67_1 := blk_frozen BK222.out 1; have hfz67_2 := blk_frozen BK222.out 2
    go_wp2
    go_meet
    case rel => exact ⟨_, ((rd_T45 l0_0 t219).f0), ((rd_T45 l0_0 t219).f1), ((rd_T45 l0_0 t219).f2), H', ⟨by have := HJ3.out; first | omega | exact Nat.le_refl _⟩, ⟨BP BK216.out⟩, ⟨BP BK217.out⟩, ⟨BP BK218.out⟩, ⟨BU BK222.out⟩, ⟨BL⟩⟩
   case rest =>
    clear HC49
    try clear c1 c2 p2 q2 hx2 c3 c4 c5 c6 c8 c9 c11 c15 c17 c18 c18b0 c19 c20 p22 q22 hx22 c23 c27 c28 c31 c34 c35 c37 c38 c41 c42 c45 c46 c47 c50 c51 c54 c55 c56 c58 c58b0 c59 c59b0 c60 c60b0 c61 c62 c63 c65 c66 hcz10_0 hcz12_0 hcz12_1 hcz12_2 hcz12_3 hcz21_0 hcz24_0 hcz24_1 hcz24_2 hcz24_3 hcz26_0 hcz26_1 hcz26_2 hcz26_3 hcz29_0 hcz32_0 hcz32_1 hcz32_2 hcz32_3 hcz36_0 hcz39_0 hcz39_1 hcz39_2 hcz39_3 hcz43_0 hcz48_0 hcz52_0 hcz52_1 hcz52_2 hcz52_3 hcz57_0 hcz57_1 hcz57_2 hcz64_0 hcz67_0 hcz67_1 hcz67_2 hfz10_0 hfz12_0 hfz12_1 hfz12_2 hfz12_3 hfz21_0 hfz24_0 hfz24_1 hfz24_2 hfz24_3 hfz26_0 hfz26_1 hfz26_2 hfz26_3 hfz29_0 hfz32_0 hfz32_1 hfz32_2 hfz32_3 hfz36_0 hfz39_0 hfz39_1 hfz39_2 hfz39_3 hfz43_0 hfz48_0 hfz52_0 hfz52_1 hfz52_2 hfz52_3 hfz57_0 hfz57_1 hfz57_2 hfz64_0 hfz67_0 hfz67_1 hfz67_2 hx223_0 hx223_1 hx223_2 p2 p223 q223
    obtain ⟨kq, x223000_48, x223001_48, x223002_48, HA, HJ48, BK216, BK217, BK218, BK222, HB⟩ := hcut; cases kq with
    | zero => exact absurd HA.out (by simp [impl_DoAct.j1])
    | succ kj48 =>
     have H := HA.out; clear HA; simp only [impl_DoAct.j1] at H
     by_cases c68 : a1_0 = 1
     ·
      rw [if_pos c68] at H; have c68b0 : (a1_0 == 1) = true := beq_iff_eq.mpr c68; have c68b1 : (a1_0 != 1) = false := bne_eq_false_iff_eq.mpr c68; clear c68
      by_cases c69 : x223001_48.size + a1_2.size ≤ 9223372036854775807; rotate_left
      ·
       rw [if_neg c69] at H; exact absurd H (by simp)
      rw [if_pos c69] at H; have c69b0 := eq_true c69; have c69b1 : decide (x223001_48.size + a1_2.size ≤ 9223372036854775807) = true := decide_eq_true c69
      try have c69b2 : (9223372036854775807 < x223001_48.size + a1_2.size) = False := eq_false (Nat.not_lt.2 c69)
      replace H := Option.bind_eq_some_iff.mp H; obtain ⟨t225, A700, H⟩ := H; have A70 := Aside0.mk A700; clear A700; replace H := Option.bind_eq_some_iff.mp H; obtain ⟨t228, A710, H⟩ := H; have A71 := Aside0.mk A710; clear A710
      by_cases c72 : t228 = true
      ·
       subst c72
       have H1 : (some (t225, true)) = some (r1, r2) := by rw [if_pos rfl] at H; exact H
       clear H; have H := H1; clear H1; simp only [Option.some.injEq, Prod.mk.injEq] at H; obtain ⟨rfl, rfl⟩ := H
       go_wp2_with (first | ((with_reducible refine gate_dst (N := 8) rfl ?_); refine bE 8 #[.slice none 0 0] 29 ?_; intro gb224 hg w73 hbox hb; have BK224 := Aside0.mk (hbox); have GW224 : Aside0 (w.heap.size ≤ gb224) := GS; have GE224 := GW224; have NB216_224 := NL BK216.out hg; have NB224_216 := NG BK216.out hg; have NB217_224 := NL BK217.out hg; have NB224_217 := NG BK217.out hg; have NB218_224 := NL BK218.out hg; have NB224_218 := NG BK218.out hg; have NB222_224 := NL BK222.out hg; have NB224_222 := NG BK222.out hg; replace BK216 := BB BK216.out hb; replace BK217 := BB BK217.out hb; replace BK218 := BB BK218.out hb; replace BK222 := BB BK222.out hb; replace HB := Aside0.mk (below_step (BL) hb); clear hb hbox hg; have hnb74 := NB224_216.out; have hnc74 := NB216_224.out; have hnb75 := NB224_217.out; have hnc75 := NB217_224.out; have hnb76 := NB224_218.out; have hnc76 := NB218_224.out; have hnb77 := NB224_222.out; have hnc77 := NB222_224.out; have hcz78_0 : w73.cell? ⟨gb224, 0, none⟩ = some (.slice none 0 0) := CZ BK224.out 0; have hfz78_0 := blk_frozen BK224.out 0; have hnb79 := NB217_216.out; have hnc79 := NB216_217.out; have hnb80 := NB217_218.out; have hnc80 := NB218_217.out; have hnb81 := NB217_222.out; have hnc81 := NB222_217.out; have hcz82_0 : w73.cell? ⟨gb217, 0, none⟩ = some (.int .i64 a1_0) := CZ BK217.out 0; have hcz82_1 : w73.cell? ⟨gb217, 1, none⟩ = some (.string a1_1) := CZ BK217.out 1; have hcz82_2 : w73.cell? ⟨gb217, 2, none⟩ = some (.string a1_2) := CZ BK217.out 2; have hcz82_3 : w73.cell? ⟨gb217, 3, none⟩ = some (.string a1_3) := CZ BK217.out 3; have hfz82_0 := blk_frozen BK217.out 0; have hfz82_1 := blk_frozen BK217.out 1; have hfz82_2 := blk_frozen BK217.out 2; have hfz82_3 := blk_frozen BK217.out 3; have hnb83 := NB222_216.out; have hnc83 := NB216_222.out; have hnb84 := NB222_218.out; have hnc84 := NB218_222.out; have hcz85_0 : w73.cell? ⟨gb222, 0, none⟩ = some (.string x223000_48) := CZ BK222.out 0; have hcz85_1 : w73.cell? ⟨gb222, 1, none⟩ = some (.string x223001_48) := CZ BK222.out 1; have hcz85_2 : w73.cell? ⟨gb222, 2, none⟩ = some (.int .i64 x223002_48) := CZ BK222.out 2; have hfz85_0 := blk_frozen BK222.out 0; have hfz85_1 := blk_frozen BK222.out 1; have hfz85_2 := blk_frozen BK222.out 2; have hnb86 := NB216_218.out; have hnc86 := NB218_216.out; have hcz87_0 : w73.cell? ⟨gb216, 0, none⟩ = some (.slice A0_0 l0_0.length c0_0) := CZ BK216.out 0; have hfz87_0 := blk_frozen BK216.out 0) | ((with_reducible refine gate_callee (f := 66) rfl ?_); refine goesL_ (some 58) rfl rfl Try.func66 (by kernel_rfl) rfl #[.agg #[.slice A0_0 l0_0.length c0_0], .agg #[.string x223000_48, .string (x223001_48 ++ a1_2), .int .i64 x223002_48]] rfl (MA) ?_; (with_reducible refine (impl_withFile.calls _ _ l0_0 x223000_48 (x223001_48 ++ a1_2) x223002_48 t225 _ ?side1 ?side2 A70.out).mono ?_); (case side1 => exact Kd.C_below HR0_0.out (BL)); (case side2 => exact HC0_0.out); rintro e w88 ⟨v226, rfl, ho0, hb⟩; refine ⟨_, rfl, ?_⟩; have HO227 := Aside0.mk (Kd.R_lower (Kd.R_newB ho0 (g := gb222) (o := .cells #[.string x223000_48, .string (x223001_48 ++ a1_2), .int .i64 x223002_48] 45 (0, 0)) (BU BK222.out)) (below_size (BL))); replace BK216 := BX BK216.out hb; replace BK217 := BX BK217.out hb; replace BK218 := BX BK218.out hb; replace BK222 := Aside0.mk (blk_below (g := gb222) (o := .cells #[.string x223000_48, .string (x223001_48 ++ a1_2), .int .i64 x223002_48] 45 (0, 0)) (BU BK222.out) hb); replace BK224 := Aside0.mk (blk_below (g := gb224) (o := .cells #[.slice none 0 0] 29 (0, 0)) (BU BK224.out) hb); replace HB := Aside0.mk (below_step (BL) hb); (try clear hb); (try clear hb2); (try clear hk); (try clear hi); (try clear ho0); obtain ⟨Ao89, co89, eo89⟩ := Kd.R_slice HO227.out; subst eo89; have hcz90_0 : w88.cell? ⟨gb224, 0, none⟩ = some (.slice none 0 0) := CZ BK224.out 0; have hfz90_0 := blk_frozen BK224.out 0) | ((with_reducible refine gate_callee (f := 15) rfl ?_); refine goesL_ (some 94) rfl rfl Try.func15 (by kernel_rfl) rfl #[.agg #[.slice Ao89 t225.length co89]] rfl (MA) ?_; (with_reducible refine (impl_DiskOk.calls kj48 _ _ t225 true _ ?side1 ?side2 A71.out).mono ?_); (case side1 => refine (Kd.R_reads' (e := 45) (base := w.heap.size) (ok := fun k_ => (True ∧ k_ ≠ gb222)) (n := t225.length) (c := co89) ?_).2.2; exact (RF HO227.out BK224.out)); (case side2 => exact (Kd.R_reads' HO227.out).2.1); rintro e w91 ⟨rfl, hb⟩; refine ⟨_, rfl, ?_⟩; replace HO227 := Aside0.mk (Kd.R_below (RF HO227.out BK224.out) hb); replace BK216 := BX BK216.out hb; replace BK217 := BX BK217.out hb; replace BK218 := BX BK218.out hb; replace BK222 := BX BK222.out hb; replace BK224 := Aside0.mk (blk_below (g := gb224) (o := .cells #[.slice Ao89 t225.length co89] 29 (0, 0)) (BU BK224.out) hb); replace HB := Aside0.mk (below_step (BL) hb); (try clear hb); (try clear hb2); (try clear hk); (try clear hi); have hcz92_0 : w91.cell? ⟨gb224, 0, none⟩ = some (.slice Ao89 t225.length co89) := CZ BK224.out 0; have hfz92_0 := blk_frozen BK224.out 0; have hcz93_0 : w91.cell? ⟨gb218, 0, none⟩ = some (.slice none 0 0) := CZ BK218.out 0; have hfz93_0 := blk_frozen BK218.out 0))
       refine bodyPost_ret (results_ct rfl _ _ gb218 29 #[.slice Ao89 t225.length co89] (0, 0) _ rfl (BU BK218.out) Try.underlying29 rfl (by kernel_rfl)) rfl ?_; exact ⟨_, EE, by (with_reducible repeat (first | apply r1 | apply r2 | apply r3)); exact Kd.R_mono (Kd.R_far (p := ⟨gb218, 0, none⟩) (Kd.R_types HO227.out BK218.out (by decide)) (fun _ hk => hk.2) (.slice Ao89 t225.length co89)) (fun _ hk => trivial), BL⟩
      replace c72 := Bool.eq_false_iff.mpr c72; subst c72
      have H1 : (some (([] : List (S45)), false)) = some (r1, r2) := by rw [if_neg (show ¬ (false = true) by decide)] at H; exact H
      clear H; have H := H1; clear H1; simp only [Option.some.injEq, Prod.mk.injEq] at H; obtain ⟨rfl, rfl⟩ := H
      go_wp2_with (first | ((with_reducible refine gate_dst (N := 8) rfl ?_); refine bE 8 #[.slice none 0 0] 29 ?_; intro gb224 hg w94 hbox hb; have BK224 := Aside0.mk (hbox); have GW224 : Aside0 (w.heap.size ≤ gb224) := GS; have GE224 := GW224; have NB216_224 := NL BK216.out hg; have NB224_216 := NG BK216.out hg; have NB217_224 := NL BK217.out hg; have NB224_217 := NG BK217.out hg; have NB218_224 := NL BK218.out hg; have NB224_218 := NG BK218.out hg; have NB222_224 := NL BK222.out hg; have NB224_222 := NG BK222.out hg; replace BK216 := BB BK216.out hb; replace BK217 := BB BK217.out hb; replace BK218 := BB BK218.out hb; replace BK222 := BB BK222.out hb; replace HB := Aside0.mk (below_step (BL) hb); clear hb hbox hg; have hnb95 := NB224_216.out; have hnc95 := NB216_224.out; have hnb96 := NB224_217.out; have hnc96 := NB217_224.out; have hnb97 := NB224_218.out; have hnc97 := NB218_224.out; have hnb98 := NB224_222.out; have hnc98 := NB222_224.out; have hcz99_0 : w94.cell? ⟨gb224, 0, none⟩ = some (.slice none 0 0) := CZ BK224.out 0; have hfz99_0 := blk_frozen BK224.out 0; have hnb100 := NB217_216.out; have hnc100 := NB216_217.out; have hnb101 := NB217_218.out; have hnc101 := NB218_217.out; have hnb102 := NB217_222.out; have hnc102 := NB222_217.out; have hcz103_0 : w94.cell? ⟨gb217, 0, none⟩ = some (.int .i64 a1_0) := CZ BK217.out 0; have hcz103_1 : w94.cell? ⟨gb217, 1, none⟩ = some (.string a1_1) := CZ BK217.out 1; have hcz103_2 : w94.cell? ⟨gb217, 2, none⟩ = some (.string a1_2) := CZ BK217.out 2; have hcz103_3 : w94.cell? ⟨gb217, 3, none⟩ = some (.string a1_3) := CZ BK217.out 3; have hfz103_0 := blk_frozen BK217.out 0; have hfz103_1 := blk_frozen BK217.out 1; have hfz103_2 := blk_frozen BK217.out 2; have hfz103_3 := blk_frozen BK217.out 3; have hnb104 := NB222_216.out; have hnc104 := NB216_222.out; have hnb105 := NB222_218.out; have hnc105 := NB218_222.out; have hcz106_0 : w94.cell? ⟨gb222, 0, none⟩ = some (.string x223000_48) := CZ BK222.out 0; have hcz106_1 : w94.cell? ⟨gb222, 1, none⟩ = some (.string x223001_48) := CZ BK222.out 1; have hcz106_2 : w94.cell? ⟨gb222, 2, none⟩ = some (.int .i64 x223002_48) := CZ BK222.out 2; have hfz106_0 := blk_frozen BK222.out 0; have hfz106_1 := blk_frozen BK222.out 1; have hfz106_2 := blk_frozen BK222.out 2; have hnb107 := NB216_218.out; have hnc107 := NB218_216.out; have hcz108_0 : w94.cell? ⟨gb216, 0, none⟩ = some (.slice A0_0 l0_0.length c0_0) := CZ BK216.out 0; have hfz108_0 := blk_frozen BK216.out 0) | ((with_reducible refine gate_callee (f := 66) rfl ?_); refine goesL_ (some 58) rfl rfl Try.func66 (by kernel_rfl) rfl #[.agg #[.slice A0_0 l0_0.length c0_0], .agg #[.string x223000_48, .string (x223001_48 ++ a1_2), .int .i64 x223002_48]] rfl (MA) ?_; (with_reducible refine (impl_withFile.calls _ _ l0_0 x223000_48 (x223001_48 ++ a1_2) x223002_48 t225 _ ?side1 ?side2 A70.out).mono ?_); (case side1 => exact Kd.C_below HR0_0.out (BL)); (case side2 => exact HC0_0.out); rintro e w109 ⟨v226, rfl, ho0, hb⟩; refine ⟨_, rfl, ?_⟩; have HO227 := Aside0.mk (Kd.R_lower (Kd.R_newB ho0 (g := gb222) (o := .cells #[.string x223000_48, .string (x223001_48 ++ a1_2), .int .i64 x223002_48] 45 (0, 0)) (BU BK222.out)) (below_size (BL))); replace BK216 := BX BK216.out hb; replace BK217 := BX BK217.out hb; replace BK218 := BX BK218.out hb; replace BK222 := Aside0.mk (blk_below (g := gb222) (o := .cells #[.string x223000_48, .string (x223001_48 ++ a1_2), .int .i64 x223002_48] 45 (0, 0)) (BU BK222.out) hb); replace BK224 := Aside0.mk (blk_below (g := gb224) (o := .cells #[.slice none 0 0] 29 (0, 0)) (BU BK224.out) hb); replace HB := Aside0.mk (below_step (BL) hb); (try clear hb); (try clear hb2); (try clear hk); (try clear hi); (try clear ho0); obtain ⟨Ao110, co110, eo110⟩ := Kd.R_slice HO227.out; subst eo110; have hcz111_0 : w109.cell? ⟨gb224, 0, none⟩ = some (.slice none 0 0) := CZ BK224.out 0; have hfz111_0 := blk_frozen BK224.out 0) | ((with_reducible refine gate_callee (f := 15) rfl ?_); refine goesL_ (some 94) rfl rfl Try.func15 (by kernel_rfl) rfl #[.agg #[.slice Ao110 t225.length co110]] rfl (MA) ?_; (with_reducible refine (impl_DiskOk.calls kj48 _ _ t225 false _ ?side1 ?side2 A71.out).mono ?_); (case side1 => refine (Kd.R_reads' (e := 45) (base := w.heap.size) (ok := fun k_ => (True ∧ k_ ≠ gb222)) (n := t225.length) (c := co110) ?_).2.2; exact (RF HO227.out BK224.out)); (case side2 => exact (Kd.R_reads' HO227.out).2.1); rintro e w112 ⟨rfl, hb⟩; refine ⟨_, rfl, ?_⟩; replace HO227 := Aside0.mk (Kd.R_below (RF HO227.out BK224.out) hb); replace BK216 := BX BK216.out hb; replace BK217 := BX BK217.out hb; replace BK218 := BX BK218.out hb; replace BK222 := BX BK222.out hb; replace BK224 := Aside0.mk (blk_below (g := gb224) (o := .cells #[.slice Ao110 t225.length co110] 29 (0, 0)) (BU BK224.out) hb); replace HB := Aside0.mk (below_step (BL) hb); (try clear hb); (try clear hb2); (try clear hk); (try clear hi); have hcz113_0 : w112.cell? ⟨gb218, 0, none⟩ = some (.slice none 0 0) := CZ BK218.out 0; have hfz113_0 := blk_frozen BK218.out 0))
      refine bodyPost_ret (results_ct rfl _ _ gb218 29 #[.slice none 0 0] (0, 0) _ rfl (BU BK218.out) Try.underlying29 rfl (by kernel_rfl)) rfl ?_; exact ⟨_, EE, by first | exact Kd.R_nil _ _ _ _ _ | exact Kd.N_nil _ _ _ _ _ | exact Kd.V_nil _ _ _ _ _ | exact Kd.Q_nil _ _ _ _ _ | exact Kd.S_nil _ _ _ _ _, BL⟩
     rw [if_neg c68] at H; have c68b0 : (a1_0 == 1) = false := beq_eq_false_iff_ne.mpr c68; have c68b1 : (a1_0 != 1) = true := bne_iff_ne.mpr c68
     by_cases c114 : a1_0 = 2
     ·
      rw [if_pos c114] at H; have c114b0 : (a1_0 == 2) = true := beq_iff_eq.mpr c114; have c114b1 : (a1_0 != 2) = false := bne_eq_false_iff_eq.mpr c114; clear c114; replace H := Option.bind_eq_some_iff.mp H; obtain ⟨t229, A1150, H⟩ := H; have A115 := Aside0.mk A1150; clear A1150; replace H := Option.bind_eq_some_iff.mp H; obtain ⟨t232, A1160, H⟩ := H; have A116 := Aside0.mk A1160; clear A1160
      by_cases c117 : t232 = true
      ·
       subst c117
       have H1 : (some (t229, true)) = some (r1, r2) := by rw [if_pos rfl] at H; exact H
       clear H; have H := H1; clear H1; simp only [Option.some.injEq, Prod.mk.injEq] at H; obtain ⟨rfl, rfl⟩ := H
       go_wp2_with (first | ((with_reducible refine gate_dst (N := 8) rfl ?_); refine bE 8 #[.slice none 0 0] 29 ?_; intro gb224 hg w118 hbox hb; have BK224 := Aside0.mk (hbox); have GW224 : Aside0 (w.heap.size ≤ gb224) := GS; have GE224 := GW224; have NB216_224 := NL BK216.out hg; have NB224_216 := NG BK216.out hg; have NB217_224 := NL BK217.out hg; have NB224_217 := NG BK217.out hg; have NB218_224 := NL BK218.out hg; have NB224_218 := NG BK218.out hg; have NB222_224 := NL BK222.out hg; have NB224_222 := NG BK222.out hg; replace BK216 := BB BK216.out hb; replace BK217 := BB BK217.out hb; replace BK218 := BB BK218.out hb; replace BK222 := BB BK222.out hb; replace HB := Aside0.mk (below_step (BL) hb); clear hb hbox hg; have hnb119 := NB224_216.out; have hnc119 := NB216_224.out; have hnb120 := NB224_217.out; have hnc120 := NB217_224.out; have hnb121 := NB224_218.out; have hnc121 := NB218_224.out; have hnb122 := NB224_222.out; have hnc122 := NB222_224.out; have hcz123_0 : w118.cell? ⟨gb224, 0, none⟩ = some (.slice none 0 0) := CZ BK224.out 0; have hfz123_0 := blk_frozen BK224.out 0; have hnb124 := NB217_216.out; have hnc124 := NB216_217.out; have hnb125 := NB217_218.out; have hnc125 := NB218_217.out; have hnb126 := NB217_222.out; have hnc126 := NB222_217.out; have hcz127_0 : w118.cell? ⟨gb217, 0, none⟩ = some (.int .i64 a1_0) := CZ BK217.out 0; have hcz127_1 : w118.cell? ⟨gb217, 1, none⟩ = some (.string a1_1) := CZ BK217.out 1; have hcz127_2 : w118.cell? ⟨gb217, 2, none⟩ = some (.string a1_2) := CZ BK217.out 2; have hcz127_3 : w118.cell? ⟨gb217, 3, none⟩ = some (.string a1_3) := CZ BK217.out 3; have hfz127_0 := blk_frozen BK217.out 0; have hfz127_1 := blk_frozen BK217.out 1; have hfz127_2 := blk_frozen BK217.out 2; have hfz127_3 := blk_frozen BK217.out 3; have hnb128 := NB222_216.out; have hnc128 := NB216_222.out; have hnb129 := NB222_218.out; have hnc129 := NB218_222.out; have hcz130_0 : w118.cell? ⟨gb222, 0, none⟩ = some (.string x223000_48) := CZ BK222.out 0; have hcz130_1 : w118.cell? ⟨gb222, 1, none⟩ = some (.string x223001_48) := CZ BK222.out 1; have hcz130_2 : w118.cell? ⟨gb222, 2, none⟩ = some (.int .i64 x223002_48) := CZ BK222.out 2; have hfz130_0 := blk_frozen BK222.out 0; have hfz130_1 := blk_frozen BK222.out 1; have hfz130_2 := blk_frozen BK222.out 2; have hnb131 := NB216_218.out; have hnc131 := NB218_216.out; have hcz132_0 : w118.cell? ⟨gb216, 0, none⟩ = some (.slice A0_0 l0_0.length c0_0) := CZ BK216.out 0; have hfz132_0 := blk_frozen BK216.out 0) | ((with_reducible refine gate_callee (f := 66) rfl ?_); refine goesL_ (some 67) rfl rfl Try.func66 (by kernel_rfl) rfl #[.agg #[.slice A0_0 l0_0.length c0_0], .agg #[.string x223000_48, .string x223001_48, .int .i64 (x223001_48.size : Int)]] rfl (MA) ?_; (with_reducible refine (impl_withFile.calls _ _ l0_0 x223000_48 x223001_48 (x223001_48.size : Int) t229 _ ?side1 ?side2 A115.out).mono ?_); (case side1 => exact Kd.C_below HR0_0.out (BL)); (case side2 => exact HC0_0.out); rintro e w133 ⟨v230, rfl, ho0, hb⟩; refine ⟨_, rfl, ?_⟩; have HO231 := Aside0.mk (Kd.R_lower (Kd.R_newB ho0 (g := gb222) (o := .cells #[.string x223000_48, .string x223001_48, .int .i64 (x223001_48.size : Int)] 45 (0, 0)) (BU BK222.out)) (below_size (BL))); replace BK216 := BX BK216.out hb; replace BK217 := BX BK217.out hb; replace BK218 := BX BK218.out hb; replace BK222 := Aside0.mk (blk_below (g := gb222) (o := .cells #[.string x223000_48, .string x223001_48, .int .i64 (x223001_48.size : Int)] 45 (0, 0)) (BU BK222.out) hb); replace BK224 := Aside0.mk (blk_below (g := gb224) (o := .cells #[.slice none 0 0] 29 (0, 0)) (BU BK224.out) hb); replace HB := Aside0.mk (below_step (BL) hb); (try clear hb); (try clear hb2); (try clear hk); (try clear hi); (try clear ho0); obtain ⟨Ao134, co134, eo134⟩ := Kd.R_slice HO231.out; subst eo134; have hcz135_0 : w133.cell? ⟨gb224, 0, none⟩ = some (.slice none 0 0) := CZ BK224.out 0; have hfz135_0 := blk_frozen BK224.out 0) | ((with_reducible refine gate_callee (f := 15) rfl ?_); refine goesL_ (some 94) rfl rfl Try.func15 (by kernel_rfl) rfl #[.agg #[.slice Ao134 t229.length co134]] rfl (MA) ?_; (with_reducible refine (impl_DiskOk.calls kj48 _ _ t229 true _ ?side1 ?side2 A116.out).mono ?_); (case side1 => refine (Kd.R_reads' (e := 45) (base := w.heap.size) (ok := fun k_ => (True ∧ k_ ≠ gb222)) (n := t229.length) (c := co134) ?_).2.2; exact (RF HO231.out BK224.out)); (case side2 => exact (Kd.R_reads' HO231.out).2.1); rintro e w136 ⟨rfl, hb⟩; refine ⟨_, rfl, ?_⟩; replace HO231 := Aside0.mk (Kd.R_below (RF HO231.out BK224.out) hb); replace BK216 := BX BK216.out hb; replace BK217 := BX BK217.out hb; replace BK218 := BX BK218.out hb; replace BK222 := BX BK222.out hb; replace BK224 := Aside0.mk (blk_below (g := gb224) (o := .cells #[.slice Ao134 t229.length co134] 29 (0, 0)) (BU BK224.out) hb); replace HB := Aside0.mk (below_step (BL) hb); (try clear hb); (try clear hb2); (try clear hk); (try clear hi); have hcz137_0 : w136.cell? ⟨gb224, 0, none⟩ = some (.slice Ao134 t229.length co134) := CZ BK224.out 0; have hfz137_0 := blk_frozen BK224.out 0; have hcz138_0 : w136.cell? ⟨gb218, 0, none⟩ = some (.slice none 0 0) := CZ BK218.out 0; have hfz138_0 := blk_frozen BK218.out 0))
       refine bodyPost_ret (results_ct rfl _ _ gb218 29 #[.slice Ao134 t229.length co134] (0, 0) _ rfl (BU BK218.out) Try.underlying29 rfl (by kernel_rfl)) rfl ?_; exact ⟨_, EE, by (with_reducible repeat (first | apply r1 | apply r2 | apply r3)); exact Kd.R_mono (Kd.R_far (p := ⟨gb218, 0, none⟩) (Kd.R_types HO231.out BK218.out (by decide)) (fun _ hk => hk.2) (.slice Ao134 t229.length co134)) (fun _ hk => trivial), BL⟩
      replace c117 := Bool.eq_false_iff.mpr c117; subst c117
      have H1 : (some (([] : List (S45)), false)) = some (r1, r2) := by rw [if_neg (show ¬ (false = true) by decide)] at H; exact H
      clear H; have H := H1; clear H1; simp only [Option.some.injEq, Prod.mk.injEq] at H; obtain ⟨rfl, rfl⟩ := H
      go_wp2_with (first | ((with_reducible refine gate_dst (N := 8) rfl ?_); refine bE 8 #[.slice none 0 0] 29 ?_; intro gb224 hg w139 hbox hb; have BK224 := Aside0.mk (hbox); have GW224 : Aside0 (w.heap.size ≤ gb224) := GS; have GE224 := GW224; have NB216_224 := NL BK216.out hg; have NB224_216 := NG BK216.out hg; have NB217_224 := NL BK217.out hg; have NB224_217 := NG BK217.out hg; have NB218_224 := NL BK218.out hg; have NB224_218 := NG BK218.out hg; have NB222_224 := NL BK222.out hg; have NB224_222 := NG BK222.out hg; replace BK216 := BB BK216.out hb; replace BK217 := BB BK217.out hb; replace BK218 := BB BK218.out hb; replace BK222 := BB BK222.out hb; replace HB := Aside0.mk (below_step (BL) hb); clear hb hbox hg; have hnb140 := NB224_216.out; have hnc140 := NB216_224.out; have hnb141 := NB224_217.out; have hnc141 := NB217_224.out; have hnb142 := NB224_218.out; have hnc142 := NB218_224.out; have hnb143 := NB224_222.out; have hnc143 := NB222_224.out; have hcz144_0 : w139.cell? ⟨gb224, 0, none⟩ = some (.slice none 0 0) := CZ BK224.out 0; have hfz144_0 := blk_frozen BK224.out 0; have hnb145 := NB217_216.out; have hnc145 := NB216_217.out; have hnb146 := NB217_218.out; have hnc146 := NB218_217.out; have hnb147 := NB217_222.out; have hnc147 := NB222_217.out; have hcz148_0 : w139.cell? ⟨gb217, 0, none⟩ = some (.int .i64 a1_0) := CZ BK217.out 0; have hcz148_1 : w139.cell? ⟨gb217, 1, none⟩ = some (.string a1_1) := CZ BK217.out 1; have hcz148_2 : w139.cell? ⟨gb217, 2, none⟩ = some (.string a1_2) := CZ BK217.out 2; have hcz148_3 : w139.cell? ⟨gb217, 3, none⟩ = some (.string a1_3) := CZ BK217.out 3; have hfz148_0 := blk_frozen BK217.out 0; have hfz148_1 := blk_frozen BK217.out 1; have hfz148_2 := blk_frozen BK217.out 2; have hfz148_3 := blk_frozen BK217.out 3; have hnb149 := NB222_216.out; have hnc149 := NB216_222.out; have hnb150 := NB222_218.out; have hnc150 := NB218_222.out; have hcz151_0 : w139.cell? ⟨gb222, 0, none⟩ = some (.string x223000_48) := CZ BK222.out 0; have hcz151_1 : w139.cell? ⟨gb222, 1, none⟩ = some (.string x223001_48) := CZ BK222.out 1; have hcz151_2 : w139.cell? ⟨gb222, 2, none⟩ = some (.int .i64 x223002_48) := CZ BK222.out 2; have hfz151_0 := blk_frozen BK222.out 0; have hfz151_1 := blk_frozen BK222.out 1; have hfz151_2 := blk_frozen BK222.out 2; have hnb152 := NB216_218.out; have hnc152 := NB218_216.out; have hcz153_0 : w139.cell? ⟨gb216, 0, none⟩ = some (.slice A0_0 l0_0.length c0_0) := CZ BK216.out 0; have hfz153_0 := blk_frozen BK216.out 0) | ((with_reducible refine gate_callee (f := 66) rfl ?_); refine goesL_ (some 67) rfl rfl Try.func66 (by kernel_rfl) rfl #[.agg #[.slice A0_0 l0_0.length c0_0], .agg #[.string x223000_48, .string x223001_48, .int .i64 (x223001_48.size : Int)]] rfl (MA) ?_; (with_reducible refine (impl_withFile.calls _ _ l0_0 x223000_48 x223001_48 (x223001_48.size : Int) t229 _ ?side1 ?side2 A115.out).mono ?_); (case side1 => exact Kd.C_below HR0_0.out (BL)); (case side2 => exact HC0_0.out); rintro e w154 ⟨v230, rfl, ho0, hb⟩; refine ⟨_, rfl, ?_⟩; have HO231 := Aside0.mk (Kd.R_lower (Kd.R_newB ho0 (g := gb222) (o := .cells #[.string x223000_48, .string x223001_48, .int .i64 (x223001_48.size : Int)] 45 (0, 0)) (BU BK222.out)) (below_size (BL))); replace BK216 := BX BK216.out hb; replace BK217 := BX BK217.out hb; replace BK218 := BX BK218.out hb; replace BK222 := Aside0.mk (blk_below (g := gb222) (o := .cells #[.string x223000_48, .string x223001_48, .int .i64 (x223001_48.size : Int)] 45 (0, 0)) (BU BK222.out) hb); replace BK224 := Aside0.mk (blk_below (g := gb224) (o := .cells #[.slice none 0 0] 29 (0, 0)) (BU BK224.out) hb); replace HB := Aside0.mk (below_step (BL) hb); (try clear hb); (try clear hb2); (try clear hk); (try clear hi); (try clear ho0); obtain ⟨Ao155, co155, eo155⟩ := Kd.R_slice HO231.out; subst eo155; have hcz156_0 : w154.cell? ⟨gb224, 0, none⟩ = some (.slice none 0 0) := CZ BK224.out 0; have hfz156_0 := blk_frozen BK224.out 0) | ((with_reducible refine gate_callee (f := 15) rfl ?_); refine goesL_ (some 94) rfl rfl Try.func15 (by kernel_rfl) rfl #[.agg #[.slice Ao155 t229.length co155]] rfl (MA) ?_; (with_reducible refine (impl_DiskOk.calls kj48 _ _ t229 false _ ?side1 ?side2 A116.out).mono ?_); (case side1 => refine (Kd.R_reads' (e := 45) (base := w.heap.size) (ok := fun k_ => (True ∧ k_ ≠ gb222)) (n := t229.length) (c := co155) ?_).2.2; exact (RF HO231.out BK224.out)); (case side2 => exact (Kd.R_reads' HO231.out).2.1); rintro e w157 ⟨rfl, hb⟩; refine ⟨_, rfl, ?_⟩; replace HO231 := Aside0.mk (Kd.R_below (RF HO231.out BK224.out) hb); replace BK216 := BX BK216.out hb; replace BK217 := BX BK217.out hb; replace BK218 := BX BK218.out hb; replace BK222 := BX BK222.out hb; replace BK224 := Aside0.mk (blk_below (g := gb224) (o := .cells #[.slice Ao155 t229.length co155] 29 (0, 0)) (BU BK224.out) hb); replace HB := Aside0.mk (below_step (BL) hb); (try clear hb); (try clear hb2); (try clear hk); (try clear hi); have hcz158_0 : w157.cell? ⟨gb218, 0, none⟩ = some (.slice none 0 0) := CZ BK218.out 0; have hfz158_0 := blk_frozen BK218.out 0))
      refine bodyPost_ret (results_ct rfl _ _ gb218 29 #[.slice none 0 0] (0, 0) _ rfl (BU BK218.out) Try.underlying29 rfl (by kernel_rfl)) rfl ?_; exact ⟨_, EE, by first | exact Kd.R_nil _ _ _ _ _ | exact Kd.N_nil _ _ _ _ _ | exact Kd.V_nil _ _ _ _ _ | exact Kd.Q_nil _ _ _ _ _ | exact Kd.S_nil _ _ _ _ _, BL⟩
     rw [if_neg c114] at H; have c114b0 : (a1_0 == 2) = false := beq_eq_false_iff_ne.mpr c114; have c114b1 : (a1_0 != 2) = true := bne_iff_ne.mpr c114
     by_cases c159 : a1_0 = 3; rotate_left
     ·
      rw [if_neg c159] at H; have c159b0 : (a1_0 == 3) = false := beq_eq_false_iff_ne.mpr c159; have c159b1 : (a1_0 != 3) = true := bne_iff_ne.mpr c159; replace H := Option.bind_eq_some_iff.mp H; obtain ⟨t240, A2410, H⟩ := H; have A241 := Aside0.mk A2410; clear A2410; replace H := Option.bind_eq_some_iff.mp H; obtain ⟨t243, A2420, H⟩ := H; have A242 := Aside0.mk A2420; clear A2420
      by_cases c243 : t243 = true
      ·
       subst c243
       have H1 : (some (t240, true)) = some (r1, r2) := by rw [if_pos rfl] at H; exact H
       clear H; have H := H1; clear H1; simp only [Option.some.injEq, Prod.mk.injEq] at H; obtain ⟨rfl, rfl⟩ := H
       go_wp2_with (first | ((with_reducible refine gate_dst (N := 8) rfl ?_); refine bE 8 #[.slice none 0 0] 29 ?_; intro gb224 hg w244 hbox hb; have BK224 := Aside0.mk (hbox); have GW224 : Aside0 (w.heap.size ≤ gb224) := GS; have GE224 := GW224; have NB216_224 := NL BK216.out hg; have NB224_216 := NG BK216.out hg; have NB217_224 := NL BK217.out hg; have NB224_217 := NG BK217.out hg; have NB218_224 := NL BK218.out hg; have NB224_218 := NG BK218.out hg; have NB222_224 := NL BK222.out hg; have NB224_222 := NG BK222.out hg; replace BK216 := BB BK216.out hb; replace BK217 := BB BK217.out hb; replace BK218 := BB BK218.out hb; replace BK222 := BB BK222.out hb; replace HB := Aside0.mk (below_step (BL) hb); clear hb hbox hg; have hnb245 := NB224_216.out; have hnc245 := NB216_224.out; have hnb246 := NB224_217.out; have hnc246 := NB217_224.out; have hnb247 := NB224_218.out; have hnc247 := NB218_224.out; have hnb248 := NB224_222.out; have hnc248 := NB222_224.out; have hcz249_0 : w244.cell? ⟨gb224, 0, none⟩ = some (.slice none 0 0) := CZ BK224.out 0; have hfz249_0 := blk_frozen BK224.out 0; have hnb250 := NB217_216.out; have hnc250 := NB216_217.out; have hnb251 := NB217_218.out; have hnc251 := NB218_217.out; have hnb252 := NB217_222.out; have hnc252 := NB222_217.out; have hcz253_0 : w244.cell? ⟨gb217, 0, none⟩ = some (.int .i64 a1_0) := CZ BK217.out 0; have hcz253_1 : w244.cell? ⟨gb217, 1, none⟩ = some (.string a1_1) := CZ BK217.out 1; have hcz253_2 : w244.cell? ⟨gb217, 2, none⟩ = some (.string a1_2) := CZ BK217.out 2; have hcz253_3 : w244.cell? ⟨gb217, 3, none⟩ = some (.string a1_3) := CZ BK217.out 3; have hfz253_0 := blk_frozen BK217.out 0; have hfz253_1 := blk_frozen BK217.out 1; have hfz253_2 := blk_frozen BK217.out 2; have hfz253_3 := blk_frozen BK217.out 3; have hnb254 := NB216_218.out; have hnc254 := NB218_216.out; have hnb255 := NB216_222.out; have hnc255 := NB222_216.out; have hcz256_0 : w244.cell? ⟨gb216, 0, none⟩ = some (.slice A0_0 l0_0.length c0_0) := CZ BK216.out 0; have hfz256_0 := blk_frozen BK216.out 0) | ((with_reducible refine gate_callee (f := 67) rfl ?_); refine goesL_ (some 47) rfl rfl Try.func67 (by kernel_rfl) rfl #[.agg #[.slice A0_0 l0_0.length c0_0], .string a1_1] rfl (MA) ?_; (with_reducible refine (impl_withoutFile.calls _ _ l0_0 a1_1 t240 _ ?side1 ?side2 A241.out).mono ?_); (case side1 => exact Kd.C_below HR0_0.out (BL)); (case side2 => exact HC0_0.out); rintro e w257 ⟨v241, rfl, ho0, hb⟩; refine ⟨_, rfl, ?_⟩; have HO242 := Aside0.mk (Kd.R_lower (Kd.R_newB ho0 (g := gb222) (o := .cells #[.string x223000_48, .string x223001_48, .int .i64 x223002_48] 45 (0, 0)) (BP BK222.out)) (below_size (BL))); replace BK216 := BX BK216.out hb; replace BK217 := BX BK217.out hb; replace BK218 := BX BK218.out hb; replace BK222 := BX BK222.out hb; replace BK224 := Aside0.mk (blk_below (g := gb224) (o := .cells #[.slice none 0 0] 29 (0, 0)) (BU BK224.out) hb); replace HB := Aside0.mk (below_step (BL) hb); (try clear hb); (try clear hb2); (try clear hk); (try clear hi); (try clear ho0); obtain ⟨Ao258, co258, eo258⟩ := Kd.R_slice HO242.out; subst eo258; have hcz259_0 : w257.cell? ⟨gb224, 0, none⟩ = some (.slice none 0 0) := CZ BK224.out 0; have hfz259_0 := blk_frozen BK224.out 0) | ((with_reducible refine gate_callee (f := 15) rfl ?_); refine goesL_ (some 94) rfl rfl Try.func15 (by kernel_rfl) rfl #[.agg #[.slice Ao258 t240.length co258]] rfl (MA) ?_; (with_reducible refine (impl_DiskOk.calls kj48 _ _ t240 true _ ?side1 ?side2 A242.out).mono ?_); (case side1 => refine (Kd.R_reads' (e := 45) (base := w.heap.size) (ok := fun k_ => (True ∧ k_ ≠ gb222)) (n := t240.length) (c := co258) ?_).2.2; exact (RF HO242.out BK224.out)); (case side2 => exact (Kd.R_reads' HO242.out).2.1); rintro e w260 ⟨rfl, hb⟩; refine ⟨_, rfl, ?_⟩; replace HO242 := Aside0.mk (Kd.R_below (RF HO242.out BK224.out) hb); replace BK216 := BX BK216.out hb; replace BK217 := BX BK217.out hb; replace BK218 := BX BK218.out hb; replace BK222 := BX BK222.out hb; replace BK224 := Aside0.mk (blk_below (g := gb224) (o := .cells #[.slice Ao258 t240.length co258] 29 (0, 0)) (BU BK224.out) hb); replace HB := Aside0.mk (below_step (BL) hb); (try clear hb); (try clear hb2); (try clear hk); (try clear hi); have hcz261_0 : w260.cell? ⟨gb224, 0, none⟩ = some (.slice Ao258 t240.length co258) := CZ BK224.out 0; have hfz261_0 := blk_frozen BK224.out 0; have hnb262 := NB218_222.out; have hnc262 := NB222_218.out; have hcz263_0 : w260.cell? ⟨gb218, 0, none⟩ = some (.slice none 0 0) := CZ BK218.out 0; have hfz263_0 := blk_frozen BK218.out 0))
       refine bodyPost_ret (results_ct rfl _ _ gb218 29 #[.slice Ao258 t240.length co258] (0, 0) _ rfl (BU BK218.out) Try.underlying29 rfl (by kernel_rfl)) rfl ?_; exact ⟨_, EE, by (with_reducible repeat (first | apply r1 | apply r2 | apply r3)); exact Kd.R_mono (Kd.R_far (p := ⟨gb218, 0, none⟩) (Kd.R_types HO242.out BK218.out (by decide)) (fun _ hk => hk.2) (.slice Ao258 t240.length co258)) (fun _ hk => trivial), BL⟩
      replace c243 := Bool.eq_false_iff.mpr c243; subst c243
      have H1 : (some (([] : List (S45)), false)) = some (r1, r2) := by rw [if_neg (show ¬ (false = true) by decide)] at H; exact H
      clear H; have H := H1; clear H1; simp only [Option.some.injEq, Prod.mk.injEq] at H; obtain ⟨rfl, rfl⟩ := H
      go_wp2_with (first | ((with_reducible refine gate_dst (N := 8) rfl ?_); refine bE 8 #[.slice none 0 0] 29 ?_; intro gb224 hg w264 hbox hb; have BK224 := Aside0.mk (hbox); have GW224 : Aside0 (w.heap.size ≤ gb224) := GS; have GE224 := GW224; have NB216_224 := NL BK216.out hg; have NB224_216 := NG BK216.out hg; have NB217_224 := NL BK217.out hg; have NB224_217 := NG BK217.out hg; have NB218_224 := NL BK218.out hg; have NB224_218 := NG BK218.out hg; have NB222_224 := NL BK222.out hg; have NB224_222 := NG BK222.out hg; replace BK216 := BB BK216.out hb; replace BK217 := BB BK217.out hb; replace BK218 := BB BK218.out hb; replace BK222 := BB BK222.out hb; replace HB := Aside0.mk (below_step (BL) hb); clear hb hbox hg; have hnb265 := NB224_216.out; have hnc265 := NB216_224.out; have hnb266 := NB224_217.out; have hnc266 := NB217_224.out; have hnb267 := NB224_218.out; have hnc267 := NB218_224.out; have hnb268 := NB224_222.out; have hnc268 := NB222_224.out; have hcz269_0 : w264.cell? ⟨gb224, 0, none⟩ = some (.slice none 0 0) := CZ BK224.out 0; have hfz269_0 := blk_frozen BK224.out 0; have hnb270 := NB217_216.out; have hnc270 := NB216_217.out; have hnb271 := NB217_218.out; have hnc271 := NB218_217.out; have hnb272 := NB217_222.out; have hnc272 := NB222_217.out; have hcz273_0 : w264.cell? ⟨gb217, 0, none⟩ = some (.int .i64 a1_0) := CZ BK217.out 0; have hcz273_1 : w264.cell? ⟨gb217, 1, none⟩ = some (.string a1_1) := CZ BK217.out 1; have hcz273_2 : w264.cell? ⟨gb217, 2, none⟩ = some (.string a1_2) := CZ BK217.out 2; have hcz273_3 : w264.cell? ⟨gb217, 3, none⟩ = some (.string a1_3) := CZ BK217.out 3; have hfz273_0 := blk_frozen BK217.out 0; have hfz273_1 := blk_frozen BK217.out 1; have hfz273_2 := blk_frozen BK217.out 2; have hfz273_3 := blk_frozen BK217.out 3; have hnb274 := NB216_218.out; have hnc274 := NB218_216.out; have hnb275 := NB216_222.out; have hnc275 := NB222_216.out; have hcz276_0 : w264.cell? ⟨gb216, 0, none⟩ = some (.slice A0_0 l0_0.length c0_0) := CZ BK216.out 0; have hfz276_0 := blk_frozen BK216.out 0) | ((with_reducible refine gate_callee (f := 67) rfl ?_); refine goesL_ (some 47) rfl rfl Try.func67 (by kernel_rfl) rfl #[.agg #[.slice A0_0 l0_0.length c0_0], .string a1_1] rfl (MA) ?_; (with_reducible refine (impl_withoutFile.calls _ _ l0_0 a1_1 t240 _ ?side1 ?side2 A241.out).mono ?_); (case side1 => exact Kd.C_below HR0_0.out (BL)); (case side2 => exact HC0_0.out); rintro e w277 ⟨v241, rfl, ho0, hb⟩; refine ⟨_, rfl, ?_⟩; have HO242 := Aside0.mk (Kd.R_lower (Kd.R_newB ho0 (g := gb222) (o := .cells #[.string x223000_48, .string x223001_48, .int .i64 x223002_48] 45 (0, 0)) (BP BK222.out)) (below_size (BL))); replace BK216 := BX BK216.out hb; replace BK217 := BX BK217.out hb; replace BK218 := BX BK218.out hb; replace BK222 := BX BK222.out hb; replace BK224 := Aside0.mk (blk_below (g := gb224) (o := .cells #[.slice none 0 0] 29 (0, 0)) (BU BK224.out) hb); replace HB := Aside0.mk (below_step (BL) hb); (try clear hb); (try clear hb2); (try clear hk); (try clear hi); (try clear ho0); obtain ⟨Ao278, co278, eo278⟩ := Kd.R_slice HO242.out; subst eo278; have hcz279_0 : w277.cell? ⟨gb224, 0, none⟩ = some (.slice none 0 0) := CZ BK224.out 0; have hfz279_0 := blk_frozen BK224.out 0) | ((with_reducible refine gate_callee (f := 15) rfl ?_); refine goesL_ (some 94) rfl rfl Try.func15 (by kernel_rfl) rfl #[.agg #[.slice Ao278 t240.length co278]] rfl (MA) ?_; (with_reducible refine (impl_DiskOk.calls kj48 _ _ t240 false _ ?side1 ?side2 A242.out).mono ?_); (case side1 => refine (Kd.R_reads' (e := 45) (base := w.heap.size) (ok := fun k_ => (True ∧ k_ ≠ gb222)) (n := t240.length) (c := co278) ?_).2.2; exact (RF HO242.out BK224.out)); (case side2 => exact (Kd.R_reads' HO242.out).2.1); rintro e w280 ⟨rfl, hb⟩; refine ⟨_, rfl, ?_⟩; replace HO242 := Aside0.mk (Kd.R_below (RF HO242.out BK224.out) hb); replace BK216 := BX BK216.out hb; replace BK217 := BX BK217.out hb; replace BK218 := BX BK218.out hb; replace BK222 := BX BK222.out hb; replace BK224 := Aside0.mk (blk_below (g := gb224) (o := .cells #[.slice Ao278 t240.length co278] 29 (0, 0)) (BU BK224.out) hb); replace HB := Aside0.mk (below_step (BL) hb); (try clear hb); (try clear hb2); (try clear hk); (try clear hi); have hnb281 := NB218_222.out; have hnc281 := NB222_218.out; have hcz282_0 : w280.cell? ⟨gb218, 0, none⟩ = some (.slice none 0 0) := CZ BK218.out 0; have hfz282_0 := blk_frozen BK218.out 0))
      refine bodyPost_ret (results_ct rfl _ _ gb218 29 #[.slice none 0 0] (0, 0) _ rfl (BU BK218.out) Try.underlying29 rfl (by kernel_rfl)) rfl ?_; exact ⟨_, EE, by first | exact Kd.R_nil _ _ _ _ _ | exact Kd.N_nil _ _ _ _ _ | exact Kd.V_nil _ _ _ _ _ | exact Kd.Q_nil _ _ _ _ _ | exact Kd.S_nil _ _ _ _ _, BL⟩
     rw [if_pos c159] at H; have c159b0 : (a1_0 == 3) = true := beq_iff_eq.mpr c159; have c159b1 : (a1_0 != 3) = false := bne_eq_false_iff_eq.mpr c159; clear c159; have HC160 := Aside0.mk H; clear H
     go_upto_region 17 with (first | ((with_reducible refine gate_dst (N := 8) rfl ?_); refine bE 8 #[.slice none 0 0] 29 ?_; intro gb224 hg w161 hbox hb; have BK224 := Aside0.mk (hbox); have GW224 : Aside0 (w.heap.size ≤ gb224) := GS; have GE224 := GW224; have NB216_224 := NL BK216.out hg; have NB224_216 := NG BK216.out hg; have NB217_224 := NL BK217.out hg; have NB224_217 := NG BK217.out hg; have NB218_224 := NL BK218.out hg; have NB224_218 := NG BK218.out hg; have NB222_224 := NL BK222.out hg; have NB224_222 := NG BK222.out hg; replace BK216 := BB BK216.out hb; replace BK217 := BB BK217.out hb; replace BK218 := BB BK218.out hb; replace BK222 := BB BK222.out hb; replace HB := Aside0.mk (below_step (BL) hb); clear hb hbox hg; have hnb162 := NB224_216.out; have hnc162 := NB216_224.out; have hnb163 := NB224_217.out; have hnc163 := NB217_224.out; have hnb164 := NB224_218.out; have hnc164 := NB218_224.out; have hnb165 := NB224_222.out; have hnc165 := NB222_224.out; have hcz166_0 : w161.cell? ⟨gb224, 0, none⟩ = some (.slice none 0 0) := CZ BK224.out 0; have hfz166_0 := blk_frozen BK224.out 0; have hnb167 := NB217_216.out; have hnc167 := NB216_217.out; have hnb168 := NB217_218.out; have hnc168 := NB218_217.out; have hnb169 := NB217_222.out; have hnc169 := NB222_217.out; have hcz170_0 : w161.cell? ⟨gb217, 0, none⟩ = some (.int .i64 a1_0) := CZ BK217.out 0; have hcz170_1 : w161.cell? ⟨gb217, 1, none⟩ = some (.string a1_1) := CZ BK217.out 1; have hcz170_2 : w161.cell? ⟨gb217, 2, none⟩ = some (.string a1_2) := CZ BK217.out 2; have hcz170_3 : w161.cell? ⟨gb217, 3, none⟩ = some (.string a1_3) := CZ BK217.out 3; have hfz170_0 := blk_frozen BK217.out 0; have hfz170_1 := blk_frozen BK217.out 1; have hfz170_2 := blk_frozen BK217.out 2; have hfz170_3 := blk_frozen BK217.out 3))
     (try simp only [Act.put, zA, zB, zC])
     go_cut [82] (fun v82 wc => ∃ (kq : Nat) (x82_159 : Bool), v82 = .bool x82_159 ∧ Aside0 (impl_DoAct.j2 kq x82_159 l0_0 a1_0 a1_1 a1_2 a1_3 x223000_48 x223001_48 x223002_48 = some (r1, r2)) ∧ Aside0 (kq ≤ kj48) ∧ Aside0 (wc.heap[gb216]? = some (.cells #[(.slice A0_0 l0_0.length c0_0)] 29 (0, 0))) ∧ Aside0 (wc.heap[gb217]? = some (.cells #[.int .i64 a1_0, .string a1_1, .string a1_2, .string a1_3] 55 (0, 0))) ∧ Aside0 (wc.heap[gb218]? = some (.cells #[(.slice none 0 0)] 29 (0, 0))) ∧ Aside0 (wc.heap[gb222]? = some (.cells #[.string x223000_48, .string x223001_48, .int .i64 x223002_48] 45 (0, 0))) ∧ Aside0 (wc.heap[gb224]? = some (.cells #[(.slice none 0 0)] 29 (0, 0))) ∧ Aside0 (Below w.heap.size w wc))
     case first =>
      have H := HC160.out; clear HC160
      by_cases c171 : x223002_48 = (x223001_48.size : Int); rotate_left
      ·
       rw [if_neg c171] at H; have c171b0 : (x223002_48 == (x223001_48.size : Int)) = false := beq_eq_false_iff_ne.mpr c171; have c171b1 : (x223002_48 != (x223001_48.size : Int)) = true := bne_iff_ne.mpr c171
       (first | rw [c171b0] | (simp only [i64_w, i32_w]; rw [c171b0]) | skip)
       have H' := Aside0.mk H; clear H; have hnb181 := NB222_216.out; have hnc181 := NB216_222.out; have hnb182 := NB222_217.out; have hnc182 := NB217_222.out; have hnb183 := NB222_218.out; have hnc183 := NB218_222.out; have hnb184 := NB222_224.out; have hnc184 := NB224_222.out; have hcz185_0 : w161.cell? ⟨gb222, 0, none⟩ = some (.string x223000_48) := CZ BK222.out 0; have hcz185_1 : w161.cell? ⟨gb222, 1, none⟩ = some (.string x223001_48) := CZ BK222.out 1; have hcz185_2 : w161.cell? ⟨gb222, 2, none⟩ = some (.int .i64 x223002_48) := CZ BK222.out 2; have hfz185_0 := blk_frozen BK222.out 0; have hfz185_1 := blk_frozen BK222.out 1; have hfz185_2 := blk_frozen BK222.out 2
       go_wp2
       go_meet
       case rel => exact ⟨_, (true), SD, H', ⟨by have := HJ3.out; have := HJ48.out; first | omega | exact Nat.le_refl _⟩, ⟨BP BK216.out⟩, ⟨BP BK217.out⟩, ⟨BP BK218.out⟩, ⟨BP BK222.out⟩, ⟨BU BK224.out⟩, ⟨BL⟩⟩
      rw [if_pos c171] at H; have c171b0 : (x223002_48 == (x223001_48.size : Int)) = true := beq_iff_eq.mpr c171; have c171b1 : (x223002_48 != (x223001_48.size : Int)) = false := bne_eq_false_iff_eq.mpr c171; clear c171
      (first | rw [c171b0] | (simp only [i64_w, i32_w]; rw [c171b0]) | skip)
      have H' := Aside0.mk H; clear H; have hnb172 := NB222_216.out; have hnc172 := NB216_222.out; have hnb173 := NB222_217.out; have hnc173 := NB217_222.out; have hnb174 := NB222_218.out; have hnc174 := NB218_222.out; have hnb175 := NB222_224.out; have hnc175 := NB224_222.out; have hcz176_0 : w161.cell? ⟨gb222, 0, none⟩ = some (.string x223000_48) := CZ BK222.out 0; have hcz176_1 : w161.cell? ⟨gb222, 1, none⟩ = some (.string x223001_48) := CZ BK222.out 1; have hcz176_2 : w161.cell? ⟨gb222, 2, none⟩ = some (.int .i64 x223002_48) := CZ BK222.out 2; have hfz176_0 := blk_frozen BK222.out 0; have hfz176_1 := blk_frozen BK222.out 1; have hfz176_2 := blk_frozen BK222.out 2; have hnb177 := NB217_216.out; have hnc177 := NB216_217.out; have hnb178 := NB217_218.out; have hnc178 := NB218_217.out; have hnb179 := NB217_224.out; have hnc179 := NB224_217.out; have hcz180_0 : w161.cell? ⟨gb217, 0, none⟩ = some (.int .i64 a1_0) := CZ BK217.out 0; have hcz180_1 : w161.cell? ⟨gb217, 1, none⟩ = some (.string a1_1) := CZ BK217.out 1; have hcz180_2 : w161.cell? ⟨gb217, 2, none⟩ = some (.string a1_2) := CZ BK217.out 2; have hcz180_3 : w161.cell? ⟨gb217, 3, none⟩ = some (.string a1_3) := CZ BK217.out 3; have hfz180_0 := blk_frozen BK217.out 0; have hfz180_1 := blk_frozen BK217.out 1; have hfz180_2 := blk_frozen BK217.out 2; have hfz180_3 := blk_frozen BK217.out 3
      go_wp2
      go_meet
      case rel => exact ⟨_, ((a1_3.toList == a1_1.toList)), SD, H', ⟨by have := HJ3.out; have := HJ48.out; first | omega | exact Nat.le_refl _⟩, ⟨BP BK216.out⟩, ⟨BP BK217.out⟩, ⟨BP BK218.out⟩, ⟨BP BK222.out⟩, ⟨BU BK224.out⟩, ⟨BL⟩⟩
     case rest =>
      clear HC160
      try clear c1 c2 p2 q2 hx2 c3 c4 c5 c6 c7 c8 c9 c10 c11 c12 c13 c14 c15 c16 c17 c18 c18b0 c19 c20 p22 q22 hx22 c23 c27 c28 c31 c34 c35 c37 c38 c41 c42 c45 c46 c47 c50 c51 c54 c55 c56 c58 c58b0 c59 c59b0 c60 c60b0 c61 c62 c63 c65 c66 c68 c68b0 c68b1 c69 c69b0 c69b1 c69b2 c72 c74 c75 c76 c77 c79 c80 c81 c83 c84 c86 c95 c96 c97 c98 c100 c101 c102 c104 c105 c107 c114 c114b0 c114b1 c117 c119 c120 c121 c122 c124 c125 c126 c128 c129 c131 c140 c141 c142 c143 c145 c146 c147 c149 c150 c152 c159 c159b0 c159b1 c162 c163 c164 c165 c167 c168 c169 c171 c171b0 c171b1 c172 c173 c174 c175 c177 c178 c179 c181 c182 c183 c184 hcz103_0 hcz103_1 hcz103_2 hcz103_3 hcz106_0 hcz106_1 hcz106_2 hcz108_0 hcz10_0 hcz111_0 hcz113_0 hcz123_0 hcz127_0 hcz127_1 hcz127_2 hcz127_3 hcz12_0 hcz12_1 hcz12_2 hcz12_3 hcz130_0 hcz130_1 hcz130_2 hcz132_0 hcz135_0 hcz137_0 hcz138_0 hcz144_0 hcz148_0 hcz148_1 hcz148_2 hcz148_3 hcz151_0 hcz151_1 hcz151_2 hcz153_0 hcz156_0 hcz158_0 hcz166_0 hcz170_0 hcz170_1 hcz170_2 hcz170_3 hcz176_0 hcz176_1 hcz176_2 hcz180_0 hcz180_1 hcz180_2 hcz180_3 hcz185_0 hcz185_1 hcz185_2 hcz21_0 hcz24_0 hcz24_1 hcz24_2 hcz24_3 hcz26_0 hcz26_1 hcz26_2 hcz26_3 hcz29_0 hcz32_0 hcz32_1 hcz32_2 hcz32_3 hcz36_0 hcz39_0 hcz39_1 hcz39_2 hcz39_3 hcz43_0 hcz48_0 hcz52_0 hcz52_1 hcz52_2 hcz52_3 hcz57_0 hcz57_1 hcz57_2 hcz64_0 hcz67_0 hcz67_1 hcz67_2 hcz78_0 hcz82_0 hcz82_1 hcz82_2 hcz82_3 hcz85_0 hcz85_1 hcz85_2 hcz87_0 hcz90_0 hcz92_0 hcz93_0 hcz99_0 hfz103_0 hfz103_1 hfz103_2 hfz103_3 hfz106_0 hfz106_1 hfz106_2 hfz108_0 hfz10_0 hfz111_0 hfz113_0 hfz123_0 hfz127_0 hfz127_1 hfz127_2 hfz127_3 hfz12_0 hfz12_1 hfz12_2 hfz12_3 hfz130_0 hfz130_1 hfz130_2 hfz132_0 hfz135_0 hfz137_0 hfz138_0 hfz144_0 hfz148_0 hfz148_1 hfz148_2 hfz148_3 hfz151_0 hfz151_1 hfz151_2 hfz153_0 hfz156_0 hfz158_0 hfz166_0 hfz170_0 hfz170_1 hfz170_2 hfz170_3 hfz176_0 hfz176_1 hfz176_2 hfz180_0 hfz180_1 hfz180_2 hfz180_3 hfz185_0 hfz185_1 hfz185_2 hfz21_0 hfz24_0 hfz24_1 hfz24_2 hfz24_3 hfz26_0 hfz26_1 hfz26_2 hfz26_3 hfz29_0 hfz32_0 hfz32_1 hfz32_2 hfz32_3 hfz36_0 hfz39_0 hfz39_1 hfz39_2 hfz39_3 hfz43_0 hfz48_0 hfz52_0 hfz52_1 hfz52_2 hfz52_3 hfz57_0 hfz57_1 hfz57_2 hfz64_0 hfz67_0 hfz67_1 hfz67_2 hfz78_0 hfz82_0 hfz82_1 hfz82_2 hfz82_3 hfz85_0 hfz85_1 hfz85_2 hfz87_0 hfz90_0 hfz92_0 hfz93_0 hfz99_0 hx223_0 hx223_1 hx223_2 p2 p22 p223 q2 q22 q223
      obtain ⟨kq, x82_159, rfl, HA, HJ159, BK216, BK217, BK218, BK222, BK224, HB⟩ := hcut; cases kq with
      | zero => exact absurd HA.out (by simp [impl_DoAct.j2])
      | succ kj159 =>
       have H := HA.out; clear HA; simp only [impl_DoAct.j2] at H
       by_cases c186 : x82_159 = true
       ·
        subst c186
        have H1 : (some (([] : List (S45)), false)) = some (r1, r2) := by rw [if_pos rfl] at H; exact H
        clear H; have H := H1; clear H1; simp only [Option.some.injEq, Prod.mk.injEq] at H; obtain ⟨rfl, rfl⟩ := H; have hnb187 := NB218_216.out; have hnc187 := NB216_218.out; have hnb188 := NB218_217.out; have hnc188 := NB217_218.out; have hnb189 := NB218_222.out; have hnc189 := NB222_218.out; have hnb190 := NB218_224.out; have hnc190 := NB224_218.out; have hcz191_0 : wc.cell? ⟨gb218, 0, none⟩ = some (.slice none 0 0) := CZ BK218.out 0; have hfz191_0 := blk_frozen BK218.out 0
        go_wp2
        refine bodyPost_ret (results_ct rfl _ _ gb218 29 #[.slice none 0 0] (0, 0) _ rfl (BU BK218.out) Try.underlying29 rfl (by kernel_rfl)) rfl ?_; exact ⟨_, EE, by first | exact Kd.R_nil _ _ _ _ _ | exact Kd.N_nil _ _ _ _ _ | exact Kd.V_nil _ _ _ _ _ | exact Kd.Q_nil _ _ _ _ _ | exact Kd.S_nil _ _ _ _ _, BL⟩
       replace c186 := Bool.eq_false_iff.mpr c186; subst c186
       have H1 : ((impl_withoutFile.f l0_0 a1_1).bind fun t233 => ((impl_withFile.f t233 a1_3 x223001_48 x223002_48).bind fun t236 => ((impl_DiskOk.f kj159 t236).bind fun t239 => (if t239 = true then (some (t236, true)) else (some (([] : List (S45)), false)))))) = some (r1, r2) := by rw [if_neg (show ¬ (false = true) by decide)] at H; exact H
       clear H; have H := H1; clear H1; replace H := Option.bind_eq_some_iff.mp H; obtain ⟨t233, A1920, H⟩ := H; have A192 := Aside0.mk A1920; clear A1920; replace H := Option.bind_eq_some_iff.mp H; obtain ⟨t236, A1930, H⟩ := H; have A193 := Aside0.mk A1930; clear A1930; replace H := Option.bind_eq_some_iff.mp H; obtain ⟨t239, A1940, H⟩ := H; have A194 := Aside0.mk A1940; clear A1940
       by_cases c195 : t239 = true
       ·
        subst c195
        have H1 : (some (t236, true)) = some (r1, r2) := by rw [if_pos rfl] at H; exact H
        clear H; have H := H1; clear H1; simp only [Option.some.injEq, Prod.mk.injEq] at H; obtain ⟨rfl, rfl⟩ := H; have hnb196 := NB217_216.out; have hnc196 := NB216_217.out; have hnb197 := NB217_218.out; have hnc197 := NB218_217.out; have hnb198 := NB217_222.out; have hnc198 := NB222_217.out; have hnb199 := NB217_224.out; have hnc199 := NB224_217.out; have hcz200_0 : wc.cell? ⟨gb217, 0, none⟩ = some (.int .i64 a1_0) := CZ BK217.out 0; have hcz200_1 : wc.cell? ⟨gb217, 1, none⟩ = some (.string a1_1) := CZ BK217.out 1; have hcz200_2 : wc.cell? ⟨gb217, 2, none⟩ = some (.string a1_2) := CZ BK217.out 2; have hcz200_3 : wc.cell? ⟨gb217, 3, none⟩ = some (.string a1_3) := CZ BK217.out 3; have hfz200_0 := blk_frozen BK217.out 0; have hfz200_1 := blk_frozen BK217.out 1; have hfz200_2 := blk_frozen BK217.out 2; have hfz200_3 := blk_frozen BK217.out 3; have hnb201 := NB222_216.out; have hnc201 := NB216_222.out; have hnb202 := NB222_218.out; have hnc202 := NB218_222.out; have hnb203 := NB222_224.out; have hnc203 := NB224_222.out; have hcz204_0 : wc.cell? ⟨gb222, 0, none⟩ = some (.string x223000_48) := CZ BK222.out 0; have hcz204_1 : wc.cell? ⟨gb222, 1, none⟩ = some (.string x223001_48) := CZ BK222.out 1; have hcz204_2 : wc.cell? ⟨gb222, 2, none⟩ = some (.int .i64 x223002_48) := CZ BK222.out 2; have hfz204_0 := blk_frozen BK222.out 0; have hfz204_1 := blk_frozen BK222.out 1; have hfz204_2 := blk_frozen BK222.out 2
        try go_wp2
        have n0_ : Aside0 ((wc.setCell ⟨gb222, 0, none⟩ (.string a1_3)).heap[gb216]? = some (.cells #[.slice A0_0 l0_0.length c0_0] 29 (0, 0))) := ⟨BP BK216.out⟩; have n1_ : Aside0 ((wc.setCell ⟨gb222, 0, none⟩ (.string a1_3)).heap[gb217]? = some (.cells #[.int .i64 a1_0, .string a1_1, .string a1_2, .string a1_3] 55 (0, 0))) := ⟨BP BK217.out⟩; have n2_ : Aside0 ((wc.setCell ⟨gb222, 0, none⟩ (.string a1_3)).heap[gb218]? = some (.cells #[.slice none 0 0] 29 (0, 0))) := ⟨BP BK218.out⟩; have n3_ : Aside0 ((wc.setCell ⟨gb222, 0, none⟩ (.string a1_3)).heap[gb222]? = some (.cells #[.string a1_3, .string x223001_48, .int .i64 x223002_48] 45 (0, 0))) := ⟨BU BK222.out⟩; have n4_ : Aside0 ((wc.setCell ⟨gb222, 0, none⟩ (.string a1_3)).heap[gb224]? = some (.cells #[.slice none 0 0] 29 (0, 0))) := ⟨BP BK224.out⟩; have n5_ : Aside0 (Below w.heap.size w (wc.setCell ⟨gb222, 0, none⟩ (.string a1_3))) := ⟨BL⟩
        (try clear BK216)
        (try clear BK217)
        (try clear BK218)
        (try clear BK222)
        (try clear BK224)
        (try clear HB)
        generalize (wc.setCell ⟨gb222, 0, none⟩ (.string a1_3)) = w205 at n0_ n1_ n2_ n3_ n4_ n5_ ⊢; have BK216 := n0_; have BK217 := n1_; have BK218 := n2_; have BK222 := n3_; have BK224 := n4_; have HB := n5_; clear n0_ n1_ n2_ n3_ n4_ n5_; have n0_ := Aside0.mk (blk_drew BK216.out); have n1_ := Aside0.mk (blk_drew BK217.out); have n2_ := Aside0.mk (blk_drew BK218.out); have n3_ := Aside0.mk (blk_drew BK222.out); have n4_ := Aside0.mk (blk_drew BK224.out); have n5_ := Aside0.mk (below_drew1 HB.out); clear BK216; clear BK217; clear BK218; clear BK222; clear BK224; clear HB; have BK216 := n0_; have BK217 := n1_; have BK218 := n2_; have BK222 := n3_; have BK224 := n4_; have HB := n5_; clear n0_ n1_ n2_ n3_ n4_ n5_; refine start_ (n := 7) (S := fun w' => w'.cell? ⟨gb216, 0, none⟩ = some (.slice A0_0 l0_0.length c0_0) ∧ w'.cell? ⟨gb217, 0, none⟩ = some (.int .i64 a1_0) ∧ w'.cell? ⟨gb217, 1, none⟩ = some (.string a1_1) ∧ w'.cell? ⟨gb217, 2, none⟩ = some (.string a1_2) ∧ w'.cell? ⟨gb217, 3, none⟩ = some (.string a1_3) ∧ w'.cell? ⟨gb222, 0, none⟩ = some (.string a1_3) ∧ w'.cell? ⟨gb222, 1, none⟩ = some (.string x223001_48) ∧ w'.cell? ⟨gb222, 2, none⟩ = some (.int .i64 x223002_48)) (ds := []) #[false, false, false, false, false, false, false] (by kernel_rfl) rfl rfl ⟨CZ BK216.out 0, CZ BK217.out 0, CZ BK217.out 1, CZ BK217.out 2, CZ BK217.out 3, CZ BK222.out 0, CZ BK222.out 1, CZ BK222.out 2⟩ (fun hHeld => ?_); generalize w205.drew = w206 at BK216 BK217 BK218 BK222 BK224 HB hHeld ⊢; refine pure_ (i := 1) (N := some 88) (v := ?_) (a' := ?_) (OB 7 2) rfl rfl (by kernel_rfl) (fun _ _ _ h => h) (Or.inl ⟨by rfl, ?_⟩) ?_ ?_; rotate_left
        ·
         intro w'
         go_simp
         with_reducible rfl
        rotate_left
        ·
         simp only [Act.put, zA, zB, zC, i64_w, i32_w]; rfl
        refine take_ (i := 0) (N := some 87) (v := ?_) (a' := ?_) (OB 7 3) rfl rfl (by kernel_rfl) (fun _ _ _ h => h) (Or.inl ⟨by rfl, ?_⟩) hHeld ?_ ?_; rotate_left
        ·
         rintro w' ⟨s0, s1, s2, s3, s4, s5, s6, s7⟩
         go_simp
         with_reducible rfl
        rotate_left
        ·
         simp only [Act.put, zA, zB, zC, i64_w, i32_w]; rfl
        refine take_ (i := 2) (N := some 89) (v := ?_) (a' := ?_) (OB 7 7) rfl rfl (by kernel_rfl) (fun _ _ _ h => h) (Or.inl ⟨by rfl, ?_⟩) hHeld ?_ ?_; rotate_left
        ·
         rintro w' ⟨s0, s1, s2, s3, s4, s5, s6, s7⟩
         go_simp
         with_reducible rfl
        rotate_left
        ·
         simp only [Act.put, zA, zB, zC, i64_w, i32_w]; rfl
        refine take_ (i := 4) (N := some 91) (v := ?_) (a' := ?_) (OB 7 23) rfl rfl (by kernel_rfl) (fun _ _ _ h => h) (Or.inl ⟨by rfl, ?_⟩) hHeld ?_ ?_; rotate_left
        ·
         rintro w' ⟨s0, s1, s2, s3, s4, s5, s6, s7⟩
         go_simp
         with_reducible rfl
        rotate_left
        ·
         simp only [Act.put, zA, zB, zC, i64_w, i32_w]; rfl
        refine one_ (i := 3) (N := some 90) (OB 7 31) rfl rfl (by kernel_rfl) (by decide) (fun K hK => ?_); refine goes_ Try.func67 (by kernel_rfl) rfl #[.agg #[.slice A0_0 l0_0.length c0_0], .string a1_1] (by rfl) rfl rfl (MA) ?_
        with_reducible refine (impl_withoutFile.calls _ _ l0_0 a1_1 t233 _ ?side1 ?side2 A192.out).mono ?_
        (case side1 => exact CB HR0_0.out)
        (case side2 => exact HC0_0.out)
        rintro e w207 ⟨v234, rfl, ho0, hb⟩; refine ⟨_, rfl, ?_⟩; have n0_ := Aside0.mk (Kd.R_lower (Kd.R_newB ho0 (g := gb222) (o := .cells #[.string a1_3, .string x223001_48, .int .i64 x223002_48] 45 (0, 0)) (BQ BK222.out)) (below_size (BL))); have n1_ := BB BK216.out hb; have n2_ := BB BK217.out hb; have n3_ := BB BK218.out hb; have n4_ := BB BK222.out hb; have n5_ := BB BK224.out hb; have n6_ := Aside0.mk (below_step (BL) hb); clear BK216; clear BK217; clear BK218; clear BK222; clear BK224; clear HB; have HO235 := n0_; have BK216 := n1_; have BK217 := n2_; have BK218 := n3_; have BK222 := n4_; have BK224 := n5_; have HB := n6_; clear n0_ n1_ n2_ n3_ n4_ n5_ n6_
        (try clear hb)
        (try clear hb2)
        (try clear hk)
        (try clear hi)
        (try clear ho0)
        obtain ⟨Ao208, co208, eo208⟩ := Kd.R_slice HO235.out
        (first | subst eo208 | (injection eo208 with f1_ f2_ f3_; have f4_ := f1_.symm; have f5_ := f3_.symm; clear f1_ f2_ f3_; subst f4_; subst f5_))
        refine hK.out _ _ ⟨CZ BK216.out 0, CZ BK217.out 0, CZ BK217.out 1, CZ BK217.out 2, CZ BK217.out 3, CZ BK222.out 0, CZ BK222.out 1, CZ BK222.out 2⟩ (fun hHeld => ?_); clear hK K; refine norm_ (a' := ?_) ?_ ?_; rotate_left
        ·
         show Act.put _ (some 90) _ = _; simp only [Act.put, zA, zB, zC, i64_w, i32_w]; rfl
        refine one_ (i := 5) (N := some 92) (OB 7 63) rfl rfl (by kernel_rfl) (by decide) (fun K hK => ?_); refine goes_ Try.func66 (by kernel_rfl) rfl #[.agg #[.slice Ao208 t233.length co208], .agg #[.string a1_3, .string x223001_48, .int .i64 x223002_48]] (by rfl) rfl rfl (MA) ?_
        with_reducible refine (impl_withFile.calls _ _ t233 a1_3 x223001_48 x223002_48 t236 _ ?side1 ?side2 A193.out).mono ?_
        (case side1 => repeat (first | exact (Kd.R_reads' HO235.out).2.2 | (with_reducible refine Kd.C_alloc ?_ _) | (with_reducible refine Kd.C_drewN ?_ _) | (with_reducible refine Kd.C_drew ?_)))
        (case side2 => exact (Kd.R_reads' HO235.out).2.1)
        rintro e w209 ⟨v237, rfl, ho0, hb⟩; refine ⟨_, rfl, ?_⟩; have n0_ := Aside0.mk (Kd.R_elder' (RQ HO235.out) (Kd.R_base ho0) hb); have n1_ := Aside0.mk (Kd.R_lower (Kd.R_newB (Kd.R_new' ho0 (Kd.R_lt (RQ HO235.out))) (g := gb222) (o := .cells #[.string a1_3, .string x223001_48, .int .i64 x223002_48] 45 (0, 0)) (BQ BK222.out)) (below_size (BL))); have n2_ := BB BK216.out hb; have n3_ := BB BK217.out hb; have n4_ := BB BK218.out hb; have n5_ := BB BK222.out hb; have n6_ := BB BK224.out hb; have n7_ := Aside0.mk (below_step (BL) hb); clear HO235; clear BK216; clear BK217; clear BK218; clear BK222; clear BK224; clear HB; have HO235 := n0_; have HO238 := n1_; have BK216 := n2_; have BK217 := n3_; have BK218 := n4_; have BK222 := n5_; have BK224 := n6_; have HB := n7_; clear n0_ n1_ n2_ n3_ n4_ n5_ n6_ n7_
        (try clear hb)
        (try clear hb2)
        (try clear hk)
        (try clear hi)
        (try clear ho0)
        obtain ⟨Ao210, co210, eo210⟩ := Kd.R_slice HO238.out
        (first | subst eo210 | (injection eo210 with f1_ f2_ f3_; have f4_ := f1_.symm; have f5_ := f3_.symm; clear f1_ f2_ f3_; subst f4_; subst f5_))
        refine hK.out _ _ ⟨CZ BK216.out 0, CZ BK217.out 0, CZ BK217.out 1, CZ BK217.out 2, CZ BK217.out 3, CZ BK222.out 0, CZ BK222.out 1, CZ BK222.out 2⟩ (fun hHeld => ?_); clear hK K; refine norm_ (a' := ?_) ?_ ?_; rotate_left
        ·
         show Act.put _ (some 92) _ = _; simp only [Act.put, zA, zB, zC, i64_w, i32_w]; rfl
        refine one_ (i := 6) (N := none) (OB 7 127) rfl rfl (by kernel_rfl) (by decide) (fun K hK => ?_); have hs211 : w209.cell? ⟨gb224, 0, none⟩ = some (.slice none 0 0) := CZ BK224.out 0; have hfs211 := blk_frozen BK224.out 0; have hns211_0 := NB216_224.out; have hns211_1 := NB217_224.out; have hns211_2 := NB218_224.out; have hns211_3 := NB222_224.out; have hms211_0 := NB224_216.out; have hms211_1 := NB224_217.out; have hms211_2 := NB224_218.out; have hms211_3 := NB224_222.out; refine skip_ (w1 := ?_) (by rfl) rfl ?_ ?_; rotate_left
        ·
         go_simp
         rfl
        refine hK.out _ _ ⟨((cell_far (p := ⟨gb224, _, none⟩) NB216_224.out _).trans (hHeld.1)), ((cell_far (p := ⟨gb224, _, none⟩) NB217_224.out _).trans (hHeld.2.1)), ((cell_far (p := ⟨gb224, _, none⟩) NB217_224.out _).trans (hHeld.2.2.1)), ((cell_far (p := ⟨gb224, _, none⟩) NB217_224.out _).trans (hHeld.2.2.2.1)), ((cell_far (p := ⟨gb224, _, none⟩) NB217_224.out _).trans (hHeld.2.2.2.2.1)), ((cell_far (p := ⟨gb224, _, none⟩) NB222_224.out _).trans (hHeld.2.2.2.2.2.1)), ((cell_far (p := ⟨gb224, _, none⟩) NB222_224.out _).trans (hHeld.2.2.2.2.2.2.1)), ((cell_far (p := ⟨gb224, _, none⟩) NB222_224.out _).trans (hHeld.2.2.2.2.2.2.2))⟩ (fun hHeld => ?_); clear hK K; refine done_ (by kernel_rfl) ?_; have hnb212 := NB224_216.out; have hnc212 := NB216_224.out; have hnb213 := NB224_218.out; have hnc213 := NB218_224.out; have hcz214_0 : w209.cell? ⟨gb224, 0, none⟩ = some (.slice none 0 0) := CZ BK224.out 0; have hfz214_0 := blk_frozen BK224.out 0
        try go_wp2_with (first | ((with_reducible refine gate_callee (f := 15) rfl ?_); refine goesL_ (some 94) rfl rfl Try.func15 (by kernel_rfl) rfl #[.agg #[.slice Ao210 t236.length co210]] rfl (MA) ?_; (with_reducible refine (impl_DiskOk.calls kj159 _ _ t236 true _ ?side1 ?side2 A194.out).mono ?_); (case side1 => refine (Kd.R_reads' (e := 45) (base := w.heap.size) (ok := fun k_ => ((True ∧ some k_ ≠ (.slice Ao208 t233.length co208 : Value).ownBlock) ∧ k_ ≠ gb222)) (n := t236.length) (c := co210) ?_).2.2; exact (RF HO238.out BK224.out)); (case side2 => exact (Kd.R_reads' HO238.out).2.1); rintro e w215 ⟨rfl, hb⟩; refine ⟨_, rfl, ?_⟩; replace HO235 := Aside0.mk (Kd.R_below (RF HO235.out BK224.out) hb); replace HO238 := Aside0.mk (Kd.R_below (RF HO238.out BK224.out) hb); replace BK216 := BX BK216.out hb; replace BK217 := BX BK217.out hb; replace BK218 := BX BK218.out hb; replace BK222 := BX BK222.out hb; replace BK224 := Aside0.mk (blk_below (g := gb224) (o := .cells #[.slice Ao210 t236.length co210] 29 (0, 0)) (BU BK224.out) hb); replace HB := Aside0.mk (below_step (BL) hb); (try clear hb); (try clear hb2); (try clear hk); (try clear hi); have hcz216_0 : w215.cell? ⟨gb224, 0, none⟩ = some (.slice Ao210 t236.length co210) := CZ BK224.out 0; have hfz216_0 := blk_frozen BK224.out 0; have hnb217 := NB218_216.out; have hnc217 := NB216_218.out; have hcz218_0 : w215.cell? ⟨gb218, 0, none⟩ = some (.slice none 0 0) := CZ BK218.out 0; have hfz218_0 := blk_frozen BK218.out 0))
        refine bodyPost_ret (results_ct rfl _ _ gb218 29 #[.slice Ao210 t236.length co210] (0, 0) _ rfl (BU BK218.out) Try.underlying29 rfl (by kernel_rfl)) rfl ?_; exact ⟨_, EE, by (with_reducible repeat (first | apply r1 | apply r2 | apply r3)); exact Kd.R_mono (Kd.R_far (p := ⟨gb218, 0, none⟩) (Kd.R_types HO238.out BK218.out (by decide)) (fun _ hk => hk.2) (.slice Ao210 t236.length co210)) (fun _ hk => trivial), BL⟩
       replace c195 := Bool.eq_false_iff.mpr c195; subst c195
       have H1 : (some (([] : List (S45)), false)) = some (r1, r2) := by rw [if_neg (show ¬ (false = true) by decide)] at H; exact H
       clear H; have H := H1; clear H1; simp only [Option.some.injEq, Prod.mk.injEq] at H; obtain ⟨rfl, rfl⟩ := H; have hnb219 := NB217_216.out; have hnc219 := NB216_217.out; have hnb220 := NB217_218.out; have hnc220 := NB218_217.out; have hnb221 := NB217_222.out; have hnc221 := NB222_217.out; have hnb222 := NB217_224.out; have hnc222 := NB224_217.out; have hcz223_0 : wc.cell? ⟨gb217, 0, none⟩ = some (.int .i64 a1_0) := CZ BK217.out 0; have hcz223_1 : wc.cell? ⟨gb217, 1, none⟩ = some (.string a1_1) := CZ BK217.out 1; have hcz223_2 : wc.cell? ⟨gb217, 2, none⟩ = some (.string a1_2) := CZ BK217.out 2; have hcz223_3 : wc.cell? ⟨gb217, 3, none⟩ = some (.string a1_3) := CZ BK217.out 3; have hfz223_0 := blk_frozen BK217.out 0; have hfz223_1 := blk_frozen BK217.out 1; have hfz223_2 := blk_frozen BK217.out 2; have hfz223_3 := blk_frozen BK217.out 3; have hnb224 := NB222_216.out; have hnc224 := NB216_222.out; have hnb225 := NB222_218.out; have hnc225 := NB218_222.out; have hnb226 := NB222_224.out; have hnc226 := NB224_222.out; have hcz227_0 : wc.cell? ⟨gb222, 0, none⟩ = some (.string x223000_48) := CZ BK222.out 0; have hcz227_1 : wc.cell? ⟨gb222, 1, none⟩ = some (.string x223001_48) := CZ BK222.out 1; have hcz227_2 : wc.cell? ⟨gb222, 2, none⟩ = some (.int .i64 x223002_48) := CZ BK222.out 2; have hfz227_0 := blk_frozen BK222.out 0; have hfz227_1 := blk_frozen BK222.out 1; have hfz227_2 := blk_frozen BK222.out 2
       try go_wp2
       have n0_ : Aside0 ((wc.setCell ⟨gb222, 0, none⟩ (.string a1_3)).heap[gb216]? = some (.cells #[.slice A0_0 l0_0.length c0_0] 29 (0, 0))) := ⟨BP BK216.out⟩; have n1_ : Aside0 ((wc.setCell ⟨gb222, 0, none⟩ (.string a1_3)).heap[gb217]? = some (.cells #[.int .i64 a1_0, .string a1_1, .string a1_2, .string a1_3] 55 (0, 0))) := ⟨BP BK217.out⟩; have n2_ : Aside0 ((wc.setCell ⟨gb222, 0, none⟩ (.string a1_3)).heap[gb218]? = some (.cells #[.slice none 0 0] 29 (0, 0))) := ⟨BP BK218.out⟩; have n3_ : Aside0 ((wc.setCell ⟨gb222, 0, none⟩ (.string a1_3)).heap[gb222]? = some (.cells #[.string a1_3, .string x223001_48, .int .i64 x223002_48] 45 (0, 0))) := ⟨BU BK222.out⟩; have n4_ : Aside0 ((wc.setCell ⟨gb222, 0, none⟩ (.string a1_3)).heap[gb224]? = some (.cells #[.slice none 0 0] 29 (0, 0))) := ⟨BP BK224.out⟩; have n5_ : Aside0 (Below w.heap.size w (wc.setCell ⟨gb222, 0, none⟩ (.string a1_3))) := ⟨BL⟩
       (try clear BK216)
       (try clear BK217)
       (try clear BK218)
       (try clear BK222)
       (try clear BK224)
       (try clear HB)
       generalize (wc.setCell ⟨gb222, 0, none⟩ (.string a1_3)) = w228 at n0_ n1_ n2_ n3_ n4_ n5_ ⊢; have BK216 := n0_; have BK217 := n1_; have BK218 := n2_; have BK222 := n3_; have BK224 := n4_; have HB := n5_; clear n0_ n1_ n2_ n3_ n4_ n5_; have n0_ := Aside0.mk (blk_drew BK216.out); have n1_ := Aside0.mk (blk_drew BK217.out); have n2_ := Aside0.mk (blk_drew BK218.out); have n3_ := Aside0.mk (blk_drew BK222.out); have n4_ := Aside0.mk (blk_drew BK224.out); have n5_ := Aside0.mk (below_drew1 HB.out); clear BK216; clear BK217; clear BK218; clear BK222; clear BK224; clear HB; have BK216 := n0_; have BK217 := n1_; have BK218 := n2_; have BK222 := n3_; have BK224 := n4_; have HB := n5_; clear n0_ n1_ n2_ n3_ n4_ n5_; refine start_ (n := 7) (S := fun w' => w'.cell? ⟨gb216, 0, none⟩ = some (.slice A0_0 l0_0.length c0_0) ∧ w'.cell? ⟨gb217, 0, none⟩ = some (.int .i64 a1_0) ∧ w'.cell? ⟨gb217, 1, none⟩ = some (.string a1_1) ∧ w'.cell? ⟨gb217, 2, none⟩ = some (.string a1_2) ∧ w'.cell? ⟨gb217, 3, none⟩ = some (.string a1_3) ∧ w'.cell? ⟨gb222, 0, none⟩ = some (.string a1_3) ∧ w'.cell? ⟨gb222, 1, none⟩ = some (.string x223001_48) ∧ w'.cell? ⟨gb222, 2, none⟩ = some (.int .i64 x223002_48)) (ds := []) #[false, false, false, false, false, false, false] (by kernel_rfl) rfl rfl ⟨CZ BK216.out 0, CZ BK217.out 0, CZ BK217.out 1, CZ BK217.out 2, CZ BK217.out 3, CZ BK222.out 0, CZ BK222.out 1, CZ BK222.out 2⟩ (fun hHeld => ?_); generalize w228.drew = w229 at BK216 BK217 BK218 BK222 BK224 HB hHeld ⊢; refine pure_ (i := 1) (N := some 88) (v := ?_) (a' := ?_) (OB 7 2) rfl rfl (by kernel_rfl) (fun _ _ _ h => h) (Or.inl ⟨by rfl, ?_⟩) ?_ ?_; rotate_left
       ·
        intro w'
        go_simp
        with_reducible rfl
       rotate_left
       ·
        simp only [Act.put, zA, zB, zC, i64_w, i32_w]; rfl
       refine take_ (i := 0) (N := some 87) (v := ?_) (a' := ?_) (OB 7 3) rfl rfl (by kernel_rfl) (fun _ _ _ h => h) (Or.inl ⟨by rfl, ?_⟩) hHeld ?_ ?_; rotate_left
       ·
        rintro w' ⟨s0, s1, s2, s3, s4, s5, s6, s7⟩
        go_simp
        with_reducible rfl
       rotate_left
       ·
        simp only [Act.put, zA, zB, zC, i64_w, i32_w]; rfl
       refine take_ (i := 2) (N := some 89) (v := ?_) (a' := ?_) (OB 7 7) rfl rfl (by kernel_rfl) (fun _ _ _ h => h) (Or.inl ⟨by rfl, ?_⟩) hHeld ?_ ?_; rotate_left
       ·
        rintro w' ⟨s0, s1, s2, s3, s4, s5, s6, s7⟩
        go_simp
        with_reducible rfl
       rotate_left
       ·
        simp only [Act.put, zA, zB, zC, i64_w, i32_w]; rfl
       refine take_ (i := 4) (N := some 91) (v := ?_) (a' := ?_) (OB 7 23) rfl rfl (by kernel_rfl) (fun _ _ _ h => h) (Or.inl ⟨by rfl, ?_⟩) hHeld ?_ ?_; rotate_left
       ·
        rintro w' ⟨s0, s1, s2, s3, s4, s5, s6, s7⟩
        go_simp
        with_reducible rfl
       rotate_left
       ·
        simp only [Act.put, zA, zB, zC, i64_w, i32_w]; rfl
       refine one_ (i := 3) (N := some 90) (OB 7 31) rfl rfl (by kernel_rfl) (by decide) (fun K hK => ?_); refine goes_ Try.func67 (by kernel_rfl) rfl #[.agg #[.slice A0_0 l0_0.length c0_0], .string a1_1] (by rfl) rfl rfl (MA) ?_
       with_reducible refine (impl_withoutFile.calls _ _ l0_0 a1_1 t233 _ ?side1 ?side2 A192.out).mono ?_
       (case side1 => exact CB HR0_0.out)
       (case side2 => exact HC0_0.out)
       rintro e w230 ⟨v234, rfl, ho0, hb⟩; refine ⟨_, rfl, ?_⟩; have n0_ := Aside0.mk (Kd.R_lower (Kd.R_newB ho0 (g := gb222) (o := .cells #[.string a1_3, .string x223001_48, .int .i64 x223002_48] 45 (0, 0)) (BQ BK222.out)) (below_size (BL))); have n1_ := BB BK216.out hb; have n2_ := BB BK217.out hb; have n3_ := BB BK218.out hb; have n4_ := BB BK222.out hb; have n5_ := BB BK224.out hb; have n6_ := Aside0.mk (below_step (BL) hb); clear BK216; clear BK217; clear BK218; clear BK222; clear BK224; clear HB; have HO235 := n0_; have BK216 := n1_; have BK217 := n2_; have BK218 := n3_; have BK222 := n4_; have BK224 := n5_; have HB := n6_; clear n0_ n1_ n2_ n3_ n4_ n5_ n6_
       (try clear hb)
       (try clear hb2)
       (try clear hk)
       (try clear hi)
       (try clear ho0)
       obtain ⟨Ao231, co231, eo231⟩ := Kd.R_slice HO235.out
       (first | subst eo231 | (injection eo231 with f1_ f2_ f3_; have f4_ := f1_.symm; have f5_ := f3_.symm; clear f1_ f2_ f3_; subst f4_; subst f5_))
       refine hK.out _ _ ⟨CZ BK216.out 0, CZ BK217.out 0, CZ BK217.out 1, CZ BK217.out 2, CZ BK217.out 3, CZ BK222.out 0, CZ BK222.out 1, CZ BK222.out 2⟩ (fun hHeld => ?_); clear hK K; refine norm_ (a' := ?_) ?_ ?_; rotate_left
       ·
        show Act.put _ (some 90) _ = _; simp only [Act.put, zA, zB, zC, i64_w, i32_w]; rfl
       refine one_ (i := 5) (N := some 92) (OB 7 63) rfl rfl (by kernel_rfl) (by decide) (fun K hK => ?_); refine goes_ Try.func66 (by kernel_rfl) rfl #[.agg #[.slice Ao231 t233.length co231], .agg #[.string a1_3, .string x223001_48, .int .i64 x223002_48]] (by rfl) rfl rfl (MA) ?_
       with_reducible refine (impl_withFile.calls _ _ t233 a1_3 x223001_48 x223002_48 t236 _ ?side1 ?side2 A193.out).mono ?_
       (case side1 => repeat (first | exact (Kd.R_reads' HO235.out).2.2 | (with_reducible refine Kd.C_alloc ?_ _) | (with_reducible refine Kd.C_drewN ?_ _) | (with_reducible refine Kd.C_drew ?_)))
       (case side2 => exact (Kd.R_reads' HO235.out).2.1)
       rintro e w232 ⟨v237, rfl, ho0, hb⟩; refine ⟨_, rfl, ?_⟩; have n0_ := Aside0.mk (Kd.R_elder' (RQ HO235.out) (Kd.R_base ho0) hb); have n1_ := Aside0.mk (Kd.R_lower (Kd.R_newB (Kd.R_new' ho0 (Kd.R_lt (RQ HO235.out))) (g := gb222) (o := .cells #[.string a1_3, .string x223001_48, .int .i64 x223002_48] 45 (0, 0)) (BQ BK222.out)) (below_size (BL))); have n2_ := BB BK216.out hb; have n3_ := BB BK217.out hb; have n4_ := BB BK218.out hb; have n5_ := BB BK222.out hb; have n6_ := BB BK224.out hb; have n7_ := Aside0.mk (below_step (BL) hb); clear HO235; clear BK216; clear BK217; clear BK218; clear BK222; clear BK224; clear HB; have HO235 := n0_; have HO238 := n1_; have BK216 := n2_; have BK217 := n3_; have BK218 := n4_; have BK222 := n5_; have BK224 := n6_; have HB := n7_; clear n0_ n1_ n2_ n3_ n4_ n5_ n6_ n7_
       (try clear hb)
       (try clear hb2)
       (try clear hk)
       (try clear hi)
       (try clear ho0)
       obtain ⟨Ao233, co233, eo233⟩ := Kd.R_slice HO238.out
       (first | subst eo233 | (injection eo233 with f1_ f2_ f3_; have f4_ := f1_.symm; have f5_ := f3_.symm; clear f1_ f2_ f3_; subst f4_; subst f5_))
       refine hK.out _ _ ⟨CZ BK216.out 0, CZ BK217.out 0, CZ BK217.out 1, CZ BK217.out 2, CZ BK217.out 3, CZ BK222.out 0, CZ BK222.out 1, CZ BK222.out 2⟩ (fun hHeld => ?_); clear hK K; refine norm_ (a' := ?_) ?_ ?_; rotate_left
       ·
        show Act.put _ (some 92) _ = _; simp only [Act.put, zA, zB, zC, i64_w, i32_w]; rfl
       refine one_ (i := 6) (N := none) (OB 7 127) rfl rfl (by kernel_rfl) (by decide) (fun K hK => ?_); have hs234 : w232.cell? ⟨gb224, 0, none⟩ = some (.slice none 0 0) := CZ BK224.out 0; have hfs234 := blk_frozen BK224.out 0; have hns234_0 := NB216_224.out; have hns234_1 := NB217_224.out; have hns234_2 := NB218_224.out; have hns234_3 := NB222_224.out; have hms234_0 := NB224_216.out; have hms234_1 := NB224_217.out; have hms234_2 := NB224_218.out; have hms234_3 := NB224_222.out; refine skip_ (w1 := ?_) (by rfl) rfl ?_ ?_; rotate_left
       ·
        go_simp
        rfl
       refine hK.out _ _ ⟨((cell_far (p := ⟨gb224, _, none⟩) NB216_224.out _).trans (hHeld.1)), ((cell_far (p := ⟨gb224, _, none⟩) NB217_224.out _).trans (hHeld.2.1)), ((cell_far (p := ⟨gb224, _, none⟩) NB217_224.out _).trans (hHeld.2.2.1)), ((cell_far (p := ⟨gb224, _, none⟩) NB217_224.out _).trans (hHeld.2.2.2.1)), ((cell_far (p := ⟨gb224, _, none⟩) NB217_224.out _).trans (hHeld.2.2.2.2.1)), ((cell_far (p := ⟨gb224, _, none⟩) NB222_224.out _).trans (hHeld.2.2.2.2.2.1)), ((cell_far (p := ⟨gb224, _, none⟩) NB222_224.out _).trans (hHeld.2.2.2.2.2.2.1)), ((cell_far (p := ⟨gb224, _, none⟩) NB222_224.out _).trans (hHeld.2.2.2.2.2.2.2))⟩ (fun hHeld => ?_); clear hK K; refine done_ (by kernel_rfl) ?_; have hnb235 := NB224_216.out; have hnc235 := NB216_224.out; have hnb236 := NB224_218.out; have hnc236 := NB218_224.out; have hcz237_0 : w232.cell? ⟨gb224, 0, none⟩ = some (.slice none 0 0) := CZ BK224.out 0; have hfz237_0 := blk_frozen BK224.out 0
       try go_wp2_with (first | ((with_reducible refine gate_callee (f := 15) rfl ?_); refine goesL_ (some 94) rfl rfl Try.func15 (by kernel_rfl) rfl #[.agg #[.slice Ao233 t236.length co233]] rfl (MA) ?_; (with_reducible refine (impl_DiskOk.calls kj159 _ _ t236 false _ ?side1 ?side2 A194.out).mono ?_); (case side1 => refine (Kd.R_reads' (e := 45) (base := w.heap.size) (ok := fun k_ => ((True ∧ some k_ ≠ (.slice Ao231 t233.length co231 : Value).ownBlock) ∧ k_ ≠ gb222)) (n := t236.length) (c := co233) ?_).2.2; exact (RF HO238.out BK224.out)); (case side2 => exact (Kd.R_reads' HO238.out).2.1); rintro e w238 ⟨rfl, hb⟩; refine ⟨_, rfl, ?_⟩; replace HO235 := Aside0.mk (Kd.R_below (RF HO235.out BK224.out) hb); replace HO238 := Aside0.mk (Kd.R_below (RF HO238.out BK224.out) hb); replace BK216 := BX BK216.out hb; replace BK217 := BX BK217.out hb; replace BK218 := BX BK218.out hb; replace BK222 := BX BK222.out hb; replace BK224 := Aside0.mk (blk_below (g := gb224) (o := .cells #[.slice Ao233 t236.length co233] 29 (0, 0)) (BU BK224.out) hb); replace HB := Aside0.mk (below_step (BL) hb); (try clear hb); (try clear hb2); (try clear hk); (try clear hi); have hnb239 := NB218_216.out; have hnc239 := NB216_218.out; have hcz240_0 : w238.cell? ⟨gb218, 0, none⟩ = some (.slice none 0 0) := CZ BK218.out 0; have hfz240_0 := blk_frozen BK218.out 0))
       refine bodyPost_ret (results_ct rfl _ _ gb218 29 #[.slice none 0 0] (0, 0) _ rfl (BU BK218.out) Try.underlying29 rfl (by kernel_rfl)) rfl ?_; exact ⟨_, EE, by first | exact Kd.R_nil _ _ _ _ _ | exact Kd.N_nil _ _ _ _ _ | exact Kd.V_nil _ _ _ _ _ | exact Kd.Q_nil _ _ _ _ _ | exact Kd.S_nil _ _ _ _ _, BL⟩

/-! ### impl_DoActs: function 41 -/
def impl_DoActs.l0 : Nat → List (S55) → List (S55) → Int → Int → List (S45) → Option ((List (S45)) × Int)
 | 0, _, _, _, _, _ => none
 | k + 1, x1, x13, x14, x15, x250000 => if x15 < x14 then (if 0 ≤ x15 then (if x15 < (x13.length : Int) then ((impl_DoAct.f k x250000 ((rd_T55 x13 x15).f0) ((rd_T55 x13 x15).f1) ((rd_T55 x13 x15).f2) ((rd_T55 x13 x15).f3)).bind fun bt252 => (if bt252.2 = true then (impl_DoActs.l0 k x1 x13 x14 (wrap64 (x15 + 1)) bt252.1) else (some (x250000, x15)))) else (none)) else (none)) else (some (x250000, (x1.length : Int)))
def impl_DoActs.f (k : Nat) (l0_0 : List (S45)) (l1 : List (S55)) : Option ((List (S45)) × Int) := (impl_copyDisk.f l0_0).bind fun t246 => (impl_DoActs.l0 k l1 l1 (l1.length : Int) 0 t246)
theorem impl_DoActs.mono_l : ∀ k, (∀ y0 y1 y2 y3 y4, LeO (impl_DoActs.l0 k y0 y1 y2 y3 y4) (impl_DoActs.l0 (k + 1) y0 y1 y2 y3 y4))
 | 0 => fun _ _ _ _ _ r h => by simp [impl_DoActs.l0] at h
 | k + 1 => by
  have ih0 := impl_DoActs.mono_l k
  ·
   intro y0 y1 y2 y3 y4
   unfold impl_DoActs.l0
   repeat' first
   | (with_reducible exact ih0 _ _ _ _ _)
   | (with_reducible exact impl_DoAct.mono _ _ _ _ _ _)
   | (with_reducible exact LeO.refl _)
   | (with_reducible exact LeO.none _)
   | (with_reducible refine LeO.ite ?_ ?_)
   | (with_reducible refine LeO.bind ?_ (fun _ => ?_))
   | exact ih0 _ _ _ _ _
   | exact impl_DoAct.mono _ _ _ _ _ _
   | exact LeO.none _
   | refine LeO.ite ?_ ?_
   | refine LeO.bind ?_ (fun _ => ?_)
theorem impl_DoActs.mono : ∀ a0 a1 k, LeO (impl_DoActs.f k a0 a1) (impl_DoActs.f (k + 1) a0 a1) := by
 intro a0 a1 k
 have ih0 := impl_DoActs.mono_l k
 unfold impl_DoActs.f
 repeat' first
   | (with_reducible exact ih0 _ _ _ _ _)
   | (with_reducible exact impl_DoAct.mono _ _ _ _ _ _)
   | (with_reducible exact LeO.refl _)
   | (with_reducible exact LeO.none _)
   | (with_reducible refine LeO.ite ?_ ?_)
   | (with_reducible refine LeO.bind ?_ (fun _ => ?_))
   | exact ih0 _ _ _ _ _
   | exact impl_DoAct.mono _ _ _ _ _ _
   | exact LeO.none _
   | refine LeO.ite ?_ ?_
   | refine LeO.bind ?_ (fun _ => ?_)
set_option maxHeartbeats 8000000 in
set_option maxRecDepth 100000 in
theorem impl_DoActs.calls (k : Nat) (A0_0 : Option Addr) (c0_0 : Nat) (l0_0 : List (S45)) (A1 : Option Addr) (c1 : Nat) (l1 : List (S55)) (r1 : List (S45)) (r2 : Int) (w : World) (hr0_0 : Kd.C k45 w A0_0 l0_0.length l0_0) (hc0_0 : l0_0.length ≤ c0_0) (hr1 : Kd.C k55 w A1 l1.length l1) (hc1 : l1.length ≤ c1) (h : impl_DoActs.f k l0_0 l1 = some (r1, r2)) :
  Calls Try.prog 41 #[.agg #[.slice A0_0 l0_0.length c0_0], .slice A1 l1.length c1] w fun e w' => ∃ v0_ : Value, e = .returned (.tuple #[.agg #[v0_], .int .i64 r2]) ∧ Kd.R k45 45 w' w.heap.size (fun _ => True) v0_ r1 ∧ Below w.heap.size w w' := by
 have hu29 := Try.underlying29
 have hu55 := Try.underlying55
 have HR0_0 := Aside0.mk hr0_0
 have HC0_0 := Aside0.mk hc0_0
 clear hr0_0 hc0_0
 have HR1 := Aside0.mk hr1
 have HC1 := Aside0.mk hc1
 clear hr1 hc1
 have HB := Aside0.mk (Below.refl w.heap.size w)
 have H : ((impl_copyDisk.f l0_0).bind fun t246 => (impl_DoActs.l0 k l1 l1 (l1.length : Int) 0 t246)) = some (r1, r2) := h
 clear h
 replace H := Option.bind_eq_some_iff.mp H
 obtain ⟨t246, A30, H⟩ := H
 have A3 := Aside0.mk A30
 clear A30
 have H' := Aside0.mk H
 clear H
 go_enter Try.func41, Try.ntmps41
 go_wp2_with (first | ((with_reducible refine gate_dst (N := 2) rfl ?_); refine bE 2 #[.slice A0_0 l0_0.length c0_0] 29 ?_; intro gb244 hg w4 hbox hb; have BK244 := Aside0.mk (hbox); have GW244 : Aside0 (w.heap.size ≤ gb244) := GS; have GE244 := GW244; replace HB := Aside0.mk (below_step (BL) hb); clear hb hbox hg) | ((with_reducible refine gate_dst (N := 4) rfl ?_); refine bE 4 #[.slice none 0 0] 29 ?_; intro gb245 hg w5 hbox hb; have BK245 := Aside0.mk (hbox); have GW245 : Aside0 (w.heap.size ≤ gb245) := GS; have GE245 := GW245; have NB244_245 := NL BK244.out hg; have NB245_244 := NG BK244.out hg; replace BK244 := BB BK244.out hb; replace HB := Aside0.mk (below_step (BL) hb); clear hb hbox hg; have hnb6 := NB244_245.out; have hnc6 := NB245_244.out; have hcz7_0 : w5.cell? ⟨gb244, 0, none⟩ = some (.slice A0_0 l0_0.length c0_0) := CZ BK244.out 0; have hfz7_0 := blk_frozen BK244.out 0) | ((with_reducible refine gate_callee (f := 61) rfl ?_); refine goesL_ (some 12) rfl rfl Try.func61 (by kernel_rfl) rfl #[.agg #[.slice A0_0 l0_0.length c0_0]] rfl (MA) ?_; (with_reducible refine (impl_copyDisk.calls _ _ l0_0 t246 _ ?side1 ?side2 A3.out).mono ?_); (case side1 => exact CB HR0_0.out); (case side2 => exact HC0_0.out); rintro e w8 ⟨v247, rfl, ho0, hb⟩; refine ⟨_, rfl, ?_⟩; have HO248 := Aside0.mk (Kd.R_lower ho0 (below_size (BL))); replace BK244 := BB BK244.out hb; replace BK245 := BB BK245.out hb; replace HB := Aside0.mk (below_step (BL) hb); (try clear hb); (try clear hb2); (try clear hk); (try clear hi); (try clear ho0)) | ((with_reducible refine gate_dst (N := 6) rfl ?_); refine bE 6 #[.slice none 0 0] 29 ?_; intro gb249 hg w9 hbox hb; have BK249 := Aside0.mk (hbox); have GW249 : Aside0 (w.heap.size ≤ gb249) := GS; have GE249 := GW249; have NB244_249 := NL BK244.out hg; have NB249_244 := NG BK244.out hg; have NB245_249 := NL BK245.out hg; have NB249_245 := NG BK245.out hg; replace HO248 := Aside0.mk (Kd.R_below (RQ HO248.out) hb); replace BK244 := BB BK244.out hb; replace BK245 := BB BK245.out hb; replace HB := Aside0.mk (below_step (BL) hb); clear hb hbox hg; obtain ⟨Ao10, co10, eo10⟩ := Kd.R_slice HO248.out; subst eo10; have hnb11 := NB249_244.out; have hnc11 := NB244_249.out; have hnb12 := NB249_245.out; have hnc12 := NB245_249.out; have hcz13_0 : w9.cell? ⟨gb249, 0, none⟩ = some (.slice none 0 0) := CZ BK249.out 0; have hfz13_0 := blk_frozen BK249.out 0))
 go_loopg [15] k (fun kq v15 w' => ∃ (x15_1 : Int) (x250000_1 : List (S45)) (u250000 : Value), v15 = .int .i64 x15_1 ∧ Aside0 (impl_DoActs.l0 kq l1 l1 (l1.length : Int) x15_1 x250000_1 = some (r1, r2)) ∧ Aside0 (kq ≤ k) ∧ Aside0 (Kd.R k45 45 w' w.heap.size (fun _ => True) u250000 x250000_1) ∧ Aside0 (w'.heap[gb244]? = some (.cells #[(.slice A0_0 l0_0.length c0_0)] 29 (0, 0))) ∧ Aside0 (w'.heap[gb245]? = some (.cells #[(.slice none 0 0)] 29 (0, 0))) ∧ Aside0 (w'.heap[gb249]? = some (.cells #[u250000] 29 (0, 0))) ∧ Aside0 (Below w.heap.size w w'))
 case atStart => exact ⟨(0), (t246), (.slice Ao10 t246.length co10), SD, H', ⟨Nat.le_refl _⟩, ⟨RF HO248.out BK249.out⟩, ⟨BP BK244.out⟩, ⟨BP BK245.out⟩, ⟨BU BK249.out⟩, ⟨BL⟩⟩
 case round =>
  clear H'
  try clear c1 p2 c4 c6 c11 c12 hcz13_0 hcz7_0 hfz13_0 hfz7_0
  obtain ⟨x15_1, x250000_1, u250000, rfl, HA, HK1, HO_250000, BK244, BK245, BK249, HB⟩ := hrel; cases gk with
  | zero => exact absurd HA.out (by simp [impl_DoActs.l0])
  | succ k1 =>
   have H := HA.out; clear HA; simp only [impl_DoActs.l0] at H
   by_cases c14 : x15_1 < (l1.length : Int); rotate_left
   ·
    rw [if_neg c14] at H; have c14b0 : decide (x15_1 < (l1.length : Int)) = false := decide_eq_false c14; clear c14; simp only [Option.some.injEq, Prod.mk.injEq] at H; obtain ⟨rfl, rfl⟩ := H; have hnb57 := NB249_244.out; have hnc57 := NB244_249.out; have hnb58 := NB249_245.out; have hnc58 := NB245_249.out; have hcz59_0 : wr.cell? ⟨gb249, 0, none⟩ = some (u250000) := CZ BK249.out 0; have hfz59_0 := blk_frozen BK249.out 0; obtain ⟨Ao60, co60, eo60⟩ := Kd.R_slice HO_250000.out; subst eo60; have hnb61 := NB245_244.out; have hnc61 := NB244_245.out; have hcz62_0 : wr.cell? ⟨gb245, 0, none⟩ = some (.slice none 0 0) := CZ BK245.out 0; have hfz62_0 := blk_frozen BK245.out 0
    go_wp2
    refine bodyPost_ret (results_ct rfl _ _ gb245 29 #[.slice Ao60 x250000_1.length co60] (0, 0) _ rfl (BU BK245.out) Try.underlying29 rfl (by kernel_rfl)) rfl ?_; exact ⟨_, EE, by (with_reducible repeat (first | apply r1 | apply r2 | apply r3)); exact Kd.R_mono (Kd.R_far (p := ⟨gb245, 0, none⟩) (Kd.R_types HO_250000.out BK245.out (by decide)) (fun _ hk => hk.2) (.slice Ao60 x250000_1.length co60)) (fun _ hk => trivial), BL⟩
   rw [if_pos c14] at H; have c14b0 : decide (x15_1 < (l1.length : Int)) = true := decide_eq_true c14; clear c14
   by_cases c15 : 0 ≤ x15_1; rotate_left
   ·
    rw [if_neg c15] at H; exact absurd H (by simp)
   rw [if_pos c15] at H; have c15b0 : decide (0 ≤ x15_1) = true := decide_eq_true c15; clear c15
   by_cases c16 : x15_1 < (l1.length : Int); rotate_left
   ·
    rw [if_neg c16] at H; exact absurd H (by simp)
   rw [if_pos c16] at H; have c16b0 : decide (x15_1 < (l1.length : Int)) = true := decide_eq_true c16; clear c16; replace H := Option.bind_eq_some_iff.mp H; obtain ⟨⟨t252, t255⟩, A170, H⟩ := H; replace H : (if t255 = true then (impl_DoActs.l0 k1 l1 l1 (l1.length : Int) (wrap64 (x15_1 + 1)) t252) else (some (x250000_1, x15_1))) = some (r1, r2) := H; have A17 := Aside0.mk A170; clear A170
   by_cases c18 : t255 = true
   ·
    subst c18
    have H1 : (impl_DoActs.l0 k1 l1 l1 (l1.length : Int) (wrap64 (x15_1 + 1)) t252) = some (r1, r2) := by rw [if_pos rfl] at H; exact H
    clear H; have H := H1; clear H1; have H' := Aside0.mk H; clear H; have p250 : 0 ≤ (x15_1 : Int) := of_decide_eq_true AS; have q250 : x15_1 < (l1.length : Int) := of_decide_eq_true AS; obtain ⟨ad250, e250, hx250_0, hx250_1, hx250_2, hx250_3⟩ := at_T55 HR1.out x15_1 p250 q250; cases e250; replace hx250_0 := (HB.out.cell (World.block_lt_of_cell? w _ hx250_0)).trans hx250_0; replace hx250_1 := (HB.out.cell (World.block_lt_of_cell? w _ hx250_1)).trans hx250_1; replace hx250_2 := (HB.out.cell (World.block_lt_of_cell? w _ hx250_2)).trans hx250_2; replace hx250_3 := (HB.out.cell (World.block_lt_of_cell? w _ hx250_3)).trans hx250_3; replace p250 := eq_true p250; replace q250 := eq_true q250
    go_wp2_with (first | ((with_reducible refine gate_dst (N := 8) rfl ?_); refine bE 8 #[.int .i64 0, .string (⟨#[]⟩ : ByteArray), .string (⟨#[]⟩ : ByteArray), .string (⟨#[]⟩ : ByteArray)] 55 ?_; intro gb251 hg w19 hbox hb; have BK251 := Aside0.mk (hbox); have GW251 : Aside0 (w.heap.size ≤ gb251) := GS; have GE251 := GW251; have NB244_251 := NL BK244.out hg; have NB251_244 := NG BK244.out hg; have NB245_251 := NL BK245.out hg; have NB251_245 := NG BK245.out hg; have NB249_251 := NL BK249.out hg; have NB251_249 := NG BK249.out hg; replace HO_250000 := Aside0.mk (Kd.R_below (RQ HO_250000.out) hb); replace BK244 := BB BK244.out hb; replace BK245 := BB BK245.out hb; replace BK249 := BB BK249.out hb; replace HB := Aside0.mk (below_step (BL) hb); clear hb hbox hg; have hnb20 := NB251_244.out; have hnc20 := NB244_251.out; have hnb21 := NB251_245.out; have hnc21 := NB245_251.out; have hnb22 := NB251_249.out; have hnc22 := NB249_251.out; have hcz23_0 : w19.cell? ⟨gb251, 0, none⟩ = some (.int .i64 0) := CZ BK251.out 0; have hcz23_1 : w19.cell? ⟨gb251, 1, none⟩ = some (.string (⟨#[]⟩ : ByteArray)) := CZ BK251.out 1; have hcz23_2 : w19.cell? ⟨gb251, 2, none⟩ = some (.string (⟨#[]⟩ : ByteArray)) := CZ BK251.out 2; have hcz23_3 : w19.cell? ⟨gb251, 3, none⟩ = some (.string (⟨#[]⟩ : ByteArray)) := CZ BK251.out 3; have hfz23_0 := blk_frozen BK251.out 0; have hfz23_1 := blk_frozen BK251.out 1; have hfz23_2 := blk_frozen BK251.out 2; have hfz23_3 := blk_frozen BK251.out 3; have hnb24 := NB249_244.out; have hnc24 := NB244_249.out; have hnb25 := NB249_245.out; have hnc25 := NB245_249.out; have hcz26_0 : w19.cell? ⟨gb249, 0, none⟩ = some (u250000) := CZ BK249.out 0; have hfz26_0 := blk_frozen BK249.out 0; obtain ⟨Ao27, co27, eo27⟩ := Kd.R_slice HO_250000.out; subst eo27) | ((with_reducible refine gate_callee (f := 37) rfl ?_); refine goesL_ (some 23) rfl rfl Try.func37 (by kernel_rfl) rfl #[.agg #[.slice Ao27 x250000_1.length co27], .agg #[.int .i64 ((rd_T55 l1 x15_1).f0), .string ((rd_T55 l1 x15_1).f1), .string ((rd_T55 l1 x15_1).f2), .string ((rd_T55 l1 x15_1).f3)]] rfl (MA) ?_; (with_reducible refine (impl_DoAct.calls k1 _ _ x250000_1 ((rd_T55 l1 x15_1).f0) ((rd_T55 l1 x15_1).f1) ((rd_T55 l1 x15_1).f2) ((rd_T55 l1 x15_1).f3) t252 true _ ?side1 ?side2 A17.out).mono ?_); (case side1 => refine (Kd.R_reads' (e := 45) (base := w.heap.size) (ok := fun k_ => True) (n := x250000_1.length) (c := co27) ?_).2.2; exact (by (with_reducible repeat (first | apply r1 | apply r2 | apply r3)); exact (Kd.R_mono (Kd.R_far (p := ⟨gb251, 3, none⟩) (Kd.R_far (p := ⟨gb251, 2, none⟩) (Kd.R_far (p := ⟨gb251, 1, none⟩) (Kd.R_far (p := ⟨gb251, 0, none⟩) (Kd.R_types HO_250000.out BK251.out (by decide)) (fun _ hk => hk.2) (.int .i64 ((rd_T55 l1 x15_1).f0))) (fun _ hk => hk.2) (.string ((rd_T55 l1 x15_1).f1))) (fun _ hk => hk.2) (.string ((rd_T55 l1 x15_1).f2))) (fun _ hk => hk.2) (.string ((rd_T55 l1 x15_1).f3))) (fun _ h_ => h_.1)))); (case side2 => exact (Kd.R_reads' HO_250000.out).2.1); rintro e w28 ⟨v253, rfl, ho0, hb⟩; refine ⟨_, rfl, ?_⟩; have HO254 := Aside0.mk (Kd.R_lower (Kd.R_new' ho0 (Kd.R_lt (by (with_reducible repeat (first | apply r1 | apply r2 | apply r3)); exact (Kd.R_mono (Kd.R_far (p := ⟨gb251, 3, none⟩) (Kd.R_far (p := ⟨gb251, 2, none⟩) (Kd.R_far (p := ⟨gb251, 1, none⟩) (Kd.R_far (p := ⟨gb251, 0, none⟩) (Kd.R_types HO_250000.out BK251.out (by decide)) (fun _ hk => hk.2) (.int .i64 ((rd_T55 l1 x15_1).f0))) (fun _ hk => hk.2) (.string ((rd_T55 l1 x15_1).f1))) (fun _ hk => hk.2) (.string ((rd_T55 l1 x15_1).f2))) (fun _ hk => hk.2) (.string ((rd_T55 l1 x15_1).f3))) (fun _ h_ => h_.1))))) (below_size (BL))); replace HO_250000 := Aside0.mk (Kd.R_elder' (by (with_reducible repeat (first | apply r1 | apply r2 | apply r3)); exact (Kd.R_mono (Kd.R_far (p := ⟨gb251, 3, none⟩) (Kd.R_far (p := ⟨gb251, 2, none⟩) (Kd.R_far (p := ⟨gb251, 1, none⟩) (Kd.R_far (p := ⟨gb251, 0, none⟩) (Kd.R_types HO_250000.out BK251.out (by decide)) (fun _ hk => hk.2) (.int .i64 ((rd_T55 l1 x15_1).f0))) (fun _ hk => hk.2) (.string ((rd_T55 l1 x15_1).f1))) (fun _ hk => hk.2) (.string ((rd_T55 l1 x15_1).f2))) (fun _ hk => hk.2) (.string ((rd_T55 l1 x15_1).f3))) (fun _ h_ => h_.1))) (Kd.R_base ho0) hb); replace BK244 := BX BK244.out hb; replace BK245 := BX BK245.out hb; replace BK249 := BX BK249.out hb; replace BK251 := Aside0.mk (blk_below (g := gb251) (o := .cells #[.int .i64 ((rd_T55 l1 x15_1).f0), .string ((rd_T55 l1 x15_1).f1), .string ((rd_T55 l1 x15_1).f2), .string ((rd_T55 l1 x15_1).f3)] 55 (0, 0)) (BU BK251.out) hb); replace HB := Aside0.mk (below_step (BL) hb); (try clear hb); (try clear hb2); (try clear hk); (try clear hi); (try clear ho0)) | ((with_reducible refine gate_dst (N := 9) rfl ?_); refine bE 9 #[.slice none 0 0] 29 ?_; intro gb256 hg w29 hbox hb; have BK256 := Aside0.mk (hbox); have GW256 : Aside0 (w.heap.size ≤ gb256) := GS; have GE256 := GW256; have NB244_256 := NL BK244.out hg; have NB256_244 := NG BK244.out hg; have NB245_256 := NL BK245.out hg; have NB256_245 := NG BK245.out hg; have NB249_256 := NL BK249.out hg; have NB256_249 := NG BK249.out hg; have NB251_256 := NL BK251.out hg; have NB256_251 := NG BK251.out hg; replace HO_250000 := Aside0.mk (Kd.R_below (RQ HO_250000.out) hb); replace HO254 := Aside0.mk (Kd.R_below (RQ HO254.out) hb); replace BK244 := BB BK244.out hb; replace BK245 := BB BK245.out hb; replace BK249 := BB BK249.out hb; replace BK251 := BB BK251.out hb; replace HB := Aside0.mk (below_step (BL) hb); clear hb hbox hg; obtain ⟨Ao30, co30, eo30⟩ := Kd.R_slice HO254.out; subst eo30; have hnb31 := NB256_244.out; have hnc31 := NB244_256.out; have hnb32 := NB256_245.out; have hnc32 := NB245_256.out; have hnb33 := NB256_249.out; have hnc33 := NB249_256.out; have hnb34 := NB256_251.out; have hnc34 := NB251_256.out; have hcz35_0 : w29.cell? ⟨gb256, 0, none⟩ = some (.slice none 0 0) := CZ BK256.out 0; have hfz35_0 := blk_frozen BK256.out 0; have hcz36_0 : w29.cell? ⟨gb249, 0, none⟩ = some (.slice Ao27 x250000_1.length co27) := CZ BK249.out 0; have hfz36_0 := blk_frozen BK249.out 0))
    go_roundg k1
    case measure => have := HK1.out; omega
    case rel => exact ⟨(wrap64 (x15_1 + 1)), (t252), (.slice Ao30 t252.length co30), SD, H', ⟨by have := HK1.out; omega⟩, ⟨by (with_reducible repeat (first | apply r1 | apply r2 | apply r3)); exact Kd.R_mono (Kd.R_far (p := ⟨gb249, 0, none⟩) (Kd.R_far (p := ⟨gb256, 0, none⟩) (Kd.R_types (Kd.R_types HO254.out BK256.out (by decide)) BK249.out (by decide)) (fun _ hk => hk.1.2) (.slice Ao30 t252.length co30)) (fun _ hk => hk.2) (.slice Ao30 t252.length co30)) (fun _ hk => trivial)⟩, ⟨BP BK244.out⟩, ⟨BP BK245.out⟩, ⟨BU BK249.out⟩, ⟨BL⟩⟩
   replace c18 := Bool.eq_false_iff.mpr c18; subst c18
   have H1 : (some (x250000_1, x15_1)) = some (r1, r2) := by rw [if_neg (show ¬ (false = true) by decide)] at H; exact H
   clear H; have H := H1; clear H1; simp only [Option.some.injEq, Prod.mk.injEq] at H; obtain ⟨rfl, rfl⟩ := H; have p250 : 0 ≤ (x15_1 : Int) := of_decide_eq_true AS; have q250 : x15_1 < (l1.length : Int) := of_decide_eq_true AS; obtain ⟨ad250, e250, hx250_0, hx250_1, hx250_2, hx250_3⟩ := at_T55 HR1.out x15_1 p250 q250; cases e250; replace hx250_0 := (HB.out.cell (World.block_lt_of_cell? w _ hx250_0)).trans hx250_0; replace hx250_1 := (HB.out.cell (World.block_lt_of_cell? w _ hx250_1)).trans hx250_1; replace hx250_2 := (HB.out.cell (World.block_lt_of_cell? w _ hx250_2)).trans hx250_2; replace hx250_3 := (HB.out.cell (World.block_lt_of_cell? w _ hx250_3)).trans hx250_3; replace p250 := eq_true p250; replace q250 := eq_true q250
   go_wp2_with (first | ((with_reducible refine gate_dst (N := 8) rfl ?_); refine bE 8 #[.int .i64 0, .string (⟨#[]⟩ : ByteArray), .string (⟨#[]⟩ : ByteArray), .string (⟨#[]⟩ : ByteArray)] 55 ?_; intro gb251 hg w37 hbox hb; have BK251 := Aside0.mk (hbox); have GW251 : Aside0 (w.heap.size ≤ gb251) := GS; have GE251 := GW251; have NB244_251 := NL BK244.out hg; have NB251_244 := NG BK244.out hg; have NB245_251 := NL BK245.out hg; have NB251_245 := NG BK245.out hg; have NB249_251 := NL BK249.out hg; have NB251_249 := NG BK249.out hg; replace HO_250000 := Aside0.mk (Kd.R_below (RQ HO_250000.out) hb); replace BK244 := BB BK244.out hb; replace BK245 := BB BK245.out hb; replace BK249 := BB BK249.out hb; replace HB := Aside0.mk (below_step (BL) hb); clear hb hbox hg; have hnb38 := NB251_244.out; have hnc38 := NB244_251.out; have hnb39 := NB251_245.out; have hnc39 := NB245_251.out; have hnb40 := NB251_249.out; have hnc40 := NB249_251.out; have hcz41_0 : w37.cell? ⟨gb251, 0, none⟩ = some (.int .i64 0) := CZ BK251.out 0; have hcz41_1 : w37.cell? ⟨gb251, 1, none⟩ = some (.string (⟨#[]⟩ : ByteArray)) := CZ BK251.out 1; have hcz41_2 : w37.cell? ⟨gb251, 2, none⟩ = some (.string (⟨#[]⟩ : ByteArray)) := CZ BK251.out 2; have hcz41_3 : w37.cell? ⟨gb251, 3, none⟩ = some (.string (⟨#[]⟩ : ByteArray)) := CZ BK251.out 3; have hfz41_0 := blk_frozen BK251.out 0; have hfz41_1 := blk_frozen BK251.out 1; have hfz41_2 := blk_frozen BK251.out 2; have hfz41_3 := blk_frozen BK251.out 3; have hnb42 := NB249_244.out; have hnc42 := NB244_249.out; have hnb43 := NB249_245.out; have hnc43 := NB245_249.out; have hcz44_0 : w37.cell? ⟨gb249, 0, none⟩ = some (u250000) := CZ BK249.out 0; have hfz44_0 := blk_frozen BK249.out 0; obtain ⟨Ao45, co45, eo45⟩ := Kd.R_slice HO_250000.out; subst eo45) | ((with_reducible refine gate_callee (f := 37) rfl ?_); refine goesL_ (some 23) rfl rfl Try.func37 (by kernel_rfl) rfl #[.agg #[.slice Ao45 x250000_1.length co45], .agg #[.int .i64 ((rd_T55 l1 x15_1).f0), .string ((rd_T55 l1 x15_1).f1), .string ((rd_T55 l1 x15_1).f2), .string ((rd_T55 l1 x15_1).f3)]] rfl (MA) ?_; (with_reducible refine (impl_DoAct.calls k1 _ _ x250000_1 ((rd_T55 l1 x15_1).f0) ((rd_T55 l1 x15_1).f1) ((rd_T55 l1 x15_1).f2) ((rd_T55 l1 x15_1).f3) t252 false _ ?side1 ?side2 A17.out).mono ?_); (case side1 => refine (Kd.R_reads' (e := 45) (base := w.heap.size) (ok := fun k_ => True) (n := x250000_1.length) (c := co45) ?_).2.2; exact (by (with_reducible repeat (first | apply r1 | apply r2 | apply r3)); exact (Kd.R_mono (Kd.R_far (p := ⟨gb251, 3, none⟩) (Kd.R_far (p := ⟨gb251, 2, none⟩) (Kd.R_far (p := ⟨gb251, 1, none⟩) (Kd.R_far (p := ⟨gb251, 0, none⟩) (Kd.R_types HO_250000.out BK251.out (by decide)) (fun _ hk => hk.2) (.int .i64 ((rd_T55 l1 x15_1).f0))) (fun _ hk => hk.2) (.string ((rd_T55 l1 x15_1).f1))) (fun _ hk => hk.2) (.string ((rd_T55 l1 x15_1).f2))) (fun _ hk => hk.2) (.string ((rd_T55 l1 x15_1).f3))) (fun _ h_ => h_.1)))); (case side2 => exact (Kd.R_reads' HO_250000.out).2.1); rintro e w46 ⟨v253, rfl, ho0, hb⟩; refine ⟨_, rfl, ?_⟩; have HO254 := Aside0.mk (Kd.R_lower (Kd.R_new' ho0 (Kd.R_lt (by (with_reducible repeat (first | apply r1 | apply r2 | apply r3)); exact (Kd.R_mono (Kd.R_far (p := ⟨gb251, 3, none⟩) (Kd.R_far (p := ⟨gb251, 2, none⟩) (Kd.R_far (p := ⟨gb251, 1, none⟩) (Kd.R_far (p := ⟨gb251, 0, none⟩) (Kd.R_types HO_250000.out BK251.out (by decide)) (fun _ hk => hk.2) (.int .i64 ((rd_T55 l1 x15_1).f0))) (fun _ hk => hk.2) (.string ((rd_T55 l1 x15_1).f1))) (fun _ hk => hk.2) (.string ((rd_T55 l1 x15_1).f2))) (fun _ hk => hk.2) (.string ((rd_T55 l1 x15_1).f3))) (fun _ h_ => h_.1))))) (below_size (BL))); replace HO_250000 := Aside0.mk (Kd.R_elder' (by (with_reducible repeat (first | apply r1 | apply r2 | apply r3)); exact (Kd.R_mono (Kd.R_far (p := ⟨gb251, 3, none⟩) (Kd.R_far (p := ⟨gb251, 2, none⟩) (Kd.R_far (p := ⟨gb251, 1, none⟩) (Kd.R_far (p := ⟨gb251, 0, none⟩) (Kd.R_types HO_250000.out BK251.out (by decide)) (fun _ hk => hk.2) (.int .i64 ((rd_T55 l1 x15_1).f0))) (fun _ hk => hk.2) (.string ((rd_T55 l1 x15_1).f1))) (fun _ hk => hk.2) (.string ((rd_T55 l1 x15_1).f2))) (fun _ hk => hk.2) (.string ((rd_T55 l1 x15_1).f3))) (fun _ h_ => h_.1))) (Kd.R_base ho0) hb); replace BK244 := BX BK244.out hb; replace BK245 := BX BK245.out hb; replace BK249 := BX BK249.out hb; replace BK251 := Aside0.mk (blk_below (g := gb251) (o := .cells #[.int .i64 ((rd_T55 l1 x15_1).f0), .string ((rd_T55 l1 x15_1).f1), .string ((rd_T55 l1 x15_1).f2), .string ((rd_T55 l1 x15_1).f3)] 55 (0, 0)) (BU BK251.out) hb); replace HB := Aside0.mk (below_step (BL) hb); (try clear hb); (try clear hb2); (try clear hk); (try clear hi); (try clear ho0)) | ((with_reducible refine gate_dst (N := 9) rfl ?_); refine bE 9 #[.slice none 0 0] 29 ?_; intro gb256 hg w47 hbox hb; have BK256 := Aside0.mk (hbox); have GW256 : Aside0 (w.heap.size ≤ gb256) := GS; have GE256 := GW256; have NB244_256 := NL BK244.out hg; have NB256_244 := NG BK244.out hg; have NB245_256 := NL BK245.out hg; have NB256_245 := NG BK245.out hg; have NB249_256 := NL BK249.out hg; have NB256_249 := NG BK249.out hg; have NB251_256 := NL BK251.out hg; have NB256_251 := NG BK251.out hg; replace HO_250000 := Aside0.mk (Kd.R_below (RQ HO_250000.out) hb); replace HO254 := Aside0.mk (Kd.R_below (RQ HO254.out) hb); replace BK244 := BB BK244.out hb; replace BK245 := BB BK245.out hb; replace BK249 := BB BK249.out hb; replace BK251 := BB BK251.out hb; replace HB := Aside0.mk (below_step (BL) hb); clear hb hbox hg; obtain ⟨Ao48, co48, eo48⟩ := Kd.R_slice HO254.out; subst eo48; have hnb49 := NB256_244.out; have hnc49 := NB244_256.out; have hnb50 := NB256_245.out; have hnc50 := NB245_256.out; have hnb51 := NB256_249.out; have hnc51 := NB249_256.out; have hnb52 := NB256_251.out; have hnc52 := NB251_256.out; have hcz53_0 : w47.cell? ⟨gb256, 0, none⟩ = some (.slice none 0 0) := CZ BK256.out 0; have hfz53_0 := blk_frozen BK256.out 0; have hcz54_0 : w47.cell? ⟨gb249, 0, none⟩ = some (.slice Ao45 x250000_1.length co45) := CZ BK249.out 0; have hfz54_0 := blk_frozen BK249.out 0; have hnb55 := NB245_244.out; have hnc55 := NB244_245.out; have hcz56_0 : w47.cell? ⟨gb245, 0, none⟩ = some (.slice none 0 0) := CZ BK245.out 0; have hfz56_0 := blk_frozen BK245.out 0))
   refine bodyPost_ret (results_ct rfl _ _ gb245 29 #[.slice Ao45 x250000_1.length co45] (0, 0) _ rfl (BU BK245.out) Try.underlying29 rfl (by kernel_rfl)) rfl ?_; exact ⟨_, EE, by (with_reducible repeat (first | apply r1 | apply r2 | apply r3)); exact Kd.R_mono (Kd.R_far (p := ⟨gb245, 0, none⟩) (Kd.R_far (p := ⟨gb256, 0, none⟩) (Kd.R_types (Kd.R_types HO_250000.out BK256.out (by decide)) BK245.out (by decide)) (fun _ hk => hk.1.2) (.slice Ao48 t252.length co48)) (fun _ hk => hk.2) (.slice Ao45 x250000_1.length co45)) (fun _ hk => trivial), BL⟩

end Go.Proofs.Ythfppepnpngfmaa.Qcu
