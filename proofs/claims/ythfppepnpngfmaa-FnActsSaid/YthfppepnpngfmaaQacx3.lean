-- Laid by myprint.py, a program of this session's own, over the kit's print. Not trusted: Lean checks it.
import Derived.Test.YthfppepnpngfmaaQacx0
import Derived.Test.YthfppepnpngfmaaQacx2
namespace Go.Proofs.Ythfppepnpngfmaa.Qac
open Go.RowKit Go.Proofs.YthfppepnpngfmaaW.PrintWords Go.Proofs.YthfppepnpngfmaaW.PrintLast Go.Proofs.YthfppepnpngfmaaW.PrintMore
attribute [local go_sem] Go.Proofs.Ythfppepnpngfmaa.StrCmp.gtr_less Go.Proofs.Ythfppepnpngfmaa.StrCmp.geq_less Go.Proofs.Ythfppepnpngfmaa.StrCmp.leq_less max2_int min2_int max_two min_two max_three min_three max_four min_four   -- for this text's walks alone
set_option linter.unusedVariables false
set_option linter.unusedSimpArgs false

/-! ### impl_withFile: function 66 -/
section
open Go.Proofs.Ythfppepnpngfmaa.Row
set_option maxHeartbeats 4000000 in
set_option maxRecDepth 100000 in
theorem impl_withFile.insert_end (l : List S45) (v : Value) (x : S45) (vb base : Nat) (ok : Nat → Prop) (w : World) (hR : Kd.R k45 45 w base ok v l) (hv : RowIs w vb 45 (en45 x)) (hn : l.length < 1000000) (hbase : base ≤ w.heap.size) (hfresh : ∀ k, w.heap.size ≤ k → ok k) :
    Calls Try.prog 80 #[v, .int .i64 l.length, .slice (some ⟨vb, 0, none⟩) 1 1] w fun e w' => ∃ v', e = .returned v' ∧ Kd.R k45 45 w' base ok v' (l ++ [x]) ∧ w.grownBy w' v.ownBlock := by
  have hC : Kd.C k45 w (some ⟨vb, 0, none⟩) 1 [x] := ⟨rfl, by omega, fun _ => ⟨⟨vb, 0, none⟩, rfl, fun j p hj => by
    have hj0 : j = 0 := by have := (List.getElem?_eq_some_iff.1 hj).1; simp at this; omega
    subst hj0
    obtain rfl : x = p := by simpa using hj
    refine ⟨en45 x, rfl, k45_mk _ _, fun i u hi => ?_⟩
    rw [add_at]
    exact hv.cell (by simpa using hi)⟩⟩
  obtain ⟨A, c, rfl, hlc, _⟩ := Kd.R_reads hR
  obtain ⟨row, hrow⟩ : ∃ row, Aside0 ((Value.slice A l.length c).ownBlock = row) := ⟨_, ⟨rfl⟩⟩
  rw [hrow.out]
  have HR := Aside0.mk hR
  have HC := Aside0.mk hC
  have hln : ((l.length : Int) == (l.length : Int)) = true := by simp
  clear hR hC hv
  go_enter Try.func80, Try.ntmps80
  go_wp2_with (at_builtin; refine Kd.R_append_rows k45 (w0 := w) base rfl (.tmp 23) (.tmp 24) 27 45 (.agg #[(.string ⟨#[]⟩), (.string ⟨#[]⟩), (.int .i64 0)]) 40 rfl Try.underlying27 info45 rfl (by decide) (by omega) (.slice A l.length c) l [x] _ _ _ ok (fun _ => False) rfl rfl HR.out HC.out (fun x cs h => h) (fun _ h => h.elim) hfresh (Below.refl _ _) hbase (by omega) ?_; intro v1 w1 hR1 hb1 hg1 hat1)
  all_goals go_ret
  all_goals exact ⟨_, rfl, hR1, by rw [← hrow.out]; exact hg1⟩

theorem row_shift {g m : Nat} {F D R : List Value} {x : S45} {W : World} (h : RowIs W g 45 (F ++ (D ++ R))) (hF : F.length = m) (hR : 3 ≤ R.length) :
    RowIs ((W.setCells g (m + 3) D).setCells g m (en45 x)) g 45 (F ++ en45 x ++ (D ++ R.drop 3)) := by
  subst hF
  have h1 := h.set (F.length + 3) D (by simp; omega)
  have e1 : (F ++ (D ++ R)).take (F.length + 3) = F ++ (D ++ R).take 3 := by rw [List.take_append, List.take_of_length_le (by omega), Nat.add_sub_cancel_left]
  have e2 : (F ++ (D ++ R)).drop (F.length + 3 + D.length) = R.drop 3 := by
    rw [show F.length + 3 + D.length = F.length + (D.length + 3) by omega, ← List.drop_drop, List.drop_left' rfl, ← List.drop_drop, List.drop_left' rfl]
  rw [e1, e2] at h1
  have h2 := h1.set F.length (en45 x) (by simp [en45]; omega)
  have e3 : (F ++ (D ++ R).take 3 ++ D ++ R.drop 3).take F.length = F := by rw [List.append_assoc, List.append_assoc]; exact List.take_left' rfl
  have e4 : (F ++ (D ++ R).take 3 ++ D ++ R.drop 3).drop (F.length + (en45 x).length) = D ++ R.drop 3 := by
    rw [en45_len, List.append_assoc, List.append_assoc, ← List.drop_drop, List.drop_left' rfl, List.drop_left' (by simp; omega)]
  rw [e3, e4] at h2
  exact h2
set_option maxHeartbeats 4000000 in
set_option maxRecDepth 100000 in
theorem impl_withFile.insert_shift (l : List S45) (g c i : Nat) (rest : List Value) (x : S45) (vb : Nat) (w : World) (hi : i < l.length) (hroom : l.length + 1 ≤ c) (hmx : c ≤ 9223372036854775807) (hrow : RowIs w g 45 (flat en45 l ++ rest)) (hrl : rest.length = (c - l.length) * 3) (hv : RowIs w vb 45 (en45 x)) (hvb : vb ≠ g) :
    Calls Try.prog 80 #[.slice (some ⟨g, 0, none⟩) l.length c, .int .i64 i, .slice (some ⟨vb, 0, none⟩) 1 1] w fun e w' => e = .returned (.slice (some ⟨g, 0, none⟩) (l.length + 1) c) ∧ RowIs w' g 45 (flat en45 (l.take i ++ [x] ++ l.drop i) ++ rest.drop 3) ∧ w.grownBy w' (some g) := by
  have hfl : (flat en45 l).length = l.length * 3 := flat_length en45_len l
  have hz2 : ¬ ((i : Int) = (l.length : Int)) := by omega
  have hov : ∀ lb cb, (callFunc 88 #[.slice (some ⟨vb, 0, none⟩) 1 1, .slice (some ⟨g, (i + 1) * 3, none⟩) lb cb]).run Try.prog w = .ok (.value (.bool false)) w := fun lb cb => by
    rw [run_callFunc_extern Try.func88 (by kernel_rfl) (by kernel_rfl) (by kernel_rfl) (e := Extern.SlicesOverlaps.overlaps #[27, 27] #[4]) (by kernel_rfl),
      Lib.run_overlaps_apart w 27 4 45 Try.underlying27 3 (fun W => by kernel_rfl) ⟨vb, 0, none⟩ ⟨g, (i + 1) * 3, none⟩ 1 1 lb cb hvb 45 45 3 (flat en45 l ++ rest).length hv.shape hrow.shape (by simp [hfl]; omega) (hv.free 0) (hv.free 3)]
    rfl
  have hsz : (Try.prog.info? 45).map (·.size) = some 3 := by kernel_rfl
  have hD : (flat en45 (l.drop i)).length = (l.length - i) * 3 := by rw [flat_length en45_len, List.length_drop]
  have hF : (flat en45 (l.take i)).length = i * 3 := by rw [flat_length en45_len, List.length_take]; omega
  have hsplit : flat en45 l ++ rest = flat en45 (l.take i) ++ (flat en45 (l.drop i) ++ rest) := by rw [← List.append_assoc, ← flat_append, List.take_append_drop]
  have hone : ∀ (ys : List S45), ∀ v ∈ flat en45 ys, v.oneCell' = true := fun ys v hv' => by
    obtain ⟨y, _, hy⟩ := List.mem_flatMap.1 hv'
    exact en45_one y v hy
  have hw1 : IntKind.i64.wrap ((i : Int) + 1) = (i : Int) + 1 := by rw [IntKind.wrap_i64]; omega
  have hb1 : (0 : Int) ≤ (i : Int) + 1 := by omega
  have htn : ((i : Int) + 1).toNat = i + 1 := by omega
  have hb2 : ¬ (c = i + 1) := by omega
  have hb3 : (i : Int) ≤ (l.length : Int) + 1 := by omega
  have hb4 : ¬ (c = i) := by omega
  have hb5 : i ≤ l.length := by omega
  have hlen : (flat en45 l ++ rest).length = c * 3 := by rw [List.length_append, hfl, hrl, ← Nat.add_mul]; congr 1; omega
  have hcp1 : ∀ ty dc sc, (Builtin.copy_ #[27, 27] ty #[.slice (some ⟨g, (i + 1) * 3, none⟩) (l.length - i) dc, .slice (some ⟨g, i * 3, none⟩) (l.length + 1 - i) sc]).run Try.prog w.drew = .ok (goInt (Nat.min (l.length + 1 - i) (l.length - i))) (w.drew.setCells g (i * 3 + 3) (flat en45 (l.drop i))) := fun ty dc sc => by
    have := run_copy_k (P := Try.prog) w.drew 27 27 ty 45 g ((i + 1) * 3) (l.length - i) dc ⟨g, i * 3, none⟩ (l.length + 1 - i) sc 3 (flat en45 (l.drop i)) Try.underlying27 hsz (by rw [hD]; simp only [Nat.min_def]; split <;> omega)
      (hrow.drew.cells (i * 3) _ (fun j hj => by rw [hsplit, ← hF, List.getElem?_append_right (by omega), Nat.add_sub_cancel_left, List.getElem?_append_left hj]))
      (fun j hj => hrow.drew.isSome (by rw [hlen]; omega)) (fun j _ => hrow.drew.free _) (hone _)
    have e : (i + 1) * 3 = i * 3 + 3 := by omega
    rw [e] at this ⊢
    exact this
  have HROW := Aside0.mk hrow
  have HSP := Aside0.mk hsplit
  have HF := Aside0.mk hF
  have HD := Aside0.mk hD
  have HV := Aside0.mk hv
  have HFL := Aside0.mk hfl
  have HLN := Aside0.mk hlen
  have HRL := Aside0.mk hrl
  have HONE := Aside0.mk hone
  have HSZ := Aside0.mk hsz
  have hdrew : ∀ W : World, Aside0 (W = w.drew.setCells g (i * 3 + 3) (flat en45 (l.drop i)) → ∀ ty dc, (Builtin.copy_ #[27, 27] ty #[.slice (some ⟨g, i * 3, none⟩) (l.length + 1 - i) dc, .slice (some ⟨vb, 0, none⟩) 1 1]).run Try.prog W = .ok (goInt (Nat.min 1 (l.length + 1 - i))) (W.setCells g (i * 3) (en45 x))) := fun W => ⟨fun hW ty dc => by
    subst hW
    have hs := HROW.out.drew.set (i * 3 + 3) (flat en45 (l.drop i)) (by rw [HLN.out, HD.out]; omega)
    have hV : RowIs (w.drew.setCells g (i * 3 + 3) (flat en45 (l.drop i))) vb 45 (en45 x) := HV.out.to (setCells_far _ _ vb hvb)
    refine run_copy_k (P := Try.prog) _ 27 27 ty 45 g (i * 3) (l.length + 1 - i) dc ⟨vb, 0, none⟩ 1 1 3 (en45 x) Try.underlying27 HSZ.out (by rw [en45_len]; simp only [Nat.min_def]; split <;> omega) (hV.cells 0 _ (fun j _ => by simp)) (fun j hj => hs.isSome ?_) (fun j _ => hs.free _) (en45_one x)
    rw [en45_len] at hj
    simp only [List.length_append, List.length_take, List.length_drop, HD.out, HRL.out, HFL.out] at *
    omega⟩
  clear hrow hsplit hF hD hv hfl hlen hrl hone hsz
  go_enter Try.func80, Try.ntmps80
  go_wp2_with (simp only [hov])
  go_region_law (refine step_copy_run rfl _ _ 27 27 rfl _ _ (by simp [Act.eval, Act.put]) (by simp [Act.eval, Act.put]) (hcp1 _ _ _) ?_)
  obtain ⟨W1, hW1⟩ : ∃ W1, W1 = w.drew.setCells g (i * 3 + 3) (flat en45 (l.drop i)) := ⟨_, rfl⟩
  have hcp2 := (hdrew W1).out hW1
  rw [← hW1]
  have HW1 := Aside0.mk hW1
  clear hW1 hdrew hcp1
  go_wp2_with (at_builtin; refine wpList_copy_run _ rfl _ _ 27 27 rfl _ _ rfl rfl (hcp2 _ _) ?_)
  go_ret
  refine ⟨rfl, ?_, ?_⟩
  · have h0 := HROW.out.drew
    rw [HSP.out] at h0
    have h := row_shift (x := x) h0 HF.out (by rw [HRL.out]; omega)
    rw [HW1.out, flat_append, flat_append]
    simpa [flat_cons, flat_nil, List.append_assoc] using h
  · rw [HW1.out]
    exact grown_trans (grown_trans (grown_of_below (below_drew (Below.refl _ _)) _) (grown_set w.drew g _ _)) (grown_set _ g _ _)
theorem row_grow {N m : Nat} {F Z D : List Value} {x : S45} {W : World} (h : RowIs W N 45 (F ++ Z)) (hF : F.length = m) (hZ : 3 + D.length ≤ Z.length) :
    RowIs (((W.setCells N m (en45 x)).drew).setCells N (m + 3) D) N 45 (F ++ en45 x ++ (D ++ Z.drop (3 + D.length))) := by
  subst hF
  have h1 := h.set F.length (en45 x) (by simp [en45]; omega)
  rw [List.take_left' rfl, en45_len, ← List.drop_drop, List.drop_left' rfl] at h1
  have h2 := h1.drew.set (F.length + 3) D (by simp [en45]; omega)
  have e1 : (F ++ en45 x ++ Z.drop 3).take (F.length + 3) = F ++ en45 x := List.take_left' (by simp [en45])
  have e2 : (F ++ en45 x ++ Z.drop 3).drop (F.length + 3 + D.length) = Z.drop (3 + D.length) := by
    rw [← List.drop_drop, List.drop_left' (by simp [en45]), List.drop_drop]
  rw [e1, e2] at h2
  rw [← List.append_assoc]
  exact h2
set_option maxHeartbeats 4000000 in
set_option maxRecDepth 100000 in
theorem impl_withFile.insert_grow (l : List S45) (g c i : Nat) (rest : List Value) (x : S45) (vb : Nat) (w : World) (hi : i < l.length) (hn : l.length < 1000000) (hcl : l.length ≤ c) (hroom : c < l.length + 1) (hrow : RowIs w g 45 (flat en45 l ++ rest)) (hv : RowIs w vb 45 (en45 x)) :
    Calls Try.prog 80 #[.slice (some ⟨g, 0, none⟩) l.length c, .int .i64 i, .slice (some ⟨vb, 0, none⟩) 1 1] w fun e w' => ∃ G rest', e = .returned (.slice (some ⟨w.heap.size, 0, none⟩) (l.length + 1) G) ∧ l.length + 1 ≤ G ∧ G ≤ maxLen ∧ rest'.length = (G - (l.length + 1)) * 3 ∧ RowIs w' w.heap.size 45 (flat en45 (l.take i ++ [x] ++ l.drop i) ++ rest') ∧ Below w.heap.size w w' := by
  have hfl : (flat en45 l).length = l.length * 3 := flat_length en45_len l
  have hz2 : ¬ ((i : Int) = (l.length : Int)) := by omega
  have hz3 : (c : Int) < (l.length : Int) + 1 := by omega
  have hsz : (Try.prog.info? 45).map (·.size) = some 3 := by kernel_rfl
  have hD : (flat en45 (l.drop i)).length = (l.length - i) * 3 := by rw [flat_length en45_len, List.length_drop]
  have hF : (flat en45 (l.take i)).length = i * 3 := by rw [flat_length en45_len, List.length_take]; omega
  have hsplit : flat en45 l ++ rest = flat en45 (l.take i) ++ (flat en45 (l.drop i) ++ rest) := by rw [← List.append_assoc, ← flat_append, List.take_append_drop]
  have hone : ∀ (ys : List S45), ∀ v ∈ flat en45 ys, v.oneCell' = true := fun ys v hv' => by
    obtain ⟨y, _, hy⟩ := List.mem_flatMap.1 hv'
    exact en45_one y v hy
  obtain ⟨N, hN⟩ : ∃ N, N = w.heap.size := ⟨_, rfl⟩
  obtain ⟨G, W1, Z, hrz, hG1, hG2, hZ, hR1, hB1⟩ : ∃ G W1 Z, (∀ ty, (Builtin.append_ #[27, 3] ty #[.slice (some ⟨g, 0, none⟩) i c, .int .i64 ((l.length : Int) + 1 - (i : Int))]).run Try.prog w = .ok (.slice (some ⟨N, 0, none⟩) (l.length + 1) G) W1) ∧ l.length + 1 ≤ G ∧ G ≤ maxLen ∧ Z.length = (G - i) * 3 ∧ RowIs W1 N 45 (flat en45 (l.take i) ++ Z) ∧ Below w.heap.size w W1 := by
    obtain ⟨i0, hi0, hz0, hzs, hzb⟩ := info_parts info45
    have hold : (Builtin.firstCells i0.size i (.slice (some ⟨g, 0, none⟩) i c)).run Try.prog w.drew = .ok (flat en45 (l.take i)).toArray w.drew := by
      rw [hzs]
      exact run_firstCells_some w.drew 3 i ⟨g, 0, none⟩ i c (flat en45 (l.take i)) (by rw [hF]) (hrow.drew.cells 0 _ (fun j hj => by rw [hsplit, Nat.zero_add, List.getElem?_append_left hj]))
    have hg := grownCap_ge w (l.length + 1) c 45
    have hik : i + (l.length + 1 - i) = l.length + 1 := by omega
    refine ⟨grownCap w (l.length + 1) c 45, w.drew.alloc (.cells ((flat en45 (l.take i)).toArray ++ Builtin.zeroCells (Value.agg #[.string ⟨#[]⟩, .string ⟨#[]⟩, .int .i64 0]).cells (l.length + 1 - i) ++ Builtin.zeroCells (Value.agg #[.string ⟨#[]⟩, .string ⟨#[]⟩, .int .i64 0]).cells (grownCap w (l.length + 1) c 45 - (l.length + 1))) 45), (Builtin.zeroCells #[.string ⟨#[]⟩, .string ⟨#[]⟩, .int .i64 0] (l.length + 1 - i)).toList ++ (Builtin.zeroCells #[.string ⟨#[]⟩, .string ⟨#[]⟩, .int .i64 0] (grownCap w (l.length + 1) c 45 - (l.length + 1))).toList, fun ty => ?_, hg, grownCap_le_maxLen w _ _ _ (by unfold maxLen; omega), ?_, ?_, ?_⟩
    · have h := Lib.run_append_grow_zeros w 27 3 ty 45 i0 _ .i64 .i64 Try.underlying27 Try.underlying3 hi0 hz0 (some ⟨g, 0, none⟩) i c _ hold (l.length + 1 - i) (by omega) (by omega) (by omega) (by omega) (by rw [hzb]; omega) (by rw [hzb, hik]; exact growslice_fits hroom (by omega))
      rw [hik] at h
      rw [show ((l.length : Int) + 1 - (i : Int)) = ((l.length + 1 - i : Nat) : Int) by omega, hN]
      exact h
    · simp [Builtin.zeroCells]; omega
    · rw [hN]
      have := RowIs.new w.drew 45 ((flat en45 (l.take i)).toArray ++ Builtin.zeroCells (Value.agg #[.string ⟨#[]⟩, .string ⟨#[]⟩, .int .i64 0]).cells (l.length + 1 - i) ++ Builtin.zeroCells (Value.agg #[.string ⟨#[]⟩, .string ⟨#[]⟩, .int .i64 0]).cells (grownCap w (l.length + 1) c 45 - (l.length + 1)))
      simpa [Value.cells, List.append_assoc] using this
    · exact below_alloc (below_drew (Below.refl _ _)) _
  rw [← hN] at hB1 ⊢
  have hlenN : (flat en45 (l.take i) ++ Z).length = G * 3 := by rw [List.length_append, hF, hZ, ← Nat.add_mul]; congr 1; omega
  have hvN : RowIs W1 vb 45 (en45 x) := hv.below (hN ▸ hB1)
  have hgN : RowIs W1 g 45 (flat en45 l ++ rest) := hrow.below (hN ▸ hB1)
  have hgne : g ≠ N := by have := hrow.lt; omega
  have hcpA : ∀ ty dc, (Builtin.copy_ #[27, 27] ty #[.slice (some ⟨N, i * 3, none⟩) (l.length + 1 - i) dc, .slice (some ⟨vb, 0, none⟩) 1 1]).run Try.prog W1 = .ok (goInt (Nat.min 1 (l.length + 1 - i))) (W1.setCells N (i * 3) (en45 x)) := fun ty dc =>
    run_copy_k (P := Try.prog) W1 27 27 ty 45 N (i * 3) (l.length + 1 - i) dc ⟨vb, 0, none⟩ 1 1 3 (en45 x) Try.underlying27 hsz (by rw [en45_len]; simp only [Nat.min_def]; split <;> omega) (hvN.cells 0 _ (fun j _ => by simp)) (fun j hj => hR1.isSome (by rw [hlenN]; rw [en45_len] at hj; omega)) (fun j _ => hR1.free _) (en45_one x)
  have hR2 := hR1.set (i * 3) (en45 x) (by rw [hlenN, en45_len]; omega)
  have hg2 : RowIs (W1.setCells N (i * 3) (en45 x)) g 45 (flat en45 l ++ rest) := hgN.to (setCells_far _ _ g hgne)
  have hcpB : ∀ ty dc sc, (Builtin.copy_ #[27, 27] ty #[.slice (some ⟨N, (i + 1) * 3, none⟩) (l.length - i) dc, .slice (some ⟨g, i * 3, none⟩) (l.length - i) sc]).run Try.prog (W1.setCells N (i * 3) (en45 x)).drew = .ok (goInt (Nat.min (l.length - i) (l.length - i))) ((W1.setCells N (i * 3) (en45 x)).drew.setCells N (i * 3 + 3) (flat en45 (l.drop i))) := fun ty dc sc => by
    have e : (i + 1) * 3 = i * 3 + 3 := by omega
    have := run_copy_k (P := Try.prog) (W1.setCells N (i * 3) (en45 x)).drew 27 27 ty 45 N ((i + 1) * 3) (l.length - i) dc ⟨g, i * 3, none⟩ (l.length - i) sc 3 (flat en45 (l.drop i)) Try.underlying27 hsz (by rw [hD]; simp [Nat.min_def])
      (hg2.drew.cells (i * 3) _ (fun j hj => by rw [hsplit, ← hF, List.getElem?_append_right (by omega), Nat.add_sub_cancel_left, List.getElem?_append_left hj]))
      (fun j hj => hR2.drew.isSome (by
        have := congrArg List.length (List.take_append_drop (i * 3) (flat en45 (l.take i) ++ Z))
        simp only [List.length_append, List.length_take, List.length_drop, hF, hZ, en45_len, hD] at *
        omega)) (fun j _ => hR2.drew.free _) (hone _)
    rw [e] at this ⊢
    exact this
  have hG9 : G ≤ 9223372036854775807 := by unfold maxLen at hG2; omega
  have hw1 : IntKind.i64.wrap ((i : Int) + 1) = (i : Int) + 1 := by rw [IntKind.wrap_i64]; omega
  have hb1 : (0 : Int) ≤ (i : Int) + 1 := by omega
  have htn : ((i : Int) + 1).toNat = i + 1 := by omega
  have hb2 : ¬ (G = i + 1) := by omega
  have hb3 : (i : Int) ≤ (l.length : Int) + 1 := by omega
  have hb4 : ¬ (G = i) := by omega
  have hb5 : i ≤ l.length := by omega
  have hb6 : ¬ (c = i) := by omega
  have hG2' := Aside0.mk hG2
  have HR1 := Aside0.mk hR1
  have HF := Aside0.mk hF
  have HD := Aside0.mk hD
  have HZ := Aside0.mk hZ
  have HB1 := Aside0.mk hB1
  have HN := Aside0.mk hN
  clear hG2 hR1 hF hD hZ hB1 hN hrow hv hfl hsz hsplit hone hlenN hvN hgN hR2 hg2
  go_enter Try.func80, Try.ntmps80
  go_wp2_with (first | (at_builtin; refine wpList_append_run _ rfl _ _ 27 3 rfl _ _ rfl rfl (hrz _) ?_) | (refine wpList_copy_run _ rfl _ _ 27 27 rfl _ _ rfl rfl (hcpA _ _) ?_))

  go_region_law (refine step_copy_run rfl _ _ 27 27 rfl _ _ (by simp [Act.eval, Act.put]) (by simp [Act.eval, Act.put]) (hcpB _ _ _) ?_)
  go_wp2
  go_ret
  have hx := row_grow (x := x) HR1.out HF.out (D := flat en45 (l.drop i)) (by rw [HD.out, HZ.out]; omega)
  refine ⟨G, Z.drop (3 + (flat en45 (l.drop i)).length), rfl, hG1, hG2'.out, by rw [List.length_drop, HZ.out, HD.out]; omega, ?_, ?_⟩
  · rw [flat_append, flat_append]
    simpa [flat_cons, flat_nil, List.append_assoc] using hx
  · have h1 := pw_below_grown HB1.out (some N) (by have := HN.out; have := HB1.out.size; omega) (grown_set W1 N (i * 3) (en45 x)) (fun k hk => by cases hk; have := HN.out; omega)
    have h2 := below_drew h1
    exact pw_below_grown h2 (some N) (by have := HN.out; have := h2.size; omega) (grown_set _ N _ _) (fun k hk => by cases hk; have := HN.out; omega)
theorem impl_withFile.insert (l : List S45) (v : Value) (x : S45) (i vb base : Nat) (ok : Nat → Prop) (w : World) (hi : i ≤ l.length) (hR : Kd.R k45 45 w base ok v l) (hv : RowIs w vb 45 (en45 x)) (hvn : ∀ k, v.ownBlock = some k → vb ≠ k) (hn : l.length < 1000000) (hbase : base ≤ w.heap.size) (hfresh : ∀ k, w.heap.size ≤ k → ok k) :
    Calls Try.prog 80 #[v, .int .i64 i, .slice (some ⟨vb, 0, none⟩) 1 1] w fun e w' => ∃ v', e = .returned v' ∧ Kd.R k45 45 w' base ok v' (l.take i ++ [x] ++ l.drop i) ∧ w.grownBy w' v.ownBlock := by
  by_cases he : i = l.length
  · subst he
    rw [List.take_length, List.drop_length, List.append_nil]
    exact impl_withFile.insert_end l v x vb base ok w hR hv hn hbase hfresh
  · rcases R_rows (enc := en45) en45_len en45_M hR with ⟨_, rfl⟩ | ⟨g, c, rest, rfl, hbg, hokg, hcap, hmx, hrow, hrl⟩
    · simp at hi he; omega
    have hlen : (l.take i ++ [x] ++ l.drop i).length = l.length + 1 := by simp; omega
    by_cases hroom : l.length + 1 ≤ c
    · refine (impl_withFile.insert_shift l g c i rest x vb w (by omega) hroom (by unfold maxLen at hmx; omega) hrow hrl hv (hvn g rfl)).mono ?_
      rintro e w' ⟨rfl, h1, h2⟩
      refine ⟨_, rfl, ?_, h2⟩
      rw [← hlen]
      exact R_of_rows en45_len en45_mk hbg hokg (by omega) hmx h1 (by rw [hlen, List.length_drop, hrl]; have e3 : k45.sz = 3 := rfl; rw [e3]; omega)
    · refine (impl_withFile.insert_grow l g c i rest x vb w (by omega) hn hcap (by omega) hrow hv).mono ?_
      rintro e w' ⟨G, rest', rfl, h1, h2, h3, h4, h5⟩
      refine ⟨_, rfl, ?_, grown_of_below h5 _⟩
      rw [← hlen]
      exact R_of_rows en45_len en45_mk hbase (hfresh _ (Nat.le_refl _)) (by omega) h2 h4 (by rw [hlen]; exact h3)
def impl_withFile.at_ (s : ByteArray) : List S45 → Nat
  | [] => 0
  | x :: r => if (Op.bytesLess x.f0.toList s.toList) = true then impl_withFile.at_ s r + 1 else 0
def impl_withFile.f (l0_0 : List S45) (a1_0 : ByteArray) (a1_1 : ByteArray) (a1_2 : Int) : Option (List S45) := (impl_withoutFile.f l0_0 a1_0).bind fun l => if l.length < 1000000 then some (l.take (impl_withFile.at_ a1_0 l) ++ [⟨a1_0, a1_1, a1_2⟩] ++ l.drop (impl_withFile.at_ a1_0 l)) else none
set_option maxHeartbeats 4000000 in
set_option maxRecDepth 100000 in
theorem impl_withFile.calls (A0_0 : Option Addr) (c0_0 : Nat) (l0_0 : List (S45)) (a1_0 : ByteArray) (a1_1 : ByteArray) (a1_2 : Int) (r : List S45) (w : World) (hr0_0 : Kd.C k45 w A0_0 l0_0.length l0_0) (hc0_0 : l0_0.length ≤ c0_0) (h : impl_withFile.f l0_0 a1_0 a1_1 a1_2 = some r) :
    Calls Try.prog 66 #[.agg #[.slice A0_0 l0_0.length c0_0], .agg #[.string a1_0, .string a1_1, .int .i64 a1_2]] w fun e w' => ∃ v0_ : Value, e = .returned (.agg #[v0_]) ∧ Kd.R k45 45 w' w.heap.size (fun _ => True) v0_ r ∧ Below w.heap.size w w' := by
  obtain ⟨l, h1, h2⟩ := Option.bind_eq_some_iff.1 h
  by_cases hn : l.length < 1000000
  · rw [if_pos hn] at h2
    obtain rfl := Option.some.inj h2
    have hu29 := Try.underlying29
    have hu45 := Try.underlying45
    have hb0 := below_alloc (below_alloc (below_alloc (Below.refl w.heap.size w) (.cells #[.slice A0_0 l0_0.length c0_0] 29)) (.cells #[.string a1_0, .string a1_1, .int .i64 a1_2] 45)) (.cells #[.slice none 0 0] 29)
    have hcp := impl_withoutFile.calls A0_0 c0_0 l0_0 a1_0 l (((w.alloc (.cells #[.slice A0_0 l0_0.length c0_0] 29)).alloc (.cells #[.string a1_0, .string a1_1, .int .i64 a1_2] 45)).alloc (.cells #[.slice none 0 0] 29)) (Kd.C_alloc (Kd.C_alloc (Kd.C_alloc hr0_0 _) _) _) hc0_0 h1
    have HB0 := Aside0.mk hb0
    clear h h1 h2 hr0_0 hc0_0 hb0
    go_enter Try.func66, Try.ntmps66
    go_wp2_with (first | (go_at_call 67; refine hcp.mono ?_; rintro e w1 ⟨v0, rfl, hR, hb1⟩; obtain ⟨Ao, co, rfl, hco, _⟩ := Kd.R_reads hR; have HR := Aside0.mk hR; have HB1 := Aside0.mk hb1; have hs1 : w1.heap.size > w.heap.size + 2 := (by have := hb1.size; simp at this; omega); have CN := Aside0.mk (pw_cell_below (below_then hb1 hb1.size (below_alloc (Below.refl _ _) (.cells #[.slice Ao l.length co] 29))) (show (((w.alloc (.cells #[.slice A0_0 l0_0.length c0_0] 29)).alloc (.cells #[.string a1_0, .string a1_1, .int .i64 a1_2] 45)).alloc (.cells #[.slice none 0 0] 29)).cell? ⟨w.heap.size + 1, 0, none⟩ = some (.string a1_0) from by go_simp)); have CN1 := Aside0.mk (pw_cell_below (below_then hb1 hb1.size (below_alloc (Below.refl _ _) (.cells #[.slice Ao l.length co] 29))) (show (((w.alloc (.cells #[.slice A0_0 l0_0.length c0_0] 29)).alloc (.cells #[.string a1_0, .string a1_1, .int .i64 a1_2] 45)).alloc (.cells #[.slice none 0 0] 29)).cell? ⟨w.heap.size + 1, 1, none⟩ = some (.string a1_1) from by go_simp)); have CN2 := Aside0.mk (pw_cell_below (below_then hb1 hb1.size (below_alloc (Below.refl _ _) (.cells #[.slice Ao l.length co] 29))) (show (((w.alloc (.cells #[.slice A0_0 l0_0.length c0_0] 29)).alloc (.cells #[.string a1_0, .string a1_1, .int .i64 a1_2] 45)).alloc (.cells #[.slice none 0 0] 29)).cell? ⟨w.heap.size + 1, 2, none⟩ = some (.int .i64 a1_2) from by go_simp)); clear hR hb1))
    obtain ⟨W2, hW2⟩ : ∃ W2, W2 = w1.alloc (.cells #[.slice Ao l.length co] 29) := ⟨_, rfl⟩
    rw [← hW2] at CN CN1 CN2 ⊢
    have CF : Aside0 (W2.heap[w1.heap.size]? = some (.cells #[.slice Ao l.length co] 29 (0, 0))) := ⟨by rw [hW2]; exact heap_alloc_new _ _⟩
    have CZ : Aside0 (W2.heap[w.heap.size + 2]? = some (.cells #[.slice none 0 0] 29 (0, 0))) := ⟨by rw [hW2]; exact ((below_alloc (Below.refl w1.heap.size w1) _).block (w.heap.size + 2) (by omega)).trans ((HB1.out.block (w.heap.size + 2) (by simp)).trans (heap3 w _ _ _))⟩
    have HR2 : Aside0 (Kd.R k45 45 W2 _ _ (.slice Ao l.length co) l) := ⟨by rw [hW2]; exact Kd.R_alloc HR.out _⟩
    have HB2 := Aside0.mk (show Below w1.heap.size w1 W2 from by rw [hW2]; exact below_alloc (Below.refl _ _) _)
    clear hW2
    go_loopg [6] l.length (fun gg s6 wr => ∃ j : Nat, j ≤ l.length ∧ l.length - j ≤ gg ∧ s6 = .int .i64 j ∧ Aside0 (Below W2.heap.size W2 wr) ∧ Aside0 (impl_withFile.at_ a1_0 (l.drop j) + j = impl_withFile.at_ a1_0 l))
    case atStart => exact ⟨0, Nat.zero_le _, by omega, rfl, ⟨Below.refl _ _⟩, ⟨rfl⟩⟩
    case round =>
      obtain ⟨j, hj, hg, rfl, BW, AT⟩ := hrel
      have cn := pw_cell_below BW.out CN.out
      have cf := pw_cell_below BW.out ((blk_cell CF.out 0).trans rfl)
      have CFW := Aside0.mk ((BW.out.block _ (blk_lt CF.out)).trans CF.out)
      have CZW := Aside0.mk ((BW.out.block _ (blk_lt CZ.out)).trans CZ.out)
      have cn1 := pw_cell_below BW.out CN1.out
      have cn2 := pw_cell_below BW.out CN2.out
      have HRW := Aside0.mk (Kd.R_below HR2.out BW.out)
      by_cases hlt : j < l.length
      · have hltz : (j : Int) < (l.length : Int) := by omega
        have hC := Kd.C_below (Kd.R_reads' HR2.out).2.2 BW.out
        obtain ⟨ad, e1, x0, x1, x2⟩ := at_T45 hC (j : Int) (by omega) hltz
        cases e1
        simp only [Int.toNat_natCast] at x0 x1 x2
        cases hq : Op.bytesLess (rd_T45 l (j : Int)).f0.toList a1_0.toList with
        | true =>
          clear hC
          go_wp2
          go_quiet (fail)
          go_wp2
          have hAT := AT.out
          rw [impl_placeOf.drop_rd l j hlt, impl_withFile.at_, if_pos hq] at hAT
          have HAT := Aside0.mk hAT
          go_roundg (l.length - (j + 1))
          case measure => omega
          case rel => exact ⟨j + 1, by omega, by omega, by go_num, ⟨pw_below_drewN BW.out _⟩, ⟨by have := HAT.out; omega⟩⟩
        | false =>
          have HAT : Aside0 (impl_withFile.at_ a1_0 l = j) := ⟨by have hAT := AT.out; rw [impl_placeOf.drop_rd l j hlt, impl_withFile.at_, if_neg (by rw [hq]; simp)] at hAT; omega⟩
          clear hC
          go_wp2
          go_quiet (fail)
          obtain ⟨res, hres⟩ : ∃ res, Aside0 (l.take j ++ [(⟨a1_0, a1_1, a1_2⟩ : S45)] ++ l.drop j = res) := ⟨_, ⟨rfl⟩⟩
          go_wp2_with (first | (go_at_call 80; refine (impl_withFile.insert l _ ⟨a1_0, a1_1, a1_2⟩ j wr.heap.size _ _ _ hj (Kd.R_alloc (Kd.R_drewN HRW.out _) _) (RowIs.new (wr.drewN _) 45 _) (fun k hk => by have := Kd.R_lt HRW.out k hk; omega) hn (by have := BW.out.size; have := HB2.out.size; simp; omega) (fun _ _ => trivial)).mono ?_; rintro e w3 ⟨v3, rfl, hR3, hg3⟩; rw [hres.out] at hR3; obtain ⟨A3, c3, rfl, hc3, _⟩ := Kd.R_reads hR3; have HBA := Aside0.mk (below_alloc (pw_below_drewN (Below.refl wr.heap.size wr) nq) (.cells #[.string a1_0, .string a1_1, .int .i64 a1_2] 45)); have bF := Aside0.mk ((hg3.block w1.heap.size (by have := BW.out.size; have := HB2.out.size; simp; have := blk_lt CF.out; omega) (Kd.R_ne HRW.out CFW.out (by decide))).trans ((HBA.out.block _ (blk_lt CFW.out)).trans CFW.out)); have bZ := Aside0.mk ((hg3.block (w.heap.size + 2) (by have := blk_lt CZW.out; simp; omega) (Kd.R_ne HRW.out CZW.out (by decide))).trans ((HBA.out.block _ (blk_lt CZW.out)).trans CZW.out)); have cF : w3.cell? ⟨w1.heap.size, 0, none⟩ = some (.slice (some ad) l.length co) := (blk_cell bF.out 0).trans rfl; have fF := blk_frozen bF.out 0; have cZ : w3.cell? ⟨w.heap.size + 1 + 1, 0, none⟩ = some (.slice none 0 0) := (blk_cell bZ.out 0).trans rfl; have fZ : w3.frozen? ⟨w.heap.size + 1 + 1, 0, none⟩ = false := blk_frozen bZ.out 0; have HR3 := Aside0.mk hR3; have HG3 := Aside0.mk hg3; have hne3 : w1.heap.size ≠ w.heap.size + 1 + 1 := (by omega); clear hR3 hg3))
          rw [HAT.out, hres.out]
          refine bodyPost_ret (results_cell_row rfl _ _ (w.heap.size + 1 + 1) 29 #[.slice A3 res.length c3] (0, 0) _ rfl (blk_put (cs := #[.slice none 0 0]) (blk_far bZ.out (p := ⟨w1.heap.size, 0, none⟩) (by show w.heap.size + 2 ≠ w1.heap.size; omega) _) 0 _ rfl) Try.underlying29 rfl (by kernel_rfl)) rfl ?_
          have hRb : ∀ k, (Value.slice (some ad) l.length co).ownBlock = some k → w.heap.size ≤ k := fun k hk => by have := Kd.R_base HR.out k hk; simp at this; omega
          have hW2 : Below w.heap.size w W2 := below_then (below_then HB0.out (by simp; omega) HB1.out) (by omega) HB2.out
          have hWr := below_then hW2 (by have := HB2.out.size; omega) BW.out
          have h3 := pw_below_grown (below_then hWr (by have := hWr.size; omega) HBA.out) _ (by have := hWr.size; simp; omega) HG3.out hRb
          have hF := blk_far bF.out (p := ⟨w.heap.size + 1 + 1, 0, none⟩) (by show w1.heap.size ≠ w.heap.size + 1 + 1; omega)
          refine ⟨_, rfl, Kd.R_lower (Kd.R_set (Kd.R_set (Kd.R_mono HR3.out (fun _ _ => trivial)) bF.out (by decide) 0 _) (blk_far bZ.out (p := ⟨w1.heap.size, 0, none⟩) (by show w.heap.size + 2 ≠ w1.heap.size; omega) _) (by decide) 0 _) (by simp; omega), below_set (below_set h3 (by omega)) (by omega)⟩
      · have hltz : ¬ (j : Int) < (l.length : Int) := by omega
        have hd : decide ((j : Int) < (l.length : Int)) = false := decide_eq_false hltz
        have hd2 : decide (j < l.length) = false := decide_eq_false hlt
        have HAT : Aside0 (impl_withFile.at_ a1_0 l = j) := ⟨by have hAT := AT.out; rw [List.drop_eq_nil_of_le (by omega), impl_withFile.at_] at hAT; omega⟩
        go_wp2
        go_quiet (fail)
        obtain ⟨res, hres⟩ : ∃ res, Aside0 (l.take j ++ [(⟨a1_0, a1_1, a1_2⟩ : S45)] ++ l.drop j = res) := ⟨_, ⟨rfl⟩⟩
        go_wp2_with (first | (go_at_call 80; refine (impl_withFile.insert l _ ⟨a1_0, a1_1, a1_2⟩ j wr.heap.size _ _ _ hj (Kd.R_alloc (Kd.R_drewN HRW.out _) _) (RowIs.new (wr.drewN _) 45 _) (fun k hk => by have := Kd.R_lt HRW.out k hk; omega) hn (by have := BW.out.size; have := HB2.out.size; simp; omega) (fun _ _ => trivial)).mono ?_; rintro e w3 ⟨v3, rfl, hR3, hg3⟩; rw [hres.out] at hR3; obtain ⟨A3, c3, rfl, hc3, _⟩ := Kd.R_reads hR3; have HBA := Aside0.mk (below_alloc (pw_below_drewN (Below.refl wr.heap.size wr) nq) (.cells #[.string a1_0, .string a1_1, .int .i64 a1_2] 45)); have bF := Aside0.mk ((hg3.block w1.heap.size (by have := BW.out.size; have := HB2.out.size; simp; have := blk_lt CF.out; omega) (Kd.R_ne HRW.out CFW.out (by decide))).trans ((HBA.out.block _ (blk_lt CFW.out)).trans CFW.out)); have bZ := Aside0.mk ((hg3.block (w.heap.size + 2) (by have := blk_lt CZW.out; simp; omega) (Kd.R_ne HRW.out CZW.out (by decide))).trans ((HBA.out.block _ (blk_lt CZW.out)).trans CZW.out)); have cF : w3.cell? ⟨w1.heap.size, 0, none⟩ = some (.slice Ao l.length co) := (blk_cell bF.out 0).trans rfl; have fF := blk_frozen bF.out 0; have cZ : w3.cell? ⟨w.heap.size + 1 + 1, 0, none⟩ = some (.slice none 0 0) := (blk_cell bZ.out 0).trans rfl; have fZ : w3.frozen? ⟨w.heap.size + 1 + 1, 0, none⟩ = false := blk_frozen bZ.out 0; have HR3 := Aside0.mk hR3; have HG3 := Aside0.mk hg3; have hne3 : w1.heap.size ≠ w.heap.size + 1 + 1 := (by omega); clear hR3 hg3))
        rw [HAT.out, hres.out]
        refine bodyPost_ret (results_cell_row rfl _ _ (w.heap.size + 1 + 1) 29 #[.slice A3 res.length c3] (0, 0) _ rfl (blk_put (cs := #[.slice none 0 0]) (blk_far bZ.out (p := ⟨w1.heap.size, 0, none⟩) (by show w.heap.size + 2 ≠ w1.heap.size; omega) _) 0 _ rfl) Try.underlying29 rfl (by kernel_rfl)) rfl ?_
        have hRb : ∀ k, (Value.slice Ao l.length co).ownBlock = some k → w.heap.size ≤ k := fun k hk => by have := Kd.R_base HR.out k hk; simp at this; omega
        have hW2 : Below w.heap.size w W2 := below_then (below_then HB0.out (by simp; omega) HB1.out) (by omega) HB2.out
        have hWr := below_then hW2 (by have := HB2.out.size; omega) BW.out
        have h3 := pw_below_grown (below_then hWr (by have := hWr.size; omega) HBA.out) _ (by have := hWr.size; simp; omega) HG3.out hRb
        have hF := blk_far bF.out (p := ⟨w.heap.size + 1 + 1, 0, none⟩) (by show w1.heap.size ≠ w.heap.size + 1 + 1; omega)
        refine ⟨_, rfl, Kd.R_lower (Kd.R_set (Kd.R_set (Kd.R_mono HR3.out (fun _ _ => trivial)) bF.out (by decide) 0 _) (blk_far bZ.out (p := ⟨w1.heap.size, 0, none⟩) (by show w.heap.size + 2 ≠ w1.heap.size; omega) _) (by decide) 0 _) (by simp; omega), below_set (below_set h3 (by omega)) (by omega)⟩
  · rw [if_neg hn] at h2
    cases h2
end

/-! ### impl_DoAct: function 37 -/
mutual
def impl_DoAct.j0 : Nat → Int → Bool → List (S45) → Int → ByteArray → ByteArray → ByteArray → Option ((List (S45)) × Bool)
 | 0, _, _, _, _, _, _, _ => none
 | k + 1, x6, x29, x129000, x130000, x130001, x130002, x130003 => if x29 = true then (some (([] : List (S45)), false)) else (if x6 ≥ 0 then (if 0 ≤ x6 then (if x6 < (x129000.length : Int) then (impl_DoAct.j1 k x129000 x130000 x130001 x130002 x130003 ((rd_T45 x129000 x6).f0) ((rd_T45 x129000 x6).f1) ((rd_T45 x129000 x6).f2)) else (none)) else (none)) else (impl_DoAct.j1 k x129000 x130000 x130001 x130002 x130003 x130001 (⟨#[]⟩ : ByteArray) 0))
def impl_DoAct.j1 : Nat → List (S45) → Int → ByteArray → ByteArray → ByteArray → ByteArray → ByteArray → Int → Option ((List (S45)) × Bool)
 | 0, _, _, _, _, _, _, _, _ => none
 | k + 1, x129000, x130000, x130001, x130002, x130003, x135000, x135001, x135002 => if x130000 = 1 then (if x135001.size + x130002.size ≤ 9223372036854775807 then ((impl_withFile.f x129000 x135000 (x135001 ++ x130002) x135002).bind fun t137 => ((impl_DiskOk.f k t137).bind fun t140 => (if t140 = true then (some (t137, true)) else (some (([] : List (S45)), false))))) else (none)) else (if x130000 = 2 then ((impl_withFile.f x129000 x135000 x135001 (x135001.size : Int)).bind fun t141 => ((impl_DiskOk.f k t141).bind fun t144 => (if t144 = true then (some (t141, true)) else (some (([] : List (S45)), false))))) else (if x130000 = 3 then (if x135002 = (x135001.size : Int) then (impl_DoAct.j2 k (x130003.toList == x130001.toList) x129000 x130000 x130001 x130002 x130003 x135000 x135001 x135002) else (impl_DoAct.j2 k true x129000 x130000 x130001 x130002 x130003 x135000 x135001 x135002)) else ((impl_withoutFile.f x129000 x130001).bind fun t152 => ((impl_DiskOk.f k t152).bind fun t155 => (if t155 = true then (some (t152, true)) else (some (([] : List (S45)), false)))))))
def impl_DoAct.j2 : Nat → Bool → List (S45) → Int → ByteArray → ByteArray → ByteArray → ByteArray → ByteArray → Int → Option ((List (S45)) × Bool)
 | 0, _, _, _, _, _, _, _, _, _ => none
 | k + 1, x82, x129000, x130000, x130001, x130002, x130003, x135000, x135001, x135002 => if x82 = true then (some (([] : List (S45)), false)) else ((impl_withoutFile.f x129000 x130001).bind fun t145 => ((impl_withFile.f t145 x130003 x135001 x135002).bind fun t148 => ((impl_DiskOk.f k t148).bind fun t151 => (if t151 = true then (some (t148, true)) else (some (([] : List (S45)), false))))))
end
def impl_DoAct.f (k : Nat) (l0_0 : List (S45)) (a1_0 : Int) (a1_1 : ByteArray) (a1_2 : ByteArray) (a1_3 : ByteArray) : Option ((List (S45)) × Bool) := (impl_placeOf.f l0_0 a1_1).bind fun t131 => ((impl_DiskOk.f k l0_0).bind fun t132 => (if t132 = true then ((impl_actOk.f a1_0 a1_1 a1_2 a1_3).bind fun t133 => (if t133 = true then (if t131 < 0 then (impl_DoAct.j0 k t131 (a1_0 != 1) l0_0 a1_0 a1_1 a1_2 a1_3) else (impl_DoAct.j0 k t131 false l0_0 a1_0 a1_1 a1_2 a1_3)) else (impl_DoAct.j0 k t131 true l0_0 a1_0 a1_1 a1_2 a1_3))) else (impl_DoAct.j0 k t131 true l0_0 a1_0 a1_1 a1_2 a1_3)))
set_option maxHeartbeats 8000000 in
set_option maxRecDepth 100000 in
theorem impl_DoAct.calls (k : Nat) (A0_0 : Option Addr) (c0_0 : Nat) (l0_0 : List (S45)) (a1_0 : Int) (a1_1 : ByteArray) (a1_2 : ByteArray) (a1_3 : ByteArray) (r1 : List (S45)) (r2 : Bool) (w : World) (hr0_0 : Kd.C k45 w A0_0 l0_0.length l0_0) (hc0_0 : l0_0.length ≤ c0_0) (h : impl_DoAct.f k l0_0 a1_0 a1_1 a1_2 a1_3 = some (r1, r2)) :
  Calls Try.prog 37 #[.agg #[.slice A0_0 l0_0.length c0_0], .agg #[.int .i64 a1_0, .string a1_1, .string a1_2, .string a1_3]] w fun e w' => ∃ v0_ : Value, e = .returned (.tuple #[.agg #[v0_], .bool r2]) ∧ Kd.R k45 45 w' w.heap.size (fun _ => True) v0_ r1 ∧ Below w.heap.size w w' := by
 have hu29 := Try.underlying29
 have hu55 := Try.underlying55
 have hu45 := Try.underlying45
 have HR0_0 := Aside0.mk hr0_0
 have HC0_0 := Aside0.mk hc0_0
 clear hr0_0 hc0_0
 have HB := Aside0.mk (Below.refl w.heap.size w)
 have H : ((impl_placeOf.f l0_0 a1_1).bind fun t131 => ((impl_DiskOk.f k l0_0).bind fun t132 => (if t132 = true then ((impl_actOk.f a1_0 a1_1 a1_2 a1_3).bind fun t133 => (if t133 = true then (if t131 < 0 then (impl_DoAct.j0 k t131 (a1_0 != 1) l0_0 a1_0 a1_1 a1_2 a1_3) else (impl_DoAct.j0 k t131 false l0_0 a1_0 a1_1 a1_2 a1_3)) else (impl_DoAct.j0 k t131 true l0_0 a1_0 a1_1 a1_2 a1_3))) else (impl_DoAct.j0 k t131 true l0_0 a1_0 a1_1 a1_2 a1_3)))) = some (r1, r2) := h
 clear h
 replace H := Option.bind_eq_some_iff.mp H
 obtain ⟨t131, A30, H⟩ := H
 have A3 := Aside0.mk A30
 clear A30
 have HC4 := Aside0.mk H
 clear H
 go_enter Try.func37, Try.ntmps37
 go_upto_region 2 with (first | ((with_reducible refine gate_dst (N := 2) rfl ?_); refine bE 2 #[.slice A0_0 l0_0.length c0_0] 29 ?_; intro gb128 hg w5 hbox hb; have BK128 := Aside0.mk (hbox); have GW128 : Aside0 (w.heap.size ≤ gb128) := GS; have GE128 := GW128; replace HB := BS hb; clear hb hbox hg) | ((with_reducible refine gate_dst (N := 3) rfl ?_); refine bE 3 #[.int .i64 a1_0, .string a1_1, .string a1_2, .string a1_3] 55 ?_; intro gb129 hg w6 hbox hb; have BK129 := Aside0.mk (hbox); have GW129 : Aside0 (w.heap.size ≤ gb129) := GS; have GE129 := GW129; have NB128_129 := NL BK128.out hg; have NB129_128 := NG BK128.out hg; replace BK128 := BB BK128.out hb; replace HB := BS hb; clear hb hbox hg) | ((with_reducible refine gate_dst (N := 4) rfl ?_); refine bE 4 #[.slice none 0 0] 29 ?_; intro gb130 hg w7 hbox hb; have BK130 := Aside0.mk (hbox); have GW130 : Aside0 (w.heap.size ≤ gb130) := GS; have GE130 := GW130; have NB128_130 := NL BK128.out hg; have NB130_128 := NG BK128.out hg; have NB129_130 := NL BK129.out hg; have NB130_129 := NG BK129.out hg; replace BK128 := BB BK128.out hb; replace BK129 := BB BK129.out hb; replace HB := BS hb; clear hb hbox hg; obtain ⟨hnb8, hnc8⟩ := NN NB128_129.out; obtain ⟨hnb9, hnc9⟩ := NN NB128_130.out; obtain ⟨hcz10_0, hfz10_0⟩ := KC1 BK128.out; obtain ⟨hnb11, hnc11⟩ := NN NB129_130.out; obtain ⟨hcz12_0, hcz12_1, hcz12_2, hcz12_3, hfz12_0, hfz12_1, hfz12_2, hfz12_3⟩ := KC4 BK129.out) | ((with_reducible refine gate_callee (f := 54) rfl ?_); refine goesL_ (some 12) rfl rfl Try.func54 (by kernel_rfl) rfl #[.agg #[.slice A0_0 l0_0.length c0_0], .string a1_1] rfl (MA) ?_; (with_reducible refine (impl_placeOf.calls _ _ l0_0 a1_1 t131 _ ?side1 ?side2 A3.out).mono ?_); (case side1 => exact CB HR0_0.out); (case side2 => exact HC0_0.out); rintro e w13 ⟨rfl, hb⟩; refine ⟨_, rfl, ?_⟩; replace BK128 := BB BK128.out hb; replace BK129 := BB BK129.out hb; replace BK130 := BB BK130.out hb; replace HB := BS hb; (try clear hb)))
 (try simp only [Act.put, zA, zB, zC])
 go_cut [29] (fun v29 wc => ∃ (kq : Nat) (x29_3 : Bool), v29 = .bool x29_3 ∧ Aside0 (impl_DoAct.j0 kq t131 x29_3 l0_0 a1_0 a1_1 a1_2 a1_3 = some (r1, r2)) ∧ Aside0 (kq ≤ k) ∧ Aside0 (wc.heap[gb128]? = some (.cells #[(.slice A0_0 l0_0.length c0_0)] 29 (0, 0))) ∧ Aside0 (wc.heap[gb129]? = some (.cells #[.int .i64 a1_0, .string a1_1, .string a1_2, .string a1_3] 55 (0, 0))) ∧ Aside0 (wc.heap[gb130]? = some (.cells #[(.slice none 0 0)] 29 (0, 0))) ∧ Aside0 (Below w.heap.size w wc))
 case first =>
  have H := HC4.out; clear HC4; replace H := Option.bind_eq_some_iff.mp H; obtain ⟨t132, A140, H⟩ := H; have A14 := Aside0.mk A140; clear A140
  by_cases c15 : t132 = true; rotate_left
  ·
   replace c15 := Bool.eq_false_iff.mpr c15; subst c15
   rw [if_neg (show ¬ (false = true) by decide)] at H; have H' := Aside0.mk H; clear H; obtain ⟨hnb41, hnc41⟩ := NN NB128_129.out; obtain ⟨hnb42, hnc42⟩ := NN NB128_130.out; obtain ⟨hcz43_0, hfz43_0⟩ := KC1 BK128.out
   go_wp2_with (first | ((with_reducible refine gate_callee (f := 15) rfl ?_); refine goesL_ (some 14) rfl rfl Try.func15 (by kernel_rfl) rfl #[.agg #[.slice A0_0 l0_0.length c0_0]] rfl (MA) ?_; (with_reducible refine (impl_DiskOk.calls k _ _ l0_0 false _ ?side1 ?side2 A14.out).mono ?_); (case side1 => exact CB HR0_0.out); (case side2 => exact HC0_0.out); rintro e w44 ⟨rfl, hb⟩; refine ⟨_, rfl, ?_⟩; replace BK128 := BB BK128.out hb; replace BK129 := BB BK129.out hb; replace BK130 := BB BK130.out hb; replace HB := BS hb; (try clear hb)))
   go_meet
   case rel => exact ⟨_, (true), SD, H', ⟨by first | omega | exact Nat.le_refl _⟩, ⟨BQ BK128.out⟩, ⟨BQ BK129.out⟩, ⟨BQ BK130.out⟩, ⟨BL⟩⟩
  subst c15
  rw [if_pos rfl] at H; replace H := Option.bind_eq_some_iff.mp H; obtain ⟨t133, A160, H⟩ := H; have A16 := Aside0.mk A160; clear A160
  by_cases c17 : t133 = true; rotate_left
  ·
   replace c17 := Bool.eq_false_iff.mpr c17; subst c17
   rw [if_neg (show ¬ (false = true) by decide)] at H; have H' := Aside0.mk H; clear H; obtain ⟨hnb34, hnc34⟩ := NN NB128_129.out; obtain ⟨hnb35, hnc35⟩ := NN NB128_130.out; obtain ⟨hcz36_0, hfz36_0⟩ := KC1 BK128.out
   go_wp2_with (first | ((with_reducible refine gate_callee (f := 15) rfl ?_); refine goesL_ (some 14) rfl rfl Try.func15 (by kernel_rfl) rfl #[.agg #[.slice A0_0 l0_0.length c0_0]] rfl (MA) ?_; (with_reducible refine (impl_DiskOk.calls k _ _ l0_0 true _ ?side1 ?side2 A14.out).mono ?_); (case side1 => exact CB HR0_0.out); (case side2 => exact HC0_0.out); rintro e w37 ⟨rfl, hb⟩; refine ⟨_, rfl, ?_⟩; replace BK128 := BB BK128.out hb; replace BK129 := BB BK129.out hb; replace BK130 := BB BK130.out hb; replace HB := BS hb; (try clear hb); obtain ⟨hnb38, hnc38⟩ := NN NB129_130.out; obtain ⟨hcz39_0, hcz39_1, hcz39_2, hcz39_3, hfz39_0, hfz39_1, hfz39_2, hfz39_3⟩ := KC4 BK129.out) | (go_at_call 65; (with_reducible refine (impl_actOk.calls a1_0 a1_1 a1_2 a1_3 false _ A16.out).mono ?_); rintro e w40 ⟨rfl, hb⟩; replace BK128 := BB BK128.out hb; replace BK129 := BB BK129.out hb; replace BK130 := BB BK130.out hb; replace HB := BS hb; (try clear hb)))
   go_meet
   case rel => exact ⟨_, (true), SD, H', ⟨by first | omega | exact Nat.le_refl _⟩, ⟨BQ BK128.out⟩, ⟨BQ BK129.out⟩, ⟨BQ BK130.out⟩, ⟨BL⟩⟩
  subst c17
  rw [if_pos rfl] at H
  by_cases c18 : t131 < 0
  ·
   rw [if_pos c18] at H; have c18b0 : decide (t131 < 0) = true := decide_eq_true c18; clear c18
   (first | rw [c18b0] | (simp only [i64_w, i32_w]; rw [c18b0]) | skip)
   have H' := Aside0.mk H; clear H; obtain ⟨hnb19, hnc19⟩ := NN NB128_129.out; obtain ⟨hnb20, hnc20⟩ := NN NB128_130.out; obtain ⟨hcz21_0, hfz21_0⟩ := KC1 BK128.out
   go_wp2_with (first | ((with_reducible refine gate_callee (f := 15) rfl ?_); refine goesL_ (some 14) rfl rfl Try.func15 (by kernel_rfl) rfl #[.agg #[.slice A0_0 l0_0.length c0_0]] rfl (MA) ?_; (with_reducible refine (impl_DiskOk.calls k _ _ l0_0 true _ ?side1 ?side2 A14.out).mono ?_); (case side1 => exact CB HR0_0.out); (case side2 => exact HC0_0.out); rintro e w22 ⟨rfl, hb⟩; refine ⟨_, rfl, ?_⟩; replace BK128 := BB BK128.out hb; replace BK129 := BB BK129.out hb; replace BK130 := BB BK130.out hb; replace HB := BS hb; (try clear hb); obtain ⟨hnb23, hnc23⟩ := NN NB129_130.out; obtain ⟨hcz24_0, hcz24_1, hcz24_2, hcz24_3, hfz24_0, hfz24_1, hfz24_2, hfz24_3⟩ := KC4 BK129.out) | (go_at_call 65; (with_reducible refine (impl_actOk.calls a1_0 a1_1 a1_2 a1_3 true _ A16.out).mono ?_); rintro e w25 ⟨rfl, hb⟩; replace BK128 := BB BK128.out hb; replace BK129 := BB BK129.out hb; replace BK130 := BB BK130.out hb; replace HB := BS hb; (try clear hb); obtain ⟨hcz26_0, hcz26_1, hcz26_2, hcz26_3, hfz26_0, hfz26_1, hfz26_2, hfz26_3⟩ := KC4 BK129.out))
   go_meet
   case rel => exact ⟨_, ((a1_0 != 1)), SD, H', ⟨by first | omega | exact Nat.le_refl _⟩, ⟨BQ BK128.out⟩, ⟨BQ BK129.out⟩, ⟨BQ BK130.out⟩, ⟨BL⟩⟩
  rw [if_neg c18] at H; have c18b0 : decide (t131 < 0) = false := decide_eq_false c18; clear c18
  (first | rw [c18b0] | (simp only [i64_w, i32_w]; rw [c18b0]) | skip)
  have H' := Aside0.mk H; clear H; obtain ⟨hnb27, hnc27⟩ := NN NB128_129.out; obtain ⟨hnb28, hnc28⟩ := NN NB128_130.out; obtain ⟨hcz29_0, hfz29_0⟩ := KC1 BK128.out
  go_wp2_with (first | ((with_reducible refine gate_callee (f := 15) rfl ?_); refine goesL_ (some 14) rfl rfl Try.func15 (by kernel_rfl) rfl #[.agg #[.slice A0_0 l0_0.length c0_0]] rfl (MA) ?_; (with_reducible refine (impl_DiskOk.calls k _ _ l0_0 true _ ?side1 ?side2 A14.out).mono ?_); (case side1 => exact CB HR0_0.out); (case side2 => exact HC0_0.out); rintro e w30 ⟨rfl, hb⟩; refine ⟨_, rfl, ?_⟩; replace BK128 := BB BK128.out hb; replace BK129 := BB BK129.out hb; replace BK130 := BB BK130.out hb; replace HB := BS hb; (try clear hb); obtain ⟨hnb31, hnc31⟩ := NN NB129_130.out; obtain ⟨hcz32_0, hcz32_1, hcz32_2, hcz32_3, hfz32_0, hfz32_1, hfz32_2, hfz32_3⟩ := KC4 BK129.out) | (go_at_call 65; (with_reducible refine (impl_actOk.calls a1_0 a1_1 a1_2 a1_3 true _ A16.out).mono ?_); rintro e w33 ⟨rfl, hb⟩; replace BK128 := BB BK128.out hb; replace BK129 := BB BK129.out hb; replace BK130 := BB BK130.out hb; replace HB := BS hb; (try clear hb)))
  go_meet
  case rel => exact ⟨_, (false), SD, H', ⟨by first | omega | exact Nat.le_refl _⟩, ⟨BQ BK128.out⟩, ⟨BQ BK129.out⟩, ⟨BQ BK130.out⟩, ⟨BL⟩⟩
 case rest =>
  clear HC4
  try clear c1 c2 p2 c3 c4 c5 c8 c9 c11 c15 c17 c18 c18b0 c19 c20 c23 c27 c28 c31 c34 c35 c37 c38 c41 c42 hcz10_0 hcz12_0 hcz12_1 hcz12_2 hcz12_3 hcz21_0 hcz24_0 hcz24_1 hcz24_2 hcz24_3 hcz26_0 hcz26_1 hcz26_2 hcz26_3 hcz29_0 hcz32_0 hcz32_1 hcz32_2 hcz32_3 hcz36_0 hcz39_0 hcz39_1 hcz39_2 hcz39_3 hcz43_0 hfz10_0 hfz12_0 hfz12_1 hfz12_2 hfz12_3 hfz21_0 hfz24_0 hfz24_1 hfz24_2 hfz24_3 hfz26_0 hfz26_1 hfz26_2 hfz26_3 hfz29_0 hfz32_0 hfz32_1 hfz32_2 hfz32_3 hfz36_0 hfz39_0 hfz39_1 hfz39_2 hfz39_3 hfz43_0
  obtain ⟨kq, x29_3, rfl, HA, HJ3, BK128, BK129, BK130, HB⟩ := hcut; cases kq with
  | zero => exact absurd HA.out (by simp [impl_DoAct.j0])
  | succ kj3 =>
   have H := HA.out; clear HA; simp only [impl_DoAct.j0] at H
   by_cases c45 : x29_3 = true
   ·
    subst c45
    rw [if_pos rfl] at H; simp only [Option.some.injEq, Prod.mk.injEq] at H; obtain ⟨rfl, rfl⟩ := H; obtain ⟨hnb46, hnc46⟩ := NN NB130_128.out; obtain ⟨hnb47, hnc47⟩ := NN NB130_129.out; obtain ⟨hcz48_0, hfz48_0⟩ := KC1 BK130.out
    go_wp2
    refine bodyPost_ret (results_ct rfl _ _ gb130 29 #[.slice none 0 0] (0, 0) _ rfl (BU BK130.out) Try.underlying29 rfl (by kernel_rfl)) rfl ?_; exact ⟨_, EE, by first | exact Kd.R_nil _ _ _ _ _ | exact Kd.N_nil _ _ _ _ _ | exact Kd.V_nil _ _ _ _ _ | exact Kd.Q_nil _ _ _ _ _ | exact Kd.S_nil _ _ _ _ _, BL⟩
   replace c45 := Bool.eq_false_iff.mpr c45; subst c45
   rw [if_neg (show ¬ (false = true) by decide)] at H; have HC49 := Aside0.mk H; clear H; obtain ⟨hnb50, hnc50⟩ := NN NB129_128.out; obtain ⟨hnb51, hnc51⟩ := NN NB129_130.out; obtain ⟨hcz52_0, hcz52_1, hcz52_2, hcz52_3, hfz52_0, hfz52_1, hfz52_2, hfz52_3⟩ := KC4 BK129.out
   go_upto_if 35 with (first | ((with_reducible refine gate_dst (N := 7) rfl ?_); refine bE 7 #[.string (⟨#[]⟩ : ByteArray), .string (⟨#[]⟩ : ByteArray), .int .i64 0] 45 ?_; intro gb134 hg w53 hbox hb; have BK134 := Aside0.mk (hbox); have GW134 : Aside0 (w.heap.size ≤ gb134) := GS; have GE134 := GW134; have NB128_134 := NL BK128.out hg; have NB134_128 := NG BK128.out hg; have NB129_134 := NL BK129.out hg; have NB134_129 := NG BK129.out hg; have NB130_134 := NL BK130.out hg; have NB134_130 := NG BK130.out hg; replace BK128 := BB BK128.out hb; replace BK129 := BB BK129.out hb; replace BK130 := BB BK130.out hb; replace HB := BS hb; clear hb hbox hg; obtain ⟨hnb54, hnc54⟩ := NN NB134_128.out; obtain ⟨hnb55, hnc55⟩ := NN NB134_129.out; obtain ⟨hnb56, hnc56⟩ := NN NB134_130.out; obtain ⟨hcz57_0, hcz57_1, hcz57_2, hfz57_0, hfz57_1, hfz57_2⟩ := KC3 BK134.out))
   (try simp only [Act.put, zA, zB, zC])
   go_cut [] (fun wc => ∃ (kq : Nat) (x135000_48 : ByteArray) (x135001_48 : ByteArray) (x135002_48 : Int), Aside0 (impl_DoAct.j1 kq l0_0 a1_0 a1_1 a1_2 a1_3 x135000_48 x135001_48 x135002_48 = some (r1, r2)) ∧ Aside0 (kq ≤ kj3) ∧ Aside0 (wc.heap[gb128]? = some (.cells #[(.slice A0_0 l0_0.length c0_0)] 29 (0, 0))) ∧ Aside0 (wc.heap[gb129]? = some (.cells #[.int .i64 a1_0, .string a1_1, .string a1_2, .string a1_3] 55 (0, 0))) ∧ Aside0 (wc.heap[gb130]? = some (.cells #[(.slice none 0 0)] 29 (0, 0))) ∧ Aside0 (wc.heap[gb134]? = some (.cells #[.string x135000_48, .string x135001_48, .int .i64 x135002_48] 45 (0, 0))) ∧ Aside0 (Below w.heap.size w wc))
   case first =>
    have H := HC49.out; clear HC49
    by_cases c58 : t131 ≥ 0; rotate_left
    ·
     rw [if_neg c58] at H; have c58b0 : decide (0 ≤ t131) = false := decide_eq_false c58; clear c58
     (first | rw [c58b0] | (simp only [i64_w, i32_w]; rw [c58b0]) | skip)
     have H' := Aside0.mk H; clear H
     go_wp2
     go_meet
     case rel => exact ⟨_, (a1_1), ((⟨#[]⟩ : ByteArray)), (0), H', ⟨by have := HJ3.out; first | omega | exact Nat.le_refl _⟩, ⟨BP BK128.out⟩, ⟨BP BK129.out⟩, ⟨BP BK130.out⟩, ⟨BU BK134.out⟩, ⟨BL⟩⟩
    rw [if_pos c58] at H; have c58b0 : decide (0 ≤ t131) = true := decide_eq_true c58; clear c58
    (first | rw [c58b0] | (simp only [i64_w, i32_w]; rw [c58b0]) | skip)
    by_cases c59 : 0 ≤ t131; rotate_left
    ·
     rw [if_neg c59] at H; exact absurd H (by simp)
    rw [if_pos c59] at H; have c59b0 : decide (0 ≤ t131) = true := decide_eq_true c59; clear c59
    by_cases c60 : t131 < (l0_0.length : Int); rotate_left
    ·
     rw [if_neg c60] at H; exact absurd H (by simp)
    rw [if_pos c60] at H; have c60b0 : decide (t131 < (l0_0.length : Int)) = true := decide_eq_true c60; clear c60; have H' := Aside0.mk H; clear H; obtain ⟨hnb61, hnc61⟩ := NN NB128_129.out; obtain ⟨hnb62, hnc62⟩ := NN NB128_130.out; obtain ⟨hnb63, hnc63⟩ := NN NB128_134.out; obtain ⟨hcz64_0, hfz64_0⟩ := KC1 BK128.out; have p135 : 0 ≤ (t131 : Int) := of_decide_eq_true AS; have q135 : t131 < (l0_0.length : Int) := of_decide_eq_true AS; obtain ⟨ad135, e135, hx135_0, hx135_1, hx135_2⟩ := at_T45 HR0_0.out t131 p135 q135; cases e135; have hn135_0 : ad135.block ≠ gb134 := Nat.ne_of_lt (Nat.lt_of_lt_of_le (by have := World.block_lt_of_cell? _ _ hx135_0; first | rwa [add_block] at this | exact this) GW134.out); have hn135_1 : ad135.block ≠ gb134 := Nat.ne_of_lt (Nat.lt_of_lt_of_le (by have := World.block_lt_of_cell? _ _ hx135_0; first | rwa [add_block] at this | exact this) GW134.out); have hn135_2 : ad135.block ≠ gb134 := Nat.ne_of_lt (Nat.lt_of_lt_of_le (by have := World.block_lt_of_cell? _ _ hx135_0; first | rwa [add_block] at this | exact this) GW134.out); replace hx135_0 := HX hx135_0; replace hx135_1 := HX hx135_1; replace hx135_2 := HX hx135_2; replace hx135_0 := (cell_far (p := ⟨gb134, 0, none⟩) (by first | (rw [add_block]; exact hn135_0) | (show (Addr.add _ _).block ≠ _; rw [add_block]; exact hn135_0) | exact hn135_0) (.string a1_1)).trans hx135_0; replace hx135_1 := (cell_far (p := ⟨gb134, 0, none⟩) (by first | (rw [add_block]; exact hn135_0) | (show (Addr.add _ _).block ≠ _; rw [add_block]; exact hn135_0) | exact hn135_0) (.string a1_1)).trans hx135_1; replace hx135_2 := (cell_far (p := ⟨gb134, 0, none⟩) (by first | (rw [add_block]; exact hn135_0) | (show (Addr.add _ _).block ≠ _; rw [add_block]; exact hn135_0) | exact hn135_0) (.string a1_1)).trans hx135_2; replace hx135_0 := (cell_far (p := ⟨gb134, 1, none⟩) (by first | (rw [add_block]; exact hn135_1) | (show (Addr.add _ _).block ≠ _; rw [add_block]; exact hn135_1) | exact hn135_1) (.string (⟨#[]⟩ : ByteArray))).trans hx135_0; replace hx135_1 := (cell_far (p := ⟨gb134, 1, none⟩) (by first | (rw [add_block]; exact hn135_1) | (show (Addr.add _ _).block ≠ _; rw [add_block]; exact hn135_1) | exact hn135_1) (.string (⟨#[]⟩ : ByteArray))).trans hx135_1; replace hx135_2 := (cell_far (p := ⟨gb134, 1, none⟩) (by first | (rw [add_block]; exact hn135_1) | (show (Addr.add _ _).block ≠ _; rw [add_block]; exact hn135_1) | exact hn135_1) (.string (⟨#[]⟩ : ByteArray))).trans hx135_2; replace hx135_0 := (cell_far (p := ⟨gb134, 2, none⟩) (by first | (rw [add_block]; exact hn135_2) | (show (Addr.add _ _).block ≠ _; rw [add_block]; exact hn135_2) | exact hn135_2) (.int .i64 0)).trans hx135_0; replace hx135_1 := (cell_far (p := ⟨gb134, 2, none⟩) (by first | (rw [add_block]; exact hn135_2) | (show (Addr.add _ _).block ≠ _; rw [add_block]; exact hn135_2) | exact hn135_2) (.int .i64 0)).trans hx135_1; replace hx135_2 := (cell_far (p := ⟨gb134, 2, none⟩) (by first | (rw [add_block]; exact hn135_2) | (show (Addr.add _ _).block ≠ _; rw [add_block]; exact hn135_2) | exact hn135_2) (.int .i64 0)).trans hx135_2; clear hn135_0 hn135_1 hn135_2; replace p135 := eq_true p135; replace q135 := eq_true q135; obtain ⟨hnb65, hnc65⟩ := NN NB134_129.out; obtain ⟨hnb66, hnc66⟩ := NN NB134_130.out; obtain ⟨hcz67_0, hcz67_1, hcz67_2, hfz67_0, hfz67_1, hfz67_2⟩ := KC3 BK134.out
    go_wp2
    go_meet
    case rel => exact ⟨_, ((rd_T45 l0_0 t131).f0), ((rd_T45 l0_0 t131).f1), ((rd_T45 l0_0 t131).f2), H', ⟨by have := HJ3.out; first | omega | exact Nat.le_refl _⟩, ⟨BP BK128.out⟩, ⟨BP BK129.out⟩, ⟨BP BK130.out⟩, ⟨BU BK134.out⟩, ⟨BL⟩⟩
   case rest =>
    clear HC49
    try clear c1 p1 q1 hx1 c2 p2 c3 c4 c5 c6 c8 c9 c11 p13 q13 hx13 c15 c17 c18 c18b0 c19 c20 c23 c27 c28 c31 c34 c35 c37 c38 c41 c42 c45 c46 c47 c50 c51 c54 c55 c56 c58 c58b0 c59 c59b0 c60 c60b0 c61 c62 c63 c65 c66 hcz10_0 hcz12_0 hcz12_1 hcz12_2 hcz12_3 hcz21_0 hcz24_0 hcz24_1 hcz24_2 hcz24_3 hcz26_0 hcz26_1 hcz26_2 hcz26_3 hcz29_0 hcz32_0 hcz32_1 hcz32_2 hcz32_3 hcz36_0 hcz39_0 hcz39_1 hcz39_2 hcz39_3 hcz43_0 hcz48_0 hcz52_0 hcz52_1 hcz52_2 hcz52_3 hcz57_0 hcz57_1 hcz57_2 hcz64_0 hcz67_0 hcz67_1 hcz67_2 hfz10_0 hfz12_0 hfz12_1 hfz12_2 hfz12_3 hfz21_0 hfz24_0 hfz24_1 hfz24_2 hfz24_3 hfz26_0 hfz26_1 hfz26_2 hfz26_3 hfz29_0 hfz32_0 hfz32_1 hfz32_2 hfz32_3 hfz36_0 hfz39_0 hfz39_1 hfz39_2 hfz39_3 hfz43_0 hfz48_0 hfz52_0 hfz52_1 hfz52_2 hfz52_3 hfz57_0 hfz57_1 hfz57_2 hfz64_0 hfz67_0 hfz67_1 hfz67_2 hx135_0 hx135_1 hx135_2 p135 p2 q135
    obtain ⟨kq, x135000_48, x135001_48, x135002_48, HA, HJ48, BK128, BK129, BK130, BK134, HB⟩ := hcut; cases kq with
    | zero => exact absurd HA.out (by simp [impl_DoAct.j1])
    | succ kj48 =>
     have H := HA.out; clear HA; simp only [impl_DoAct.j1] at H
     by_cases c68 : a1_0 = 1
     ·
      rw [if_pos c68] at H; have c68b0 : (a1_0 == 1) = true := beq_iff_eq.mpr c68; have c68b1 : (a1_0 != 1) = false := bne_eq_false_iff_eq.mpr c68; clear c68
      by_cases c69 : x135001_48.size + a1_2.size ≤ 9223372036854775807; rotate_left
      ·
       rw [if_neg c69] at H; exact absurd H (by simp)
      rw [if_pos c69] at H; have c69b0 := eq_true c69; have c69b1 : decide (x135001_48.size + a1_2.size ≤ 9223372036854775807) = true := decide_eq_true c69
      try have c69b2 : (9223372036854775807 < x135001_48.size + a1_2.size) = False := eq_false (Nat.not_lt.2 c69)
      replace H := Option.bind_eq_some_iff.mp H; obtain ⟨t137, A700, H⟩ := H; have A70 := Aside0.mk A700; clear A700; replace H := Option.bind_eq_some_iff.mp H; obtain ⟨t140, A710, H⟩ := H; have A71 := Aside0.mk A710; clear A710
      by_cases c72 : t140 = true
      ·
       subst c72
       rw [if_pos rfl] at H; simp only [Option.some.injEq, Prod.mk.injEq] at H; obtain ⟨rfl, rfl⟩ := H
       go_wp2_with (first | ((with_reducible refine gate_dst (N := 8) rfl ?_); refine bE 8 #[.slice none 0 0] 29 ?_; intro gb136 hg w73 hbox hb; have BK136 := Aside0.mk (hbox); have GW136 : Aside0 (w.heap.size ≤ gb136) := GS; have GE136 := GW136; have NB128_136 := NL BK128.out hg; have NB136_128 := NG BK128.out hg; have NB129_136 := NL BK129.out hg; have NB136_129 := NG BK129.out hg; have NB130_136 := NL BK130.out hg; have NB136_130 := NG BK130.out hg; have NB134_136 := NL BK134.out hg; have NB136_134 := NG BK134.out hg; replace BK128 := BB BK128.out hb; replace BK129 := BB BK129.out hb; replace BK130 := BB BK130.out hb; replace BK134 := BB BK134.out hb; replace HB := BS hb; clear hb hbox hg; obtain ⟨hnb74, hnc74⟩ := NN NB136_128.out; obtain ⟨hnb75, hnc75⟩ := NN NB136_129.out; obtain ⟨hnb76, hnc76⟩ := NN NB136_130.out; obtain ⟨hnb77, hnc77⟩ := NN NB136_134.out; obtain ⟨hcz78_0, hfz78_0⟩ := KC1 BK136.out; obtain ⟨hnb79, hnc79⟩ := NN NB129_128.out; obtain ⟨hnb80, hnc80⟩ := NN NB129_130.out; obtain ⟨hnb81, hnc81⟩ := NN NB129_134.out; obtain ⟨hcz82_0, hcz82_1, hcz82_2, hcz82_3, hfz82_0, hfz82_1, hfz82_2, hfz82_3⟩ := KC4 BK129.out; obtain ⟨hnb83, hnc83⟩ := NN NB134_128.out; obtain ⟨hnb84, hnc84⟩ := NN NB134_130.out; obtain ⟨hcz85_0, hcz85_1, hcz85_2, hfz85_0, hfz85_1, hfz85_2⟩ := KC3 BK134.out; obtain ⟨hnb86, hnc86⟩ := NN NB128_130.out; obtain ⟨hcz87_0, hfz87_0⟩ := KC1 BK128.out) | ((with_reducible refine gate_callee (f := 66) rfl ?_); refine goesL_ (some 58) rfl rfl Try.func66 (by kernel_rfl) rfl #[.agg #[.slice A0_0 l0_0.length c0_0], .agg #[.string x135000_48, .string (x135001_48 ++ a1_2), .int .i64 x135002_48]] rfl (MA) ?_; (with_reducible refine (impl_withFile.calls _ _ l0_0 x135000_48 (x135001_48 ++ a1_2) x135002_48 t137 _ ?side1 ?side2 A70.out).mono ?_); (case side1 => exact Kd.C_below HR0_0.out (BL)); (case side2 => exact HC0_0.out); rintro e w88 ⟨v138, rfl, ho0, hb⟩; refine ⟨_, rfl, ?_⟩; have HO139 := Aside0.mk (Kd.R_lower (Kd.R_newB ho0 (g := gb134) (o := .cells #[.string x135000_48, .string (x135001_48 ++ a1_2), .int .i64 x135002_48] 45 (0, 0)) (BU BK134.out)) (below_size (BL))); replace BK128 := BX BK128.out hb; replace BK129 := BX BK129.out hb; replace BK130 := BX BK130.out hb; replace BK134 := Aside0.mk (blk_below (g := gb134) (o := .cells #[.string x135000_48, .string (x135001_48 ++ a1_2), .int .i64 x135002_48] 45 (0, 0)) (BU BK134.out) hb); replace BK136 := Aside0.mk (blk_below (g := gb136) (o := .cells #[.slice none 0 0] 29 (0, 0)) (BU BK136.out) hb); replace HB := BS hb; (try clear hb); (try clear ho0); obtain ⟨Ao89, co89, eo89⟩ := Kd.R_slice HO139.out; subst eo89; obtain ⟨hcz90_0, hfz90_0⟩ := KC1 BK136.out) | ((with_reducible refine gate_callee (f := 15) rfl ?_); refine goesL_ (some 94) rfl rfl Try.func15 (by kernel_rfl) rfl #[.agg #[.slice Ao89 t137.length co89]] rfl (MA) ?_; (with_reducible refine (impl_DiskOk.calls kj48 _ _ t137 true _ ?side1 ?side2 A71.out).mono ?_); (case side1 => refine (Kd.R_reads' (e := 45) (base := w.heap.size) (ok := fun k_ => (True ∧ k_ ≠ gb134)) (n := t137.length) (c := co89) ?_).2.2; exact (RF HO139.out BK136.out)); (case side2 => exact (Kd.R_reads' HO139.out).2.1); rintro e w91 ⟨rfl, hb⟩; refine ⟨_, rfl, ?_⟩; replace HO139 := Aside0.mk (Kd.R_below (RF HO139.out BK136.out) hb); replace BK128 := BX BK128.out hb; replace BK129 := BX BK129.out hb; replace BK130 := BX BK130.out hb; replace BK134 := BX BK134.out hb; replace BK136 := Aside0.mk (blk_below (g := gb136) (o := .cells #[.slice Ao89 t137.length co89] 29 (0, 0)) (BU BK136.out) hb); replace HB := BS hb; (try clear hb); obtain ⟨hcz92_0, hfz92_0⟩ := KC1 BK136.out; obtain ⟨hcz93_0, hfz93_0⟩ := KC1 BK130.out))
       refine bodyPost_ret (results_ct rfl _ _ gb130 29 #[.slice Ao89 t137.length co89] (0, 0) _ rfl (BU BK130.out) Try.underlying29 rfl (by kernel_rfl)) rfl ?_; exact ⟨_, EE, by (with_reducible repeat (first | apply r1 | apply r2 | apply r3)); exact Kd.R_mono (Kd.R_far (p := ⟨gb130, 0, none⟩) (Kd.R_types HO139.out BK130.out (by decide)) (fun _ hk => hk.2) (.slice Ao89 t137.length co89)) (fun _ hk => trivial), BL⟩
      replace c72 := Bool.eq_false_iff.mpr c72; subst c72
      rw [if_neg (show ¬ (false = true) by decide)] at H; simp only [Option.some.injEq, Prod.mk.injEq] at H; obtain ⟨rfl, rfl⟩ := H
      go_wp2_with (first | ((with_reducible refine gate_dst (N := 8) rfl ?_); refine bE 8 #[.slice none 0 0] 29 ?_; intro gb136 hg w94 hbox hb; have BK136 := Aside0.mk (hbox); have GW136 : Aside0 (w.heap.size ≤ gb136) := GS; have GE136 := GW136; have NB128_136 := NL BK128.out hg; have NB136_128 := NG BK128.out hg; have NB129_136 := NL BK129.out hg; have NB136_129 := NG BK129.out hg; have NB130_136 := NL BK130.out hg; have NB136_130 := NG BK130.out hg; have NB134_136 := NL BK134.out hg; have NB136_134 := NG BK134.out hg; replace BK128 := BB BK128.out hb; replace BK129 := BB BK129.out hb; replace BK130 := BB BK130.out hb; replace BK134 := BB BK134.out hb; replace HB := BS hb; clear hb hbox hg; obtain ⟨hnb95, hnc95⟩ := NN NB136_128.out; obtain ⟨hnb96, hnc96⟩ := NN NB136_129.out; obtain ⟨hnb97, hnc97⟩ := NN NB136_130.out; obtain ⟨hnb98, hnc98⟩ := NN NB136_134.out; obtain ⟨hcz99_0, hfz99_0⟩ := KC1 BK136.out; obtain ⟨hnb100, hnc100⟩ := NN NB129_128.out; obtain ⟨hnb101, hnc101⟩ := NN NB129_130.out; obtain ⟨hnb102, hnc102⟩ := NN NB129_134.out; obtain ⟨hcz103_0, hcz103_1, hcz103_2, hcz103_3, hfz103_0, hfz103_1, hfz103_2, hfz103_3⟩ := KC4 BK129.out; obtain ⟨hnb104, hnc104⟩ := NN NB134_128.out; obtain ⟨hnb105, hnc105⟩ := NN NB134_130.out; obtain ⟨hcz106_0, hcz106_1, hcz106_2, hfz106_0, hfz106_1, hfz106_2⟩ := KC3 BK134.out; obtain ⟨hnb107, hnc107⟩ := NN NB128_130.out; obtain ⟨hcz108_0, hfz108_0⟩ := KC1 BK128.out) | ((with_reducible refine gate_callee (f := 66) rfl ?_); refine goesL_ (some 58) rfl rfl Try.func66 (by kernel_rfl) rfl #[.agg #[.slice A0_0 l0_0.length c0_0], .agg #[.string x135000_48, .string (x135001_48 ++ a1_2), .int .i64 x135002_48]] rfl (MA) ?_; (with_reducible refine (impl_withFile.calls _ _ l0_0 x135000_48 (x135001_48 ++ a1_2) x135002_48 t137 _ ?side1 ?side2 A70.out).mono ?_); (case side1 => exact Kd.C_below HR0_0.out (BL)); (case side2 => exact HC0_0.out); rintro e w109 ⟨v138, rfl, ho0, hb⟩; refine ⟨_, rfl, ?_⟩; have HO139 := Aside0.mk (Kd.R_lower (Kd.R_newB ho0 (g := gb134) (o := .cells #[.string x135000_48, .string (x135001_48 ++ a1_2), .int .i64 x135002_48] 45 (0, 0)) (BU BK134.out)) (below_size (BL))); replace BK128 := BX BK128.out hb; replace BK129 := BX BK129.out hb; replace BK130 := BX BK130.out hb; replace BK134 := Aside0.mk (blk_below (g := gb134) (o := .cells #[.string x135000_48, .string (x135001_48 ++ a1_2), .int .i64 x135002_48] 45 (0, 0)) (BU BK134.out) hb); replace BK136 := Aside0.mk (blk_below (g := gb136) (o := .cells #[.slice none 0 0] 29 (0, 0)) (BU BK136.out) hb); replace HB := BS hb; (try clear hb); (try clear ho0); obtain ⟨Ao110, co110, eo110⟩ := Kd.R_slice HO139.out; subst eo110; obtain ⟨hcz111_0, hfz111_0⟩ := KC1 BK136.out) | ((with_reducible refine gate_callee (f := 15) rfl ?_); refine goesL_ (some 94) rfl rfl Try.func15 (by kernel_rfl) rfl #[.agg #[.slice Ao110 t137.length co110]] rfl (MA) ?_; (with_reducible refine (impl_DiskOk.calls kj48 _ _ t137 false _ ?side1 ?side2 A71.out).mono ?_); (case side1 => refine (Kd.R_reads' (e := 45) (base := w.heap.size) (ok := fun k_ => (True ∧ k_ ≠ gb134)) (n := t137.length) (c := co110) ?_).2.2; exact (RF HO139.out BK136.out)); (case side2 => exact (Kd.R_reads' HO139.out).2.1); rintro e w112 ⟨rfl, hb⟩; refine ⟨_, rfl, ?_⟩; replace HO139 := Aside0.mk (Kd.R_below (RF HO139.out BK136.out) hb); replace BK128 := BX BK128.out hb; replace BK129 := BX BK129.out hb; replace BK130 := BX BK130.out hb; replace BK134 := BX BK134.out hb; replace BK136 := Aside0.mk (blk_below (g := gb136) (o := .cells #[.slice Ao110 t137.length co110] 29 (0, 0)) (BU BK136.out) hb); replace HB := BS hb; (try clear hb); obtain ⟨hcz113_0, hfz113_0⟩ := KC1 BK130.out))
      refine bodyPost_ret (results_ct rfl _ _ gb130 29 #[.slice none 0 0] (0, 0) _ rfl (BU BK130.out) Try.underlying29 rfl (by kernel_rfl)) rfl ?_; exact ⟨_, EE, by first | exact Kd.R_nil _ _ _ _ _ | exact Kd.N_nil _ _ _ _ _ | exact Kd.V_nil _ _ _ _ _ | exact Kd.Q_nil _ _ _ _ _ | exact Kd.S_nil _ _ _ _ _, BL⟩
     rw [if_neg c68] at H; have c68b0 : (a1_0 == 1) = false := beq_eq_false_iff_ne.mpr c68; have c68b1 : (a1_0 != 1) = true := bne_iff_ne.mpr c68
     by_cases c114 : a1_0 = 2
     ·
      rw [if_pos c114] at H; have c114b0 : (a1_0 == 2) = true := beq_iff_eq.mpr c114; have c114b1 : (a1_0 != 2) = false := bne_eq_false_iff_eq.mpr c114; clear c114; replace H := Option.bind_eq_some_iff.mp H; obtain ⟨t141, A1150, H⟩ := H; have A115 := Aside0.mk A1150; clear A1150; replace H := Option.bind_eq_some_iff.mp H; obtain ⟨t144, A1160, H⟩ := H; have A116 := Aside0.mk A1160; clear A1160
      by_cases c117 : t144 = true
      ·
       subst c117
       rw [if_pos rfl] at H; simp only [Option.some.injEq, Prod.mk.injEq] at H; obtain ⟨rfl, rfl⟩ := H
       go_wp2_with (first | ((with_reducible refine gate_dst (N := 8) rfl ?_); refine bE 8 #[.slice none 0 0] 29 ?_; intro gb136 hg w118 hbox hb; have BK136 := Aside0.mk (hbox); have GW136 : Aside0 (w.heap.size ≤ gb136) := GS; have GE136 := GW136; have NB128_136 := NL BK128.out hg; have NB136_128 := NG BK128.out hg; have NB129_136 := NL BK129.out hg; have NB136_129 := NG BK129.out hg; have NB130_136 := NL BK130.out hg; have NB136_130 := NG BK130.out hg; have NB134_136 := NL BK134.out hg; have NB136_134 := NG BK134.out hg; replace BK128 := BB BK128.out hb; replace BK129 := BB BK129.out hb; replace BK130 := BB BK130.out hb; replace BK134 := BB BK134.out hb; replace HB := BS hb; clear hb hbox hg; obtain ⟨hnb119, hnc119⟩ := NN NB136_128.out; obtain ⟨hnb120, hnc120⟩ := NN NB136_129.out; obtain ⟨hnb121, hnc121⟩ := NN NB136_130.out; obtain ⟨hnb122, hnc122⟩ := NN NB136_134.out; obtain ⟨hcz123_0, hfz123_0⟩ := KC1 BK136.out; obtain ⟨hnb124, hnc124⟩ := NN NB129_128.out; obtain ⟨hnb125, hnc125⟩ := NN NB129_130.out; obtain ⟨hnb126, hnc126⟩ := NN NB129_134.out; obtain ⟨hcz127_0, hcz127_1, hcz127_2, hcz127_3, hfz127_0, hfz127_1, hfz127_2, hfz127_3⟩ := KC4 BK129.out; obtain ⟨hnb128, hnc128⟩ := NN NB134_128.out; obtain ⟨hnb129, hnc129⟩ := NN NB134_130.out; obtain ⟨hcz130_0, hcz130_1, hcz130_2, hfz130_0, hfz130_1, hfz130_2⟩ := KC3 BK134.out; obtain ⟨hnb131, hnc131⟩ := NN NB128_130.out; obtain ⟨hcz132_0, hfz132_0⟩ := KC1 BK128.out) | ((with_reducible refine gate_callee (f := 66) rfl ?_); refine goesL_ (some 67) rfl rfl Try.func66 (by kernel_rfl) rfl #[.agg #[.slice A0_0 l0_0.length c0_0], .agg #[.string x135000_48, .string x135001_48, .int .i64 (x135001_48.size : Int)]] rfl (MA) ?_; (with_reducible refine (impl_withFile.calls _ _ l0_0 x135000_48 x135001_48 (x135001_48.size : Int) t141 _ ?side1 ?side2 A115.out).mono ?_); (case side1 => exact Kd.C_below HR0_0.out (BL)); (case side2 => exact HC0_0.out); rintro e w133 ⟨v142, rfl, ho0, hb⟩; refine ⟨_, rfl, ?_⟩; have HO143 := Aside0.mk (Kd.R_lower (Kd.R_newB ho0 (g := gb134) (o := .cells #[.string x135000_48, .string x135001_48, .int .i64 (x135001_48.size : Int)] 45 (0, 0)) (BU BK134.out)) (below_size (BL))); replace BK128 := BX BK128.out hb; replace BK129 := BX BK129.out hb; replace BK130 := BX BK130.out hb; replace BK134 := Aside0.mk (blk_below (g := gb134) (o := .cells #[.string x135000_48, .string x135001_48, .int .i64 (x135001_48.size : Int)] 45 (0, 0)) (BU BK134.out) hb); replace BK136 := Aside0.mk (blk_below (g := gb136) (o := .cells #[.slice none 0 0] 29 (0, 0)) (BU BK136.out) hb); replace HB := BS hb; (try clear hb); (try clear ho0); obtain ⟨Ao134, co134, eo134⟩ := Kd.R_slice HO143.out; subst eo134; obtain ⟨hcz135_0, hfz135_0⟩ := KC1 BK136.out) | ((with_reducible refine gate_callee (f := 15) rfl ?_); refine goesL_ (some 94) rfl rfl Try.func15 (by kernel_rfl) rfl #[.agg #[.slice Ao134 t141.length co134]] rfl (MA) ?_; (with_reducible refine (impl_DiskOk.calls kj48 _ _ t141 true _ ?side1 ?side2 A116.out).mono ?_); (case side1 => refine (Kd.R_reads' (e := 45) (base := w.heap.size) (ok := fun k_ => (True ∧ k_ ≠ gb134)) (n := t141.length) (c := co134) ?_).2.2; exact (RF HO143.out BK136.out)); (case side2 => exact (Kd.R_reads' HO143.out).2.1); rintro e w136 ⟨rfl, hb⟩; refine ⟨_, rfl, ?_⟩; replace HO143 := Aside0.mk (Kd.R_below (RF HO143.out BK136.out) hb); replace BK128 := BX BK128.out hb; replace BK129 := BX BK129.out hb; replace BK130 := BX BK130.out hb; replace BK134 := BX BK134.out hb; replace BK136 := Aside0.mk (blk_below (g := gb136) (o := .cells #[.slice Ao134 t141.length co134] 29 (0, 0)) (BU BK136.out) hb); replace HB := BS hb; (try clear hb); obtain ⟨hcz137_0, hfz137_0⟩ := KC1 BK136.out; obtain ⟨hcz138_0, hfz138_0⟩ := KC1 BK130.out))
       refine bodyPost_ret (results_ct rfl _ _ gb130 29 #[.slice Ao134 t141.length co134] (0, 0) _ rfl (BU BK130.out) Try.underlying29 rfl (by kernel_rfl)) rfl ?_; exact ⟨_, EE, by (with_reducible repeat (first | apply r1 | apply r2 | apply r3)); exact Kd.R_mono (Kd.R_far (p := ⟨gb130, 0, none⟩) (Kd.R_types HO143.out BK130.out (by decide)) (fun _ hk => hk.2) (.slice Ao134 t141.length co134)) (fun _ hk => trivial), BL⟩
      replace c117 := Bool.eq_false_iff.mpr c117; subst c117
      rw [if_neg (show ¬ (false = true) by decide)] at H; simp only [Option.some.injEq, Prod.mk.injEq] at H; obtain ⟨rfl, rfl⟩ := H
      go_wp2_with (first | ((with_reducible refine gate_dst (N := 8) rfl ?_); refine bE 8 #[.slice none 0 0] 29 ?_; intro gb136 hg w139 hbox hb; have BK136 := Aside0.mk (hbox); have GW136 : Aside0 (w.heap.size ≤ gb136) := GS; have GE136 := GW136; have NB128_136 := NL BK128.out hg; have NB136_128 := NG BK128.out hg; have NB129_136 := NL BK129.out hg; have NB136_129 := NG BK129.out hg; have NB130_136 := NL BK130.out hg; have NB136_130 := NG BK130.out hg; have NB134_136 := NL BK134.out hg; have NB136_134 := NG BK134.out hg; replace BK128 := BB BK128.out hb; replace BK129 := BB BK129.out hb; replace BK130 := BB BK130.out hb; replace BK134 := BB BK134.out hb; replace HB := BS hb; clear hb hbox hg; obtain ⟨hnb140, hnc140⟩ := NN NB136_128.out; obtain ⟨hnb141, hnc141⟩ := NN NB136_129.out; obtain ⟨hnb142, hnc142⟩ := NN NB136_130.out; obtain ⟨hnb143, hnc143⟩ := NN NB136_134.out; obtain ⟨hcz144_0, hfz144_0⟩ := KC1 BK136.out; obtain ⟨hnb145, hnc145⟩ := NN NB129_128.out; obtain ⟨hnb146, hnc146⟩ := NN NB129_130.out; obtain ⟨hnb147, hnc147⟩ := NN NB129_134.out; obtain ⟨hcz148_0, hcz148_1, hcz148_2, hcz148_3, hfz148_0, hfz148_1, hfz148_2, hfz148_3⟩ := KC4 BK129.out; obtain ⟨hnb149, hnc149⟩ := NN NB134_128.out; obtain ⟨hnb150, hnc150⟩ := NN NB134_130.out; obtain ⟨hcz151_0, hcz151_1, hcz151_2, hfz151_0, hfz151_1, hfz151_2⟩ := KC3 BK134.out; obtain ⟨hnb152, hnc152⟩ := NN NB128_130.out; obtain ⟨hcz153_0, hfz153_0⟩ := KC1 BK128.out) | ((with_reducible refine gate_callee (f := 66) rfl ?_); refine goesL_ (some 67) rfl rfl Try.func66 (by kernel_rfl) rfl #[.agg #[.slice A0_0 l0_0.length c0_0], .agg #[.string x135000_48, .string x135001_48, .int .i64 (x135001_48.size : Int)]] rfl (MA) ?_; (with_reducible refine (impl_withFile.calls _ _ l0_0 x135000_48 x135001_48 (x135001_48.size : Int) t141 _ ?side1 ?side2 A115.out).mono ?_); (case side1 => exact Kd.C_below HR0_0.out (BL)); (case side2 => exact HC0_0.out); rintro e w154 ⟨v142, rfl, ho0, hb⟩; refine ⟨_, rfl, ?_⟩; have HO143 := Aside0.mk (Kd.R_lower (Kd.R_newB ho0 (g := gb134) (o := .cells #[.string x135000_48, .string x135001_48, .int .i64 (x135001_48.size : Int)] 45 (0, 0)) (BU BK134.out)) (below_size (BL))); replace BK128 := BX BK128.out hb; replace BK129 := BX BK129.out hb; replace BK130 := BX BK130.out hb; replace BK134 := Aside0.mk (blk_below (g := gb134) (o := .cells #[.string x135000_48, .string x135001_48, .int .i64 (x135001_48.size : Int)] 45 (0, 0)) (BU BK134.out) hb); replace BK136 := Aside0.mk (blk_below (g := gb136) (o := .cells #[.slice none 0 0] 29 (0, 0)) (BU BK136.out) hb); replace HB := BS hb; (try clear hb); (try clear ho0); obtain ⟨Ao155, co155, eo155⟩ := Kd.R_slice HO143.out; subst eo155; obtain ⟨hcz156_0, hfz156_0⟩ := KC1 BK136.out) | ((with_reducible refine gate_callee (f := 15) rfl ?_); refine goesL_ (some 94) rfl rfl Try.func15 (by kernel_rfl) rfl #[.agg #[.slice Ao155 t141.length co155]] rfl (MA) ?_; (with_reducible refine (impl_DiskOk.calls kj48 _ _ t141 false _ ?side1 ?side2 A116.out).mono ?_); (case side1 => refine (Kd.R_reads' (e := 45) (base := w.heap.size) (ok := fun k_ => (True ∧ k_ ≠ gb134)) (n := t141.length) (c := co155) ?_).2.2; exact (RF HO143.out BK136.out)); (case side2 => exact (Kd.R_reads' HO143.out).2.1); rintro e w157 ⟨rfl, hb⟩; refine ⟨_, rfl, ?_⟩; replace HO143 := Aside0.mk (Kd.R_below (RF HO143.out BK136.out) hb); replace BK128 := BX BK128.out hb; replace BK129 := BX BK129.out hb; replace BK130 := BX BK130.out hb; replace BK134 := BX BK134.out hb; replace BK136 := Aside0.mk (blk_below (g := gb136) (o := .cells #[.slice Ao155 t141.length co155] 29 (0, 0)) (BU BK136.out) hb); replace HB := BS hb; (try clear hb); obtain ⟨hcz158_0, hfz158_0⟩ := KC1 BK130.out))
      refine bodyPost_ret (results_ct rfl _ _ gb130 29 #[.slice none 0 0] (0, 0) _ rfl (BU BK130.out) Try.underlying29 rfl (by kernel_rfl)) rfl ?_; exact ⟨_, EE, by first | exact Kd.R_nil _ _ _ _ _ | exact Kd.N_nil _ _ _ _ _ | exact Kd.V_nil _ _ _ _ _ | exact Kd.Q_nil _ _ _ _ _ | exact Kd.S_nil _ _ _ _ _, BL⟩
     rw [if_neg c114] at H; have c114b0 : (a1_0 == 2) = false := beq_eq_false_iff_ne.mpr c114; have c114b1 : (a1_0 != 2) = true := bne_iff_ne.mpr c114
     by_cases c159 : a1_0 = 3; rotate_left
     ·
      rw [if_neg c159] at H; have c159b0 : (a1_0 == 3) = false := beq_eq_false_iff_ne.mpr c159; have c159b1 : (a1_0 != 3) = true := bne_iff_ne.mpr c159; replace H := Option.bind_eq_some_iff.mp H; obtain ⟨t152, A2410, H⟩ := H; have A241 := Aside0.mk A2410; clear A2410; replace H := Option.bind_eq_some_iff.mp H; obtain ⟨t155, A2420, H⟩ := H; have A242 := Aside0.mk A2420; clear A2420
      by_cases c243 : t155 = true
      ·
       subst c243
       rw [if_pos rfl] at H; simp only [Option.some.injEq, Prod.mk.injEq] at H; obtain ⟨rfl, rfl⟩ := H
       go_wp2_with (first | ((with_reducible refine gate_dst (N := 8) rfl ?_); refine bE 8 #[.slice none 0 0] 29 ?_; intro gb136 hg w244 hbox hb; have BK136 := Aside0.mk (hbox); have GW136 : Aside0 (w.heap.size ≤ gb136) := GS; have GE136 := GW136; have NB128_136 := NL BK128.out hg; have NB136_128 := NG BK128.out hg; have NB129_136 := NL BK129.out hg; have NB136_129 := NG BK129.out hg; have NB130_136 := NL BK130.out hg; have NB136_130 := NG BK130.out hg; have NB134_136 := NL BK134.out hg; have NB136_134 := NG BK134.out hg; replace BK128 := BB BK128.out hb; replace BK129 := BB BK129.out hb; replace BK130 := BB BK130.out hb; replace BK134 := BB BK134.out hb; replace HB := BS hb; clear hb hbox hg; obtain ⟨hnb245, hnc245⟩ := NN NB136_128.out; obtain ⟨hnb246, hnc246⟩ := NN NB136_129.out; obtain ⟨hnb247, hnc247⟩ := NN NB136_130.out; obtain ⟨hnb248, hnc248⟩ := NN NB136_134.out; obtain ⟨hcz249_0, hfz249_0⟩ := KC1 BK136.out; obtain ⟨hnb250, hnc250⟩ := NN NB129_128.out; obtain ⟨hnb251, hnc251⟩ := NN NB129_130.out; obtain ⟨hnb252, hnc252⟩ := NN NB129_134.out; obtain ⟨hcz253_0, hcz253_1, hcz253_2, hcz253_3, hfz253_0, hfz253_1, hfz253_2, hfz253_3⟩ := KC4 BK129.out; obtain ⟨hnb254, hnc254⟩ := NN NB128_130.out; obtain ⟨hnb255, hnc255⟩ := NN NB128_134.out; obtain ⟨hcz256_0, hfz256_0⟩ := KC1 BK128.out) | ((with_reducible refine gate_callee (f := 67) rfl ?_); refine goesL_ (some 47) rfl rfl Try.func67 (by kernel_rfl) rfl #[.agg #[.slice A0_0 l0_0.length c0_0], .string a1_1] rfl (MA) ?_; (with_reducible refine (impl_withoutFile.calls _ _ l0_0 a1_1 t152 _ ?side1 ?side2 A241.out).mono ?_); (case side1 => exact Kd.C_below HR0_0.out (BL)); (case side2 => exact HC0_0.out); rintro e w257 ⟨v153, rfl, ho0, hb⟩; refine ⟨_, rfl, ?_⟩; have HO154 := Aside0.mk (Kd.R_lower (Kd.R_newB ho0 (g := gb134) (o := .cells #[.string x135000_48, .string x135001_48, .int .i64 x135002_48] 45 (0, 0)) (BP BK134.out)) (below_size (BL))); replace BK128 := BX BK128.out hb; replace BK129 := BX BK129.out hb; replace BK130 := BX BK130.out hb; replace BK134 := BX BK134.out hb; replace BK136 := Aside0.mk (blk_below (g := gb136) (o := .cells #[.slice none 0 0] 29 (0, 0)) (BU BK136.out) hb); replace HB := BS hb; (try clear hb); (try clear ho0); obtain ⟨Ao258, co258, eo258⟩ := Kd.R_slice HO154.out; subst eo258; obtain ⟨hcz259_0, hfz259_0⟩ := KC1 BK136.out) | ((with_reducible refine gate_callee (f := 15) rfl ?_); refine goesL_ (some 94) rfl rfl Try.func15 (by kernel_rfl) rfl #[.agg #[.slice Ao258 t152.length co258]] rfl (MA) ?_; (with_reducible refine (impl_DiskOk.calls kj48 _ _ t152 true _ ?side1 ?side2 A242.out).mono ?_); (case side1 => refine (Kd.R_reads' (e := 45) (base := w.heap.size) (ok := fun k_ => (True ∧ k_ ≠ gb134)) (n := t152.length) (c := co258) ?_).2.2; exact (RF HO154.out BK136.out)); (case side2 => exact (Kd.R_reads' HO154.out).2.1); rintro e w260 ⟨rfl, hb⟩; refine ⟨_, rfl, ?_⟩; replace HO154 := Aside0.mk (Kd.R_below (RF HO154.out BK136.out) hb); replace BK128 := BX BK128.out hb; replace BK129 := BX BK129.out hb; replace BK130 := BX BK130.out hb; replace BK134 := BX BK134.out hb; replace BK136 := Aside0.mk (blk_below (g := gb136) (o := .cells #[.slice Ao258 t152.length co258] 29 (0, 0)) (BU BK136.out) hb); replace HB := BS hb; (try clear hb); obtain ⟨hcz261_0, hfz261_0⟩ := KC1 BK136.out; obtain ⟨hnb262, hnc262⟩ := NN NB130_134.out; obtain ⟨hcz263_0, hfz263_0⟩ := KC1 BK130.out))
       refine bodyPost_ret (results_ct rfl _ _ gb130 29 #[.slice Ao258 t152.length co258] (0, 0) _ rfl (BU BK130.out) Try.underlying29 rfl (by kernel_rfl)) rfl ?_; exact ⟨_, EE, by (with_reducible repeat (first | apply r1 | apply r2 | apply r3)); exact Kd.R_mono (Kd.R_far (p := ⟨gb130, 0, none⟩) (Kd.R_types HO154.out BK130.out (by decide)) (fun _ hk => hk.2) (.slice Ao258 t152.length co258)) (fun _ hk => trivial), BL⟩
      replace c243 := Bool.eq_false_iff.mpr c243; subst c243
      rw [if_neg (show ¬ (false = true) by decide)] at H; simp only [Option.some.injEq, Prod.mk.injEq] at H; obtain ⟨rfl, rfl⟩ := H
      go_wp2_with (first | ((with_reducible refine gate_dst (N := 8) rfl ?_); refine bE 8 #[.slice none 0 0] 29 ?_; intro gb136 hg w264 hbox hb; have BK136 := Aside0.mk (hbox); have GW136 : Aside0 (w.heap.size ≤ gb136) := GS; have GE136 := GW136; have NB128_136 := NL BK128.out hg; have NB136_128 := NG BK128.out hg; have NB129_136 := NL BK129.out hg; have NB136_129 := NG BK129.out hg; have NB130_136 := NL BK130.out hg; have NB136_130 := NG BK130.out hg; have NB134_136 := NL BK134.out hg; have NB136_134 := NG BK134.out hg; replace BK128 := BB BK128.out hb; replace BK129 := BB BK129.out hb; replace BK130 := BB BK130.out hb; replace BK134 := BB BK134.out hb; replace HB := BS hb; clear hb hbox hg; obtain ⟨hnb265, hnc265⟩ := NN NB136_128.out; obtain ⟨hnb266, hnc266⟩ := NN NB136_129.out; obtain ⟨hnb267, hnc267⟩ := NN NB136_130.out; obtain ⟨hnb268, hnc268⟩ := NN NB136_134.out; obtain ⟨hcz269_0, hfz269_0⟩ := KC1 BK136.out; obtain ⟨hnb270, hnc270⟩ := NN NB129_128.out; obtain ⟨hnb271, hnc271⟩ := NN NB129_130.out; obtain ⟨hnb272, hnc272⟩ := NN NB129_134.out; obtain ⟨hcz273_0, hcz273_1, hcz273_2, hcz273_3, hfz273_0, hfz273_1, hfz273_2, hfz273_3⟩ := KC4 BK129.out; obtain ⟨hnb274, hnc274⟩ := NN NB128_130.out; obtain ⟨hnb275, hnc275⟩ := NN NB128_134.out; obtain ⟨hcz276_0, hfz276_0⟩ := KC1 BK128.out) | ((with_reducible refine gate_callee (f := 67) rfl ?_); refine goesL_ (some 47) rfl rfl Try.func67 (by kernel_rfl) rfl #[.agg #[.slice A0_0 l0_0.length c0_0], .string a1_1] rfl (MA) ?_; (with_reducible refine (impl_withoutFile.calls _ _ l0_0 a1_1 t152 _ ?side1 ?side2 A241.out).mono ?_); (case side1 => exact Kd.C_below HR0_0.out (BL)); (case side2 => exact HC0_0.out); rintro e w277 ⟨v153, rfl, ho0, hb⟩; refine ⟨_, rfl, ?_⟩; have HO154 := Aside0.mk (Kd.R_lower (Kd.R_newB ho0 (g := gb134) (o := .cells #[.string x135000_48, .string x135001_48, .int .i64 x135002_48] 45 (0, 0)) (BP BK134.out)) (below_size (BL))); replace BK128 := BX BK128.out hb; replace BK129 := BX BK129.out hb; replace BK130 := BX BK130.out hb; replace BK134 := BX BK134.out hb; replace BK136 := Aside0.mk (blk_below (g := gb136) (o := .cells #[.slice none 0 0] 29 (0, 0)) (BU BK136.out) hb); replace HB := BS hb; (try clear hb); (try clear ho0); obtain ⟨Ao278, co278, eo278⟩ := Kd.R_slice HO154.out; subst eo278; obtain ⟨hcz279_0, hfz279_0⟩ := KC1 BK136.out) | ((with_reducible refine gate_callee (f := 15) rfl ?_); refine goesL_ (some 94) rfl rfl Try.func15 (by kernel_rfl) rfl #[.agg #[.slice Ao278 t152.length co278]] rfl (MA) ?_; (with_reducible refine (impl_DiskOk.calls kj48 _ _ t152 false _ ?side1 ?side2 A242.out).mono ?_); (case side1 => refine (Kd.R_reads' (e := 45) (base := w.heap.size) (ok := fun k_ => (True ∧ k_ ≠ gb134)) (n := t152.length) (c := co278) ?_).2.2; exact (RF HO154.out BK136.out)); (case side2 => exact (Kd.R_reads' HO154.out).2.1); rintro e w280 ⟨rfl, hb⟩; refine ⟨_, rfl, ?_⟩; replace HO154 := Aside0.mk (Kd.R_below (RF HO154.out BK136.out) hb); replace BK128 := BX BK128.out hb; replace BK129 := BX BK129.out hb; replace BK130 := BX BK130.out hb; replace BK134 := BX BK134.out hb; replace BK136 := Aside0.mk (blk_below (g := gb136) (o := .cells #[.slice Ao278 t152.length co278] 29 (0, 0)) (BU BK136.out) hb); replace HB := BS hb; (try clear hb); obtain ⟨hnb281, hnc281⟩ := NN NB130_134.out; obtain ⟨hcz282_0, hfz282_0⟩ := KC1 BK130.out))
      refine bodyPost_ret (results_ct rfl _ _ gb130 29 #[.slice none 0 0] (0, 0) _ rfl (BU BK130.out) Try.underlying29 rfl (by kernel_rfl)) rfl ?_; exact ⟨_, EE, by first | exact Kd.R_nil _ _ _ _ _ | exact Kd.N_nil _ _ _ _ _ | exact Kd.V_nil _ _ _ _ _ | exact Kd.Q_nil _ _ _ _ _ | exact Kd.S_nil _ _ _ _ _, BL⟩
     rw [if_pos c159] at H; have c159b0 : (a1_0 == 3) = true := beq_iff_eq.mpr c159; have c159b1 : (a1_0 != 3) = false := bne_eq_false_iff_eq.mpr c159; clear c159; have HC160 := Aside0.mk H; clear H
     go_upto_region 17 with (first | ((with_reducible refine gate_dst (N := 8) rfl ?_); refine bE 8 #[.slice none 0 0] 29 ?_; intro gb136 hg w161 hbox hb; have BK136 := Aside0.mk (hbox); have GW136 : Aside0 (w.heap.size ≤ gb136) := GS; have GE136 := GW136; have NB128_136 := NL BK128.out hg; have NB136_128 := NG BK128.out hg; have NB129_136 := NL BK129.out hg; have NB136_129 := NG BK129.out hg; have NB130_136 := NL BK130.out hg; have NB136_130 := NG BK130.out hg; have NB134_136 := NL BK134.out hg; have NB136_134 := NG BK134.out hg; replace BK128 := BB BK128.out hb; replace BK129 := BB BK129.out hb; replace BK130 := BB BK130.out hb; replace BK134 := BB BK134.out hb; replace HB := BS hb; clear hb hbox hg; obtain ⟨hnb162, hnc162⟩ := NN NB136_128.out; obtain ⟨hnb163, hnc163⟩ := NN NB136_129.out; obtain ⟨hnb164, hnc164⟩ := NN NB136_130.out; obtain ⟨hnb165, hnc165⟩ := NN NB136_134.out; obtain ⟨hcz166_0, hfz166_0⟩ := KC1 BK136.out; obtain ⟨hnb167, hnc167⟩ := NN NB129_128.out; obtain ⟨hnb168, hnc168⟩ := NN NB129_130.out; obtain ⟨hnb169, hnc169⟩ := NN NB129_134.out; obtain ⟨hcz170_0, hcz170_1, hcz170_2, hcz170_3, hfz170_0, hfz170_1, hfz170_2, hfz170_3⟩ := KC4 BK129.out))
     (try simp only [Act.put, zA, zB, zC])
     go_cut [82] (fun v82 wc => ∃ (kq : Nat) (x82_159 : Bool), v82 = .bool x82_159 ∧ Aside0 (impl_DoAct.j2 kq x82_159 l0_0 a1_0 a1_1 a1_2 a1_3 x135000_48 x135001_48 x135002_48 = some (r1, r2)) ∧ Aside0 (kq ≤ kj48) ∧ Aside0 (wc.heap[gb128]? = some (.cells #[(.slice A0_0 l0_0.length c0_0)] 29 (0, 0))) ∧ Aside0 (wc.heap[gb129]? = some (.cells #[.int .i64 a1_0, .string a1_1, .string a1_2, .string a1_3] 55 (0, 0))) ∧ Aside0 (wc.heap[gb130]? = some (.cells #[(.slice none 0 0)] 29 (0, 0))) ∧ Aside0 (wc.heap[gb134]? = some (.cells #[.string x135000_48, .string x135001_48, .int .i64 x135002_48] 45 (0, 0))) ∧ Aside0 (wc.heap[gb136]? = some (.cells #[(.slice none 0 0)] 29 (0, 0))) ∧ Aside0 (Below w.heap.size w wc))
     case first =>
      have H := HC160.out; clear HC160
      by_cases c171 : x135002_48 = (x135001_48.size : Int); rotate_left
      ·
       rw [if_neg c171] at H; have c171b0 : (x135002_48 == (x135001_48.size : Int)) = false := beq_eq_false_iff_ne.mpr c171; have c171b1 : (x135002_48 != (x135001_48.size : Int)) = true := bne_iff_ne.mpr c171
       (first | rw [c171b0] | (simp only [i64_w, i32_w]; rw [c171b0]) | skip)
       have H' := Aside0.mk H; clear H; obtain ⟨hnb181, hnc181⟩ := NN NB134_128.out; obtain ⟨hnb182, hnc182⟩ := NN NB134_129.out; obtain ⟨hnb183, hnc183⟩ := NN NB134_130.out; obtain ⟨hnb184, hnc184⟩ := NN NB134_136.out; obtain ⟨hcz185_0, hcz185_1, hcz185_2, hfz185_0, hfz185_1, hfz185_2⟩ := KC3 BK134.out
       go_wp2
       go_meet
       case rel => exact ⟨_, (true), SD, H', ⟨by have := HJ3.out; have := HJ48.out; first | omega | exact Nat.le_refl _⟩, ⟨BP BK128.out⟩, ⟨BP BK129.out⟩, ⟨BP BK130.out⟩, ⟨BP BK134.out⟩, ⟨BU BK136.out⟩, ⟨BL⟩⟩
      rw [if_pos c171] at H; have c171b0 : (x135002_48 == (x135001_48.size : Int)) = true := beq_iff_eq.mpr c171; have c171b1 : (x135002_48 != (x135001_48.size : Int)) = false := bne_eq_false_iff_eq.mpr c171; clear c171
      (first | rw [c171b0] | (simp only [i64_w, i32_w]; rw [c171b0]) | skip)
      have H' := Aside0.mk H; clear H; obtain ⟨hnb172, hnc172⟩ := NN NB134_128.out; obtain ⟨hnb173, hnc173⟩ := NN NB134_129.out; obtain ⟨hnb174, hnc174⟩ := NN NB134_130.out; obtain ⟨hnb175, hnc175⟩ := NN NB134_136.out; obtain ⟨hcz176_0, hcz176_1, hcz176_2, hfz176_0, hfz176_1, hfz176_2⟩ := KC3 BK134.out; obtain ⟨hnb177, hnc177⟩ := NN NB129_128.out; obtain ⟨hnb178, hnc178⟩ := NN NB129_130.out; obtain ⟨hnb179, hnc179⟩ := NN NB129_136.out; obtain ⟨hcz180_0, hcz180_1, hcz180_2, hcz180_3, hfz180_0, hfz180_1, hfz180_2, hfz180_3⟩ := KC4 BK129.out
      go_wp2
      go_meet
      case rel => exact ⟨_, ((a1_3.toList == a1_1.toList)), SD, H', ⟨by have := HJ3.out; have := HJ48.out; first | omega | exact Nat.le_refl _⟩, ⟨BP BK128.out⟩, ⟨BP BK129.out⟩, ⟨BP BK130.out⟩, ⟨BP BK134.out⟩, ⟨BU BK136.out⟩, ⟨BL⟩⟩
     case rest =>
      clear HC160
      try clear c1 p1 q1 hx1 c2 p2 c3 c4 c5 c6 c7 c8 c9 c10 c11 c12 c13 p13 q13 hx13 c14 c15 c16 c17 c18 c18b0 c19 c20 c23 c27 c28 c31 c34 c35 c37 c38 c41 c42 c45 c46 c47 c50 c51 c54 c55 c56 c58 c58b0 c59 c59b0 c60 c60b0 c61 c62 c63 c65 c66 c68 c68b0 c68b1 c69 c69b0 c69b1 c69b2 c72 c74 c75 c76 c77 c79 c80 c81 c83 c84 c86 c95 c96 c97 c98 c100 c101 c102 c104 c105 c107 c114 c114b0 c114b1 c117 c119 c120 c121 c122 c124 c125 c126 c128 c129 c131 p135 q135 hx135 c140 c141 c142 c143 c145 c146 c147 c149 c150 c152 c159 c159b0 c159b1 c162 c163 c164 c165 c167 c168 c169 c171 c171b0 c171b1 c172 c173 c174 c175 c177 c178 c179 c181 c182 c183 c184 hcz103_0 hcz103_1 hcz103_2 hcz103_3 hcz106_0 hcz106_1 hcz106_2 hcz108_0 hcz10_0 hcz111_0 hcz113_0 hcz123_0 hcz127_0 hcz127_1 hcz127_2 hcz127_3 hcz12_0 hcz12_1 hcz12_2 hcz12_3 hcz130_0 hcz130_1 hcz130_2 hcz132_0 hcz135_0 hcz137_0 hcz138_0 hcz144_0 hcz148_0 hcz148_1 hcz148_2 hcz148_3 hcz151_0 hcz151_1 hcz151_2 hcz153_0 hcz156_0 hcz158_0 hcz166_0 hcz170_0 hcz170_1 hcz170_2 hcz170_3 hcz176_0 hcz176_1 hcz176_2 hcz180_0 hcz180_1 hcz180_2 hcz180_3 hcz185_0 hcz185_1 hcz185_2 hcz21_0 hcz24_0 hcz24_1 hcz24_2 hcz24_3 hcz26_0 hcz26_1 hcz26_2 hcz26_3 hcz29_0 hcz32_0 hcz32_1 hcz32_2 hcz32_3 hcz36_0 hcz39_0 hcz39_1 hcz39_2 hcz39_3 hcz43_0 hcz48_0 hcz52_0 hcz52_1 hcz52_2 hcz52_3 hcz57_0 hcz57_1 hcz57_2 hcz64_0 hcz67_0 hcz67_1 hcz67_2 hcz78_0 hcz82_0 hcz82_1 hcz82_2 hcz82_3 hcz85_0 hcz85_1 hcz85_2 hcz87_0 hcz90_0 hcz92_0 hcz93_0 hcz99_0 hfz103_0 hfz103_1 hfz103_2 hfz103_3 hfz106_0 hfz106_1 hfz106_2 hfz108_0 hfz10_0 hfz111_0 hfz113_0 hfz123_0 hfz127_0 hfz127_1 hfz127_2 hfz127_3 hfz12_0 hfz12_1 hfz12_2 hfz12_3 hfz130_0 hfz130_1 hfz130_2 hfz132_0 hfz135_0 hfz137_0 hfz138_0 hfz144_0 hfz148_0 hfz148_1 hfz148_2 hfz148_3 hfz151_0 hfz151_1 hfz151_2 hfz153_0 hfz156_0 hfz158_0 hfz166_0 hfz170_0 hfz170_1 hfz170_2 hfz170_3 hfz176_0 hfz176_1 hfz176_2 hfz180_0 hfz180_1 hfz180_2 hfz180_3 hfz185_0 hfz185_1 hfz185_2 hfz21_0 hfz24_0 hfz24_1 hfz24_2 hfz24_3 hfz26_0 hfz26_1 hfz26_2 hfz26_3 hfz29_0 hfz32_0 hfz32_1 hfz32_2 hfz32_3 hfz36_0 hfz39_0 hfz39_1 hfz39_2 hfz39_3 hfz43_0 hfz48_0 hfz52_0 hfz52_1 hfz52_2 hfz52_3 hfz57_0 hfz57_1 hfz57_2 hfz64_0 hfz67_0 hfz67_1 hfz67_2 hfz78_0 hfz82_0 hfz82_1 hfz82_2 hfz82_3 hfz85_0 hfz85_1 hfz85_2 hfz87_0 hfz90_0 hfz92_0 hfz93_0 hfz99_0 hx135_0 hx135_1 hx135_2 p1 p13 p135 p2 q1 q13 q135
      obtain ⟨kq, x82_159, rfl, HA, HJ159, BK128, BK129, BK130, BK134, BK136, HB⟩ := hcut; cases kq with
      | zero => exact absurd HA.out (by simp [impl_DoAct.j2])
      | succ kj159 =>
       have H := HA.out; clear HA; simp only [impl_DoAct.j2] at H
       by_cases c186 : x82_159 = true
       ·
        subst c186
        rw [if_pos rfl] at H; simp only [Option.some.injEq, Prod.mk.injEq] at H; obtain ⟨rfl, rfl⟩ := H; obtain ⟨hnb187, hnc187⟩ := NN NB130_128.out; obtain ⟨hnb188, hnc188⟩ := NN NB130_129.out; obtain ⟨hnb189, hnc189⟩ := NN NB130_134.out; obtain ⟨hnb190, hnc190⟩ := NN NB130_136.out; obtain ⟨hcz191_0, hfz191_0⟩ := KC1 BK130.out
        go_wp2
        refine bodyPost_ret (results_ct rfl _ _ gb130 29 #[.slice none 0 0] (0, 0) _ rfl (BU BK130.out) Try.underlying29 rfl (by kernel_rfl)) rfl ?_; exact ⟨_, EE, by first | exact Kd.R_nil _ _ _ _ _ | exact Kd.N_nil _ _ _ _ _ | exact Kd.V_nil _ _ _ _ _ | exact Kd.Q_nil _ _ _ _ _ | exact Kd.S_nil _ _ _ _ _, BL⟩
       replace c186 := Bool.eq_false_iff.mpr c186; subst c186
       rw [if_neg (show ¬ (false = true) by decide)] at H; replace H := Option.bind_eq_some_iff.mp H; obtain ⟨t145, A1920, H⟩ := H; have A192 := Aside0.mk A1920; clear A1920; replace H := Option.bind_eq_some_iff.mp H; obtain ⟨t148, A1930, H⟩ := H; have A193 := Aside0.mk A1930; clear A1930; replace H := Option.bind_eq_some_iff.mp H; obtain ⟨t151, A1940, H⟩ := H; have A194 := Aside0.mk A1940; clear A1940
       by_cases c195 : t151 = true
       ·
        subst c195
        rw [if_pos rfl] at H; simp only [Option.some.injEq, Prod.mk.injEq] at H; obtain ⟨rfl, rfl⟩ := H; obtain ⟨hnb196, hnc196⟩ := NN NB129_128.out; obtain ⟨hnb197, hnc197⟩ := NN NB129_130.out; obtain ⟨hnb198, hnc198⟩ := NN NB129_134.out; obtain ⟨hnb199, hnc199⟩ := NN NB129_136.out; obtain ⟨hcz200_0, hcz200_1, hcz200_2, hcz200_3, hfz200_0, hfz200_1, hfz200_2, hfz200_3⟩ := KC4 BK129.out; obtain ⟨hnb201, hnc201⟩ := NN NB134_128.out; obtain ⟨hnb202, hnc202⟩ := NN NB134_130.out; obtain ⟨hnb203, hnc203⟩ := NN NB134_136.out; obtain ⟨hcz204_0, hcz204_1, hcz204_2, hfz204_0, hfz204_1, hfz204_2⟩ := KC3 BK134.out
        try go_wp2
        have n0_ : Aside0 ((wc.setCell ⟨gb134, 0, none⟩ (.string a1_3)).heap[gb128]? = some (.cells #[.slice A0_0 l0_0.length c0_0] 29 (0, 0))) := ⟨BP BK128.out⟩; have n1_ : Aside0 ((wc.setCell ⟨gb134, 0, none⟩ (.string a1_3)).heap[gb129]? = some (.cells #[.int .i64 a1_0, .string a1_1, .string a1_2, .string a1_3] 55 (0, 0))) := ⟨BP BK129.out⟩; have n2_ : Aside0 ((wc.setCell ⟨gb134, 0, none⟩ (.string a1_3)).heap[gb130]? = some (.cells #[.slice none 0 0] 29 (0, 0))) := ⟨BP BK130.out⟩; have n3_ : Aside0 ((wc.setCell ⟨gb134, 0, none⟩ (.string a1_3)).heap[gb134]? = some (.cells #[.string a1_3, .string x135001_48, .int .i64 x135002_48] 45 (0, 0))) := ⟨BU BK134.out⟩; have n4_ : Aside0 ((wc.setCell ⟨gb134, 0, none⟩ (.string a1_3)).heap[gb136]? = some (.cells #[.slice none 0 0] 29 (0, 0))) := ⟨BP BK136.out⟩; have n5_ : Aside0 (Below w.heap.size w (wc.setCell ⟨gb134, 0, none⟩ (.string a1_3))) := ⟨BL⟩
        (try clear BK128)
        (try clear BK129)
        (try clear BK130)
        (try clear BK134)
        (try clear BK136)
        (try clear HB)
        generalize (wc.setCell ⟨gb134, 0, none⟩ (.string a1_3)) = w205 at n0_ n1_ n2_ n3_ n4_ n5_ ⊢; have BK128 := n0_; have BK129 := n1_; have BK130 := n2_; have BK134 := n3_; have BK136 := n4_; have HB := n5_; clear n0_ n1_ n2_ n3_ n4_ n5_; replace BK128 := BD BK128; replace BK129 := BD BK129; replace BK130 := BD BK130; replace BK134 := BD BK134; replace BK136 := BD BK136; replace HB := Aside0.mk (below_drew1 HB.out); refine start_ (n := 7) (S := fun w' => w'.cell? ⟨gb128, 0, none⟩ = some (.slice A0_0 l0_0.length c0_0) ∧ w'.cell? ⟨gb129, 0, none⟩ = some (.int .i64 a1_0) ∧ w'.cell? ⟨gb129, 1, none⟩ = some (.string a1_1) ∧ w'.cell? ⟨gb129, 2, none⟩ = some (.string a1_2) ∧ w'.cell? ⟨gb129, 3, none⟩ = some (.string a1_3) ∧ w'.cell? ⟨gb134, 0, none⟩ = some (.string a1_3) ∧ w'.cell? ⟨gb134, 1, none⟩ = some (.string x135001_48) ∧ w'.cell? ⟨gb134, 2, none⟩ = some (.int .i64 x135002_48)) (ds := []) #[false, false, false, false, false, false, false] (by kernel_rfl) rfl rfl ⟨CZ BK128.out 0, CZ BK129.out 0, CZ BK129.out 1, CZ BK129.out 2, CZ BK129.out 3, CZ BK134.out 0, CZ BK134.out 1, CZ BK134.out 2⟩ (fun hHeld => ?_); generalize w205.drew = w206 at BK128 BK129 BK130 BK134 BK136 HB hHeld ⊢; refine pure_ (i := 1) (N := some 88) (v := ?_) (a' := ?_) (OB 7 2) rfl rfl (by kernel_rfl) (fun _ _ _ h => h) (Or.inl ⟨by rfl, ?_⟩) ?_ ?_; rotate_left
        ·
         intro w'
         go_simp
         with_reducible rfl
        rotate_left
        ·
         simp only [Act.put, zA, zB, zC, i64_w, i32_w]; rfl
        refine pT 0 87 (OB 7 3) ?_; refine pT 2 89 (OB 7 7) ?_; refine pT 4 91 (OB 7 23) ?_; refine one_ (i := 3) (N := some 90) (OB 7 31) rfl rfl (by kernel_rfl) (by decide) (fun K hK => ?_); refine goes_ Try.func67 (by kernel_rfl) rfl #[.agg #[.slice A0_0 l0_0.length c0_0], .string a1_1] (by rfl) rfl rfl (MA) ?_
        with_reducible refine (impl_withoutFile.calls _ _ l0_0 a1_1 t145 _ ?side1 ?side2 A192.out).mono ?_
        (case side1 => exact CB HR0_0.out)
        (case side2 => exact HC0_0.out)
        rintro e w207 ⟨v146, rfl, ho0, hb⟩; refine ⟨_, rfl, ?_⟩; have n0_ := Aside0.mk (Kd.R_lower (Kd.R_newB ho0 (g := gb134) (o := .cells #[.string a1_3, .string x135001_48, .int .i64 x135002_48] 45 (0, 0)) (BQ BK134.out)) (below_size (BL))); have n1_ := BB BK128.out hb; have n2_ := BB BK129.out hb; have n3_ := BB BK130.out hb; have n4_ := BB BK134.out hb; have n5_ := BB BK136.out hb; have n6_ := Aside0.mk (below_step (BL) hb); clear BK128 BK129 BK130 BK134 BK136 HB; have HO147 := n0_; have BK128 := n1_; have BK129 := n2_; have BK130 := n3_; have BK134 := n4_; have BK136 := n5_; have HB := n6_; clear n0_ n1_ n2_ n3_ n4_ n5_ n6_
        (try clear hb)
        (try clear hb2)
        (try clear hk)
        (try clear hi)
        (try clear ho0)
        obtain ⟨Ao208, co208, eo208⟩ := Kd.R_slice HO147.out
        (first | subst eo208 | (injection eo208 with f1_ f2_ f3_; have f4_ := f1_.symm; have f5_ := f3_.symm; clear f1_ f2_ f3_; subst f4_; subst f5_))
        refine hK.out _ _ ⟨CZ BK128.out 0, CZ BK129.out 0, CZ BK129.out 1, CZ BK129.out 2, CZ BK129.out 3, CZ BK134.out 0, CZ BK134.out 1, CZ BK134.out 2⟩ (fun hHeld => ?_); clear hK K; refine norm_ (a' := ?_) ?_ ?_; rotate_left
        ·
         show Act.put _ (some 90) _ = _; simp only [Act.put, zA, zB, zC, i64_w, i32_w]; rfl
        refine one_ (i := 5) (N := some 92) (OB 7 63) rfl rfl (by kernel_rfl) (by decide) (fun K hK => ?_); refine goes_ Try.func66 (by kernel_rfl) rfl #[.agg #[.slice Ao208 t145.length co208], .agg #[.string a1_3, .string x135001_48, .int .i64 x135002_48]] (by rfl) rfl rfl (MA) ?_
        with_reducible refine (impl_withFile.calls _ _ t145 a1_3 x135001_48 x135002_48 t148 _ ?side1 ?side2 A193.out).mono ?_
        (case side1 => repeat (first | exact (Kd.R_reads' HO147.out).2.2 | (with_reducible refine Kd.C_alloc ?_ _) | (with_reducible refine Kd.C_drewN ?_ _) | (with_reducible refine Kd.C_drew ?_)))
        (case side2 => exact (Kd.R_reads' HO147.out).2.1)
        rintro e w209 ⟨v149, rfl, ho0, hb⟩; refine ⟨_, rfl, ?_⟩; have n0_ := RE HO147 (Kd.R_base ho0) hb; have n1_ := Aside0.mk (Kd.R_lower (Kd.R_newB (Kd.R_new' ho0 (Kd.R_lt (RQ HO147.out))) (g := gb134) (o := .cells #[.string a1_3, .string x135001_48, .int .i64 x135002_48] 45 (0, 0)) (BQ BK134.out)) (below_size (BL))); have n2_ := BB BK128.out hb; have n3_ := BB BK129.out hb; have n4_ := BB BK130.out hb; have n5_ := BB BK134.out hb; have n6_ := BB BK136.out hb; have n7_ := Aside0.mk (below_step (BL) hb); clear HO147 BK128 BK129 BK130 BK134 BK136 HB; have HO147 := n0_; have HO150 := n1_; have BK128 := n2_; have BK129 := n3_; have BK130 := n4_; have BK134 := n5_; have BK136 := n6_; have HB := n7_; clear n0_ n1_ n2_ n3_ n4_ n5_ n6_ n7_
        (try clear hb)
        (try clear hb2)
        (try clear hk)
        (try clear hi)
        (try clear ho0)
        obtain ⟨Ao210, co210, eo210⟩ := Kd.R_slice HO150.out
        (first | subst eo210 | (injection eo210 with f1_ f2_ f3_; have f4_ := f1_.symm; have f5_ := f3_.symm; clear f1_ f2_ f3_; subst f4_; subst f5_))
        refine hK.out _ _ ⟨CZ BK128.out 0, CZ BK129.out 0, CZ BK129.out 1, CZ BK129.out 2, CZ BK129.out 3, CZ BK134.out 0, CZ BK134.out 1, CZ BK134.out 2⟩ (fun hHeld => ?_); clear hK K; refine norm_ (a' := ?_) ?_ ?_; rotate_left
        ·
         show Act.put _ (some 92) _ = _; simp only [Act.put, zA, zB, zC, i64_w, i32_w]; rfl
        refine one_ (i := 6) (N := none) (OB 7 127) rfl rfl (by kernel_rfl) (by decide) (fun K hK => ?_); have hs211 : w209.cell? ⟨gb136, 0, none⟩ = some (.slice none 0 0) := CZ BK136.out 0; have hfs211 := blk_frozen BK136.out 0; have hns211_0 := NB128_136.out; have hns211_1 := NB129_136.out; have hns211_2 := NB130_136.out; have hns211_3 := NB134_136.out; have hms211_0 := NB136_128.out; have hms211_1 := NB136_129.out; have hms211_2 := NB136_130.out; have hms211_3 := NB136_134.out; refine skip_ (w1 := ?_) (by rfl) rfl ?_ ?_; rotate_left
        ·
         go_simp
         rfl
        refine hK.out _ _ ?hh_ (fun hHeld => ?_)
        (case hh_ => have h_ := hHeld; (repeat (obtain ⟨h0_, h_⟩ := h_)); (repeat' refine And.intro ?_ ?_) <;> ((repeat (with_reducible apply cg)) <;> first | (with_reducible assumption) | exact (Aside0.out (by assumption))))
        clear hK K; refine done_ (by kernel_rfl) ?_; obtain ⟨hnb212, hnc212⟩ := NN NB136_128.out; obtain ⟨hnb213, hnc213⟩ := NN NB136_130.out; obtain ⟨hcz214_0, hfz214_0⟩ := KC1 BK136.out
        try go_wp2_with (first | ((with_reducible refine gate_callee (f := 15) rfl ?_); refine goesL_ (some 94) rfl rfl Try.func15 (by kernel_rfl) rfl #[.agg #[.slice Ao210 t148.length co210]] rfl (MA) ?_; (with_reducible refine (impl_DiskOk.calls kj159 _ _ t148 true _ ?side1 ?side2 A194.out).mono ?_); (case side1 => refine (Kd.R_reads' (e := 45) (base := w.heap.size) (ok := fun k_ => ((True ∧ some k_ ≠ (.slice Ao208 t145.length co208 : Value).ownBlock) ∧ k_ ≠ gb134)) (n := t148.length) (c := co210) ?_).2.2; exact (RF HO150.out BK136.out)); (case side2 => exact (Kd.R_reads' HO150.out).2.1); rintro e w215 ⟨rfl, hb⟩; refine ⟨_, rfl, ?_⟩; replace HO147 := Aside0.mk (Kd.R_below (RF HO147.out BK136.out) hb); replace HO150 := Aside0.mk (Kd.R_below (RF HO150.out BK136.out) hb); replace BK128 := BX BK128.out hb; replace BK129 := BX BK129.out hb; replace BK130 := BX BK130.out hb; replace BK134 := BX BK134.out hb; replace BK136 := Aside0.mk (blk_below (g := gb136) (o := .cells #[.slice Ao210 t148.length co210] 29 (0, 0)) (BU BK136.out) hb); replace HB := BS hb; (try clear hb); obtain ⟨hcz216_0, hfz216_0⟩ := KC1 BK136.out; obtain ⟨hnb217, hnc217⟩ := NN NB130_128.out; obtain ⟨hcz218_0, hfz218_0⟩ := KC1 BK130.out))
        refine bodyPost_ret (results_ct rfl _ _ gb130 29 #[.slice Ao210 t148.length co210] (0, 0) _ rfl (BU BK130.out) Try.underlying29 rfl (by kernel_rfl)) rfl ?_; exact ⟨_, EE, by (with_reducible repeat (first | apply r1 | apply r2 | apply r3)); exact Kd.R_mono (Kd.R_far (p := ⟨gb130, 0, none⟩) (Kd.R_types HO150.out BK130.out (by decide)) (fun _ hk => hk.2) (.slice Ao210 t148.length co210)) (fun _ hk => trivial), BL⟩
       replace c195 := Bool.eq_false_iff.mpr c195; subst c195
       rw [if_neg (show ¬ (false = true) by decide)] at H; simp only [Option.some.injEq, Prod.mk.injEq] at H; obtain ⟨rfl, rfl⟩ := H; obtain ⟨hnb219, hnc219⟩ := NN NB129_128.out; obtain ⟨hnb220, hnc220⟩ := NN NB129_130.out; obtain ⟨hnb221, hnc221⟩ := NN NB129_134.out; obtain ⟨hnb222, hnc222⟩ := NN NB129_136.out; obtain ⟨hcz223_0, hcz223_1, hcz223_2, hcz223_3, hfz223_0, hfz223_1, hfz223_2, hfz223_3⟩ := KC4 BK129.out; obtain ⟨hnb224, hnc224⟩ := NN NB134_128.out; obtain ⟨hnb225, hnc225⟩ := NN NB134_130.out; obtain ⟨hnb226, hnc226⟩ := NN NB134_136.out; obtain ⟨hcz227_0, hcz227_1, hcz227_2, hfz227_0, hfz227_1, hfz227_2⟩ := KC3 BK134.out
       try go_wp2
       have n0_ : Aside0 ((wc.setCell ⟨gb134, 0, none⟩ (.string a1_3)).heap[gb128]? = some (.cells #[.slice A0_0 l0_0.length c0_0] 29 (0, 0))) := ⟨BP BK128.out⟩; have n1_ : Aside0 ((wc.setCell ⟨gb134, 0, none⟩ (.string a1_3)).heap[gb129]? = some (.cells #[.int .i64 a1_0, .string a1_1, .string a1_2, .string a1_3] 55 (0, 0))) := ⟨BP BK129.out⟩; have n2_ : Aside0 ((wc.setCell ⟨gb134, 0, none⟩ (.string a1_3)).heap[gb130]? = some (.cells #[.slice none 0 0] 29 (0, 0))) := ⟨BP BK130.out⟩; have n3_ : Aside0 ((wc.setCell ⟨gb134, 0, none⟩ (.string a1_3)).heap[gb134]? = some (.cells #[.string a1_3, .string x135001_48, .int .i64 x135002_48] 45 (0, 0))) := ⟨BU BK134.out⟩; have n4_ : Aside0 ((wc.setCell ⟨gb134, 0, none⟩ (.string a1_3)).heap[gb136]? = some (.cells #[.slice none 0 0] 29 (0, 0))) := ⟨BP BK136.out⟩; have n5_ : Aside0 (Below w.heap.size w (wc.setCell ⟨gb134, 0, none⟩ (.string a1_3))) := ⟨BL⟩
       (try clear BK128)
       (try clear BK129)
       (try clear BK130)
       (try clear BK134)
       (try clear BK136)
       (try clear HB)
       generalize (wc.setCell ⟨gb134, 0, none⟩ (.string a1_3)) = w228 at n0_ n1_ n2_ n3_ n4_ n5_ ⊢; have BK128 := n0_; have BK129 := n1_; have BK130 := n2_; have BK134 := n3_; have BK136 := n4_; have HB := n5_; clear n0_ n1_ n2_ n3_ n4_ n5_; replace BK128 := BD BK128; replace BK129 := BD BK129; replace BK130 := BD BK130; replace BK134 := BD BK134; replace BK136 := BD BK136; replace HB := Aside0.mk (below_drew1 HB.out); refine start_ (n := 7) (S := fun w' => w'.cell? ⟨gb128, 0, none⟩ = some (.slice A0_0 l0_0.length c0_0) ∧ w'.cell? ⟨gb129, 0, none⟩ = some (.int .i64 a1_0) ∧ w'.cell? ⟨gb129, 1, none⟩ = some (.string a1_1) ∧ w'.cell? ⟨gb129, 2, none⟩ = some (.string a1_2) ∧ w'.cell? ⟨gb129, 3, none⟩ = some (.string a1_3) ∧ w'.cell? ⟨gb134, 0, none⟩ = some (.string a1_3) ∧ w'.cell? ⟨gb134, 1, none⟩ = some (.string x135001_48) ∧ w'.cell? ⟨gb134, 2, none⟩ = some (.int .i64 x135002_48)) (ds := []) #[false, false, false, false, false, false, false] (by kernel_rfl) rfl rfl ⟨CZ BK128.out 0, CZ BK129.out 0, CZ BK129.out 1, CZ BK129.out 2, CZ BK129.out 3, CZ BK134.out 0, CZ BK134.out 1, CZ BK134.out 2⟩ (fun hHeld => ?_); generalize w228.drew = w229 at BK128 BK129 BK130 BK134 BK136 HB hHeld ⊢; refine pure_ (i := 1) (N := some 88) (v := ?_) (a' := ?_) (OB 7 2) rfl rfl (by kernel_rfl) (fun _ _ _ h => h) (Or.inl ⟨by rfl, ?_⟩) ?_ ?_; rotate_left
       ·
        intro w'
        go_simp
        with_reducible rfl
       rotate_left
       ·
        simp only [Act.put, zA, zB, zC, i64_w, i32_w]; rfl
       refine pT 0 87 (OB 7 3) ?_; refine pT 2 89 (OB 7 7) ?_; refine pT 4 91 (OB 7 23) ?_; refine one_ (i := 3) (N := some 90) (OB 7 31) rfl rfl (by kernel_rfl) (by decide) (fun K hK => ?_); refine goes_ Try.func67 (by kernel_rfl) rfl #[.agg #[.slice A0_0 l0_0.length c0_0], .string a1_1] (by rfl) rfl rfl (MA) ?_
       with_reducible refine (impl_withoutFile.calls _ _ l0_0 a1_1 t145 _ ?side1 ?side2 A192.out).mono ?_
       (case side1 => exact CB HR0_0.out)
       (case side2 => exact HC0_0.out)
       rintro e w230 ⟨v146, rfl, ho0, hb⟩; refine ⟨_, rfl, ?_⟩; have n0_ := Aside0.mk (Kd.R_lower (Kd.R_newB ho0 (g := gb134) (o := .cells #[.string a1_3, .string x135001_48, .int .i64 x135002_48] 45 (0, 0)) (BQ BK134.out)) (below_size (BL))); have n1_ := BB BK128.out hb; have n2_ := BB BK129.out hb; have n3_ := BB BK130.out hb; have n4_ := BB BK134.out hb; have n5_ := BB BK136.out hb; have n6_ := Aside0.mk (below_step (BL) hb); clear BK128 BK129 BK130 BK134 BK136 HB; have HO147 := n0_; have BK128 := n1_; have BK129 := n2_; have BK130 := n3_; have BK134 := n4_; have BK136 := n5_; have HB := n6_; clear n0_ n1_ n2_ n3_ n4_ n5_ n6_
       (try clear hb)
       (try clear hb2)
       (try clear hk)
       (try clear hi)
       (try clear ho0)
       obtain ⟨Ao231, co231, eo231⟩ := Kd.R_slice HO147.out
       (first | subst eo231 | (injection eo231 with f1_ f2_ f3_; have f4_ := f1_.symm; have f5_ := f3_.symm; clear f1_ f2_ f3_; subst f4_; subst f5_))
       refine hK.out _ _ ⟨CZ BK128.out 0, CZ BK129.out 0, CZ BK129.out 1, CZ BK129.out 2, CZ BK129.out 3, CZ BK134.out 0, CZ BK134.out 1, CZ BK134.out 2⟩ (fun hHeld => ?_); clear hK K; refine norm_ (a' := ?_) ?_ ?_; rotate_left
       ·
        show Act.put _ (some 90) _ = _; simp only [Act.put, zA, zB, zC, i64_w, i32_w]; rfl
       refine one_ (i := 5) (N := some 92) (OB 7 63) rfl rfl (by kernel_rfl) (by decide) (fun K hK => ?_); refine goes_ Try.func66 (by kernel_rfl) rfl #[.agg #[.slice Ao231 t145.length co231], .agg #[.string a1_3, .string x135001_48, .int .i64 x135002_48]] (by rfl) rfl rfl (MA) ?_
       with_reducible refine (impl_withFile.calls _ _ t145 a1_3 x135001_48 x135002_48 t148 _ ?side1 ?side2 A193.out).mono ?_
       (case side1 => repeat (first | exact (Kd.R_reads' HO147.out).2.2 | (with_reducible refine Kd.C_alloc ?_ _) | (with_reducible refine Kd.C_drewN ?_ _) | (with_reducible refine Kd.C_drew ?_)))
       (case side2 => exact (Kd.R_reads' HO147.out).2.1)
       rintro e w232 ⟨v149, rfl, ho0, hb⟩; refine ⟨_, rfl, ?_⟩; have n0_ := RE HO147 (Kd.R_base ho0) hb; have n1_ := Aside0.mk (Kd.R_lower (Kd.R_newB (Kd.R_new' ho0 (Kd.R_lt (RQ HO147.out))) (g := gb134) (o := .cells #[.string a1_3, .string x135001_48, .int .i64 x135002_48] 45 (0, 0)) (BQ BK134.out)) (below_size (BL))); have n2_ := BB BK128.out hb; have n3_ := BB BK129.out hb; have n4_ := BB BK130.out hb; have n5_ := BB BK134.out hb; have n6_ := BB BK136.out hb; have n7_ := Aside0.mk (below_step (BL) hb); clear HO147 BK128 BK129 BK130 BK134 BK136 HB; have HO147 := n0_; have HO150 := n1_; have BK128 := n2_; have BK129 := n3_; have BK130 := n4_; have BK134 := n5_; have BK136 := n6_; have HB := n7_; clear n0_ n1_ n2_ n3_ n4_ n5_ n6_ n7_
       (try clear hb)
       (try clear hb2)
       (try clear hk)
       (try clear hi)
       (try clear ho0)
       obtain ⟨Ao233, co233, eo233⟩ := Kd.R_slice HO150.out
       (first | subst eo233 | (injection eo233 with f1_ f2_ f3_; have f4_ := f1_.symm; have f5_ := f3_.symm; clear f1_ f2_ f3_; subst f4_; subst f5_))
       refine hK.out _ _ ⟨CZ BK128.out 0, CZ BK129.out 0, CZ BK129.out 1, CZ BK129.out 2, CZ BK129.out 3, CZ BK134.out 0, CZ BK134.out 1, CZ BK134.out 2⟩ (fun hHeld => ?_); clear hK K; refine norm_ (a' := ?_) ?_ ?_; rotate_left
       ·
        show Act.put _ (some 92) _ = _; simp only [Act.put, zA, zB, zC, i64_w, i32_w]; rfl
       refine one_ (i := 6) (N := none) (OB 7 127) rfl rfl (by kernel_rfl) (by decide) (fun K hK => ?_); have hs234 : w232.cell? ⟨gb136, 0, none⟩ = some (.slice none 0 0) := CZ BK136.out 0; have hfs234 := blk_frozen BK136.out 0; have hns234_0 := NB128_136.out; have hns234_1 := NB129_136.out; have hns234_2 := NB130_136.out; have hns234_3 := NB134_136.out; have hms234_0 := NB136_128.out; have hms234_1 := NB136_129.out; have hms234_2 := NB136_130.out; have hms234_3 := NB136_134.out; refine skip_ (w1 := ?_) (by rfl) rfl ?_ ?_; rotate_left
       ·
        go_simp
        rfl
       refine hK.out _ _ ?hh_ (fun hHeld => ?_)
       (case hh_ => have h_ := hHeld; (repeat (obtain ⟨h0_, h_⟩ := h_)); (repeat' refine And.intro ?_ ?_) <;> ((repeat (with_reducible apply cg)) <;> first | (with_reducible assumption) | exact (Aside0.out (by assumption))))
       clear hK K; refine done_ (by kernel_rfl) ?_; obtain ⟨hnb235, hnc235⟩ := NN NB136_128.out; obtain ⟨hnb236, hnc236⟩ := NN NB136_130.out; obtain ⟨hcz237_0, hfz237_0⟩ := KC1 BK136.out
       try go_wp2_with (first | ((with_reducible refine gate_callee (f := 15) rfl ?_); refine goesL_ (some 94) rfl rfl Try.func15 (by kernel_rfl) rfl #[.agg #[.slice Ao233 t148.length co233]] rfl (MA) ?_; (with_reducible refine (impl_DiskOk.calls kj159 _ _ t148 false _ ?side1 ?side2 A194.out).mono ?_); (case side1 => refine (Kd.R_reads' (e := 45) (base := w.heap.size) (ok := fun k_ => ((True ∧ some k_ ≠ (.slice Ao231 t145.length co231 : Value).ownBlock) ∧ k_ ≠ gb134)) (n := t148.length) (c := co233) ?_).2.2; exact (RF HO150.out BK136.out)); (case side2 => exact (Kd.R_reads' HO150.out).2.1); rintro e w238 ⟨rfl, hb⟩; refine ⟨_, rfl, ?_⟩; replace HO147 := Aside0.mk (Kd.R_below (RF HO147.out BK136.out) hb); replace HO150 := Aside0.mk (Kd.R_below (RF HO150.out BK136.out) hb); replace BK128 := BX BK128.out hb; replace BK129 := BX BK129.out hb; replace BK130 := BX BK130.out hb; replace BK134 := BX BK134.out hb; replace BK136 := Aside0.mk (blk_below (g := gb136) (o := .cells #[.slice Ao233 t148.length co233] 29 (0, 0)) (BU BK136.out) hb); replace HB := BS hb; (try clear hb); obtain ⟨hnb239, hnc239⟩ := NN NB130_128.out; obtain ⟨hcz240_0, hfz240_0⟩ := KC1 BK130.out))
       refine bodyPost_ret (results_ct rfl _ _ gb130 29 #[.slice none 0 0] (0, 0) _ rfl (BU BK130.out) Try.underlying29 rfl (by kernel_rfl)) rfl ?_; exact ⟨_, EE, by first | exact Kd.R_nil _ _ _ _ _ | exact Kd.N_nil _ _ _ _ _ | exact Kd.V_nil _ _ _ _ _ | exact Kd.Q_nil _ _ _ _ _ | exact Kd.S_nil _ _ _ _ _, BL⟩

/-! ### spec_l01In: function 49 -/
def spec_l01In.f (a0 : Int) (a1 : Int) (a2 : Int) : Option (Bool) := if a0 ≥ a1 then (some (decide (a0 ≤ a2))) else (some false)
set_option maxHeartbeats 8000000 in
set_option maxRecDepth 100000 in
theorem spec_l01In.calls (a0 : Int) (a1 : Int) (a2 : Int) (r : Bool) (w : World) (h : spec_l01In.f a0 a1 a2 = some r) :
  Calls Try.prog 49 #[.int .i64 a0, .int .i64 a1, .int .i64 a2] w fun e w' => e = .returned (.bool r) ∧ Drawn0 w w' := by
 have H : (if a0 ≥ a1 then (some (decide (a0 ≤ a2))) else (some false)) = some r := h
 clear h
 by_cases c4 : a0 ≥ a1
 ·
  rw [if_pos c4] at H; have c4b0 : decide (a1 ≤ a0) = true := decide_eq_true c4; clear c4; obtain rfl := Option.some.inj H
  go_enter Try.func49, Try.ntmps49
  go_wp2
  go_ret
  exact ⟨by first | rfl | (simp; done) | (simp [*]; done), by repeat (first | exact Drawn0.refl _ | apply Drawn0.step)⟩
 rw [if_neg c4] at H
 have c4b0 : decide (a1 ≤ a0) = false := decide_eq_false c4
 clear c4
 obtain rfl := Option.some.inj H
 go_enter Try.func49, Try.ntmps49
 go_wp2
 go_ret
 exact ⟨by first | rfl | (simp; done) | (simp [*]; done), by repeat (first | exact Drawn0.refl _ | apply Drawn0.step)⟩

/-! ### spec_l03Name: function 48 -/
def spec_l03Name.f (a0 : ByteArray) : Option (Bool) := (spec_l01In.f (a0.size : Int) 1 8).bind fun t156 => (some t156)
set_option maxHeartbeats 8000000 in
set_option maxRecDepth 100000 in
theorem spec_l03Name.calls (a0 : ByteArray) (r : Bool) (w : World) (h : spec_l03Name.f a0 = some r) :
  Calls Try.prog 48 #[.string a0] w fun e w' => e = .returned (.bool r) ∧ Drawn0 w w' := by
 have H : ((spec_l01In.f (a0.size : Int) 1 8).bind fun t156 => (some t156)) = some r := h
 clear h
 replace H := Option.bind_eq_some_iff.mp H
 obtain ⟨t156, A20, H⟩ := H
 have A2 := Aside0.mk A20
 clear A20
 obtain rfl := Option.some.inj H
 go_enter Try.func48, Try.ntmps48
 go_wp2_with (first | ((with_reducible refine gate_callee (f := 49) rfl ?_); refine goesL_ (some 5) rfl rfl Try.func49 (by kernel_rfl) rfl #[.int .i64 (a0.size : Int), .int .i64 1, .int .i64 8] rfl (MA) ?_; (with_reducible refine (spec_l01In.calls (a0.size : Int) 1 8 t156 _ A2.out).mono ?_); rintro e w' ⟨rfl, ⟨nd, rfl⟩⟩; refine ⟨_, rfl, ?_⟩))
 go_ret
 exact ⟨by first | rfl | (simp; done) | (simp [*]; done), by repeat (first | exact Drawn0.refl _ | apply Drawn0.step)⟩

end Go.Proofs.Ythfppepnpngfmaa.Qac
