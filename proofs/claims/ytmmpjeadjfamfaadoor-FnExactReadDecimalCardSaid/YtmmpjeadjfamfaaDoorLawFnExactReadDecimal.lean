import Derived.Test.YtmmpjeadjfamfaaDoorRows
import Derived.Test.YtmmpjeadjfamfaaDoorRdDec
import Derived.Test.YtmmpjeadjfamfaaDoorShIt
import Derived.Test.YtmmpjeadjfamfaaDoorShAt
import Derived.Test.YtmmpjeadjfamfaaDoorTie
import Derived.Test.YtmmpjeadjfamfaaDoorCards
import Derived.WalkKit
import Derived.WalkSpells
import Derived.ProofKit
import Derived.LaidMore
import Derived.LaidSub
import Derived.Lib.LaidTab
import Derived.Lib.AppendIntMem
import Derived.Lib.AtoiAllCases
import Derived.OpenShut
import Derived.Stop.Joined
import Derived.Stop.LaidErr
import Derived.SevenTiedAt
namespace Go.Proofs.YtmmpjeadjfamfaaDoor
open Go.Proofs.YtmmpjeadjfamfaaDoorW.PrintWords Go.Proofs.YtmmpjeadjfamfaaDoorW.PrintLast Go.Proofs.YtmmpjeadjfamfaaDoorW.PrintMore Go.Proofs.YtmmpjeadjfamfaaDoor.Qdr
open Go.ChangeShapes Go.WideShapes Go.ChangeAt Go.WideElems Go.RowKit

/-- A table, carried. -/
theorem tab_below {w w' : World} {name : String} {k : IntKind} {zs : List Int} (h : Lib.TabIs Tryd.prog w name k zs) (hb : Below w.heap.size w w') : Lib.TabIs Tryd.prog w' name k zs := by
  unfold Lib.TabIs World.var? at h ⊢
  cases hg : Tryd.prog.globalNamed name with
  | none => rw [hg] at h; cases h
  | some g =>
    rw [hg] at h
    simp only [Option.bind_some] at h ⊢
    have hlt : g < w.heap.size := by
      rcases Nat.lt_or_ge g w.heap.size with h' | h'
      · exact h'
      · rw [Array.getElem?_eq_none h'] at h; cases h
    rw [hb.block g hlt]
    exact h
theorem var_below {w w' : World} {name : String} {cs : Array Value} (h : w.var? Tryd.prog name = some cs) (hb : Below w.heap.size w w') : w'.var? Tryd.prog name = some cs := by
  unfold World.var? at h ⊢
  cases hg : Tryd.prog.globalNamed name with
  | none => rw [hg] at h; cases h
  | some g =>
    rw [hg] at h
    simp only [Option.bind_some] at h ⊢
    have hlt : g < w.heap.size := by
      rcases Nat.lt_or_ge g w.heap.size with h' | h'
      · exact h'
      · rw [Array.getElem?_eq_none h'] at h; cases h
    rw [hb.block g hlt]
    exact h
theorem implDecimal (n : Int) (h0 : -9223372036854775808 ≤ n) (h1 : n ≤ 9223372036854775807) (w : World) (htab : Lib.TabIs Tryd.prog w "internal/strconv.uint64pow10" .u64 Lib.pow10Tab) :
    Calls Tryd.prog 8 #[.int .i64 n] w fun e w' => e = .returned (.string ⟨(Lib.itoa n).toArray⟩) ∧ Below w.heap.size w w' := by
  go_enter Tryd.func8, Tryd.ntmps8
  go_wp2_with (first | ((with_reducible refine gate_callee (f := 26) rfl ?_); refine goesL_ (some 4) rfl rfl Tryd.func26 (by kernel_rfl) rfl #[.int .i64 n] rfl (MA) ?_; refine (Tryd.strconv_Itoa n h0 h1 _ htab).mono ?_; rintro e w' ⟨rfl, k, os, rfl⟩; refine ⟨_, rfl, ?_⟩))
  go_ret
  exact ⟨rfl, Lib.below_grow w.heap.size w (Nat.le_refl _) k os⟩
theorem bel_drewN {B : Nat} {a w : World} (h : Below B a w) (n : Nat) : Below B a (w.drewN n) := ⟨h.os, h.tape, h.output, h.size, h.block⟩
/-- What the two sentinels hold. -/
def Sents (w : World) : Prop := (∃ tp p, w.var? Tryd.prog "strconv.ErrSyntax" = some #[.iface tp p]) ∧ ∃ tp p, w.var? Tryd.prog "strconv.ErrRange" = some #[.iface tp p]
theorem sents_below {w w' : World} (h : Sents w) (hb : Below w.heap.size w w') : Sents w' := by
  obtain ⟨⟨a, b, h1⟩, c, d, h2⟩ := h
  exact ⟨⟨a, b, var_below h1 hb⟩, c, d, var_below h2 hb⟩
theorem atoi_ok (t : ByteArray) (ht : t.size ≤ 1048576) (v : Int) (h : Lib.atoiAll t.data.toList = .ok v) (w : World) :
    Calls Tryd.prog 27 #[.string t] w fun e w' => e = .returned (.tuple #[.int .i64 v, .nilIface]) ∧ Below w.heap.size w w' := by
  refine (Tryd.strconv_Atoi_ok t (by omega) v h w).mono ?_
  rintro e w' ⟨rfl, rfl | ⟨x, rfl⟩⟩
  · exact ⟨rfl, Below.refl _ _⟩
  · exact ⟨rfl, Lib.bytesWorld_below _ _ _⟩
theorem atoi_bad (t : ByteArray) (ht : t.size ≤ 1048576) (h : ∀ v, Lib.atoiAll t.data.toList ≠ .ok v) (w : World) (hs : Sents w) :
    Calls Tryd.prog 27 #[.string t] w fun e w' => (∃ n N, e = .returned (.tuple #[.int .i64 n, .iface 68 (.pointer (some ⟨N, 0, none⟩))])) ∧ Below w.heap.size w w' := by
  obtain ⟨⟨a, b, h1⟩, c, d, h2⟩ := hs
  exact Tryd.strconv_Atoi_bad t (by omega) h w a c b d h1 h2
set_option maxHeartbeats 4000000 in
set_option maxRecDepth 100000 in
theorem implRead_bad (t : ByteArray) (ht : t.size ≤ 1048576) (h : ∀ v, Lib.atoiAll t.data.toList ≠ .ok v) (w : World) (hs : Sents w) :
    Calls Tryd.prog 10 #[.string t] w fun e w' => e = .returned (.tuple #[.int .i64 0, .bool false]) ∧ Below w.heap.size w w' := by
  have cA := atoi_bad t ht h w hs
  go_enter Tryd.func10, Tryd.ntmps10
  go_wp2_with (go_at_call 27; refine cA.mono ?_; rintro e w1 ⟨⟨n, N, rfl⟩, hb1⟩)
  go_ret2
  exact ⟨rfl, hb1⟩
set_option maxHeartbeats 4000000 in
set_option maxRecDepth 100000 in
theorem implRead_out (t : ByteArray) (ht : t.size ≤ 1048576) (v : Int) (h : Lib.atoiAll t.data.toList = .ok v) (hv : ¬ (0 ≤ v ∧ v ≤ 1000000000)) (w : World) :
    Calls Tryd.prog 10 #[.string t] w fun e w' => e = .returned (.tuple #[.int .i64 0, .bool false]) ∧ Below w.heap.size w w' := by
  have cA := atoi_ok t ht v h w
  have hw : impl_within.f v 0 1000000000 = some false := by
    unfold impl_within.f; by_cases c : v ≥ 0
    · rw [if_pos c, decide_eq_false (by omega)]
    · rw [if_neg c]
  go_enter Tryd.func10, Tryd.ntmps10
  go_wp2_with (first
    | (go_at_call 27; refine cA.mono ?_; rintro e w1 ⟨rfl, hb1⟩)
    | (go_at_call 28; refine (impl_within.calls v 0 1000000000 false _ hw).mono ?_; rintro e w2 ⟨rfl, ⟨nd, rfl⟩⟩))
  go_ret2
  exact ⟨rfl, bel_drewN hb1 nd⟩
set_option maxHeartbeats 4000000 in
set_option maxRecDepth 100000 in
theorem implRead_in (t : ByteArray) (ht : t.size ≤ 1048576) (v : Int) (h : Lib.atoiAll t.data.toList = .ok v) (hv : 0 ≤ v ∧ v ≤ 1000000000) (w : World) (htab : Lib.TabIs Tryd.prog w "internal/strconv.uint64pow10" .u64 Lib.pow10Tab) :
    Calls Tryd.prog 10 #[.string t] w fun e w' => e = .returned (.tuple #[.int .i64 (DecR.readI t).1, .bool (DecR.readI t).2]) ∧ Below w.heap.size w w' := by
  have cA := atoi_ok t ht v h w
  have hw : impl_within.f v 0 1000000000 = some true := by
    unfold impl_within.f; rw [if_pos hv.1, decide_eq_true hv.2]
  have hR : DecR.readI t = if Lib.itoa v = t.data.toList then (v, true) else (0, false) := by
    unfold DecR.readI; rw [h]
    show (if _ then _ else _) = _
    by_cases c : Lib.itoa v = t.data.toList
    · rw [if_pos c, if_pos ⟨hv, c⟩]
    · rw [if_neg c, if_neg (fun x => c x.2)]
  have HT := Aside0.mk htab; clear htab
  by_cases hc : (⟨(Lib.itoa v).toArray⟩ : ByteArray) = t
  all_goals
   go_enter Tryd.func10, Tryd.ntmps10
   go_wp2_with (first
    | (go_at_call 27; refine cA.mono ?_; rintro e w1 ⟨rfl, hb1⟩; have HB := Aside0.mk hb1; clear hb1)
    | (go_at_call 28; refine (impl_within.calls v 0 1000000000 true _ hw).mono ?_; rintro e w2 ⟨rfl, ⟨nd, rfl⟩⟩; replace HB := Aside0.mk (bel_drewN HB.out nd))
    | (go_at_call 8; refine (implDecimal v (by omega) (by omega) _ (tab_below HT.out HB.out)).mono ?_; rintro e w3 ⟨rfl, hb2⟩; replace HB := Aside0.mk (below_step HB.out hb2); clear hb2))
  · go_ret2
    refine ⟨?_, HB.out⟩
    rw [hR, if_pos (by rw [← hc])]; rfl
  · go_ret2
    refine ⟨?_, HB.out⟩
    rw [hR, if_neg (fun x => hc (by rw [x]))]; rfl
  · next hb =>
    exfalso
    simp only [Bool.not_eq_false', beq_iff_eq, ByteArray.toList_eq] at hb
    exact hc (by rw [hb])
/-- What impl's ReadDecimal answers. -/
theorem implRead (t : ByteArray) (ht : t.size ≤ 1048576) (w : World) (htab : Lib.TabIs Tryd.prog w "internal/strconv.uint64pow10" .u64 Lib.pow10Tab) (hs : Sents w) :
    Calls Tryd.prog 10 #[.string t] w fun e w' => e = .returned (.tuple #[.int .i64 (DecR.readI t).1, .bool (DecR.readI t).2]) ∧ Below w.heap.size w w' := by
  by_cases hok : ∃ v, Lib.atoiAll t.data.toList = .ok v
  · obtain ⟨v, h⟩ := hok
    by_cases hv : 0 ≤ v ∧ v ≤ 1000000000
    · exact implRead_in t ht v h hv w htab
    · have e : DecR.readI t = (0, false) := by
        unfold DecR.readI; rw [h]
        show (if _ then _ else _) = _
        rw [if_neg (fun x => hv x.1)]
      rw [e]; exact implRead_out t ht v h hv w
  · have e : DecR.readI t = (0, false) := by
      unfold DecR.readI
      split
      · next v h => exact absurd ⟨v, h⟩ hok
      · rfl
    rw [e]; exact implRead_bad t ht (fun v x => hok ⟨v, x⟩) w hs
set_option maxHeartbeats 4000000 in
set_option maxRecDepth 100000 in
theorem lawReadBig (t : ByteArray) (ht : ¬ t.size ≤ 1048576) (w : World) :
    Calls Tryd.prog 4 #[.string t] w fun e w' => e = .returned (.bool true) ∧ Below w.heap.size w w' := by
  go_enter Tryd.func4, Tryd.ntmps4
  go_wp2
  go_ret
  exact ⟨EE, Below.refl _ _⟩
set_option maxHeartbeats 4000000 in
set_option maxRecDepth 100000 in
theorem lawRead (t : ByteArray) (ht : t.size ≤ 1048576) (w : World) (htab : Lib.TabIs Tryd.prog w "internal/strconv.uint64pow10" .u64 Lib.pow10Tab) (hs : Sents w) :
    Calls Tryd.prog 4 #[.string t] w fun e w' => e = .returned (.bool true) ∧ Below w.heap.size w w' := by
  obtain ⟨k, hk⟩ := (DecR.specRead_ev t).rounds
  have hI := DecR.readI_eq t
  generalize hm : DecR.readM t = m at hk hI
  obtain ⟨v, b⟩ := m
  have hi : ∀ w, Lib.TabIs Tryd.prog w "internal/strconv.uint64pow10" .u64 Lib.pow10Tab → Sents w → Calls Tryd.prog 10 #[.string t] w fun e w' => e = .returned (.tuple #[.int .i64 v, .bool b]) ∧ Below w.heap.size w w' := by
    intro w h1 h2; have := implRead t ht w h1 h2; rw [hI] at this; exact this
  have HK := Aside0.mk hk; have HT := Aside0.mk htab; have HS := Aside0.mk hs; have HI := Aside0.mk hi; clear hk htab hs hi hI hm
  go_enter Tryd.func4, Tryd.ntmps4
  go_wp2_with (first
    | (go_at_call 9; refine (spec_ReadDecimal.calls k t v b _ HK.out).mono ?_; rintro e w1 ⟨rfl, hb1⟩; have HB := Aside0.mk hb1; clear hb1)
    | (go_at_call 10; refine (HI.out _ (tab_below HT.out HB.out) (sents_below HS.out HB.out)).mono ?_; rintro e w2 ⟨rfl, hb2⟩; replace HB := Aside0.mk (below_step HB.out hb2); clear hb2))
  go_ret
  exact ⟨EE, HB.out⟩
abbrev laidR : List (String × DataW Unit) := Rows.fnExactReadDecimalRow.laid
theorem gP : Tryd.prog.globalNamed "internal/strconv.uint64pow10" = some 3 := by kernel_rfl
theorem gPT : (Tryd.prog.globals[3]?).map (·.type) = some 91 := by kernel_rfl
theorem tab_of {W : World} (h : laidMetH Tryd.prog laidR W) : Lib.TabIs Tryd.prog W "internal/strconv.uint64pow10" .u64 Lib.pow10Tab := by
  have h2 := h.filter (fun x => x.1 == "internal/strconv.uint64pow10")
  rw [MakeChecks.laidMetH_plain _ _ _ (by kernel_rfl)] at h2
  have e : (laidR.filter fun x => x.1 == "internal/strconv.uint64pow10") = ("internal/strconv.uint64pow10", Lib.tabData .u64 Lib.pow10Tab) :: [] := by kernel_rfl
  rw [e] at h2
  exact Lib.tabIs_of_head gP gPT (show Tryd.prog.underlying 91 = some (.array 20 75) by kernel_rfl) (show Tryd.prog.underlying 75 = some (.int .u64) by kernel_rfl) (by kernel_rfl) (by kernel_rfl) h2
theorem star : "*" ++ "errors.errorString" = "*errors.errorString" := by decide
theorem row97 (u : TypeId) (h : Tryd.prog.typeName? 3 u = some "*errors.errorString") : u = 97 :=
  typeName_ptr_named (nm := "errors.errorString") (by rw [star]; kernel_rfl) (by kernel_rfl) (by decide) u (by rw [star]; exact h)
theorem sents_of {W : World} (h : laidMetH Tryd.prog laidR W) : Sents W := by
  constructor
  · have h2 := h.filter (fun x => x.1 == "strconv.ErrSyntax")
    rw [MakeChecks.laidMetH_plain _ _ _ (by kernel_rfl)] at h2
    have e : (laidR.filter fun x => x.1 == "strconv.ErrSyntax") = ("strconv.ErrSyntax", .iface "*errors.errorString" (.ptr (.agg [.lit (.string [105, 110, 118, 97, 108, 105, 100, 32, 115, 121, 110, 116, 97, 120])]))) :: [] := by kernel_rfl
    rw [e] at h2
    obtain ⟨a, t, hv, _⟩ := laid_sentinel (g := 0) h2 (by kernel_rfl) (by kernel_rfl) Tryd.underlying45 row97 Tryd.underlying97 Tryd.underlying99 rfl rfl Tryd.underlying9 (by kernel_rfl) (by kernel_rfl)
    exact ⟨_, _, hv⟩
  · have h2 := h.filter (fun x => x.1 == "strconv.ErrRange")
    rw [MakeChecks.laidMetH_plain _ _ _ (by kernel_rfl)] at h2
    have e : (laidR.filter fun x => x.1 == "strconv.ErrRange") = ("strconv.ErrRange", .iface "*errors.errorString" (.ptr (.agg [.lit (.string [118, 97, 108, 117, 101, 32, 111, 117, 116, 32, 111, 102, 32, 114, 97, 110, 103, 101])]))) :: [] := by kernel_rfl
    rw [e] at h2
    obtain ⟨a, t, hv, _⟩ := laid_sentinel (g := 1) h2 (by kernel_rfl) (by kernel_rfl) Tryd.underlying45 row97 Tryd.underlying97 Tryd.underlying99 rfl rfl Tryd.underlying9 (by kernel_rfl) (by kernel_rfl)
    exact ⟨_, _, hv⟩
theorem own : ownKnob Tryd.prog.godebug = none := by kernel_rfl
theorem laidOut : laidOutB Tryd.prog = true := by kernel_rfl
theorem door_met (os : Os) (args : Array Value) : laidMetH Tryd.prog laidR ((World.doorLaid Tryd.prog 4000 os).forCall (fun _ _ => 0) ⟨#[], args, []⟩).memory :=
  laidMetH_of_parts3 (fuel := 8) (laidMet_of_run' 8 (by kernel_rfl) (by kernel_rfl)) (by kernel_rfl) (by kernel_rfl)
set_option maxRecDepth 100000 in
theorem lifted (os : Os) (started : os.Started) (H : Type) (enc : TypeId × Value → H) :
    ReturnsInHanded {} Tryd.checked os 4 .any (fun w args => (Rows.fnExactReadDecimalSpec.pre enc Tryd.prog Tryd.f4 [] false w args ∧ laidMetH Tryd.prog laidR w) ∧ sizedMet enc Tryd.prog Tryd.f4 (OpenSpec.ofChange Rows.fnExactReadDecimalSpec) false w args)
      (Rows.fnExactReadDecimalSpec.post enc Tryd.prog Tryd.f4 false true false false) := by
  refine returnsInHanded_of_change_and (C := Tryd.checked) (X := fun w _ => laidMetH Tryd.prog laidR w) (fun _ _ _ hh h => h.of_heap hh) own started (by kernel_rfl) Tryd.func4
    (ChangeSpec.witness_shaped (enc := enc) (C := Tryd.checked) (os := os) (X := fun w _ => laidMetH Tryd.prog laidR w) false (World.doorLaid Tryd.prog 4000 os) #[.string ⟨#[]⟩] 8 rfl (World.shaped_of_RefB (by kernel_rfl) (by kernel_rfl)) (by kernel_rfl) (by kernel_rfl) (by kernel_rfl) (door_met os _)) ?_
  intro W base args ds gs before hval0 hW _ _ hL _
  have hval : ∀ (j : Nat) t v, Tryd.f4.params[j]? = some t → args[j]? = some v → Value.okWide Tryd.prog W .any base t v := hval0
  have hW' := hW
  obtain ⟨p, q, hA0, hV, rfl, hfz, hnd⟩ := hW
  have hA : DataW.TrodAll enc Tryd.prog W 0 (fun _ => true) true Tryd.f4.params.toList args.toList ds p := hA0
  rw [Tryd.params4] at hA hval
  obtain ⟨v0, d0, rfl, rfl, h0⟩ := trodAll_one hA
  obtain ⟨rfl, rfl⟩ := trodVars_none hV
  obtain ⟨s, rfl, rfl, rfl, hs⟩ := Go.ChangeMaps.open_string Tryd.underlying9 (hval 0 9 v0 rfl rfl) h0
  clear hA0 hval0
  have hrun : Calls Tryd.prog 4 #[.string s] W fun e w' => e = .returned (.bool true) ∧ Below W.heap.size W w' := by
    by_cases c : s.size ≤ 1048576
    · exact lawRead s c W (tab_of hL) (sents_of hL)
    · exact lawReadBig s c W
  refine hrun.mono fun e W' ⟨he, bel⟩ => ?_
  subst he
  exact ⟨_, rfl, _, _, _, [], _, [], hW', trodAll_mk1 (shut_bool Tryd.underlying4 _), (trodAll_cons_mk (Go.ChangeMaps.shut_string Tryd.underlying9 hs) trodAll_mk0), rfl, bel.frame _, fun h => by cases h⟩
theorem over : Rows.FnExactReadDecimalSaid :=
  OpenClaim.holds_of_wide 4 Tryd.f4 rfl rfl rfl rfl rfl rfl rfl ⟨rfl, rfl, rfl, rfl, rfl⟩ rfl rfl rfl rfl rfl (by kernel_rfl) Tryd.func4 (by kernel_rfl)
    (of_decide_eq_true (by kernel_rfl)) (by unfold Func.isWrapper; first | (rw [if_pos (by decide +kernel)]; kernel_rfl) | (rw [if_neg (by decide +kernel)]; exact ⟨rfl, rfl⟩))
    (fun os started H enc _ => lifted os started H enc)
theorem fnExactReadDecimal_holds : Rows.FnExactReadDecimalCardSaid :=
  Claim7.holds_tied_plain_at .later [] [.data, .data, .data, .sentinel, .sentinel] true (true, "49967ae177fb1b3f0a201d10036432c5946a1ddb90cb5803cb068464ce01eec8") true
    over (fun _ h => by cases h) (by kernel_rfl) (fun _ h => by cases h) fnExactReadDecimal_row_tie rfl ⟨rfl, rfl⟩ (by kernel_rfl) rfl
    (fun f fn hf hfn => by
      obtain rfl : f = 4 := Option.some.inj ((show Tryd.prog.funcNamed "loop.example/g00245/laws.FnExactReadDecimal" = some 4 by kernel_rfl).symm.trans hf) |>.symm
      obtain rfl : fn = Tryd.f4 := (Option.some.inj (Tryd.func4.symm.trans hfn)).symm
      exact ⟨by kernel_rfl, fun j t ht => by
        rw [Tryd.params4] at ht
        have hm : t ∈ [9] := by simpa using Array.mem_of_getElem? ht
        have hall : ([9].all fun u => !Tryd.prog.wantsStandIn u) = true := by kernel_rfl
        exact (show Tryd.prog.wantsStandIn t = false by simpa using List.all_eq_true.1 hall t hm)⟩)
    (by kernel_rfl)
end Go.Proofs.YtmmpjeadjfamfaaDoor
