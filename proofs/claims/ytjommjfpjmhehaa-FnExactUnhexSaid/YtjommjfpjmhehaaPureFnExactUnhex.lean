/- FnExactUnhex returns true for all arguments: the program's Unhex answers what the reference's answers. No conditions beyond the statement's own. -/
import Derived.Test.YtjommjfpjmhehaaQux1
import Derived.Test.YtjommjfpjmhehaaBase
namespace Go.Proofs.Ytjommjfpjmhehaa.Pure
open Go.RowKit Go.Proofs.Ytjommjfpjmhehaa.Qu Go.Proofs.YtjommjfpjmhehaaW.PrintWords Go.Proofs.YtjommjfpjmhehaaW.PrintLast Go.Proofs.YtjommjfpjmhehaaW.PrintMore Go.Proofs.Ytjommjfpjmhehaa.Base

def valM (c : Int) : Int := if 48 ≤ c ∧ c ≤ 57 then c - 48 else if 97 ≤ c ∧ c ≤ 102 then c - 87 else -1
theorem valM_range (c : Int) : -1 ≤ valM c ∧ valM c ≤ 15 := by
  unfold valM; split
  · omega
  · split <;> omega
theorem specValue_j (c : Int) (h : 0 ≤ c ∧ c ≤ 255) : Ev (fun k => spec_l01Value.f k c) (valM c) := by
  refine Ev.congr (fun _ => spec_l01Value.f.eq_1 ..) ?_
  have no : ¬ (48 ≤ c ∧ c ≤ 57) → Ev (fun k => spec_l01Value.j0 k c false) (valM c) := fun hn => by
    have v : valM c = if 97 ≤ c ∧ c ≤ 102 then c - 87 else -1 := by unfold valM; rw [if_neg hn]
    refine Ev.step (fun _ => spec_l01Value.j0.eq_2 ..) (Ev.neg (by simp) ?_)
    by_cases h1 : c ≥ 97
    · by_cases h2 : c ≤ 102
      · refine Ev.pos h1 (Ev.pos h2 (Ev.some ?_))
        rw [v, if_pos ⟨h1, h2⟩, w64 (n := c) (by omega) (by omega), w64 (n := c - 97) (by omega) (by omega), w64 (by omega) (by omega)]; omega
      · exact Ev.pos h1 (Ev.neg h2 (Ev.some (by rw [v, if_neg (fun z => h2 z.2)])))
    · exact Ev.neg h1 (Ev.some (by rw [v, if_neg (fun z => h1 z.1)]))
  by_cases h1 : c ≥ 48
  · refine Ev.pos h1 ?_
    by_cases h2 : c ≤ 57
    · rw [decide_eq_true h2]
      refine Ev.step (fun _ => spec_l01Value.j0.eq_2 ..) (Ev.pos rfl (Ev.some ?_))
      unfold valM
      rw [if_pos ⟨h1, h2⟩, w64 (n := c) (by omega) (by omega), w64 (by omega) (by omega)]
    · rw [decide_eq_false h2]; exact no (fun z => h2 z.2)
  · exact Ev.neg h1 (no (fun z => h1 z.1))
theorem index_all : ∀ n : Fin 256, Lib.indexByte ([48, 49, 50, 51, 52, 53, 54, 55, 56, 57, 97, 98, 99, 100, 101, 102] : List UInt8) n.val.toUInt8 = valM (n.val : Int) := by decide +kernel
theorem index_eq (c : Int) (h : 0 ≤ c ∧ c ≤ 255) : strings_IndexByte.f (⟨#[48, 49, 50, 51, 52, 53, 54, 55, 56, 57, 97, 98, 99, 100, 101, 102]⟩ : ByteArray) c = some (valM c) := by
  have := index_all ⟨c.toNat, by omega⟩
  unfold strings_IndexByte.f
  rw [show (((⟨c.toNat, by omega⟩ : Fin 256).val : Nat) : Int) = c from by show ((c.toNat : Nat) : Int) = c; omega] at this
  exact congrArg some this
def unhexM : List Int → Option (List Int)
  | [] => some []
  | [_] => none
  | a :: b :: r => if valM a < 0 ∨ valM b < 0 then none else (unhexM r).map fun t => (16 * valM a + valM b) :: t
def unhexOut (acc : List Int) : Option (List Int) → ByteArray × Bool
  | none => ((⟨#[]⟩ : ByteArray), false)
  | some t => (strOfNums (acc ++ t), true)
theorem specUnhex_l0 (s : ByteArray) (hs : s.size ≤ 40000) (d : Nat) :
    ∀ (i : Nat) (acc : List Int), i + 2 * d = s.size → acc.length ≤ i → Ev (fun k => spec_Unhex.l0 k s acc (i : Int)) (unhexOut acc (unhexM ((bytesOf s).drop i))) := by
  induction d with
  | zero =>
    intro i acc hi _
    refine Ev.step (fun _ => spec_Unhex.l0.eq_2 ..) (Ev.neg (by omega) (Ev.some ?_))
    rw [List.drop_eq_nil_of_le (by rw [bytesOf_length]; omega)]; simp [unhexM, unhexOut]
  | succ d ih =>
    intro i acc hi ha
    have hb := bt_range s (i : Int)
    have hc := bt_range s ((i + 1 : Nat) : Int)
    refine Ev.step (fun _ => spec_Unhex.l0.eq_2 ..) (Ev.pos (by omega) (Ev.pos (by omega) ?_))
    rw [bytesOf_drop s i (by omega), bytesOf_drop s (i + 1) (by omega), w64_succ i (by omega), show wrap64 ((i : Int) + 2) = ((i + 2 : Nat) : Int) from by rw [w64 (by omega) (by omega)]; omega]
    refine Ev.bind (specValue_j _ hb) (Ev.pos (by omega) (Ev.pos (by omega) (Ev.bind (specValue_j _ hc) ?_)))
    have r1 := valM_range (bt s (i : Int))
    have r2 := valM_range (bt s ((i + 1 : Nat) : Int))
    by_cases h1 : valM (bt s (i : Int)) < 0
    · have v : unhexM (bt s (i : Int) :: bt s ((i + 1 : Nat) : Int) :: (bytesOf s).drop (i + 1 + 1)) = none := by unfold unhexM; exact if_pos (.inl h1)
      rw [v]; exact Ev.pos h1 (Ev.now _)
    · by_cases h2 : valM (bt s ((i + 1 : Nat) : Int)) < 0
      · have v : unhexM (bt s (i : Int) :: bt s ((i + 1 : Nat) : Int) :: (bytesOf s).drop (i + 1 + 1)) = none := by unfold unhexM; exact if_pos (.inr h2)
        rw [v]; exact Ev.neg h1 (Ev.pos h2 (Ev.now _))
      · have v : unhexM (bt s (i : Int) :: bt s ((i + 1 : Nat) : Int) :: (bytesOf s).drop (i + 1 + 1)) = (unhexM ((bytesOf s).drop (i + 1 + 1))).map fun t => (16 * valM (bt s (i : Int)) + valM (bt s ((i + 1 : Nat) : Int))) :: t := by rw [unhexM, if_neg (fun z => z.elim h1 h2)]
        rw [v]
        refine Ev.neg h1 (Ev.neg h2 (Ev.pos (by omega) ?_))
        rw [w64 (n := 16 * valM (bt s (i : Int))) (by omega) (by omega), w64 (n := 16 * valM (bt s (i : Int)) + valM (bt s ((i + 1 : Nat) : Int))) (by omega) (by omega), show (16 * valM (bt s (i : Int)) + valM (bt s ((i + 1 : Nat) : Int))) % 256 = 16 * valM (bt s (i : Int)) + valM (bt s ((i + 1 : Nat) : Int)) from by omega]
        refine Ev.eq (ih (i + 2) _ (by omega) (by simp; omega)) ?_
        cases unhexM ((bytesOf s).drop (i + 2)) with
        | none => rfl
        | some t => simp [unhexOut]
theorem implUnhex_l0 (s : ByteArray) (hs : s.size ≤ 40000) (d : Nat) :
    ∀ (i : Nat) (acc : List Int), i + 2 * d = s.size → acc.length ≤ i → Ev (fun k => impl_Unhex.l0 k s acc (i : Int)) (unhexOut acc (unhexM ((bytesOf s).drop i))) := by
  induction d with
  | zero =>
    intro i acc hi _
    refine Ev.step (fun _ => impl_Unhex.l0.eq_2 ..) (Ev.neg (by omega) (Ev.some ?_))
    rw [List.drop_eq_nil_of_le (by rw [bytesOf_length]; omega)]; simp [unhexM, unhexOut]
  | succ d ih =>
    intro i acc hi ha
    have hb := bt_range s (i : Int)
    have hc := bt_range s ((i + 1 : Nat) : Int)
    refine Ev.step (fun _ => impl_Unhex.l0.eq_2 ..) (Ev.pos (by omega) (Ev.pos (by omega) ?_))
    rw [bytesOf_drop s i (by omega), bytesOf_drop s (i + 1) (by omega), w64_succ i (by omega), show wrap64 ((i : Int) + 2) = ((i + 2 : Nat) : Int) from by rw [w64 (by omega) (by omega)]; omega]
    refine Ev.call (index_eq _ hb) (Ev.pos (by omega) (Ev.pos (by omega) (Ev.call (index_eq _ hc) ?_)))
    have r1 := valM_range (bt s (i : Int))
    have r2 := valM_range (bt s ((i + 1 : Nat) : Int))
    by_cases h1 : valM (bt s (i : Int)) < 0
    · have v : unhexM (bt s (i : Int) :: bt s ((i + 1 : Nat) : Int) :: (bytesOf s).drop (i + 1 + 1)) = none := by unfold unhexM; exact if_pos (.inl h1)
      rw [v]; exact Ev.pos h1 (Ev.now _)
    · by_cases h2 : valM (bt s ((i + 1 : Nat) : Int)) < 0
      · have v : unhexM (bt s (i : Int) :: bt s ((i + 1 : Nat) : Int) :: (bytesOf s).drop (i + 1 + 1)) = none := by unfold unhexM; exact if_pos (.inr h2)
        rw [v]; exact Ev.neg h1 (Ev.pos h2 (Ev.now _))
      · have v : unhexM (bt s (i : Int) :: bt s ((i + 1 : Nat) : Int) :: (bytesOf s).drop (i + 1 + 1)) = (unhexM ((bytesOf s).drop (i + 1 + 1))).map fun t => (16 * valM (bt s (i : Int)) + valM (bt s ((i + 1 : Nat) : Int))) :: t := by rw [unhexM, if_neg (fun z => z.elim h1 h2)]
        rw [v]
        refine Ev.neg h1 (Ev.neg h2 (Ev.pos (by omega) ?_))
        rw [w64 (n := 16 * valM (bt s (i : Int))) (by omega) (by omega), w64 (n := 16 * valM (bt s (i : Int)) + valM (bt s ((i + 1 : Nat) : Int))) (by omega) (by omega), show (16 * valM (bt s (i : Int)) + valM (bt s ((i + 1 : Nat) : Int))) % 256 = 16 * valM (bt s (i : Int)) + valM (bt s ((i + 1 : Nat) : Int)) from by omega]
        refine Ev.eq (ih (i + 2) _ (by omega) (by simp; omega)) ?_
        cases unhexM ((bytesOf s).drop (i + 2)) with
        | none => rfl
        | some t => simp [unhexOut]
def unhexF (s : ByteArray) : ByteArray × Bool := if s.size ≤ 40000 ∧ s.size % 2 = 0 then unhexOut [] (unhexM (bytesOf s)) else ((⟨#[]⟩ : ByteArray), false)
theorem specUnhex_ev (s : ByteArray) : Ev (fun k => spec_Unhex.f k s) (unhexF s) := by
  refine Ev.congr (fun _ => spec_Unhex.f.eq_1 ..) ?_
  by_cases h : (s.size : Int) > 40000
  · rw [show unhexF s = ((⟨#[]⟩ : ByteArray), false) from if_neg (by omega)]; exact Ev.pos h (Ev.step (fun _ => spec_Unhex.j0.eq_2 ..) (Ev.pos rfl (Ev.now _)))
  · refine Ev.neg h (Ev.step (fun _ => spec_Unhex.j0.eq_2 ..) ?_)
    by_cases h2 : s.size % 2 = 0
    · rw [show unhexF s = unhexOut [] (unhexM (bytesOf s)) from if_pos ⟨by omega, h2⟩]
      refine Ev.neg (by simp; omega) ?_
      have := specUnhex_l0 s (by omega) (s.size / 2) 0 [] (by omega) (by simp)
      simpa using this
    · rw [show unhexF s = ((⟨#[]⟩ : ByteArray), false) from if_neg (fun z => h2 z.2)]
      refine Ev.pos ?_ (Ev.now _)
      rw [bne_iff_ne]; omega
theorem implUnhex_ev (s : ByteArray) : Ev (fun k => impl_Unhex.f k s) (unhexF s) := by
  refine Ev.congr (fun _ => impl_Unhex.f.eq_1 ..) ?_
  by_cases h : (s.size : Int) % 2 = 0
  · refine Ev.pos h (Ev.step (fun _ => impl_Unhex.j0.eq_2 ..) ?_)
    by_cases h2 : (s.size : Int) > 40000
    · rw [show unhexF s = ((⟨#[]⟩ : ByteArray), false) from if_neg (by omega)]; exact Ev.pos (by rw [decide_eq_true h2]) (Ev.now _)
    · rw [show unhexF s = unhexOut [] (unhexM (bytesOf s)) from if_pos (by omega)]
      refine Ev.neg (by rw [decide_eq_false h2]; simp) ?_
      have := implUnhex_l0 s (by omega) (s.size / 2) 0 [] (by omega) (by simp)
      simpa using this
  · rw [show unhexF s = ((⟨#[]⟩ : ByteArray), false) from if_neg (by omega)]
    exact Ev.neg h (Ev.step (fun _ => impl_Unhex.j0.eq_2 ..) (Ev.pos rfl (Ev.now _)))
theorem FnExactUnhex : laws_FnExactUnhex.Pure := by
  intro s _
  apply Ev.rounds
  refine Ev.congr (fun _ => laws_FnExactUnhex.f.eq_1 ..) (Ev.ite (fun _ => Ev.now _) (fun _ => ?_))
  exact Ev.bind (specUnhex_ev s) (Ev.bind (implUnhex_ev s) (Ev.pos rfl (Ev.neg (by simp) (Ev.now _))))

end Go.Proofs.Ytjommjfpjmhehaa.Pure
