/- FnCellsTold returns true for all arguments: what is told of drawn cells is what the reference tells, and what is added is taken away again. No conditions beyond the statement's own. -/
import Derived.Test.YtjmggbhgmenmcaaQcellsx6
import Derived.Test.YtjmggbhgmenmcaaBase
namespace Go.Proofs.Ytjmggbhgmenmcaa.Pure
open Go.RowKit Go.Proofs.Ytjmggbhgmenmcaa.Qcells Go.Proofs.YtjmggbhgmenmcaaW.PrintWords Go.Proofs.YtjmggbhgmenmcaaW.PrintLast Go.Proofs.YtjmggbhgmenmcaaW.PrintMore Go.Proofs.Ytjmggbhgmenmcaa.Base

theorem byte_ok (l : List Int) (i h : Int) (hi : 0 ≤ i) (hl : l.length ≤ 140737488355328) :
    ∃ r i' h', spec_l01Byte.f l i h = some (r, i', h') ∧ 0 ≤ r ∧ r ≤ 255 ∧ 0 ≤ i' := by
  unfold spec_l01Byte.f
  by_cases c : i < (l.length : Int)
  · rw [if_pos c, if_pos hi]
    exact ⟨_, _, _, rfl, (and255 _).1, (and255 _).2, by rw [w64 (by omega) (by omega)]; omega⟩
  · rw [if_neg c]
    exact ⟨_, _, _, rfl, (and255 _).1, (and255 _).2, hi⟩
theorem below_ok (l : List Int) (i h n : Int) (hi : 0 ≤ i) (hl : l.length ≤ 140737488355328) :
    ∃ r i' h', spec_l01Below.f l i h n = some (r, i', h') ∧ 0 ≤ i' ∧ 0 ≤ r ∧ (0 < n → r < n) ∧ (n ≤ 0 → r = 0) := by
  unfold spec_l01Below.f
  by_cases c : n ≤ 0
  · rw [if_pos c]; exact ⟨_, _, _, rfl, hi, by omega, by omega, fun _ => rfl⟩
  · rw [if_neg c]
    by_cases c2 : n ≤ 256
    · rw [if_pos c2]
      obtain ⟨r, i1, h1, e, r0, r1, hi1⟩ := byte_ok l i h hi hl
      rw [e, Option.bind_some, if_neg (by omega)]
      have := tmod_in r n r0 (by omega)
      exact ⟨_, _, _, rfl, hi1, this.1, fun _ => this.2, by omega⟩
    · rw [if_neg c2]
      obtain ⟨x, i1, h1, e1, x0, x1, hi1⟩ := byte_ok l i h hi hl
      obtain ⟨y, i2, h2, e2, y0, y1, hi2⟩ := byte_ok l i1 h1 hi1 hl
      obtain ⟨z, i3, h3, e3, z0, z1, hi3⟩ := byte_ok l i2 h2 hi2 hl
      obtain ⟨w, i4, h4, e4, w0, w1, hi4⟩ := byte_ok l i3 h3 hi3 hl
      rw [e1, Option.bind_some, e2, Option.bind_some, e3, Option.bind_some, e4, Option.bind_some, if_neg (by omega)]
      have q1 : wrap64 (x * 16777216) = x * 16777216 := w64 (by omega) (by omega)
      have q2 : wrap64 (y * 65536) = y * 65536 := w64 (by omega) (by omega)
      have q3 : wrap64 (z * 256) = z * 256 := w64 (by omega) (by omega)
      simp only [q1, q2, q3]
      rw [w64 (n := x * 16777216 + y * 65536) (by omega) (by omega), w64 (n := x * 16777216 + y * 65536 + z * 256) (by omega) (by omega), w64 (n := x * 16777216 + y * 65536 + z * 256 + w) (by omega) (by omega)]
      have := tmod_in (x * 16777216 + y * 65536 + z * 256 + w) n (by omega) (by omega)
      exact ⟨_, _, _, rfl, hi4, this.1, fun _ => this.2, by omega⟩
theorem pickInt_ok (l : List Int) (i h : Int) (xs : List Int) (hx : 0 < xs.length) (hi : 0 ≤ i) (hl : l.length ≤ 140737488355328) :
    ∃ r i' h', spec_l01PickInt.f l i h xs = some (r, i', h') ∧ 0 ≤ i' ∧ r ∈ xs := by
  unfold spec_l01PickInt.f
  obtain ⟨r, i1, h1, e, hi1, r0, r1, _⟩ := below_ok l i h (xs.length : Int) hi hl
  rw [e, Option.bind_some, if_pos r0, if_pos (r1 (by omega))]
  exact ⟨_, _, _, rfl, hi1, rd_mem xs r r0 (r1 (by omega))⟩
theorem new_l0 (l : List Int) (d : Nat) :
    ∀ (j : Nat) (x : Int), j + d = l.length → ∃ h, Ev (fun k => spec_l01New.l0 k l x (j : Int)) (l, 0, h) := by
  induction d with
  | zero => intro j x hj; exact ⟨x, Ev.step (fun _ => spec_l01New.l0.eq_2 ..) (Ev.neg (by omega) (Ev.now _))⟩
  | succ d ih =>
    intro j x hj
    by_cases c : (j : Int) < 4000
    · obtain ⟨h, e⟩ := ih (j + 1) (Go.bits .and .i64 (wrap64 ((wrap64 ((wrap64 (x * 131)) + (wrap64 (rd l j)))) + 7)) 1073741823) (by omega)
      refine ⟨h, Ev.step (fun _ => spec_l01New.l0.eq_2 ..) (Ev.pos (by omega) (Ev.pos c (Ev.pos (by omega) ?_)))⟩
      rw [w64_succ j (by omega)]
      exact e
    · exact ⟨x, Ev.step (fun _ => spec_l01New.l0.eq_2 ..) (Ev.pos (by omega) (Ev.neg c (Ev.now _)))⟩
theorem new_ok (l : List Int) (_hl : l.length ≤ 140737488355328) : ∃ h, Ev (fun k => spec_l01New.f k l) (l, 0, h) := by
  obtain ⟨h, e⟩ := new_l0 l l.length 0 (wrap64 (34901 + (l.length : Int))) (by omega)
  exact ⟨h, Ev.congr (fun _ => spec_l01New.f.eq_1 ..) e⟩
theorem big_eq (l : List Int) : laws_big.f l = some (decide ((l.length : Int) > 1048576)) := rfl
theorem places_l0 (l : List Int) (hl : l.length ≤ 140737488355328) (d : Nat) :
    ∀ (j : Nat) (acc : List Int) (i h : Int), j + d = 12 → acc.length = j → (∀ x ∈ acc, 0 ≤ x ∧ x < 10000) → 0 ≤ i →
      ∃ r, Ev (fun k => spec_DrawPlaces.l0 k acc (j : Int) l i h) r ∧ r.length = 12 ∧ ∀ x ∈ r, 0 ≤ x ∧ x < 10000 := by
  induction d with
  | zero =>
    intro j acc i h hj hc ha hi
    exact ⟨acc, Ev.step (fun _ => spec_DrawPlaces.l0.eq_2 ..) (Ev.neg (by omega) (Ev.now _)), by omega, ha⟩
  | succ d ih =>
    intro j acc i h hj hc ha hi
    obtain ⟨b, i1, h1, e, hi1, b0, b1, _⟩ := below_ok l i h 10000 hi hl
    obtain ⟨r, er, hr⟩ := ih (j + 1) (acc ++ [b]) i1 h1 (by omega) (by simp; omega) (by
      intro x hx
      rcases List.mem_append.1 hx with hx | hx
      · exact ha x hx
      · obtain rfl := List.mem_singleton.1 hx; exact ⟨b0, b1 (by omega)⟩) hi1
    refine ⟨r, Ev.step (fun _ => spec_DrawPlaces.l0.eq_2 ..) (Ev.pos (by omega) (Ev.call e (Ev.pos (by omega) ?_))), hr⟩
    rw [w64_succ j (by omega)]
    exact er
theorem places_ok (l : List Int) (hl : l.length ≤ 140737488355328) : ∃ r, Ev (fun k => spec_DrawPlaces.f k l) r ∧ r.length = 12 ∧ ∀ x ∈ r, 0 ≤ x ∧ x < 10000 := by
  obtain ⟨h, e⟩ := new_ok l hl
  obtain ⟨b, i1, h1, e1, _, _, hi1⟩ := byte_ok l 0 h (by omega) hl
  obtain ⟨r, er, hr⟩ := places_l0 l hl 12 0 [] i1 h1 (by omega) rfl (by simp) hi1
  exact ⟨r, Ev.congr (fun _ => spec_DrawPlaces.f.eq_1 ..) (Ev.bind e (Ev.call e1 er)), hr⟩
theorem cells_l0 (l : List Int) (hl : l.length ≤ 140737488355328) (d : Nat) :
    ∀ (j : Nat) (acc : List Int) (i h : Int), j + d = 6 → acc.length = j → (∀ x ∈ acc, 0 ≤ x ∧ x ≤ 1000000000) → 0 ≤ i →
      ∃ r i' h', Ev (fun k => spec_l05Cells.l0 k acc (j : Int) l i h) (r, i', h') ∧ 0 ≤ i' ∧ (∀ x ∈ r, 0 ≤ x ∧ x ≤ 1000000000) ∧ j ≤ r.length ∧ r.length ≤ 6 ∧ (j = 0 → 1 ≤ r.length) := by
  induction d with
  | zero =>
    intro j acc i h hj hc ha hi
    obtain ⟨b, i1, h1, e, hi1, b0, b1, _⟩ := below_ok l i h 6 hi hl
    have b1 := b1 (by omega)
    refine ⟨acc, i1, h1, Ev.step (fun _ => spec_l05Cells.l0.eq_2 ..) (Ev.call e (Ev.neg ?_ (Ev.now _))), hi1, ha, by omega, by omega, by omega⟩
    show ¬ (j : Int) < wrap64 (1 + b)
    rw [w64 (by omega) (by omega)]; omega
  | succ d ih =>
    intro j acc i h hj hc ha hi
    obtain ⟨b, i1, h1, e, hi1, b0, b1, _⟩ := below_ok l i h 6 hi hl
    have b1 := b1 (by omega)
    by_cases c : (j : Int) < 1 + b
    · obtain ⟨v, i2, h2, e2, hi2, hv⟩ := pickInt_ok l i1 h1 [0, 1, 2, 7, 100, 1000000000] (by decide) hi1 hl
      obtain ⟨r, i3, h3, er, hi3, q1, q2, q3, q4⟩ := ih (j + 1) (acc ++ [v]) i2 h2 (by omega) (by simp; omega) (by
        intro x hx
        rcases List.mem_append.1 hx with hx | hx
        · exact ha x hx
        · obtain rfl := List.mem_singleton.1 hx
          simp only [List.mem_cons, List.not_mem_nil, or_false] at hv
          omega) hi2
      refine ⟨r, i3, h3, Ev.step (fun _ => spec_l05Cells.l0.eq_2 ..) (Ev.call e (Ev.pos ?_ (Ev.call e2 (Ev.pos (by omega) ?_)))), hi3, q1, by omega, q3, by omega⟩
      · show (j : Int) < wrap64 (1 + b)
        rw [w64 (by omega) (by omega)]; omega
      · rw [w64_succ j (by omega)]; exact er
    · refine ⟨acc, i1, h1, Ev.step (fun _ => spec_l05Cells.l0.eq_2 ..) (Ev.call e (Ev.neg ?_ (Ev.now _))), hi1, ha, by omega, by omega, by omega⟩
      show ¬ (j : Int) < wrap64 (1 + b)
      rw [w64 (by omega) (by omega)]; omega
theorem cells_ok (l : List Int) (hl : l.length ≤ 140737488355328) (i h : Int) (hi : 0 ≤ i) :
    ∃ r i' h', Ev (fun k => spec_l05Cells.f k l i h) (r, i', h') ∧ 0 ≤ i' ∧ (∀ x ∈ r, 0 ≤ x ∧ x ≤ 1000000000) ∧ 1 ≤ r.length ∧ r.length ≤ 6 := by
  obtain ⟨r, i', h', e, a, b, _, c, d⟩ := cells_l0 l hl 6 0 [] i h (by omega) rfl (by simp) hi
  exact ⟨r, i', h', Ev.congr (fun _ => spec_l05Cells.f.eq_1 ..) e, a, b, d rfl, c⟩
theorem drawCells_ok (l : List Int) (hl : l.length ≤ 140737488355328) :
    ∃ r, Ev (fun k => spec_DrawCells.f k l) r ∧ (∀ x ∈ r, 0 ≤ x ∧ x ≤ 1000000000) ∧ 1 ≤ r.length ∧ r.length ≤ 6 := by
  obtain ⟨h, e⟩ := new_ok l hl
  obtain ⟨r, i', h', er, _, q⟩ := cells_ok l hl 0 h (by omega)
  exact ⟨r, Ev.congr (fun _ => spec_DrawCells.f.eq_1 ..) (Ev.bind e (Ev.bind er (Ev.now _))), q⟩
theorem once_ok (l : List Int) (i h n : Int) (hi : 0 ≤ i) (hl : l.length ≤ 140737488355328) :
    ∃ b i' h', spec_l01Once.f l i h n = some (b, i', h') ∧ 0 ≤ i' := by
  unfold spec_l01Once.f
  obtain ⟨r, i1, h1, e, hi1, _⟩ := below_ok l i h n hi hl
  rw [e, Option.bind_some]
  exact ⟨_, _, _, rfl, hi1⟩
theorem place_ok (l : List Int) (i h n : Int) (hi : 0 ≤ i) (hl : l.length ≤ 140737488355328) :
    ∃ r i' h', spec_l01Place.f l i h n = some (r, i', h') ∧ 0 ≤ i' := by
  unfold spec_l01Place.f
  obtain ⟨b, i1, h1, e, hi1⟩ := once_ok l i h 15 hi hl
  rw [e, Option.bind_some]
  cases b with
  | true =>
    rw [if_pos rfl]
    obtain ⟨r, i2, h2, e2, hi2, _⟩ := pickInt_ok l i1 h1 [(-1), n, wrap64 (n + 1), 9223372036854775807, (-9223372036854775808)] (by simp) hi1 hl
    rw [e2, Option.bind_some]
    exact ⟨_, _, _, rfl, hi2⟩
  | false =>
    rw [if_neg (by simp)]
    obtain ⟨r, i2, h2, e2, hi2, _⟩ := below_ok l i1 h1 n hi1 hl
    rw [e2, Option.bind_some]
    exact ⟨_, _, _, rfl, hi2⟩
theorem any_l0 (l : List Int) (hl : l.length ≤ 140737488355328) (d : Nat) :
    ∀ (acc : List Int) (i h : Int), acc.length + d = 81 → 0 ≤ i →
      ∃ r i' h', Ev (fun k => spec_l05Any.l0 k acc l i h) (r, i', h') ∧ 0 ≤ i' ∧ r.length ≤ 81 := by
  induction d with
  | zero =>
    intro acc i h hj hi
    obtain ⟨b, i1, h1, e, hi1, b0, b1, _⟩ := below_ok l i h 2 hi hl
    have b1 := b1 (by omega)
    refine ⟨acc, i1, h1, Ev.step (fun _ => spec_l05Any.l0.eq_2 ..) (Ev.call e (Ev.neg ?_ (Ev.now _))), hi1, by omega⟩
    show ¬ (acc.length : Int) < wrap64 (80 + b)
    rw [w64 (by omega) (by omega)]; omega
  | succ d ih =>
    intro acc i h hj hi
    obtain ⟨b, i1, h1, e, hi1, b0, b1, _⟩ := below_ok l i h 2 hi hl
    have b1 := b1 (by omega)
    by_cases c : (acc.length : Int) < wrap64 (80 + b)
    · obtain ⟨r, i2, h2, er, hi2, hr⟩ := ih (acc ++ [5]) i1 h1 (by simp; omega) hi1
      exact ⟨r, i2, h2, Ev.step (fun _ => spec_l05Any.l0.eq_2 ..) (Ev.call e (Ev.pos c (Ev.pos (by omega) er))), hi2, hr⟩
    · exact ⟨acc, i1, h1, Ev.step (fun _ => spec_l05Any.l0.eq_2 ..) (Ev.call e (Ev.neg c (Ev.now _))), hi1, by omega⟩
theorem any_ok (l : List Int) (hl : l.length ≤ 140737488355328) (i h : Int) (hi : 0 ≤ i) :
    ∃ r i' h', Ev (fun k => spec_l05Any.f k l i h) (r, i', h') ∧ 0 ≤ i' ∧ r.length ≤ 81 := by
  obtain ⟨x, i1, h1, e1, hi1, _, x1, x6⟩ := cells_ok l hl i h hi
  obtain ⟨b, i2, h2, e2, hi2, b0, b1, _⟩ := below_ok l i1 h1 10 hi1 hl
  by_cases c0 : b = 0
  · obtain ⟨v, i3, h3, e3, hi3, _⟩ := pickInt_ok l i2 h2 [(-1), 1000000001, 9223372036854775807, (-9223372036854775808)] (by decide) hi2 hl
    exact ⟨_, _, _, Ev.congr (fun _ => spec_l05Any.f.eq_1 ..) (Ev.bind e1 (Ev.call e2 (Ev.pos c0 (Ev.call e3 (Ev.pos (by show (0 : Int) < (x.length : Int); omega) (Ev.now _)))))), hi3, by show (x.set _ _).length ≤ 81; simp; omega⟩
  · by_cases c1 : b = 1
    · exact ⟨_, _, _, Ev.congr (fun _ => spec_l05Any.f.eq_1 ..) (Ev.bind e1 (Ev.call e2 (Ev.neg c0 (Ev.pos c1 (Ev.now _))))), hi2, by simp⟩
    · by_cases c2 : b = 2
      · obtain ⟨r, i3, h3, e3, hi3, hr⟩ := any_l0 l hl (81 - x.length) x i2 h2 (by omega) hi2
        exact ⟨_, _, _, Ev.congr (fun _ => spec_l05Any.f.eq_1 ..) (Ev.bind e1 (Ev.call e2 (Ev.neg c0 (Ev.neg c1 (Ev.pos c2 e3))))), hi3, hr⟩
      · exact ⟨_, _, _, Ev.congr (fun _ => spec_l05Any.f.eq_1 ..) (Ev.bind e1 (Ev.call e2 (Ev.neg c0 (Ev.neg c1 (Ev.neg c2 (Ev.now _)))))), hi2, by show x.length ≤ 81; omega⟩
theorem drawAddCell_ok (l : List Int) (hl : l.length ≤ 140737488355328) : ∃ r a n, Ev (fun k => spec_DrawAddCell.f k l) (r, a, n) ∧ r.length ≤ 81 := by
  obtain ⟨h, e⟩ := new_ok l hl
  obtain ⟨a, i1, h1, e1, hi1⟩ := place_ok l 0 h 5 (by omega) hl
  obtain ⟨n, i2, h2, e2, hi2, _⟩ := pickInt_ok l i1 h1 [0, 5, (-1), (-2000000000), 2000000003, 9223372036854775807, (-9223372036854775808)] (by decide) hi1 hl
  obtain ⟨r, i3, h3, e3, _, hr⟩ := any_ok l hl i2 h2 hi2
  exact ⟨r, a, n, Ev.congr (fun _ => spec_DrawAddCell.f.eq_1 ..) (Ev.bind e (Ev.call e1 (Ev.call e2 (Ev.bind e3 (Ev.now _))))), hr⟩
theorem drawSwapCell_ok (l : List Int) (hl : l.length ≤ 140737488355328) : ∃ r a o n, Ev (fun k => spec_DrawSwapCell.f k l) (r, a, o, n) ∧ r.length ≤ 81 := by
  obtain ⟨h, e⟩ := new_ok l hl
  obtain ⟨a, i1, h1, e1, hi1, a0, _⟩ := below_ok l 0 h 4 (by omega) hl
  obtain ⟨n, i2, h2, e2, hi2, _⟩ := pickInt_ok l i1 h1 [0, 5, (-1), 1000000000] (by decide) hi1 hl
  obtain ⟨k, i3, h3, e3, hi3, k0, _⟩ := below_ok l i2 h2 3 hi2 hl
  obtain ⟨r, i4, h4, e4, _, hr⟩ := any_ok l hl i3 h3 hi3
  have go : ∀ {x}, Ev (fun n' => if k > 0 then (if a < (r.length : Int) then (if 0 ≤ a then (some (r, a, rd r a, n)) else none) else some (r, a, 7, n)) else some (r, a, 7, n)) x → Ev (fun k => spec_DrawSwapCell.f k l) x := fun z =>
    Ev.congr (fun _ => spec_DrawSwapCell.f.eq_1 ..) (Ev.bind e (Ev.call e1 (Ev.call e2 (Ev.call e3 (Ev.bind e4 z)))))
  by_cases c : k > 0
  · by_cases c2 : a < (r.length : Int)
    · exact ⟨r, a, _, n, go (Ev.pos c (Ev.pos c2 (Ev.pos a0 (Ev.now _)))), hr⟩
    · exact ⟨r, a, _, n, go (Ev.pos c (Ev.neg c2 (Ev.now _))), hr⟩
  · exact ⟨r, a, _, n, go (Ev.neg c (Ev.now _)), hr⟩
theorem drawCellsOk_ok (l : List Int) (hl : l.length ≤ 140737488355328) : ∃ r, Ev (fun k => spec_DrawCellsOk.f k l) r ∧ r.length ≤ 81 := by
  obtain ⟨h, e⟩ := new_ok l hl
  obtain ⟨r, i3, h3, e3, _, hr⟩ := any_ok l hl 0 h (by omega)
  exact ⟨r, Ev.congr (fun _ => spec_DrawCellsOk.f.eq_1 ..) (Ev.bind e (Ev.bind e3 (Ev.now _))), hr⟩
theorem sameInts_l0 (a b : List Int) (hlen : a.length = b.length) (hn : a.length ≤ 140737488355328) (d : Nat) :
    ∀ i : Nat, i + d = a.length → Ev (fun k => laws_sameInts.l0 k a b (i : Int)) (decide (a.drop i = b.drop i)) := by
  induction d with
  | zero =>
    intro i hi
    refine Ev.step (fun _ => laws_sameInts.l0.eq_2 ..) ?_
    refine Ev.neg (by omega) (Ev.some ?_)
    rw [List.drop_eq_nil_of_le (by omega), List.drop_eq_nil_of_le (by omega)]; rfl
  | succ d ih =>
    intro i hi
    refine Ev.step (fun _ => laws_sameInts.l0.eq_2 ..) ?_
    refine Ev.pos (by omega) (Ev.pos (by omega) (Ev.pos (by omega) ?_))
    rw [rd_nat a i (by omega), rd_nat b i (by omega), w64_succ i (by omega), drop_eq_iff a b i (by omega) (by omega)]
    refine Ev.ite (fun h => ?_) (fun h => ?_)
    · rw [decide_eq_true h, Bool.true_and]; exact ih (i + 1) (by omega)
    · rw [decide_eq_false h]; exact Ev.now _
theorem sameInts_ev (a b : List Int) (hn : a.length ≤ 140737488355328) : Ev (fun k => laws_sameInts.f k a b) (decide (a = b)) := by
  refine Ev.congr (fun _ => laws_sameInts.f.eq_1 ..) (Ev.ite (fun h => ?_) (fun h => ?_))
  · exact sameInts_l0 a b (by omega) hn a.length 0 (by omega)
  · rw [decide_eq_false (fun e => h (by rw [e]))]; exact Ev.now _
theorem sameInts_self (a : List Int) (hn : a.length ≤ 140737488355328) : Ev (fun k => laws_sameInts.f k a a) true := by
  have h := sameInts_ev a a hn
  rwa [decide_eq_true rfl] at h
theorem l01In_eq (n lo hi : Int) : spec_l01In.f n lo hi = some (decide (lo ≤ n ∧ n ≤ hi)) := by
  unfold spec_l01In.f
  by_cases h : n ≥ lo
  · rw [if_pos h]; congr 1; rw [decide_eq_decide]; exact ⟨fun h2 => ⟨h, h2⟩, fun h2 => h2.2⟩
  · rw [if_neg h]; congr 1; symm; rw [decide_eq_false_iff_not]; exact fun h2 => h h2.1
theorem within_eq (n lo hi : Int) : impl_within.f n lo hi = some (decide (lo ≤ n ∧ n ≤ hi)) := by
  unfold impl_within.f
  by_cases h : n ≥ lo
  · rw [if_pos h]; congr 1; rw [decide_eq_decide]; exact ⟨fun h2 => ⟨h, h2⟩, fun h2 => h2.2⟩
  · rw [if_neg h]; congr 1; symm; rw [decide_eq_false_iff_not]; exact fun h2 => h h2.1
theorem implIsPlace_eq (l : List Int) (i : Int) (hn : l.length ≤ 140737488355328) : impl_isPlace.f l i = some (decide (0 ≤ i ∧ i < l.length)) := by
  unfold impl_isPlace.f
  rw [within_eq, Option.bind_some, w64 (by omega) (by omega)]
  congr 1
  rw [decide_eq_decide]; omega
theorem implIsNumber_eq (n : Int) : impl_isNumber.f n = some (decide (0 ≤ n ∧ n ≤ 1000000000)) := by
  unfold impl_isNumber.f; rw [within_eq, Option.bind_some]
theorem implCopyInts_eq (l : List Int) (hn : l.length < 17592186044416) : impl_copyInts.f l = some l := by
  unfold impl_copyInts.f
  rw [Option.bind_some, if_pos (by simpa using hn)]; rfl
def storeM (l : List Int) (i n : Int) : List Int × Bool := if (0 ≤ i ∧ i < (l.length : Int)) ∧ (0 ≤ n ∧ n ≤ 1000000000) then (l.set i.toNat n, true) else (l, false)
theorem implStoreCell_eq (l : List Int) (i n : Int) (hn : l.length < 17592186044416) : impl_StoreCell.f l i n = some (storeM l i n) := by
  unfold impl_StoreCell.f storeM
  rw [implCopyInts_eq l hn, Option.bind_some, implIsPlace_eq l i (by omega), Option.bind_some]
  by_cases h : 0 ≤ i ∧ i < (l.length : Int)
  · rw [decide_eq_true h, if_pos rfl, implIsNumber_eq, Option.bind_some]
    by_cases h2 : 0 ≤ n ∧ n ≤ 1000000000
    · rw [decide_eq_true h2, if_pos rfl, if_pos h.1, if_pos h.2, if_pos ⟨h, h2⟩]
    · rw [decide_eq_false h2, if_neg (by simp), if_neg (fun z => h2 z.2)]
  · rw [decide_eq_false h, if_neg (by simp), if_neg (fun z => h z.1)]
theorem specStoreCell_eq (l : List Int) (i n : Int) (hn : l.length < 17592186044416) : spec_StoreCell.f l i n = some (storeM l i n) := by
  unfold spec_StoreCell.f storeM
  rw [Option.bind_some, if_pos (by simpa using hn), Option.bind_some, l01In_eq, Option.bind_some, w64 (by omega) (by omega), List.nil_append]
  by_cases h : 0 ≤ i ∧ i < (l.length : Int)
  · rw [decide_eq_true (by omega), if_pos rfl, l01In_eq, Option.bind_some]
    by_cases h2 : 0 ≤ n ∧ n ≤ 1000000000
    · rw [decide_eq_true h2, if_pos rfl, if_pos h.1, if_pos h.2, if_pos ⟨h, h2⟩]
    · rw [decide_eq_false h2, if_neg (by simp), if_neg (fun z => h2 z.2)]
  · rw [decide_eq_false (by omega), if_neg (by simp), if_neg (fun z => h z.1)]
theorem storeM_length (l : List Int) (i n : Int) : (storeM l i n).1.length = l.length := by
  unfold storeM; split <;> simp
theorem specLoadCell_eq (l : List Int) (i : Int) (hn : l.length ≤ 140737488355328) : spec_LoadCell.f l i = some (if 0 ≤ i ∧ i < l.length then (rd l i, true) else (0, false)) := by
  unfold spec_LoadCell.f
  rw [l01In_eq, Option.bind_some, w64 (by omega) (by omega)]
  by_cases h : 0 ≤ i ∧ i < (l.length : Int)
  · rw [decide_eq_true (by omega), if_pos rfl, if_pos h.1, if_pos h.2, if_pos h]
  · rw [decide_eq_false (by omega), if_neg (by simp), if_neg h]
def swapM (l : List Int) (i o n : Int) : List Int × Bool := if (0 ≤ i ∧ i < (l.length : Int)) ∧ rd l i = o then storeM l i n else (l, false)
theorem swapM_length (l : List Int) (i o n : Int) : (swapM l i o n).1.length = l.length := by
  unfold swapM; split
  · exact storeM_length l i n
  · rfl
theorem specSwapCell_eq (l : List Int) (i o n : Int) (hn : l.length < 17592186044416) : spec_SwapCell.f l i o n = some (swapM l i o n) := by
  unfold spec_SwapCell.f swapM
  rw [specLoadCell_eq l i (by omega), Option.bind_some]
  by_cases h : 0 ≤ i ∧ i < (l.length : Int)
  · rw [if_pos h, if_pos rfl]
    by_cases h2 : rd l i = o
    · rw [if_pos h2, specStoreCell_eq l i n hn, if_pos ⟨h, h2⟩]; rfl
    · rw [if_neg h2, Option.bind_some, if_pos (by simpa using hn), if_neg (fun z => h2 z.2)]; rfl
  · rw [if_neg h, if_neg (by simp), Option.bind_some, if_pos (by simpa using hn), if_neg (fun z => h z.1)]; rfl
theorem implSwapCell_j0 (l : List Int) (i n : Int) (b : Bool) (hn : l.length < 17592186044416) : Ev (fun k => impl_SwapCell.j0 k l i n b) (if b = true then (l, false) else storeM l i n) := by
  refine Ev.step (fun _ => impl_SwapCell.j0.eq_2 ..) ?_
  cases b with
  | true => exact Ev.pos rfl (Ev.call (implCopyInts_eq l hn) (Ev.now _))
  | false => exact Ev.neg (by simp) (Ev.call (implStoreCell_eq l i n hn) (Ev.now _))
theorem implSwapCell_ev (l : List Int) (i o n : Int) (hn : l.length < 17592186044416) : Ev (fun k => impl_SwapCell.f k l i o n) (swapM l i o n) := by
  refine Ev.congr (fun _ => impl_SwapCell.f.eq_1 ..) (Ev.call (implIsPlace_eq l i (by omega)) ?_)
  unfold swapM
  by_cases h : 0 ≤ i ∧ i < (l.length : Int)
  · refine Ev.pos (by rw [decide_eq_true h]) (Ev.pos h.1 (Ev.pos h.2 (Ev.eq (implSwapCell_j0 l i n _ hn) ?_)))
    by_cases h2 : rd l i = o
    · rw [if_neg (by simp [h2]), if_pos ⟨h, h2⟩]
    · rw [if_pos (by simpa using h2), if_neg (fun z => h2 z.2)]
  · refine Ev.neg (by rw [decide_eq_false h]; simp) (Ev.eq (implSwapCell_j0 l i n true hn) ?_)
    rw [if_pos rfl, if_neg (fun z => h z.1)]
theorem tmod_range (a : Int) : -1000000000 ≤ Int.tmod a 1000000001 ∧ Int.tmod a 1000000001 ≤ 1000000000 := by
  have h1 := Int.tmod_lt_of_pos a (b := 1000000001) (by omega)
  have h2 := Int.tmod_lt_of_pos (-a) (b := 1000000001) (by omega)
  rw [Int.neg_tmod] at h2
  omega
theorem tmod_emod (a : Int) : ∃ q : Int, Int.tmod a 1000000001 = a % 1000000001 + 1000000001 * q := by
  refine ⟨a / 1000000001 - Int.tdiv a 1000000001, ?_⟩
  have h1 := Int.mul_tdiv_add_tmod a 1000000001
  have h2 := Int.mul_ediv_add_emod a 1000000001
  omega
theorem implModulo_eq (a : Int) : impl_modulo.f a 1000000001 = some (a % 1000000001) := by
  unfold impl_modulo.f
  rw [if_neg (by omega)]
  have h := tmod_range a
  obtain ⟨q, hq⟩ := tmod_emod a
  rw [w64 (by omega) (by omega)]
  congr 1
  rw [Int.tmod_eq_emod_of_nonneg (by omega)]
  omega
def addM (l : List Int) (i n : Int) : List Int × Int := if 0 ≤ i ∧ i < (l.length : Int) then (l.set i.toNat ((rd l i + n) % 1000000001), rd l i) else (l, 0)
theorem addM_length (l : List Int) (i n : Int) : (addM l i n).1.length = l.length := by
  unfold addM; split <;> simp
theorem implAddCell_eq (l : List Int) (i n : Int) (hn : l.length < 17592186044416) : impl_AddCell.f l i n = some (addM l i n) := by
  unfold impl_AddCell.f addM
  rw [implCopyInts_eq l hn, Option.bind_some, implIsPlace_eq l i (by omega), Option.bind_some]
  by_cases h : 0 ≤ i ∧ i < (l.length : Int)
  · rw [decide_eq_true h, if_pos rfl, if_pos h.1, if_pos h.2, implModulo_eq, Option.bind_some, implModulo_eq, Option.bind_some, if_pos h.2, if_pos h]
    rw [w64 (by omega) (by omega), Int.tmod_eq_emod_of_nonneg (by omega), ← Int.add_emod]
  · rw [decide_eq_false h, if_neg (by simp), if_neg h]
theorem specAddCell_eq (l : List Int) (i n : Int) (hn : l.length < 17592186044416) : spec_AddCell.f l i n = some (addM l i n) := by
  unfold spec_AddCell.f addM
  rw [Option.bind_some, if_pos (by simpa using hn), Option.bind_some, l01In_eq, Option.bind_some, w64 (by omega) (by omega), List.nil_append]
  by_cases h : 0 ≤ i ∧ i < (l.length : Int)
  · rw [decide_eq_true (by omega), if_pos rfl, if_pos h.1, if_pos h.2, if_pos h.2, if_pos h]
    have h1 := tmod_range (rd l i)
    have h2 := tmod_range n
    obtain ⟨q1, e1⟩ := tmod_emod (rd l i)
    obtain ⟨q2, e2⟩ := tmod_emod n
    rw [w64 (by omega) (by omega)]
    have h3 := tmod_range (Int.tmod (rd l i) 1000000001 + Int.tmod n 1000000001)
    obtain ⟨q3, e3⟩ := tmod_emod (Int.tmod (rd l i) 1000000001 + Int.tmod n 1000000001)
    by_cases h4 : Int.tmod (Int.tmod (rd l i) 1000000001 + Int.tmod n 1000000001) 1000000001 < 0
    · rw [if_pos h4, w64 (by omega) (by omega)]
      congr 3
      omega
    · rw [if_neg h4, if_pos h.2]
      congr 3
      omega
  · rw [decide_eq_false (by omega), if_neg (by simp), if_neg h]
theorem specCellsOk_l0 (l : List Int) (hn : l.length ≤ 140737488355328) (d : Nat) :
    ∀ i : Nat, i + d = l.length → Ev (fun k => spec_CellsOk.l0 k l (i : Int)) (decide ((∀ x ∈ l.drop i, 0 ≤ x ∧ x ≤ 1000000000) ∧ 1 ≤ l.length ∧ l.length ≤ 80)) := by
  induction d with
  | zero =>
    intro i hi
    refine Ev.step (fun _ => spec_CellsOk.l0.eq_2 ..) (Ev.neg (by omega) (Ev.call (l01In_eq ..) (Ev.some ?_)))
    rw [decide_eq_decide, List.drop_eq_nil_of_le (by omega)]
    simp; omega
  | succ d ih =>
    intro i hi
    refine Ev.step (fun _ => spec_CellsOk.l0.eq_2 ..) (Ev.pos (by omega) (Ev.pos (by omega) (Ev.call (l01In_eq ..) ?_)))
    rw [rd_nat l i (by omega), w64_succ i (by omega), List.drop_eq_getElem_cons (i := i) (by omega)]
    by_cases h : 0 ≤ l[i] ∧ l[i] ≤ 1000000000
    · refine Ev.pos (by rw [decide_eq_true h]) (Ev.eq (ih (i + 1) (by omega)) ?_)
      rw [decide_eq_decide, List.forall_mem_cons]; simp only [h, true_and, and_self]
    · refine Ev.neg (by rw [decide_eq_false h]; simp) (Ev.some ?_)
      symm; rw [decide_eq_false_iff_not, List.forall_mem_cons]; exact fun h2 => h h2.1.1
theorem implCellsOk_l0 (l : List Int) (hn : l.length ≤ 140737488355328) (d : Nat) :
    ∀ i : Nat, i + d = l.length → Ev (fun k => impl_CellsOk.l0 k l l (l.length : Int) (i : Int)) (decide ((∀ x ∈ l.drop i, 0 ≤ x ∧ x ≤ 1000000000) ∧ 1 ≤ l.length ∧ l.length ≤ 80)) := by
  induction d with
  | zero =>
    intro i hi
    refine Ev.step (fun _ => impl_CellsOk.l0.eq_2 ..) (Ev.neg (by omega) (Ev.call (within_eq ..) (Ev.some ?_)))
    rw [decide_eq_decide, List.drop_eq_nil_of_le (by omega)]
    simp; omega
  | succ d ih =>
    intro i hi
    refine Ev.step (fun _ => impl_CellsOk.l0.eq_2 ..) (Ev.pos (by omega) (Ev.pos (by omega) (Ev.pos (by omega) (Ev.call (implIsNumber_eq ..) ?_))))
    rw [rd_nat l i (by omega), w64_succ i (by omega), List.drop_eq_getElem_cons (i := i) (by omega)]
    by_cases h : 0 ≤ l[i] ∧ l[i] ≤ 1000000000
    · refine Ev.pos (by rw [decide_eq_true h]) (Ev.eq (ih (i + 1) (by omega)) ?_)
      rw [decide_eq_decide, List.forall_mem_cons]; simp only [h, true_and, and_self]
    · refine Ev.neg (by rw [decide_eq_false h]; simp) (Ev.some ?_)
      symm; rw [decide_eq_false_iff_not, List.forall_mem_cons]; exact fun h2 => h h2.1.1
theorem specCellsOk_ev (l : List Int) (hn : l.length ≤ 140737488355328) : Ev (fun k => spec_CellsOk.f k l) (decide ((∀ x ∈ l, 0 ≤ x ∧ x ≤ 1000000000) ∧ 1 ≤ l.length ∧ l.length ≤ 80)) :=
  Ev.congr (fun _ => spec_CellsOk.f.eq_1 ..) (by simpa using specCellsOk_l0 l hn l.length 0 (by omega))
theorem implCellsOk_ev (l : List Int) (hn : l.length ≤ 140737488355328) : Ev (fun k => impl_CellsOk.f k l) (decide ((∀ x ∈ l, 0 ≤ x ∧ x ≤ 1000000000) ∧ 1 ≤ l.length ∧ l.length ≤ 80)) :=
  Ev.congr (fun _ => impl_CellsOk.f.eq_1 ..) (by simpa using implCellsOk_l0 l hn l.length 0 (by omega))
theorem FnCellsTold : laws_FnCellsTold.Pure := by
  intro code hm _ _
  apply Ev.rounds
  refine Ev.congr (fun _ => laws_FnCellsTold.f.eq_1 ..) (Ev.call (big_eq code) ?_)
  by_cases hbig : (code.length : Int) > 1048576
  · exact Ev.pos (by rw [decide_eq_true hbig]) (Ev.now _)
  refine Ev.neg (by rw [decide_eq_false hbig]; simp) ?_
  obtain ⟨l, at_, n, e1, l81⟩ := drawAddCell_ok code (by omega)
  obtain ⟨x, k, o, m, e2, x81⟩ := drawSwapCell_ok code (by omega)
  obtain ⟨y, ey, hok, y1, y6⟩ := drawCells_ok code (by omega)
  obtain ⟨p, ep, hp, hpr⟩ := places_ok code (by omega)
  obtain ⟨z, ez, z81⟩ := drawCellsOk_ok code (by omega)
  have p0 := hpr _ (rd_mem p 0 (by omega) (by omega))
  have p1 := hpr _ (rd_mem p 1 (by omega) (by omega))
  obtain ⟨a0, a1⟩ := tmod_in (rd p 0) (y.length : Int) p0.1 (by omega)
  have hla := addM_length l at_ n
  have hlx := swapM_length x k o m
  refine Ev.bind e1 (Ev.call (implAddCell_eq l at_ n (by omega)) (Ev.call (specAddCell_eq l at_ n (by omega)) (Ev.bind e2 (Ev.bind (implSwapCell_ev x k o m (by omega)) (Ev.call (specSwapCell_eq x k o m (by omega)) ?_)))))
  refine Ev.bind ey (Ev.bind ep (Ev.pos (by omega) (Ev.neg (by omega) (Ev.pos (by omega) ?_))))
  generalize hat : Int.tmod (rd p 0) (y.length : Int) = b at *
  have hy := hok _ (rd_mem y b a0 a1)
  have q1 : addM y b (rd p 1) = (y.set b.toNat ((rd y b + rd p 1) % 1000000001), rd y b) := by unfold addM; rw [if_pos ⟨a0, a1⟩]
  have hlen : (y.set b.toNat ((rd y b + rd p 1) % 1000000001)).length = y.length := by simp
  have q2 : (addM (y.set b.toNat ((rd y b + rd p 1) % 1000000001)) b (-(rd p 1))).1 = y := by
    unfold addM
    rw [if_pos (by rw [hlen]; omega), rd_set_eq y b _ a0 a1, List.set_set]
    show y.set b.toNat _ = y
    rw [show ((rd y b + rd p 1) % 1000000001 + -rd p 1) % 1000000001 = rd y b from by omega, set_rd y b a0 a1]
  refine Ev.call ((implAddCell_eq y b (rd p 1) (by omega)).trans (by rw [q1])) ?_
  rw [w64 (n := -(rd p 1)) (by omega) (by omega)]
  refine Ev.call (implAddCell_eq _ b (-(rd p 1)) (by rw [hlen]; omega)) (Ev.bind ez ?_)
  refine Ev.bind (sameInts_self _ (by omega)) (Ev.pos rfl (Ev.pos rfl (Ev.pos (by simp) (Ev.bind (sameInts_self _ (by omega)) (Ev.pos rfl ?_)))))
  rw [q2]
  refine Ev.bind (sameInts_self y (by omega)) (Ev.pos rfl (Ev.pos a0 (Ev.pos a1 (Ev.pos rfl ?_))))
  refine Ev.bind (implCellsOk_ev _ (by rw [hlen]; omega)) (Ev.pos ?_ ?_)
  · rw [decide_eq_true_iff]
    refine ⟨fun v hv => ?_, by rw [hlen]; omega, by rw [hlen]; omega⟩
    rcases List.mem_or_eq_of_mem_set hv with hv | hv
    · exact hok v hv
    · omega
  · exact Ev.bind (implCellsOk_ev z (by omega)) (Ev.bind (specCellsOk_ev z (by omega)) (Ev.some (by simp)))

end Go.Proofs.Ytjmggbhgmenmcaa.Pure
