-- Laid by myprint.py, a program of this session's own, over the kit's print. Not trusted: Lean checks it.
import Derived.Test.YtfkhncoiifojnaaQrtx0
import Derived.Test.YtfkhncoiifojnaaQrtx2
import Derived.Test.YtfkhncoiifojnaaQrtx6
import Derived.Test.YtfkhncoiifojnaaQrtx8
namespace Go.Proofs.Ytfkhncoiifojnaa.Qrt
open Go.RowKit Go.Proofs.YtfkhncoiifojnaaW.PrintWords Go.Proofs.YtfkhncoiifojnaaW.PrintLast Go.Proofs.YtfkhncoiifojnaaW.PrintMore
attribute [local go_sem] Go.Proofs.Ytfkhncoiifojnaa.StrCmp.gtr_less Go.Proofs.Ytfkhncoiifojnaa.StrCmp.geq_less Go.Proofs.Ytfkhncoiifojnaa.StrCmp.leq_less max2_int min2_int max_two min_two max_three min_three max_four min_four   -- for this text's walks alone
set_option linter.unusedVariables false
set_option linter.unusedSimpArgs false

/-! ### impl_RunTasks: function 33 -/
section
open Go.Proofs.Ytfkhncoiifojnaa.Row
def en67 (x : S67) : List Value := [.int .i64 x.f0.f0, .int .i64 x.f0.f1, .int .i64 x.f0.f2, .int .i64 x.f0.f3, .int .i64 x.f0.f4, .int .i64 x.f0.f5, .int .i64 x.f0.f6, .int .i64 x.f0.f7, .int .i64 x.f0.f8, .bool x.f0.f9, .int .i64 x.f0.f10, .int .i64 x.f1, .int .i64 x.f2]
theorem en67_len (x : S67) : (en67 x).length = 13 := rfl
theorem en67_M {w : World} {b : Nat} {o : Nat → Prop} {x : S67} {cs : List Value} (h : k67.M w b o x cs) : cs = en67 x := k67_openM h
theorem en67_mk (w : World) (b : Nat) (o : Nat → Prop) (x : S67) : k67.M w b o x (en67 x) := k67_mkM w b o x
theorem en67_sz : k67.sz = 13 := rfl
/-- The runner in memory: its list, its calls, its number. -/
def RunIs (w : World) (base g : Nat) (list : List Int) (calls : List S67) (num : Int) : Prop :=
  base ≤ g ∧ ∃ vL vC, RowIs w g 101 [vL, vC, .int .i64 num] ∧ Kd.R (Kd.int .i64) 3 w base (fun _ => True) vL list ∧ Kd.R k67 67 w base (fun _ => True) vC calls
theorem rd67_nat (l : List S67) (j : Nat) (h : j < l.length) : rd_T67 l (j : Int) = l[j] := by
  unfold rd_T67
  rw [Int.toNat_natCast, List.getD_eq_getElem?_getD, List.getElem?_eq_getElem h]; rfl
theorem flat67_at (l : List S67) (rest : List Value) (j : Nat) (h : j < l.length) (i : Nat) (v : Value) (hv : (en67 (rd_T67 l (j : Int)))[i]? = some v) : (flat en67 l ++ rest)[j * 13 + i]? = some v := by
  have hi : i < 13 := (List.getElem?_eq_some_iff.1 hv).1
  have e : l = l.take j ++ rd_T67 l (j : Int) :: l.drop (j + 1) := by
    rw [rd67_nat l j h, ← List.drop_eq_getElem_cons h, List.take_append_drop]
  have hl : (flat en67 (l.take j)).length = j * 13 := by rw [flat_length en67_len, List.length_take, Nat.min_eq_left (by omega)]
  conv => lhs; rw [e]
  rw [flat_append, flat_cons, List.append_assoc, List.getElem?_append_right (by omega), hl, Nat.add_sub_cancel_left, List.append_assoc, List.getElem?_append_left (by rw [en67_len]; exact hi)]
  exact hv
theorem flat67_part (l : List S67) (rest : List Value) (j : Nat) (h : j < l.length) (x : S67) (k : Nat) (vs : List Value) (hk : k + vs.length ≤ 13) (e : (en67 (rd_T67 l (j : Int))).take k ++ vs ++ (en67 (rd_T67 l (j : Int))).drop (k + vs.length) = en67 x) :
    (flat en67 l ++ rest).take (j * 13 + k) ++ vs ++ (flat en67 l ++ rest).drop (j * 13 + k + vs.length) = flat en67 (l.set j x) ++ rest := by
  have e1 : l = l.take j ++ rd_T67 l (j : Int) :: l.drop (j + 1) := by
    rw [rd67_nat l j h, ← List.drop_eq_getElem_cons h, List.take_append_drop]
  have hl : (flat en67 (l.take j)).length = j * 13 := by rw [flat_length en67_len, List.length_take, Nat.min_eq_left (by omega)]
  have e2 : l.set j x = l.take j ++ x :: l.drop (j + 1) := List.set_eq_take_append_cons_drop.trans (if_pos h)
  have e3 : flat en67 l ++ rest = flat en67 (l.take j) ++ (en67 (rd_T67 l (j : Int)) ++ (flat en67 (l.drop (j + 1)) ++ rest)) := by
    conv => lhs; rw [e1]
    rw [flat_append, flat_cons]; simp
  rw [e2, flat_append, flat_cons, e3, ← hl, List.take_length_add_append, Nat.add_assoc, List.drop_length_add_append, List.take_append_of_le_length (by rw [en67_len]; omega), List.drop_append_of_le_length (by rw [en67_len]; omega), ← e]
  simp
theorem row_ne {w : World} {a b e f : Nat} {L M : List Value} (h : RowIs w a e L) (k : RowIs w b f M) (hne : e ≠ f) : a ≠ b := by
  rintro rfl
  obtain ⟨c1, h1, _⟩ := h
  obtain ⟨c2, h2, _⟩ := k
  rw [h1] at h2
  injection h2 with h2
  injection h2 with _ h2
  exact hne h2
theorem rowR_ne {w : World} {a f base : Nat} {ok : Nat → Prop} {M : List Value} {α : Type} {d : Kd α} {e : Nat} {v : Value} {l : List α} (h : d.R e w base ok v l) (k : RowIs w a f M) (hne : e ≠ f) : some a ≠ v.ownBlock := by
  obtain ⟨c, h1, _⟩ := k
  exact Kd.R_ne h h1 hne
theorem step_fin {w0 W w7 : World} {base g gc j n cap : Nat} {calls1 : List S67} {rest : List Value} {q1 : List Int} {n' : Int} {y : S67} {V vL : Value} (HB : Below base w0 W) (hbs : base ≤ W.heap.size) (hb7 : Below W.heap.size W w7) (hg : RowIs W g 101 [vL, .slice (some ⟨gc, 0, none⟩) n cap, .int .i64 n']) (hn : n = calls1.length)
    (hc : RowIs W gc 67 (flat en67 calls1 ++ rest)) (hrl : rest.length = (cap - n) * 13) (hbg : base ≤ g) (hbc : base ≤ gc) (hcap : n ≤ cap) (hmx : cap ≤ maxLen) (hR : Kd.R (Kd.int .i64) 3 w7 W.heap.size (fun _ => True) V q1) (hj : j < calls1.length) (vs : List Value) (hvs : vs.length = 11) (e : vs ++ (en67 (rd_T67 calls1 (j : Int))).drop 11 = en67 y) :
    RunIs ((w7.setCells g 0 [V]).setCells gc (j * 13) vs) base g q1 (calls1.set j y) n' ∧ Below base w0 ((w7.setCells g 0 [V]).setCells gc (j * 13) vs) := by
  subst hn
  have hg7 := hg.below hb7
  have hc7 := hc.below hb7
  have hne : g ≠ gc := row_ne hg7 hc7 (by decide)
  have hB7 : Below base w0 w7 := below_then HB hbs hb7
  have hs7 : base ≤ w7.heap.size := Nat.le_trans hbs hb7.size
  have G1 := grown_set w7 g 0 [V]
  have G2 := grown_set (w7.setCells g 0 [V]) gc (j * 13) vs
  have hgs := hg7.set 0 [V] (by simp)
  have hgf : RowIs ((w7.setCells g 0 [V]).setCells gc (j * 13) vs) g 101 [V, .slice (some ⟨gc, 0, none⟩) calls1.length cap, .int .i64 n'] := RowIs.to hgs (setCells_far vs (j * 13) g hne)
  have hcs : RowIs (w7.setCells g 0 [V]) gc 67 (flat en67 calls1 ++ rest) := hc7.to (setCells_far [V] 0 gc (Ne.symm hne))
  have hcf := hcs.set (j * 13) vs (by have := flat_length en67_len calls1; simp only [List.length_append]; omega)
  have hp := flat67_part calls1 rest j hj y 0 vs (by omega) (by rw [List.take_zero, List.nil_append, Nat.zero_add, hvs]; exact e)
  rw [Nat.add_zero] at hp
  rw [hp] at hcf
  have hLg := rowR_ne hR hg7 (by decide)
  have hLc := rowR_ne hR hc7 (by decide)
  have hl : (calls1.set j y).length = calls1.length := List.length_set
  refine ⟨⟨hbg, V, .slice (some ⟨gc, 0, none⟩) calls1.length cap, hgf, Kd.R_grown1 (Kd.R_grown1 (Kd.R_lower hR hbs) rfl G1 hLg) rfl G2 hLc, ?_⟩, (hB7.grown G1 hs7 (fun k hk => by cases hk; exact hbg)).grown G2 (Nat.le_trans hs7 G1.size) (fun k hk => by cases hk; exact hbc)⟩
  rw [← hl]
  exact R_of_rows (d := k67) en67_len en67_mk hbc trivial (by omega) hmx hcf (by rw [hl, en67_sz]; exact hrl)
def impl_runner_step.f (k : Nat) (list : List Int) (calls : List S67) (num : Int) (i : Int) : Option (List Int × List S67 × Int) :=
  if 0 ≤ i then if i < (calls.length : Int) then if (rd_T67 calls i).f0.f9 = true then some (list, calls, wrap64 (num + 1)) else
    (impl_StepTask.f k list (rd_T67 calls i).f0.f0 (rd_T67 calls i).f0.f1 (rd_T67 calls i).f0.f2 (rd_T67 calls i).f0.f3 (rd_T67 calls i).f0.f4 (rd_T67 calls i).f0.f5 (rd_T67 calls i).f0.f6 (rd_T67 calls i).f0.f7 (rd_T67 calls i).f0.f8 (rd_T67 calls i).f0.f9 (rd_T67 calls i).f0.f10).bind fun q =>
      some (q.1, calls.set i.toNat ⟨⟨q.2.1, q.2.2.1, q.2.2.2.1, q.2.2.2.2.1, q.2.2.2.2.2.1, q.2.2.2.2.2.2.1, q.2.2.2.2.2.2.2.1, q.2.2.2.2.2.2.2.2.1, q.2.2.2.2.2.2.2.2.2.1, q.2.2.2.2.2.2.2.2.2.2.1, q.2.2.2.2.2.2.2.2.2.2.2⟩, if (rd_T67 calls i).f1 = 0 then wrap64 (num + 1) else (rd_T67 calls i).f1, wrap64 (num + 1)⟩, wrap64 (num + 1))
  else none else none
set_option maxHeartbeats 8000000 in
set_option maxRecDepth 100000 in
theorem impl_runner_step.calls (k base g : Nat) (list : List Int) (calls : List S67) (num i : Int) (r1 : List Int) (r2 : List S67) (r3 : Int) (w0 w : World) (hB : Below base w0 w) (hbs : base ≤ w.heap.size) (hR : RunIs w base g list calls num) (h : impl_runner_step.f k list calls num i = some (r1, r2, r3)) :
    Calls Try.prog 71 #[.pointer (some ⟨g, 0, none⟩), .int .i64 i] w fun e w' => e = .returned (.tuple #[]) ∧ RunIs w' base g r1 r2 r3 ∧ Below base w0 w' := by
  unfold impl_runner_step.f at h
  by_cases h0 : 0 ≤ i; rotate_left
  · rw [if_neg h0] at h; cases h
  rw [if_pos h0] at h
  by_cases h1 : i < (calls.length : Int); rotate_left
  · rw [if_neg h1] at h; cases h
  rw [if_pos h1] at h
  obtain ⟨j, rfl⟩ := Int.eq_ofNat_of_zero_le h0
  have hj : j < calls.length := by omega
  obtain ⟨hbg, vL, vC, hrow, hL, hC⟩ := hR
  rcases R_rows (d := k67) (enc := en67) en67_len en67_M hC with ⟨_, rfl⟩ | ⟨gc, cap, rest, rfl, hbc, _, hcap, hmx, hcr, hrl⟩
  · simp at hj
  have hne : g ≠ gc := row_ne hrow hcr (by decide)
  have hne' : gc ≠ g := Ne.symm hne
  have hLg := rowR_ne hL hrow (by decide)
  have hLc := rowR_ne hL hcr (by decide)
  have g0 := hrow.cell (j := 0) rfl
  have g1 := hrow.cell (j := 1) rfl
  have g2 := hrow.cell (j := 2) rfl
  have hu101 := Try.underlying101
  have hu67 := Try.underlying67
  have hu30 := Try.underlying30
  -- the number is counted
  obtain ⟨n', hn'⟩ : ∃ n', n' = wrap64 (num + 1) := ⟨_, rfl⟩
  rw [← hn'] at h
  have hrow1 := hrow.set 2 [.int .i64 n'] (by simp)
  have hcr1 : RowIs (w.setCells g 2 [.int .i64 n']) gc 67 (flat en67 calls ++ rest) := hcr.to (setCells_far _ _ gc hne')
  have f9 := hcr.cell (flat67_at calls rest j hj 9 _ rfl)
  have ff := hrow.free 2
  by_cases hd : (rd_T67 calls (j : Int)).f0.f9 = true
  · rw [if_pos hd] at h
    rw [hd] at f9
    simp only [Option.some.injEq, Prod.mk.injEq] at h
    obtain ⟨rfl, rfl, rfl⟩ := h
    have HR1 := Aside0.mk hrow1
    have HN := Aside0.mk hn'
    clear hrow1 hcr1 hn'
    go_enter Try.func71, Try.ntmps71
    go_wp2
    refine bodyPost_ret (v := .tuple #[]) (by simp [results, Try.results71, go_sem]) rfl ?_
    rw [← HN.out]
    exact ⟨rfl, ⟨hbg, vL, _, HR1.out, Kd.R_grown1 hL rfl (grown_set w g 2 [.int .i64 n']) hLg, Kd.R_grown1 hC rfl (grown_set w g 2 [.int .i64 n']) (by simpa [Value.ownBlock] using hne)⟩, hB.grown (grown_set w g 2 [.int .i64 n']) hbs (fun k hk => by cases hk; exact hbg)⟩
  · have hd' : (rd_T67 calls (j : Int)).f0.f9 = false := by simpa using hd
    rw [if_neg hd] at h
    rw [hd'] at f9
    obtain ⟨⟨q1, q2, q3, q4, q5, q6, q7, q8, q9, q10, q11, q12⟩, hq, h⟩ := Option.bind_eq_some_iff.mp h
    simp only [Option.some.injEq, Prod.mk.injEq] at h
    obtain ⟨rfl, rfl, rfl⟩ := h
    rw [hd'] at hq
    have f0 := hcr.cell (flat67_at calls rest j hj 0 _ rfl)
    have f1 := hcr.cell (flat67_at calls rest j hj 1 _ rfl)
    have f2 := hcr.cell (flat67_at calls rest j hj 2 _ rfl)
    have f3 := hcr.cell (flat67_at calls rest j hj 3 _ rfl)
    have f4 := hcr.cell (flat67_at calls rest j hj 4 _ rfl)
    have f5 := hcr.cell (flat67_at calls rest j hj 5 _ rfl)
    have f6 := hcr.cell (flat67_at calls rest j hj 6 _ rfl)
    have f7 := hcr.cell (flat67_at calls rest j hj 7 _ rfl)
    have f8 := hcr.cell (flat67_at calls rest j hj 8 _ rfl)
    have f10 := hcr.cell (flat67_at calls rest j hj 10 _ rfl)
    have f11 := hcr.cell (flat67_at calls rest j hj 11 _ rfl)
    have f12 := hcr.cell (flat67_at calls rest j hj 12 _ rfl)
    have fz11 := hcr.free (j * 13 + 11)
    have fz12 := hcr.free (j * 13 + 12)
    have HR1 := Aside0.mk hrow1
    have HN := Aside0.mk hn'
    have HC1 := Aside0.mk hcr1
    have HQ := Aside0.mk hq
    clear hrow1 hcr1 hn' hq
    cases hb : ((rd_T67 calls (j : Int)).f1 == 0) with
    | true =>
      have HBG := Aside0.mk hb
      clear hb
      have hb := HBG.out
      go_enter Try.func71, Try.ntmps71
      go_wp2
      obtain ⟨W, hW⟩ : ∃ W, W = ((w.setCell ⟨g, 2, none⟩ (.int .i64 (wrap64 (num + 1)))).setCell ⟨gc, j * 13 + 11, none⟩ (.int .i64 (wrap64 (num + 1)))).setCell ⟨gc, j * 13 + 12, none⟩ (.int .i64 (wrap64 (num + 1))) := ⟨_, rfl⟩
      rw [← hW]
      rw [← HN.out] at hW
      have hgW : RowIs W g 101 [vL, .slice (some ⟨gc, 0, none⟩) calls.length cap, .int .i64 n'] := by rw [hW]; exact RowIs.to HR1.out (setCells_far [.int .i64 n', .int .i64 n'] (j * 13 + 11) g hne)
      have hcW : RowIs W gc 67 (flat en67 (calls.set j ⟨(rd_T67 calls (j : Int)).f0, n', n'⟩) ++ rest) := by
        rw [hW, ← flat67_part calls rest j hj ⟨(rd_T67 calls (j : Int)).f0, n', n'⟩ 11 [.int .i64 n', .int .i64 n'] (by simp) rfl]
        exact HC1.out.set (j * 13 + 11) [.int .i64 n', .int .i64 n'] (by have := flat_length en67_len calls; simp only [List.length_append, List.length_cons, List.length_nil]; omega)
      have hg1 := grown_set w g 2 [.int .i64 n']
      have hg2 := grown_set (w.setCells g 2 [.int .i64 n']) gc (j * 13 + 11) [.int .i64 n', .int .i64 n']
      have hLW : Kd.R (Kd.int .i64) 3 W base (fun _ => True) vL list := by rw [hW]; exact Kd.R_grown1 (Kd.R_grown1 hL rfl hg1 hLg) rfl hg2 hLc
      have hBW : Below base w0 W := by rw [hW]; exact (hB.grown hg1 hbs (fun k hk => by cases hk; exact hbg)).grown hg2 (Nat.le_trans hbs hg1.size) (fun k hk => by cases hk; exact hbc)
      have hbW : base ≤ W.heap.size := by rw [hW]; exact Nat.le_trans hbs (Nat.le_trans hg1.size hg2.size)
      have hj1 : j < (calls.set j ⟨(rd_T67 calls (j : Int)).f0, n', n'⟩).length := by rw [List.length_set]; exact hj
      have hj1' : (calls.set j ⟨(rd_T67 calls (j : Int)).f0, n', n'⟩).length = calls.length := List.length_set
      have HRL := Aside0.mk (show rest.length = (cap - calls.length) * 13 from hrl)
      have HIF := Aside0.mk (show (if (rd_T67 calls (j : Int)).f1 = 0 then n' else (rd_T67 calls (j : Int)).f1) = n' from if_pos (beq_iff_eq.1 HBG.out))
      have hrd : rd_T67 (calls.set j ⟨(rd_T67 calls (j : Int)).f0, n', n'⟩) (j : Int) = ⟨(rd_T67 calls (j : Int)).f0, n', n'⟩ := by rw [rd67_nat _ j hj1, List.getElem_set_self]
      have x0 : W.cell? ⟨gc, j * 13, none⟩ = some (.int .i64 (rd_T67 calls (j : Int)).f0.f0) := hcW.cell (flat67_at _ rest j hj1 0 _ (by rw [hrd]; rfl))
      have x1 : W.cell? ⟨gc, j * 13 + 1, none⟩ = some (.int .i64 (rd_T67 calls (j : Int)).f0.f1) := hcW.cell (flat67_at _ rest j hj1 1 _ (by rw [hrd]; rfl))
      have x2 : W.cell? ⟨gc, j * 13 + 2, none⟩ = some (.int .i64 (rd_T67 calls (j : Int)).f0.f2) := hcW.cell (flat67_at _ rest j hj1 2 _ (by rw [hrd]; rfl))
      have x3 : W.cell? ⟨gc, j * 13 + 3, none⟩ = some (.int .i64 (rd_T67 calls (j : Int)).f0.f3) := hcW.cell (flat67_at _ rest j hj1 3 _ (by rw [hrd]; rfl))
      have x4 : W.cell? ⟨gc, j * 13 + 4, none⟩ = some (.int .i64 (rd_T67 calls (j : Int)).f0.f4) := hcW.cell (flat67_at _ rest j hj1 4 _ (by rw [hrd]; rfl))
      have x5 : W.cell? ⟨gc, j * 13 + 5, none⟩ = some (.int .i64 (rd_T67 calls (j : Int)).f0.f5) := hcW.cell (flat67_at _ rest j hj1 5 _ (by rw [hrd]; rfl))
      have x6 : W.cell? ⟨gc, j * 13 + 6, none⟩ = some (.int .i64 (rd_T67 calls (j : Int)).f0.f6) := hcW.cell (flat67_at _ rest j hj1 6 _ (by rw [hrd]; rfl))
      have x7 : W.cell? ⟨gc, j * 13 + 7, none⟩ = some (.int .i64 (rd_T67 calls (j : Int)).f0.f7) := hcW.cell (flat67_at _ rest j hj1 7 _ (by rw [hrd]; rfl))
      have x8 : W.cell? ⟨gc, j * 13 + 8, none⟩ = some (.int .i64 (rd_T67 calls (j : Int)).f0.f8) := hcW.cell (flat67_at _ rest j hj1 8 _ (by rw [hrd]; rfl))
      have x9 : W.cell? ⟨gc, j * 13 + 9, none⟩ = some (.bool false) := hcW.cell (flat67_at _ rest j hj1 9 _ (by rw [hrd]; show some (Value.bool (rd_T67 calls (j : Int)).f0.f9) = _; rw [hd']))
      have x10 : W.cell? ⟨gc, j * 13 + 10, none⟩ = some (.int .i64 (rd_T67 calls (j : Int)).f0.f10) := hcW.cell (flat67_at _ rest j hj1 10 _ (by rw [hrd]; rfl))
      have u0 := hgW.cell (j := 0) rfl
      obtain ⟨A0, c0, rfl, hlc, hCW⟩ := Kd.R_reads hLW
      have HGW := Aside0.mk hgW
      have HCW := Aside0.mk hcW
      have HLW := Aside0.mk hLW
      have HLC := Aside0.mk hlc
      have HCL := Aside0.mk hCW
      have HBW := Aside0.mk hBW
      have HBS := Aside0.mk hbW
      clear hgW hcW hLW hCW hBW hbW hlc hW hg1 hg2 hL hC hrow hcr hLg hLc g0 g1 g2 f0 f1 f2 f3 f4 f5 f6 f7 f8 f9 f10 f11 f12 fz11 fz12 ff hrl hB HR1 HC1
      go_region_law (first | (go_simp; go_at_call 90; refine (impl_StepTask.calls k A0 c0 list (rd_T67 calls (j : Int)).f0.f0 (rd_T67 calls (j : Int)).f0.f1 (rd_T67 calls (j : Int)).f0.f2 (rd_T67 calls (j : Int)).f0.f3 (rd_T67 calls (j : Int)).f0.f4 (rd_T67 calls (j : Int)).f0.f5 (rd_T67 calls (j : Int)).f0.f6 (rd_T67 calls (j : Int)).f0.f7 (rd_T67 calls (j : Int)).f0.f8 false (rd_T67 calls (j : Int)).f0.f10 q1 q2 q3 q4 q5 q6 q7 q8 q9 q10 q11 q12 _ ?side1 HLC.out HQ.out).mono ?_; (case side1 => exact Kd.C_drew HCL.out); rintro e w7 ⟨v7, rfl, hr7, hb7⟩; have HB7 := Aside0.mk (show Below W.heap.size W w7 from below_then (below_drew (Below.refl _ _)) (Nat.le_refl _) hb7); obtain ⟨A7, c7, ev7, _, _⟩ := Kd.R_reads hr7; subst ev7; have HR7 := Aside0.mk hr7; obtain ⟨o0, m0⟩ := Option.isSome_iff_exists.1 ((HGW.out.below HB7.out).isSome (j := 0) (by simp)); have n0 := (HGW.out.below HB7.out).free 0; have y0 := pw_cell_below HB7.out x0; have z0 := (HCW.out.below HB7.out).free (j * 13); have y1 := pw_cell_below HB7.out x1; have z1 := (HCW.out.below HB7.out).free (j * 13 + 1); have y2 := pw_cell_below HB7.out x2; have z2 := (HCW.out.below HB7.out).free (j * 13 + 2); have y3 := pw_cell_below HB7.out x3; have z3 := (HCW.out.below HB7.out).free (j * 13 + 3); have y4 := pw_cell_below HB7.out x4; have z4 := (HCW.out.below HB7.out).free (j * 13 + 4); have y5 := pw_cell_below HB7.out x5; have z5 := (HCW.out.below HB7.out).free (j * 13 + 5); have y6 := pw_cell_below HB7.out x6; have z6 := (HCW.out.below HB7.out).free (j * 13 + 6); have y7 := pw_cell_below HB7.out x7; have z7 := (HCW.out.below HB7.out).free (j * 13 + 7); have y8 := pw_cell_below HB7.out x8; have z8 := (HCW.out.below HB7.out).free (j * 13 + 8); have y9 := pw_cell_below HB7.out x9; have z9 := (HCW.out.below HB7.out).free (j * 13 + 9); have y10 := pw_cell_below HB7.out x10; have z10 := (HCW.out.below HB7.out).free (j * 13 + 10); clear hb7 hr7))
      all_goals (change bodyPost Try.prog Try.f71 _ _ _ _)
      all_goals refine bodyPost_end (v := .tuple #[]) (by simp [results, Try.results71, go_sem]) rfl ?_
      all_goals (obtain ⟨r1_, r2_⟩ := step_fin (y := ⟨⟨q2, q3, q4, q5, q6, q7, q8, q9, q10, q11, q12⟩, n', n'⟩) HBW.out HBS.out HB7.out HGW.out hj1'.symm HCW.out HRL.out hbg hbc hcap hmx HR7.out hj1 [.int .i64 q2, .int .i64 q3, .int .i64 q4, .int .i64 q5, .int .i64 q6, .int .i64 q7, .int .i64 q8, .int .i64 q9, .int .i64 q10, .bool q11, .int .i64 q12] rfl (by rw [hrd]; rfl); refine ⟨rfl, ?_, r2_⟩; rw [List.set_set] at r1_; rw [Int.toNat_natCast, HIF.out]; exact r1_)
    | false =>
      have HBG := Aside0.mk hb
      clear hb
      have hb := HBG.out
      go_enter Try.func71, Try.ntmps71
      go_wp2
      obtain ⟨W, hW⟩ : ∃ W, W = (w.setCell ⟨g, 2, none⟩ (.int .i64 (wrap64 (num + 1)))).setCell ⟨gc, j * 13 + 12, none⟩ (.int .i64 (wrap64 (num + 1))) := ⟨_, rfl⟩
      rw [← hW]
      rw [← HN.out] at hW
      have hgW : RowIs W g 101 [vL, .slice (some ⟨gc, 0, none⟩) calls.length cap, .int .i64 n'] := by rw [hW]; exact RowIs.to HR1.out (setCells_far [.int .i64 n'] (j * 13 + 12) g hne)
      have hcW : RowIs W gc 67 (flat en67 (calls.set j ⟨(rd_T67 calls (j : Int)).f0, (rd_T67 calls (j : Int)).f1, n'⟩) ++ rest) := by
        rw [hW, ← flat67_part calls rest j hj ⟨(rd_T67 calls (j : Int)).f0, (rd_T67 calls (j : Int)).f1, n'⟩ 12 [.int .i64 n'] (by simp) rfl]
        exact HC1.out.set (j * 13 + 12) [.int .i64 n'] (by have := flat_length en67_len calls; simp only [List.length_append, List.length_cons, List.length_nil]; omega)
      have hg1 := grown_set w g 2 [.int .i64 n']
      have hg2 := grown_set (w.setCells g 2 [.int .i64 n']) gc (j * 13 + 12) [.int .i64 n']
      have hLW : Kd.R (Kd.int .i64) 3 W base (fun _ => True) vL list := by rw [hW]; exact Kd.R_grown1 (Kd.R_grown1 hL rfl hg1 hLg) rfl hg2 hLc
      have hBW : Below base w0 W := by rw [hW]; exact (hB.grown hg1 hbs (fun k hk => by cases hk; exact hbg)).grown hg2 (Nat.le_trans hbs hg1.size) (fun k hk => by cases hk; exact hbc)
      have hbW : base ≤ W.heap.size := by rw [hW]; exact Nat.le_trans hbs (Nat.le_trans hg1.size hg2.size)
      have hj1 : j < (calls.set j ⟨(rd_T67 calls (j : Int)).f0, (rd_T67 calls (j : Int)).f1, n'⟩).length := by rw [List.length_set]; exact hj
      have hj1' : (calls.set j ⟨(rd_T67 calls (j : Int)).f0, (rd_T67 calls (j : Int)).f1, n'⟩).length = calls.length := List.length_set
      have HRL := Aside0.mk (show rest.length = (cap - calls.length) * 13 from hrl)
      have HIF := Aside0.mk (show (if (rd_T67 calls (j : Int)).f1 = 0 then n' else (rd_T67 calls (j : Int)).f1) = (rd_T67 calls (j : Int)).f1 from if_neg (beq_eq_false_iff_ne.1 HBG.out))
      have hrd : rd_T67 (calls.set j ⟨(rd_T67 calls (j : Int)).f0, (rd_T67 calls (j : Int)).f1, n'⟩) (j : Int) = ⟨(rd_T67 calls (j : Int)).f0, (rd_T67 calls (j : Int)).f1, n'⟩ := by rw [rd67_nat _ j hj1, List.getElem_set_self]
      have x0 : W.cell? ⟨gc, j * 13, none⟩ = some (.int .i64 (rd_T67 calls (j : Int)).f0.f0) := hcW.cell (flat67_at _ rest j hj1 0 _ (by rw [hrd]; rfl))
      have x1 : W.cell? ⟨gc, j * 13 + 1, none⟩ = some (.int .i64 (rd_T67 calls (j : Int)).f0.f1) := hcW.cell (flat67_at _ rest j hj1 1 _ (by rw [hrd]; rfl))
      have x2 : W.cell? ⟨gc, j * 13 + 2, none⟩ = some (.int .i64 (rd_T67 calls (j : Int)).f0.f2) := hcW.cell (flat67_at _ rest j hj1 2 _ (by rw [hrd]; rfl))
      have x3 : W.cell? ⟨gc, j * 13 + 3, none⟩ = some (.int .i64 (rd_T67 calls (j : Int)).f0.f3) := hcW.cell (flat67_at _ rest j hj1 3 _ (by rw [hrd]; rfl))
      have x4 : W.cell? ⟨gc, j * 13 + 4, none⟩ = some (.int .i64 (rd_T67 calls (j : Int)).f0.f4) := hcW.cell (flat67_at _ rest j hj1 4 _ (by rw [hrd]; rfl))
      have x5 : W.cell? ⟨gc, j * 13 + 5, none⟩ = some (.int .i64 (rd_T67 calls (j : Int)).f0.f5) := hcW.cell (flat67_at _ rest j hj1 5 _ (by rw [hrd]; rfl))
      have x6 : W.cell? ⟨gc, j * 13 + 6, none⟩ = some (.int .i64 (rd_T67 calls (j : Int)).f0.f6) := hcW.cell (flat67_at _ rest j hj1 6 _ (by rw [hrd]; rfl))
      have x7 : W.cell? ⟨gc, j * 13 + 7, none⟩ = some (.int .i64 (rd_T67 calls (j : Int)).f0.f7) := hcW.cell (flat67_at _ rest j hj1 7 _ (by rw [hrd]; rfl))
      have x8 : W.cell? ⟨gc, j * 13 + 8, none⟩ = some (.int .i64 (rd_T67 calls (j : Int)).f0.f8) := hcW.cell (flat67_at _ rest j hj1 8 _ (by rw [hrd]; rfl))
      have x9 : W.cell? ⟨gc, j * 13 + 9, none⟩ = some (.bool false) := hcW.cell (flat67_at _ rest j hj1 9 _ (by rw [hrd]; show some (Value.bool (rd_T67 calls (j : Int)).f0.f9) = _; rw [hd']))
      have x10 : W.cell? ⟨gc, j * 13 + 10, none⟩ = some (.int .i64 (rd_T67 calls (j : Int)).f0.f10) := hcW.cell (flat67_at _ rest j hj1 10 _ (by rw [hrd]; rfl))
      have u0 := hgW.cell (j := 0) rfl
      obtain ⟨A0, c0, rfl, hlc, hCW⟩ := Kd.R_reads hLW
      have HGW := Aside0.mk hgW
      have HCW := Aside0.mk hcW
      have HLW := Aside0.mk hLW
      have HLC := Aside0.mk hlc
      have HCL := Aside0.mk hCW
      have HBW := Aside0.mk hBW
      have HBS := Aside0.mk hbW
      clear hgW hcW hLW hCW hBW hbW hlc hW hg1 hg2 hL hC hrow hcr hLg hLc g0 g1 g2 f0 f1 f2 f3 f4 f5 f6 f7 f8 f9 f10 f11 f12 fz11 fz12 ff hrl hB HR1 HC1
      go_region_law (first | (go_simp; go_at_call 90; refine (impl_StepTask.calls k A0 c0 list (rd_T67 calls (j : Int)).f0.f0 (rd_T67 calls (j : Int)).f0.f1 (rd_T67 calls (j : Int)).f0.f2 (rd_T67 calls (j : Int)).f0.f3 (rd_T67 calls (j : Int)).f0.f4 (rd_T67 calls (j : Int)).f0.f5 (rd_T67 calls (j : Int)).f0.f6 (rd_T67 calls (j : Int)).f0.f7 (rd_T67 calls (j : Int)).f0.f8 false (rd_T67 calls (j : Int)).f0.f10 q1 q2 q3 q4 q5 q6 q7 q8 q9 q10 q11 q12 _ ?side1 HLC.out HQ.out).mono ?_; (case side1 => exact Kd.C_drew HCL.out); rintro e w7 ⟨v7, rfl, hr7, hb7⟩; have HB7 := Aside0.mk (show Below W.heap.size W w7 from below_then (below_drew (Below.refl _ _)) (Nat.le_refl _) hb7); obtain ⟨A7, c7, ev7, _, _⟩ := Kd.R_reads hr7; subst ev7; have HR7 := Aside0.mk hr7; obtain ⟨o0, m0⟩ := Option.isSome_iff_exists.1 ((HGW.out.below HB7.out).isSome (j := 0) (by simp)); have n0 := (HGW.out.below HB7.out).free 0; have y0 := pw_cell_below HB7.out x0; have z0 := (HCW.out.below HB7.out).free (j * 13); have y1 := pw_cell_below HB7.out x1; have z1 := (HCW.out.below HB7.out).free (j * 13 + 1); have y2 := pw_cell_below HB7.out x2; have z2 := (HCW.out.below HB7.out).free (j * 13 + 2); have y3 := pw_cell_below HB7.out x3; have z3 := (HCW.out.below HB7.out).free (j * 13 + 3); have y4 := pw_cell_below HB7.out x4; have z4 := (HCW.out.below HB7.out).free (j * 13 + 4); have y5 := pw_cell_below HB7.out x5; have z5 := (HCW.out.below HB7.out).free (j * 13 + 5); have y6 := pw_cell_below HB7.out x6; have z6 := (HCW.out.below HB7.out).free (j * 13 + 6); have y7 := pw_cell_below HB7.out x7; have z7 := (HCW.out.below HB7.out).free (j * 13 + 7); have y8 := pw_cell_below HB7.out x8; have z8 := (HCW.out.below HB7.out).free (j * 13 + 8); have y9 := pw_cell_below HB7.out x9; have z9 := (HCW.out.below HB7.out).free (j * 13 + 9); have y10 := pw_cell_below HB7.out x10; have z10 := (HCW.out.below HB7.out).free (j * 13 + 10); clear hb7 hr7))
      all_goals (change bodyPost Try.prog Try.f71 _ _ _ _)
      all_goals refine bodyPost_end (v := .tuple #[]) (by simp [results, Try.results71, go_sem]) rfl ?_
      all_goals (obtain ⟨r1_, r2_⟩ := step_fin (y := ⟨⟨q2, q3, q4, q5, q6, q7, q8, q9, q10, q11, q12⟩, (rd_T67 calls (j : Int)).f1, n'⟩) HBW.out HBS.out HB7.out HGW.out hj1'.symm HCW.out HRL.out hbg hbc hcap hmx HR7.out hj1 [.int .i64 q2, .int .i64 q3, .int .i64 q4, .int .i64 q5, .int .i64 q6, .int .i64 q7, .int .i64 q8, .int .i64 q9, .int .i64 q10, .bool q11, .int .i64 q12] rfl (by rw [hrd]; rfl); refine ⟨rfl, ?_, r2_⟩; rw [List.set_set] at r1_; rw [Int.toNat_natCast, HIF.out]; exact r1_)
end
section
open Go.Proofs.Ytfkhncoiifojnaa.Row
theorem RunIs.below {w w1 : World} {base g : Nat} {list : List Int} {calls : List S67} {num : Int} (h : RunIs w base g list calls num) (hb : Below w.heap.size w w1) : RunIs w1 base g list calls num := by
  obtain ⟨hbg, vL, vC, hrow, hL, hC⟩ := h
  exact ⟨hbg, vL, vC, hrow.below hb, Kd.R_below hL hb, Kd.R_below hC hb⟩
def notDone (x : S67) : Bool := !x.f0.f9
set_option maxHeartbeats 2000000 in
theorem ended_test (x : S67) (w : World) :
    Calls Try.prog 92 #[.agg #[.int .i64 x.f0.f0, .int .i64 x.f0.f1, .int .i64 x.f0.f2, .int .i64 x.f0.f3, .int .i64 x.f0.f4, .int .i64 x.f0.f5, .int .i64 x.f0.f6, .int .i64 x.f0.f7, .int .i64 x.f0.f8, .bool x.f0.f9, .int .i64 x.f0.f10, .int .i64 x.f1, .int .i64 x.f2]] w fun e w' => e = .returned (.bool (notDone x)) ∧ Below w.heap.size w w' := by
  have hu67 := Try.underlying67
  have hu30 := Try.underlying30
  go_enter Try.func92, Try.ntmps92
  go_wp2
  go_ret
  exact ⟨rfl, below_alloc (Below.refl _ _) _⟩
def ixC : List S67 → Int → Int
  | [], _ => -1
  | x :: r, i => if notDone x then i else ixC r (i + 1)
theorem ixC_any : ∀ (l : List S67) (i : Int), 0 ≤ i → decide (ixC l i ≥ 0) = l.any notDone
  | [], _, _ => rfl
  | x :: r, i, h => by
    rw [ixC, List.any_cons]
    cases hx : notDone x with
    | true => rw [if_pos rfl]; simpa using h
    | false => rw [if_neg (by decide), Bool.false_or]; exact ixC_any r (i + 1) (by omega)
theorem drop_rd67 (l : List S67) (i : Nat) (h : i < l.length) : l.drop i = rd_T67 l (i : Int) :: l.drop (i + 1) := by
  rw [List.drop_eq_getElem_cons h, rd67_nat l i h]
set_option maxHeartbeats 4000000 in
theorem ended_index (l : List S67) (A : Option Addr) (c : Nat) (w : World) (hl : Kd.C k67 w A l.length l) :
    Calls Try.prog 104 #[.slice A l.length c, .func (.func 92) #[] #[]] w fun e w' => e = .returned (.int .i64 (ixC l 0)) ∧ Below w.heap.size w w' := by
  have hu67 := Try.underlying67
  have hu30 := Try.underlying30
  have hmax := Kd.C_max hl
  have HL := Aside0.mk hl
  clear hl
  go_enter Try.func104, Try.ntmps104
  go_wp2
  go_loopg [5, 8] l.length (fun gg _ s8 wr => ∃ kk : Nat, kk ≤ l.length ∧ l.length - kk ≤ gg ∧ s8 = .int .i64 kk ∧ Aside0 (Below w.heap.size w wr) ∧ Aside0 (ixC (l.drop kk) kk = ixC l 0))
  case atStart => exact ⟨0, Nat.zero_le _, by omega, rfl, ⟨Below.refl _ w⟩, ⟨rfl⟩⟩
  case round =>
    obtain ⟨kk, hkk, hg, rfl, BW, IX⟩ := hrel
    by_cases hlt : kk < l.length
    · have hltz : (kk : Int) < (l.length : Int) := by omega
      obtain ⟨ad, e1, x0, x1, x2, x3, x4, x5, x6, x7, x8, x9, x10, x11, x12⟩ := at_T67 HL.out (kk : Int) (by omega) hltz
      cases e1
      simp only [Int.toNat_natCast] at x0 x1 x2 x3 x4 x5 x6 x7 x8 x9 x10 x11 x12
      replace x0 := (BW.out.cell (World.block_lt_of_cell? w _ x0)).trans x0
      replace x1 := (BW.out.cell (World.block_lt_of_cell? w _ x1)).trans x1
      replace x2 := (BW.out.cell (World.block_lt_of_cell? w _ x2)).trans x2
      replace x3 := (BW.out.cell (World.block_lt_of_cell? w _ x3)).trans x3
      replace x4 := (BW.out.cell (World.block_lt_of_cell? w _ x4)).trans x4
      replace x5 := (BW.out.cell (World.block_lt_of_cell? w _ x5)).trans x5
      replace x6 := (BW.out.cell (World.block_lt_of_cell? w _ x6)).trans x6
      replace x7 := (BW.out.cell (World.block_lt_of_cell? w _ x7)).trans x7
      replace x8 := (BW.out.cell (World.block_lt_of_cell? w _ x8)).trans x8
      replace x9 := (BW.out.cell (World.block_lt_of_cell? w _ x9)).trans x9
      replace x10 := (BW.out.cell (World.block_lt_of_cell? w _ x10)).trans x10
      replace x11 := (BW.out.cell (World.block_lt_of_cell? w _ x11)).trans x11
      replace x12 := (BW.out.cell (World.block_lt_of_cell? w _ x12)).trans x12
      have hcall := ended_test (rd_T67 l kk) wr
      have IY := IX.out
      rw [drop_rd67 l kk hlt, ixC] at IY
      cases hq : notDone (rd_T67 l (kk : Int)) with
      | true =>
        rw [hq, if_pos rfl] at IY
        rw [hq] at hcall
        have HIY := Aside0.mk IY
        clear IY hq IX
        go_wp2_with (go_at_call 92; refine hcall.mono ?_; rintro e w' ⟨rfl, hb'⟩)
        go_ret
        exact ⟨by rw [HIY.out]; rfl, below_then BW.out BW.out.size hb'⟩
      | false =>
        rw [hq, if_neg (by simp)] at IY
        rw [hq] at hcall
        have HIY := Aside0.mk IY
        clear IY hq IX
        go_wp2_with (go_at_call 92; refine hcall.mono ?_; rintro e w' ⟨rfl, hb'⟩)
        go_roundg (l.length - (kk + 1))
        case measure => omega
        case rel => exact ⟨kk + 1, by omega, by omega, by go_num, ⟨below_then BW.out BW.out.size hb'⟩, HIY⟩
    · have hltz : ¬ (kk : Int) < (l.length : Int) := by omega
      have : kk = l.length := by omega
      subst this
      have IY := IX.out
      rw [List.drop_length, ixC] at IY
      have HIY := Aside0.mk IY
      clear IY IX
      go_wp2
      go_ret
      exact ⟨by rw [← HIY.out]; rfl, BW.out⟩
set_option maxHeartbeats 2000000 in
theorem ended_contains (l : List S67) (A : Option Addr) (c : Nat) (w : World) (hl : Kd.C k67 w A l.length l) :
    Calls Try.prog 91 #[.slice A l.length c, .func (.func 92) #[] #[]] w fun e w' => e = .returned (.bool (l.any notDone)) ∧ Below w.heap.size w w' := by
  have hx := ended_index l A c w hl
  have hany := Aside0.mk (ixC_any l 0 (by omega))
  clear hl
  generalize ixC l 0 = ix at hx hany
  go_enter Try.func91, Try.ntmps91
  go_wp2_with (go_at_call 104; refine hx.mono ?_; rintro e w' ⟨rfl, hb'⟩)
  go_ret
  exact ⟨by rw [← hany.out]; rfl, hb'⟩
set_option maxHeartbeats 2000000 in
theorem impl_runner_ended.calls (base g : Nat) (list : List Int) (calls : List S67) (num : Int) (w0 w : World) (hB : Below base w0 w) (hbs : base ≤ w.heap.size) (hR : RunIs w base g list calls num) :
    Calls Try.prog 73 #[.pointer (some ⟨g, 0, none⟩)] w fun e w' => e = .returned (.bool (!calls.any notDone)) ∧ RunIs w' base g list calls num ∧ Below base w0 w' := by
  obtain ⟨hbg, vL, vC, hrow, hL, hC⟩ := hR
  obtain ⟨A, c, rfl, hlc, hCC⟩ := Kd.R_reads hC
  have g1 := hrow.cell (j := 1) rfl
  have hu101 := Try.underlying101
  have hx := ended_contains calls A c w hCC
  have HROW := Aside0.mk hrow
  have HL := Aside0.mk hL
  have HC := Aside0.mk hC
  have HB := Aside0.mk hB
  clear hrow hL hC hCC hB
  go_enter Try.func73, Try.ntmps73
  go_wp2_with (go_at_call 91; refine hx.mono ?_; rintro e w' ⟨rfl, hb'⟩)
  go_ret
  exact ⟨rfl, ⟨hbg, vL, _, HROW.out.below hb', Kd.R_below HL.out hb', Kd.R_below HC.out hb'⟩, below_then HB.out hbs hb'⟩
end
section
open Go.Proofs.Ytfkhncoiifojnaa.Row
def runC (l : List S30) : List S67 := l.map fun t => ⟨t, 0, 0⟩
def impl_RunTasks.l1 : Nat → List S30 → List Int → List Int → List S67 → Int → Nat → Option (List Int × List S67 × Int)
  | 0, _, _, _, _, _, _ => none
  | k + 1, ts, ps, l, cs, n, j => if j < ps.length then (impl_modulo.f (rd ps (j : Int)) (ts.length : Int)).bind fun m => (impl_runner_step.f k l cs n m).bind fun q => impl_RunTasks.l1 k ts ps q.1 q.2.1 q.2.2 (j + 1) else some (l, cs, n)
def impl_RunTasks.l3 : Nat → Nat → List Int → List S67 → Int → Nat → Option (List Int × List S67 × Int)
  | 0, _, _, _, _, _ => none
  | k + 1, m, l, cs, n, j => if j < m then (impl_runner_step.f k l cs n (j : Int)).bind fun q => impl_RunTasks.l3 k m q.1 q.2.1 q.2.2 (j + 1) else some (l, cs, n)
def impl_RunTasks.l2 : Nat → List Int → List S67 → Int → Nat → Option (List Int × List S67 × Int)
  | 0, _, _, _, _ => none
  | k + 1, l, cs, n, t => if t < 400 then if cs.any notDone = true then (impl_RunTasks.l3 k cs.length l cs n 0).bind fun q => impl_RunTasks.l2 k q.1 q.2.1 q.2.2 (t + 1) else some (l, cs, n) else some (l, cs, n)
def impl_RunTasks.f (k : Nat) (ts : List S30) (ps : List Int) : Option (List Int × List S67 × Bool) :=
  if ts.length < 2000000 then (impl_tasksOk.f k ts).bind fun ok => if ok = true then if (ps.length : Int) > 200 then some ([], [], false) else
    (impl_ListNew.f).bind fun l => (impl_RunTasks.l1 k ts ps l (runC ts) 0 0).bind fun q => (impl_RunTasks.l2 k q.1 q.2.1 q.2.2 0).bind fun q => some (q.1, q.2.1, true)
  else some ([], [], false) else none
set_option maxHeartbeats 8000000 in
set_option maxRecDepth 100000 in
theorem impl_RunTasks.calls (k : Nat) (A0 : Option Addr) (c0 : Nat) (l0 : List S30) (A1 : Option Addr) (c1 : Nat) (l1 : List Int) (r1 : List Int) (r2 : List S67) (r3 : Bool) (w : World) (hr0 : Kd.C k30 w A0 l0.length l0) (hc0 : l0.length ≤ c0) (hr1 : Kd.C (Kd.int .i64) w A1 l1.length l1) (hc1 : l1.length ≤ c1) (h : impl_RunTasks.f k l0 l1 = some (r1, r2, r3)) :
    Calls Try.prog 33 #[.slice A0 l0.length c0, .slice A1 l1.length c1] w fun e w' => ∃ v0_ v1_ : Value, e = .returned (.tuple #[v0_, v1_, .bool r3]) ∧ Kd.R (Kd.int .i64) 3 w' w.heap.size (fun _ => True) v0_ r1 ∧ Kd.R k67 67 w' w.heap.size (fun _ => True) v1_ r2 ∧ Below w.heap.size w w' := by
  have hu30 := Try.underlying30
  have hu67 := Try.underlying67
  have hu101 := Try.underlying101
  unfold impl_RunTasks.f at h
  by_cases hn : l0.length < 2000000; rotate_left
  · rw [if_neg hn] at h; cases h
  rw [if_pos hn] at h
  obtain ⟨ok, hok, h⟩ := Option.bind_eq_some_iff.mp h
  have HOK := Aside0.mk hok
  have HR0 := Aside0.mk hr0
  have HC0 := Aside0.mk hc0
  have HR1 := Aside0.mk hr1
  have HC1 := Aside0.mk hc1
  clear hok hr0 hc0 hr1 hc1
  cases ok with
  | false =>
    rw [if_neg (by decide)] at h
    simp only [Option.some.injEq, Prod.mk.injEq] at h
    obtain ⟨rfl, rfl, rfl⟩ := h
    go_enter Try.func33, Try.ntmps33
    go_wp2_with (go_at_call 69; refine (impl_tasksOk.calls k A0 c0 l0 false w HR0.out HC0.out HOK.out).mono ?_; rintro e w1 ⟨rfl, hb1⟩)
    refine bodyPost_ret (v := .tuple #[.slice none 0 0, .slice none 0 0, .bool false]) (by simp [results, Try.results33, go_sem]) rfl ?_
    exact ⟨_, _, rfl, Kd.R_nil _ _ _ _ _, Kd.R_nil _ _ _ _ _, hb1⟩
  | true =>
    rw [if_pos rfl] at h
    by_cases hp : (l1.length : Int) > 200
    · rw [if_pos hp] at h
      simp only [Option.some.injEq, Prod.mk.injEq] at h
      obtain ⟨rfl, rfl, rfl⟩ := h
      go_enter Try.func33, Try.ntmps33
      go_wp2_with (go_at_call 69; refine (impl_tasksOk.calls k A0 c0 l0 true w HR0.out HC0.out HOK.out).mono ?_; rintro e w1 ⟨rfl, hb1⟩)
      refine bodyPost_ret (v := .tuple #[.slice none 0 0, .slice none 0 0, .bool false]) (by simp [results, Try.results33, go_sem]) rfl ?_
      exact ⟨_, _, rfl, Kd.R_nil _ _ _ _ _, Kd.R_nil _ _ _ _ _, hb1⟩
    · rw [if_neg hp] at h
      obtain ⟨ln, hln, h⟩ := Option.bind_eq_some_iff.mp h
      obtain ⟨⟨p1, p2, p3⟩, hl1, h⟩ := Option.bind_eq_some_iff.mp h
      obtain ⟨⟨s1, s2, s3⟩, hl2, h⟩ := Option.bind_eq_some_iff.mp h
      simp only [Option.some.injEq, Prod.mk.injEq] at h
      obtain ⟨rfl, rfl, rfl⟩ := h
      have HLN := Aside0.mk hln
      have HL1 := Aside0.mk hl1
      have HL2 := Aside0.mk hl2
      clear hln hl1 hl2
      go_enter Try.func33, Try.ntmps33
      go_wp2_with (first | (go_at_call 69; refine (impl_tasksOk.calls k A0 c0 l0 true w HR0.out HC0.out HOK.out).mono ?_; rintro e w1 ⟨rfl, hb1⟩; have HB1 := Aside0.mk hb1; clear hb1) | (go_at_call 70; refine (impl_ListNew.calls ln _ HLN.out).mono ?_; rintro e w2 ⟨vl, rfl, hrl, hb2⟩; obtain ⟨Al, cl, evl, _, _⟩ := Kd.R_reads hrl; subst evl; have HRL := Aside0.mk hrl; have HB2 := Aside0.mk hb2; clear hrl hb2))
      have hrow0 := RowIs.new w2 101 #[Value.slice Al ln.length cl, Value.slice none 0 0, Value.int .i64 0]
      have hb0 : Below w2.heap.size w2 (w2.alloc (.cells #[Value.slice Al ln.length cl, Value.slice none 0 0, Value.int .i64 0] 101)) := below_alloc (Below.refl _ _) _
      have hb12 : Below w.heap.size w w2 := below_then HB1.out HB1.out.size HB2.out
      have RI0 := Aside0.mk (show RunIs (w2.alloc (.cells #[Value.slice Al ln.length cl, Value.slice none 0 0, Value.int .i64 0] 101)) w.heap.size w2.heap.size ln (runC (l0.take 0)) 0 from ⟨hb12.size, _, _, hrow0, Kd.R_below (Kd.R_lower HRL.out HB1.out.size) hb0, Kd.R_nil _ _ _ _ _⟩)
      have BW0 := Aside0.mk (show Below w.heap.size w (w2.alloc (.cells #[Value.slice Al ln.length cl, Value.slice none 0 0, Value.int .i64 0] 101)) from below_then hb12 hb12.size hb0)
      obtain ⟨g, hg⟩ : ∃ g, g = w2.heap.size := ⟨_, rfl⟩
      rw [← hg] at RI0 ⊢
      generalize w2.alloc (.cells #[Value.slice Al ln.length cl, Value.slice none 0 0, Value.int .i64 0] 101) = w3 at RI0 BW0 ⊢
      clear hrow0 hb0 hb12 HRL HB1 HB2 hg
      go_loopg [9, 27] l0.length (fun gg _ s27 wr => ∃ kk : Nat, kk ≤ l0.length ∧ l0.length - kk ≤ gg ∧ s27 = .int .i64 kk ∧ Aside0 (RunIs wr w.heap.size g ln (runC (l0.take kk)) 0) ∧ Aside0 (Below w.heap.size w wr))
      case atStart => exact ⟨0, Nat.zero_le _, by omega, rfl, RI0, BW0⟩
      case round =>
        obtain ⟨kk, hkk, hgg, rfl, RI, BW⟩ := hrel
        by_cases hlt : kk < l0.length
        · have hltz : (kk : Int) < (l0.length : Int) := by omega
          obtain ⟨ad, e1, x0, x1, x2, x3, x4, x5, x6, x7, x8, x9, x10⟩ := at_T30 (Kd.C_below HR0.out BW.out) (kk : Int) (by omega) hltz
          cases e1
          simp only [Int.toNat_natCast] at x0 x1 x2 x3 x4 x5 x6 x7 x8 x9 x10
          obtain ⟨hbg, vL, vC, hrow, hL, hC⟩ := RI.out
          have g1 := hrow.cell (j := 1) rfl
          have hfz := hrow.free 1
          have hgl := hrow.lt
          have hCc := hC
          obtain ⟨AC, cC, rfl, _, _⟩ := Kd.R_reads hC
          have HL := Aside0.mk hL
          have hlen : (runC (l0.take kk)).length = kk := by unfold runC; rw [List.length_map, List.length_take]; omega
          rw [hlen] at hCc g1 hrow
          have HLEN := Aside0.mk hlen
          have HROW := Aside0.mk hrow
          have HC := Aside0.mk hCc
          clear hlen
          clear hrow hL hC hCc
          go_wp2
          obtain ⟨W, hW⟩ : ∃ W, W = wr.alloc (.cells #[.int .i64 (rd_T30 l0 (kk : Int)).f0, .int .i64 (rd_T30 l0 (kk : Int)).f1, .int .i64 (rd_T30 l0 (kk : Int)).f2, .int .i64 (rd_T30 l0 (kk : Int)).f3, .int .i64 (rd_T30 l0 (kk : Int)).f4, .int .i64 (rd_T30 l0 (kk : Int)).f5, .int .i64 (rd_T30 l0 (kk : Int)).f6, .int .i64 (rd_T30 l0 (kk : Int)).f7, .int .i64 (rd_T30 l0 (kk : Int)).f8, .bool (rd_T30 l0 (kk : Int)).f9, .int .i64 (rd_T30 l0 (kk : Int)).f10] 30) := ⟨_, rfl⟩
          rw [← hW]
          have hbW : Below wr.heap.size wr W := by rw [hW]; exact below_alloc (Below.refl _ _) _
          have hrT : RowIs W wr.heap.size 30 [.int .i64 (rd_T30 l0 (kk : Int)).f0, .int .i64 (rd_T30 l0 (kk : Int)).f1, .int .i64 (rd_T30 l0 (kk : Int)).f2, .int .i64 (rd_T30 l0 (kk : Int)).f3, .int .i64 (rd_T30 l0 (kk : Int)).f4, .int .i64 (rd_T30 l0 (kk : Int)).f5, .int .i64 (rd_T30 l0 (kk : Int)).f6, .int .i64 (rd_T30 l0 (kk : Int)).f7, .int .i64 (rd_T30 l0 (kk : Int)).f8, .bool (rd_T30 l0 (kk : Int)).f9, .int .i64 (rd_T30 l0 (kk : Int)).f10] := by rw [hW]; exact RowIs.new wr 30 _
          obtain ⟨tb, htb⟩ : ∃ tb, tb = wr.heap.size := ⟨_, rfl⟩
          rw [← htb] at hrT ⊢
          have hrG := HROW.out.below hbW
          have t0 := hrT.cell (j := 0) rfl
          have t1 := hrT.cell (j := 1) rfl
          have t2 := hrT.cell (j := 2) rfl
          have t3 := hrT.cell (j := 3) rfl
          have t4 := hrT.cell (j := 4) rfl
          have t5 := hrT.cell (j := 5) rfl
          have t6 := hrT.cell (j := 6) rfl
          have t7 := hrT.cell (j := 7) rfl
          have t8 := hrT.cell (j := 8) rfl
          have t9 := hrT.cell (j := 9) rfl
          have t10 := hrT.cell (j := 10) rfl
          have g1' := hrG.cell (j := 1) rfl
          have hfz' := hrG.free 1
          have BW' := Aside0.mk (below_then BW.out BW.out.size hbW)
          have HC' := Aside0.mk (Kd.R_below HC.out hbW)
          have HL' := Aside0.mk (Kd.R_below HL.out hbW)
          have HG' := Aside0.mk hrG
          have hgW : g < W.heap.size := hrG.lt
          have htW : tb < W.heap.size := hrT.lt
          clear hbW hrT hrG hW htb x0 x1 x2 x3 x4 x5 x6 x7 x8 x9 x10 g1 hfz hgl HC HL HROW
          have hsz : w.heap.size ≤ W.heap.size := BW'.out.size
          have E1 := Aside0.mk (show runC (l0.take (kk + 1)) = runC (l0.take kk) ++ [(⟨rd_T30 l0 (kk : Int), 0, 0⟩ : S67)] from by unfold runC; rw [List.take_succ_eq_append_getElem hlt, List.map_append, rd30_nat l0 kk hlt]; rfl)
          go_region_law (go_loud (refine Kd.R_append_step k67 (w0 := w) w.heap.size (by rfl) (.tmp 35) (.tmp 38) 46 67 (.agg #[.int .i64 0, .int .i64 0, .int .i64 0, .int .i64 0, .int .i64 0, .int .i64 0, .int .i64 0, .int .i64 0, .int .i64 0, .bool false, .int .i64 0, .int .i64 0, .int .i64 0]) 104 rfl Try.underlying46 info67 rfl (by decide) (by omega) _ (runC (l0.take kk)) (⟨rd_T30 l0 (kk : Int), 0, 0⟩ : S67) (en67 ⟨rd_T30 l0 (kk : Int), 0, 0⟩) (fun _ => True) (fun _ => False) rfl rfl (en67_mk _ _ _ _) (fun _ hk => hk.elim) (fun _ _ => trivial) (Kd.R_drew HC'.out) (below_drew BW'.out) hsz (by rw [HLEN.out]; omega) ?_; intro v1 w1 ho hb hg hat; obtain ⟨A1v, c1v, rfl, _, _⟩ := Kd.R_reads ho; have hr1 := RowIs.to HG'.out (hg.block g HG'.out.lt (rowR_ne HC'.out HG'.out (by decide))); obtain ⟨o1, m1⟩ := Option.isSome_iff_exists.1 (hr1.isSome (j := 1) (by simp)); have n1 := hr1.free 1; have HO1 := Aside0.mk ho; have HB1 := Aside0.mk hb; have HR1G := Aside0.mk hr1; have HL1W := Aside0.mk (Kd.R_over (Kd.R_drew HL'.out) (Kd.R_drew HC'.out) (by decide) hg); clear ho hb hg hat hr1))
          all_goals go_wp2
          all_goals go_roundg (l0.length - (kk + 1))
          all_goals first | omega | skip
          all_goals
            have HO2 := HO1.out
            rw [List.length_append, List.length_singleton] at HO2
            refine ⟨kk + 1, by omega, by omega, by go_num, ⟨hbg, vL, .slice A1v ((runC (l0.take kk)).length + 1) c1v, HR1G.out.set 1 [.slice A1v ((runC (l0.take kk)).length + 1) c1v] (by simp), Kd.R_grown1 HL1W.out rfl (grown_set w1 g 1 [.slice A1v ((runC (l0.take kk)).length + 1) c1v]) (rowR_ne HL1W.out HR1G.out (by decide)), ?_⟩, ⟨HB1.out.grown (grown_set w1 g 1 [.slice A1v ((runC (l0.take kk)).length + 1) c1v]) HB1.out.size (fun k hk => by cases hk; exact hbg)⟩⟩
            rw [E1.out]
            exact Kd.R_grown1 HO2 rfl (grown_set w1 g 1 [.slice A1v ((runC (l0.take kk)).length + 1) c1v]) (rowR_ne HO2 HR1G.out (by decide))
        · obtain rfl : kk = l0.length := by omega
          have hltz : ¬ (l0.length : Int) < (l0.length : Int) := by omega
          rw [List.take_length] at RI
          go_wp2
          go_loopg [11, 45] k (fun kq _ s45 wr2 => ∃ (j : Nat) (ls : List Int) (cs : List S67) (n : Int), s45 = .int .i64 j ∧ Aside0 (impl_RunTasks.l1 kq l0 l1 ls cs n j = some (p1, p2, p3)) ∧ Aside0 (kq ≤ k) ∧ Aside0 (RunIs wr2 w.heap.size g ls cs n) ∧ Aside0 (Below w.heap.size w wr2))
          case atStart => exact ⟨0, ln, runC l0, 0, rfl, HL1, ⟨Nat.le_refl _⟩, RI, BW⟩
          case round =>
            obtain ⟨j, ls, cs, n, rfl, HA, HK, RI2, BW2⟩ := hrel
            cases gk with
            | zero => exact absurd HA.out (by simp [impl_RunTasks.l1])
            | succ k1 =>
              have hl1 := HA.out
              simp only [impl_RunTasks.l1] at hl1
              clear HA
              by_cases hj : j < l1.length
              · rw [if_pos hj] at hl1
                obtain ⟨m, hm, hl1⟩ := Option.bind_eq_some_iff.mp hl1
                obtain ⟨⟨q1, q2, q3⟩, hq, hl1⟩ := Option.bind_eq_some_iff.mp hl1
                have HM := Aside0.mk hm
                have HQ := Aside0.mk hq
                have HA2 := Aside0.mk (show impl_RunTasks.l1 k1 l0 l1 q1 q2 q3 (j + 1) = some (p1, p2, p3) from hl1)
                clear hm hq hl1
                have hjz : (j : Int) < (l1.length : Int) := by omega
                obtain ⟨ad, e1, x0⟩ := Kd.at_int (Kd.C_below HR1.out BW2.out) (j : Int) (by omega) hjz
                cases e1
                simp only [Int.toNat_natCast] at x0
                go_wp2_with (first | (go_at_call 72; refine (impl_modulo.calls _ _ m _ HM.out).mono ?_; rintro e w' ⟨rfl, ⟨nd, rfl⟩⟩) | (go_at_call 71; refine (impl_runner_step.calls k1 w.heap.size g ls cs n m q1 q2 q3 w _ ?sB ?sS ?sR HQ.out).mono ?_; (case sB => exact pw_below_drewN BW2.out _); (case sS => exact (pw_below_drewN BW2.out _).size); (case sR => exact RI2.out.below (pw_below_drewN (Below.refl _ _) _)); rintro e w5 ⟨rfl, hr5, hb5⟩; have RI5 := Aside0.mk hr5; have BW5 := Aside0.mk hb5; clear hr5 hb5))
                go_roundg k1
                case measure => have := HK.out; omega
                case rel => exact ⟨j + 1, q1, q2, q3, by go_num, HA2, ⟨by have := HK.out; omega⟩, RI5, BW5⟩
              · rw [if_neg hj] at hl1
                simp only [Option.some.injEq, Prod.mk.injEq] at hl1
                obtain ⟨rfl, rfl, rfl⟩ := hl1
                have hjz : ¬ (j : Int) < (l1.length : Int) := by omega
                go_wp2
                go_loopg [12, 13, 70] k (fun kq s12 _ _ wr3 => ∃ (t : Nat) (ls : List Int) (cs : List S67) (n : Int), s12 = .int .i64 t ∧ Aside0 (impl_RunTasks.l2 kq ls cs n t = some (s1, s2, s3)) ∧ Aside0 (kq ≤ k) ∧ Aside0 (RunIs wr3 w.heap.size g ls cs n) ∧ Aside0 (Below w.heap.size w wr3))
                case atStart => exact ⟨0, _, _, _, rfl, HL2, ⟨Nat.le_refl _⟩, RI2, BW2⟩
                case round =>
                  obtain ⟨t, ls, cs, n, rfl, HA, HK3, RI3, BW3⟩ := hrel
                  cases gk with
                  | zero => exact absurd HA.out (by simp [impl_RunTasks.l2])
                  | succ k2 =>
                    have hl2 := HA.out
                    simp only [impl_RunTasks.l2] at hl2
                    clear HA
                    by_cases ht : t < 400
                    · rw [if_pos ht] at hl2
                      have htz : (t : Int) < 400 := by omega
                      cases ha : cs.any notDone with
                      | true =>
                        rw [ha, if_pos rfl] at hl2
                        obtain ⟨⟨q1, q2, q3⟩, hq, hl2⟩ := Option.bind_eq_some_iff.mp hl2
                        have HQ := Aside0.mk hq
                        have HA2 := Aside0.mk (show impl_RunTasks.l2 k2 q1 q2 q3 (t + 1) = some (s1, s2, s3) from hl2)
                        have HAN := Aside0.mk ha
                        clear hq hl2 ha
                        go_wp2_with (go_at_call 73; refine (impl_runner_ended.calls w.heap.size g ls cs n w _ BW3.out BW3.out.size RI3.out).mono ?_; rintro e w6 ⟨rfl, hr6, hb6⟩; have RI6 := Aside0.mk hr6; have BW6 := Aside0.mk hb6; clear hr6 hb6; rw [HAN.out]; obtain ⟨hbg6, vL6, vC6, hrow6, hL6, hC6⟩ := RI6.out; obtain ⟨AC6, cC6, rfl, _, hCC6⟩ := Kd.R_reads hC6; have hmx6 := Kd.C_max hCC6; have y1 := hrow6.cell (j := 1) rfl; clear hrow6 hL6 hC6 hCC6)
                        go_loopg [13, 70] k2 (fun kq _ s70 wr4 => ∃ (i : Nat) (ls' : List Int) (cs' : List S67) (n' : Int), s70 = .int .i64 i ∧ Aside0 (impl_RunTasks.l3 kq cs.length ls' cs' n' i = some (q1, q2, q3)) ∧ Aside0 (kq ≤ k2) ∧ Aside0 (RunIs wr4 w.heap.size g ls' cs' n') ∧ Aside0 (Below w.heap.size w wr4))
                        case atStart => exact ⟨0, ls, cs, n, rfl, HQ, ⟨Nat.le_refl _⟩, RI6, BW6⟩
                        case round =>
                          obtain ⟨i, ls', cs', n', rfl, HI, HK4, RI4, BW4⟩ := hrel
                          cases gk with
                          | zero => exact absurd HI.out (by simp [impl_RunTasks.l3])
                          | succ k4 =>
                            have hi3 := HI.out
                            simp only [impl_RunTasks.l3] at hi3
                            clear HI
                            by_cases hi : i < cs.length
                            · rw [if_pos hi] at hi3
                              obtain ⟨⟨z1, z2, z3⟩, hz, hi3⟩ := Option.bind_eq_some_iff.mp hi3
                              have HZ := Aside0.mk hz
                              have HI2 := Aside0.mk (show impl_RunTasks.l3 k4 cs.length z1 z2 z3 (i + 1) = some (q1, q2, q3) from hi3)
                              clear hz hi3
                              have hiz : (i : Int) < (cs.length : Int) := by omega
                              go_wp2_with (go_at_call 71; refine (impl_runner_step.calls k4 w.heap.size g ls' cs' n' (i : Int) z1 z2 z3 w _ BW4.out BW4.out.size RI4.out HZ.out).mono ?_; rintro e w5 ⟨rfl, hr5, hb5⟩; have RI5 := Aside0.mk hr5; have BW5 := Aside0.mk hb5; clear hr5 hb5)
                              go_roundg k4
                              case measure => have := HK4.out; omega
                              case rel => exact ⟨i + 1, z1, z2, z3, by go_num, HI2, ⟨by have := HK4.out; omega⟩, RI5, BW5⟩
                            · rw [if_neg hi] at hi3
                              simp only [Option.some.injEq, Prod.mk.injEq] at hi3
                              obtain ⟨rfl, rfl, rfl⟩ := hi3
                              have hiz : ¬ (i : Int) < (cs.length : Int) := by omega
                              have htw : IntKind.i64.wrap ((t : Int) + 1) = (t : Int) + 1 := by rw [IntKind.wrap_i64]; omega
                              go_wp2
                              go_roundg k2
                              case measure => have := HK3.out; omega
                              case rel => exact ⟨t + 1, _, _, _, by go_num, HA2, ⟨by have := HK3.out; omega⟩, RI4, BW4⟩
                      | false =>
                        rw [ha, if_neg (by decide)] at hl2
                        simp only [Option.some.injEq, Prod.mk.injEq] at hl2
                        obtain ⟨rfl, rfl, rfl⟩ := hl2
                        have HAN := Aside0.mk ha
                        clear ha
                        go_wp2_with (go_at_call 73; refine (impl_runner_ended.calls w.heap.size g ls cs n w _ BW3.out BW3.out.size RI3.out).mono ?_; rintro e w6 ⟨rfl, hr6, hb6⟩; have RI6 := Aside0.mk hr6; have BW6 := Aside0.mk hb6; clear hr6 hb6; rw [HAN.out]; obtain ⟨hbg6, vL6, vC6, hrow6, hL6, hC6⟩ := RI6.out; obtain ⟨AL6, cL6, rfl, _, _⟩ := Kd.R_reads hL6; obtain ⟨AC6, cC6, rfl, _, _⟩ := Kd.R_reads hC6; have y0 := hrow6.cell (j := 0) rfl; have y1 := hrow6.cell (j := 1) rfl; have HL6 := Aside0.mk hL6; have HC6 := Aside0.mk hC6; clear hrow6 hL6 hC6)
                        go_quiet (fail)
                        go_wp2
                        refine bodyPost_ret (v := .tuple #[.slice AL6 ls.length cL6, .slice AC6 cs.length cC6, .bool true]) (by simp [results, Try.results33, go_sem]) rfl ?_
                        exact ⟨_, _, rfl, Kd.R_drewN HL6.out _, Kd.R_drewN HC6.out _, pw_below_drewN BW6.out _⟩
                    · rw [if_neg ht] at hl2
                      have htz : ¬ (t : Int) < 400 := by omega
                      simp only [Option.some.injEq, Prod.mk.injEq] at hl2
                      obtain ⟨rfl, rfl, rfl⟩ := hl2
                      obtain ⟨hbg3, vL3, vC3, hrow3, hL3, hC3⟩ := RI3.out
                      obtain ⟨AL3, cL3, rfl, _, _⟩ := Kd.R_reads hL3
                      obtain ⟨AC3, cC3, rfl, _, _⟩ := Kd.R_reads hC3
                      have y0 := hrow3.cell (j := 0) rfl
                      have y1 := hrow3.cell (j := 1) rfl
                      have HL3 := Aside0.mk hL3
                      have HC3 := Aside0.mk hC3
                      clear hrow3 hL3 hC3
                      go_wp2
                      go_quiet (fail)
                      go_wp2
                      refine bodyPost_ret (v := .tuple #[.slice AL3 ls.length cL3, .slice AC3 cs.length cC3, .bool true]) (by simp [results, Try.results33, go_sem]) rfl ?_
                      exact ⟨_, _, rfl, Kd.R_drewN HL3.out _, Kd.R_drewN HC3.out _, pw_below_drewN BW3.out _⟩
end
/-! ### laws_eqIntS: function 34 -/
def laws_eqIntS.l0 : Nat → List Int → List Int → Int → Option (Bool)
 | 0, _, _, _ => none
 | k + 1, x0, x1, x5 => if x5 < (x0.length : Int) then (if 0 ≤ x5 then (if x5 < (x1.length : Int) then (if (rd x0 x5) = (rd x1 x5) then (laws_eqIntS.l0 k x0 x1 (wrap64 (x5 + 1))) else (some false)) else (none)) else (none)) else (some true)
def laws_eqIntS.f (k : Nat) (l0 : List Int) (l1 : List Int) : Option (Bool) := if (l0.length : Int) = (l1.length : Int) then (laws_eqIntS.l0 k l0 l1 0) else (some false)
set_option maxHeartbeats 8000000 in
set_option maxRecDepth 100000 in
theorem laws_eqIntS.calls (k : Nat) (A0 : Option Addr) (c0 : Nat) (l0 : List Int) (A1 : Option Addr) (c1 : Nat) (l1 : List Int) (r : Bool) (w : World) (hr0 : Kd.C (Kd.int .i64) w A0 l0.length l0) (hc0 : l0.length ≤ c0) (hr1 : Kd.C (Kd.int .i64) w A1 l1.length l1) (hc1 : l1.length ≤ c1) (h : laws_eqIntS.f k l0 l1 = some r) :
  Calls Try.prog 34 #[.slice A0 l0.length c0, .slice A1 l1.length c1] w fun e w' => e = .returned (.bool r) ∧ Drawn0 w w' := by
 have HR0 := Aside0.mk hr0
 have HC0 := Aside0.mk hc0
 clear hr0 hc0
 have HR1 := Aside0.mk hr1
 have HC1 := Aside0.mk hc1
 clear hr1 hc1
 have H : (if (l0.length : Int) = (l1.length : Int) then (laws_eqIntS.l0 k l0 l1 0) else (some false)) = some r := h
 clear h
 by_cases c3 : (l0.length : Int) = (l1.length : Int); rotate_left
 ·
  rw [if_neg c3] at H; have c3b0 : ((l0.length : Int) == (l1.length : Int)) = false := beq_eq_false_iff_ne.mpr c3; have c3b1 : ((l0.length : Int) != (l1.length : Int)) = true := bne_iff_ne.mpr c3
  have c3b2 : (l0.length == l1.length) = false := by first | simpa using c3 | (simp at c3 ⊢; omega)
  obtain rfl := Option.some.inj H
  go_enter Try.func34, Try.ntmps34
  go_wp2
  repeat (go_quiet (fail); try go_wp2)
  go_ret
  exact ⟨by first | rfl | (simp; done) | (simp [*]; done), by repeat (first | exact Drawn0.refl _ | apply Drawn0.step)⟩
 rw [if_pos c3] at H
 have c3b0 : ((l0.length : Int) == (l1.length : Int)) = true := beq_iff_eq.mpr c3
 have c3b1 : ((l0.length : Int) != (l1.length : Int)) = false := bne_eq_false_iff_eq.mpr c3
 have c3b2 : (l0.length == l1.length) = true := by first | simpa using c3 | (simp at c3 ⊢; omega)
 clear c3
 have H' := Aside0.mk H
 clear H
 go_enter Try.func34, Try.ntmps34
 go_wp2
 repeat (go_quiet (fail); try go_wp2)
 go_loopg [5] k (fun kq v5 w' => ∃ (x5_1 : Int), v5 = .int .i64 x5_1 ∧ Aside0 (laws_eqIntS.l0 kq l0 l1 x5_1 = some r) ∧ Aside0 (kq ≤ k) ∧ Drawn0 w w')
 case atStart => exact ⟨(0), SD, H', ⟨Nat.le_refl _⟩, by repeat (first | exact Drawn0.refl _ | apply Drawn0.step)⟩
 case round =>
  clear H'
  try clear c1 p2 c3 c3b0 c3b1 c3b2
  obtain ⟨x5_1, rfl, HA, HK1, ⟨m1, rfl⟩⟩ := hrel; cases gk with
  | zero => exact absurd HA.out (by simp [laws_eqIntS.l0])
  | succ k1 =>
   have H := HA.out; clear HA; simp only [laws_eqIntS.l0] at H
   by_cases c4 : x5_1 < (l0.length : Int); rotate_left
   ·
    rw [if_neg c4] at H; have c4b0 : decide (x5_1 < (l0.length : Int)) = false := decide_eq_false c4; clear c4; obtain rfl := Option.some.inj H
    go_wp2
    repeat (go_quiet (fail); try go_wp2)
    go_ret
    exact ⟨by first | rfl | (simp; done) | (simp [*]; done), by repeat (first | exact Drawn0.refl _ | apply Drawn0.step)⟩
   rw [if_pos c4] at H; have c4b0 : decide (x5_1 < (l0.length : Int)) = true := decide_eq_true c4; clear c4
   by_cases c5 : 0 ≤ x5_1; rotate_left
   ·
    rw [if_neg c5] at H; exact absurd H (by simp)
   rw [if_pos c5] at H; have c5b0 : decide (0 ≤ x5_1) = true := decide_eq_true c5; clear c5
   by_cases c6 : x5_1 < (l1.length : Int); rotate_left
   ·
    rw [if_neg c6] at H; exact absurd H (by simp)
   rw [if_pos c6] at H; have c6b0 : decide (x5_1 < (l1.length : Int)) = true := decide_eq_true c6; clear c6
   by_cases c7 : (rd l0 x5_1) = (rd l1 x5_1); rotate_left
   ·
    rw [if_neg c7] at H; have c7b0 : ((rd l0 x5_1) == (rd l1 x5_1)) = false := beq_eq_false_iff_ne.mpr c7; have c7b1 : ((rd l0 x5_1) != (rd l1 x5_1)) = true := bne_iff_ne.mpr c7; obtain rfl := Option.some.inj H; have p508 : 0 ≤ (x5_1 : Int) := of_decide_eq_true AS; have q508 : x5_1 < (l0.length : Int) := of_decide_eq_true AS; obtain ⟨ad508, e508, hx508_0⟩ := Kd.at_int HR0.out x5_1 p508 q508; cases e508; replace p508 := eq_true p508; replace q508 := eq_true q508; have p509 : 0 ≤ (x5_1 : Int) := of_decide_eq_true AS; have q509 : x5_1 < (l1.length : Int) := of_decide_eq_true AS; obtain ⟨ad509, e509, hx509_0⟩ := Kd.at_int HR1.out x5_1 p509 q509; cases e509; replace p509 := eq_true p509; replace q509 := eq_true q509
    go_wp2
    repeat (go_quiet (fail); try go_wp2)
    go_ret
    exact ⟨by first | rfl | (simp; done) | (simp [*]; done), by repeat (first | exact Drawn0.refl _ | apply Drawn0.step)⟩
   rw [if_pos c7] at H; have c7b0 : ((rd l0 x5_1) == (rd l1 x5_1)) = true := beq_iff_eq.mpr c7; have c7b1 : ((rd l0 x5_1) != (rd l1 x5_1)) = false := bne_eq_false_iff_eq.mpr c7; clear c7; have H' := Aside0.mk H; clear H; have p508 : 0 ≤ (x5_1 : Int) := of_decide_eq_true AS; have q508 : x5_1 < (l0.length : Int) := of_decide_eq_true AS; obtain ⟨ad508, e508, hx508_0⟩ := Kd.at_int HR0.out x5_1 p508 q508; cases e508; replace p508 := eq_true p508; replace q508 := eq_true q508; have p509 : 0 ≤ (x5_1 : Int) := of_decide_eq_true AS; have q509 : x5_1 < (l1.length : Int) := of_decide_eq_true AS; obtain ⟨ad509, e509, hx509_0⟩ := Kd.at_int HR1.out x5_1 p509 q509; cases e509; replace p509 := eq_true p509; replace q509 := eq_true q509
   go_wp2
   repeat (go_quiet (fail); try go_wp2)
   go_roundg k1
   case measure => have := HK1.out; omega
   case rel => exact ⟨(wrap64 (x5_1 + 1)), SD, H', ⟨by have := HK1.out; omega⟩, by repeat (first | exact Drawn0.refl _ | apply Drawn0.step)⟩

/-! ### laws_eqTaskS: function 35 -/
def laws_eqTaskS.l0 : Nat → List (S30) → List (S30) → Int → Option (Bool)
 | 0, _, _, _ => none
 | k + 1, x0, x1, x5 => if x5 < (x0.length : Int) then (if 0 ≤ x5 then (if x5 < (x1.length : Int) then ((laws_eqTask.f ((rd_T30 x0 x5).f0) ((rd_T30 x0 x5).f1) ((rd_T30 x0 x5).f2) ((rd_T30 x0 x5).f3) ((rd_T30 x0 x5).f4) ((rd_T30 x0 x5).f5) ((rd_T30 x0 x5).f6) ((rd_T30 x0 x5).f7) ((rd_T30 x0 x5).f8) ((rd_T30 x0 x5).f9) ((rd_T30 x0 x5).f10) ((rd_T30 x1 x5).f0) ((rd_T30 x1 x5).f1) ((rd_T30 x1 x5).f2) ((rd_T30 x1 x5).f3) ((rd_T30 x1 x5).f4) ((rd_T30 x1 x5).f5) ((rd_T30 x1 x5).f6) ((rd_T30 x1 x5).f7) ((rd_T30 x1 x5).f8) ((rd_T30 x1 x5).f9) ((rd_T30 x1 x5).f10)).bind fun t512 => (if t512 = true then (laws_eqTaskS.l0 k x0 x1 (wrap64 (x5 + 1))) else (some false))) else (none)) else (none)) else (some true)
def laws_eqTaskS.f (k : Nat) (l0 : List (S30)) (l1 : List (S30)) : Option (Bool) := if (l0.length : Int) = (l1.length : Int) then (laws_eqTaskS.l0 k l0 l1 0) else (some false)
def laws_eqTaskS.T6 : Bool × List (List Nat × List Nat) := (true, [([], []), ([], []), ([0, 1], [0, 1]), ([2], [2]), ([], []), ([], []), ([4, 5], [4, 5]), ([6], [6]), ([3, 7], [3, 7]), ([8], [8])])
def laws_eqTaskS.B6 : List Nat := [0, 0, 3, 7, 0, 0, 48, 112, 255, 511]
theorem laws_eqTaskS.tab6 : rtab .any (opsOf Try.f35 6) = laws_eqTaskS.T6 := by kernel_rfl
theorem laws_eqTaskS.bits6 : waitsOk laws_eqTaskS.T6.2 laws_eqTaskS.B6 = true := by kernel_rfl
set_option maxHeartbeats 8000000 in
set_option maxRecDepth 100000 in
theorem laws_eqTaskS.calls (k : Nat) (A0 : Option Addr) (c0 : Nat) (l0 : List (S30)) (A1 : Option Addr) (c1 : Nat) (l1 : List (S30)) (r : Bool) (w : World) (hr0 : Kd.C k30 w A0 l0.length l0) (hc0 : l0.length ≤ c0) (hr1 : Kd.C k30 w A1 l1.length l1) (hc1 : l1.length ≤ c1) (h : laws_eqTaskS.f k l0 l1 = some r) :
  Calls Try.prog 35 #[.slice A0 l0.length c0, .slice A1 l1.length c1] w fun e w' => e = .returned (.bool r) ∧ Below w.heap.size w w' := by
 have hu30 := Try.underlying30
 have HR0 := Aside0.mk hr0
 have HC0 := Aside0.mk hc0
 clear hr0 hc0
 have HR1 := Aside0.mk hr1
 have HC1 := Aside0.mk hc1
 clear hr1 hc1
 have HB := Aside0.mk (Below.refl w.heap.size w)
 have H : (if (l0.length : Int) = (l1.length : Int) then (laws_eqTaskS.l0 k l0 l1 0) else (some false)) = some r := h
 clear h
 by_cases c3 : (l0.length : Int) = (l1.length : Int); rotate_left
 ·
  rw [if_neg c3] at H; have c3b0 : ((l0.length : Int) == (l1.length : Int)) = false := beq_eq_false_iff_ne.mpr c3; have c3b1 : ((l0.length : Int) != (l1.length : Int)) = true := bne_iff_ne.mpr c3
  have c3b2 : (l0.length == l1.length) = false := by first | simpa using c3 | (simp at c3 ⊢; omega)
  obtain rfl := Option.some.inj H
  go_enter Try.func35, Try.ntmps35
  go_wp2
  go_ret
  exact ⟨EE, BL⟩
 rw [if_pos c3] at H
 have c3b0 : ((l0.length : Int) == (l1.length : Int)) = true := beq_iff_eq.mpr c3
 have c3b1 : ((l0.length : Int) != (l1.length : Int)) = false := bne_eq_false_iff_eq.mpr c3
 have c3b2 : (l0.length == l1.length) = true := by first | simpa using c3 | (simp at c3 ⊢; omega)
 clear c3
 have H' := Aside0.mk H
 clear H
 go_enter Try.func35, Try.ntmps35
 go_wp2
 go_loopg [5] k (fun kq v5 w' => ∃ (x5_1 : Int), v5 = .int .i64 x5_1 ∧ Aside0 (laws_eqTaskS.l0 kq l0 l1 x5_1 = some r) ∧ Aside0 (kq ≤ k) ∧ Aside0 (Below w.heap.size w w'))
 case atStart => exact ⟨(0), SD, H', ⟨Nat.le_refl _⟩, ⟨BL⟩⟩
 case round =>
  clear H'
  try clear c1 p2 c3 c3b0 c3b1 c3b2
  obtain ⟨x5_1, rfl, HA, HK1, HB⟩ := hrel; cases gk with
  | zero => exact absurd HA.out (by simp [laws_eqTaskS.l0])
  | succ k1 =>
   have H := HA.out; clear HA; simp only [laws_eqTaskS.l0] at H
   by_cases c4 : x5_1 < (l0.length : Int); rotate_left
   ·
    rw [if_neg c4] at H; have c4b0 : decide (x5_1 < (l0.length : Int)) = false := decide_eq_false c4; clear c4; obtain rfl := Option.some.inj H
    go_wp2
    go_ret
    exact ⟨EE, BL⟩
   rw [if_pos c4] at H; have c4b0 : decide (x5_1 < (l0.length : Int)) = true := decide_eq_true c4; clear c4
   by_cases c5 : 0 ≤ x5_1; rotate_left
   ·
    rw [if_neg c5] at H; exact absurd H (by simp)
   rw [if_pos c5] at H; have c5b0 : decide (0 ≤ x5_1) = true := decide_eq_true c5; clear c5
   by_cases c6 : x5_1 < (l1.length : Int); rotate_left
   ·
    rw [if_neg c6] at H; exact absurd H (by simp)
   rw [if_pos c6] at H; have c6b0 : decide (x5_1 < (l1.length : Int)) = true := decide_eq_true c6; clear c6; replace H := Option.bind_eq_some_iff.mp H; obtain ⟨t512, A70, H⟩ := H; have A7 := Aside0.mk A70; clear A70
   by_cases c8 : t512 = true; rotate_left
   ·
    replace c8 := Bool.eq_false_iff.mpr c8; subst c8
    have H1 : (some false) = some r := by rw [if_neg (show ¬ (false = true) by decide)] at H; exact H
    clear H; have H := H1; clear H1; obtain rfl := Option.some.inj H
    try go_wp2
    have n0_ := Aside0.mk (below_drew1 HB.out); clear HB; have HB := n0_; clear n0_; have p510 : 0 ≤ (x5_1 : Int) := of_decide_eq_true AS; have q510 : x5_1 < (l0.length : Int) := of_decide_eq_true AS; obtain ⟨ad510, e510, hx510_0, hx510_1, hx510_2, hx510_3, hx510_4, hx510_5, hx510_6, hx510_7, hx510_8, hx510_9, hx510_10⟩ := at_T30 HR0.out x5_1 p510 q510; have hw510_10 := hx510_10; have hw510_9 := hx510_9; have hw510_8 := hx510_8; have hw510_7 := hx510_7; have hw510_6 := hx510_6; have hw510_5 := hx510_5; have hw510_4 := hx510_4; have hw510_3 := hx510_3; have hw510_2 := hx510_2; have hw510_1 := hx510_1; have hw510_0 := hx510_0; cases e510; replace hx510_0 := (HB.out.cell (World.block_lt_of_cell? w _ hx510_0)).trans hx510_0; replace hx510_1 := (HB.out.cell (World.block_lt_of_cell? w _ hx510_1)).trans hx510_1; replace hx510_2 := (HB.out.cell (World.block_lt_of_cell? w _ hx510_2)).trans hx510_2; replace hx510_3 := (HB.out.cell (World.block_lt_of_cell? w _ hx510_3)).trans hx510_3; replace hx510_4 := (HB.out.cell (World.block_lt_of_cell? w _ hx510_4)).trans hx510_4; replace hx510_5 := (HB.out.cell (World.block_lt_of_cell? w _ hx510_5)).trans hx510_5; replace hx510_6 := (HB.out.cell (World.block_lt_of_cell? w _ hx510_6)).trans hx510_6; replace hx510_7 := (HB.out.cell (World.block_lt_of_cell? w _ hx510_7)).trans hx510_7; replace hx510_8 := (HB.out.cell (World.block_lt_of_cell? w _ hx510_8)).trans hx510_8; replace hx510_9 := (HB.out.cell (World.block_lt_of_cell? w _ hx510_9)).trans hx510_9; replace hx510_10 := (HB.out.cell (World.block_lt_of_cell? w _ hx510_10)).trans hx510_10; replace p510 := eq_true p510; replace q510 := eq_true q510; have p511 : 0 ≤ (x5_1 : Int) := of_decide_eq_true AS; have q511 : x5_1 < (l1.length : Int) := of_decide_eq_true AS; obtain ⟨ad511, e511, hx511_0, hx511_1, hx511_2, hx511_3, hx511_4, hx511_5, hx511_6, hx511_7, hx511_8, hx511_9, hx511_10⟩ := at_T30 HR1.out x5_1 p511 q511; have hw511_10 := hx511_10; have hw511_9 := hx511_9; have hw511_8 := hx511_8; have hw511_7 := hx511_7; have hw511_6 := hx511_6; have hw511_5 := hx511_5; have hw511_4 := hx511_4; have hw511_3 := hx511_3; have hw511_2 := hx511_2; have hw511_1 := hx511_1; have hw511_0 := hx511_0; cases e511; replace hx511_0 := (HB.out.cell (World.block_lt_of_cell? w _ hx511_0)).trans hx511_0; replace hx511_1 := (HB.out.cell (World.block_lt_of_cell? w _ hx511_1)).trans hx511_1; replace hx511_2 := (HB.out.cell (World.block_lt_of_cell? w _ hx511_2)).trans hx511_2; replace hx511_3 := (HB.out.cell (World.block_lt_of_cell? w _ hx511_3)).trans hx511_3; replace hx511_4 := (HB.out.cell (World.block_lt_of_cell? w _ hx511_4)).trans hx511_4; replace hx511_5 := (HB.out.cell (World.block_lt_of_cell? w _ hx511_5)).trans hx511_5; replace hx511_6 := (HB.out.cell (World.block_lt_of_cell? w _ hx511_6)).trans hx511_6; replace hx511_7 := (HB.out.cell (World.block_lt_of_cell? w _ hx511_7)).trans hx511_7; replace hx511_8 := (HB.out.cell (World.block_lt_of_cell? w _ hx511_8)).trans hx511_8; replace hx511_9 := (HB.out.cell (World.block_lt_of_cell? w _ hx511_9)).trans hx511_9; replace hx511_10 := (HB.out.cell (World.block_lt_of_cell? w _ hx511_10)).trans hx511_10; replace p511 := eq_true p511; replace q511 := eq_true q511; refine start_ (n := 10) (S := fun w' => w'.cell? (ad510.add ((x5_1).toNat * 11)) = some (.int .i64 ((rd_T30 l0 x5_1).f0)) ∧ w'.cell? ⟨(ad510.add ((x5_1).toNat * 11)).block, (ad510.add ((x5_1).toNat * 11)).off + 1, none⟩ = some (.int .i64 ((rd_T30 l0 x5_1).f1)) ∧ w'.cell? ⟨(ad510.add ((x5_1).toNat * 11)).block, (ad510.add ((x5_1).toNat * 11)).off + 2, none⟩ = some (.int .i64 ((rd_T30 l0 x5_1).f2)) ∧ w'.cell? ⟨(ad510.add ((x5_1).toNat * 11)).block, (ad510.add ((x5_1).toNat * 11)).off + 3, none⟩ = some (.int .i64 ((rd_T30 l0 x5_1).f3)) ∧ w'.cell? ⟨(ad510.add ((x5_1).toNat * 11)).block, (ad510.add ((x5_1).toNat * 11)).off + 4, none⟩ = some (.int .i64 ((rd_T30 l0 x5_1).f4)) ∧ w'.cell? ⟨(ad510.add ((x5_1).toNat * 11)).block, (ad510.add ((x5_1).toNat * 11)).off + 5, none⟩ = some (.int .i64 ((rd_T30 l0 x5_1).f5)) ∧ w'.cell? ⟨(ad510.add ((x5_1).toNat * 11)).block, (ad510.add ((x5_1).toNat * 11)).off + 6, none⟩ = some (.int .i64 ((rd_T30 l0 x5_1).f6)) ∧ w'.cell? ⟨(ad510.add ((x5_1).toNat * 11)).block, (ad510.add ((x5_1).toNat * 11)).off + 7, none⟩ = some (.int .i64 ((rd_T30 l0 x5_1).f7)) ∧ w'.cell? ⟨(ad510.add ((x5_1).toNat * 11)).block, (ad510.add ((x5_1).toNat * 11)).off + 8, none⟩ = some (.int .i64 ((rd_T30 l0 x5_1).f8)) ∧ w'.cell? ⟨(ad510.add ((x5_1).toNat * 11)).block, (ad510.add ((x5_1).toNat * 11)).off + 9, none⟩ = some (.bool ((rd_T30 l0 x5_1).f9)) ∧ w'.cell? ⟨(ad510.add ((x5_1).toNat * 11)).block, (ad510.add ((x5_1).toNat * 11)).off + 10, none⟩ = some (.int .i64 ((rd_T30 l0 x5_1).f10)) ∧ w'.cell? (ad511.add ((x5_1).toNat * 11)) = some (.int .i64 ((rd_T30 l1 x5_1).f0)) ∧ w'.cell? ⟨(ad511.add ((x5_1).toNat * 11)).block, (ad511.add ((x5_1).toNat * 11)).off + 1, none⟩ = some (.int .i64 ((rd_T30 l1 x5_1).f1)) ∧ w'.cell? ⟨(ad511.add ((x5_1).toNat * 11)).block, (ad511.add ((x5_1).toNat * 11)).off + 2, none⟩ = some (.int .i64 ((rd_T30 l1 x5_1).f2)) ∧ w'.cell? ⟨(ad511.add ((x5_1).toNat * 11)).block, (ad511.add ((x5_1).toNat * 11)).off + 3, none⟩ = some (.int .i64 ((rd_T30 l1 x5_1).f3)) ∧ w'.cell? ⟨(ad511.add ((x5_1).toNat * 11)).block, (ad511.add ((x5_1).toNat * 11)).off + 4, none⟩ = some (.int .i64 ((rd_T30 l1 x5_1).f4)) ∧ w'.cell? ⟨(ad511.add ((x5_1).toNat * 11)).block, (ad511.add ((x5_1).toNat * 11)).off + 5, none⟩ = some (.int .i64 ((rd_T30 l1 x5_1).f5)) ∧ w'.cell? ⟨(ad511.add ((x5_1).toNat * 11)).block, (ad511.add ((x5_1).toNat * 11)).off + 6, none⟩ = some (.int .i64 ((rd_T30 l1 x5_1).f6)) ∧ w'.cell? ⟨(ad511.add ((x5_1).toNat * 11)).block, (ad511.add ((x5_1).toNat * 11)).off + 7, none⟩ = some (.int .i64 ((rd_T30 l1 x5_1).f7)) ∧ w'.cell? ⟨(ad511.add ((x5_1).toNat * 11)).block, (ad511.add ((x5_1).toNat * 11)).off + 8, none⟩ = some (.int .i64 ((rd_T30 l1 x5_1).f8)) ∧ w'.cell? ⟨(ad511.add ((x5_1).toNat * 11)).block, (ad511.add ((x5_1).toNat * 11)).off + 9, none⟩ = some (.bool ((rd_T30 l1 x5_1).f9)) ∧ w'.cell? ⟨(ad511.add ((x5_1).toNat * 11)).block, (ad511.add ((x5_1).toNat * 11)).off + 10, none⟩ = some (.int .i64 ((rd_T30 l1 x5_1).f10))) (ds := []) #[false, false, false, false, false, false, false, false, false, false] (by kernel_rfl) rfl rfl ⟨((HB.out.cell (World.block_lt_of_cell? w _ hw510_0)).trans hw510_0), ((HB.out.cell (World.block_lt_of_cell? w _ hw510_1)).trans hw510_1), ((HB.out.cell (World.block_lt_of_cell? w _ hw510_2)).trans hw510_2), ((HB.out.cell (World.block_lt_of_cell? w _ hw510_3)).trans hw510_3), ((HB.out.cell (World.block_lt_of_cell? w _ hw510_4)).trans hw510_4), ((HB.out.cell (World.block_lt_of_cell? w _ hw510_5)).trans hw510_5), ((HB.out.cell (World.block_lt_of_cell? w _ hw510_6)).trans hw510_6), ((HB.out.cell (World.block_lt_of_cell? w _ hw510_7)).trans hw510_7), ((HB.out.cell (World.block_lt_of_cell? w _ hw510_8)).trans hw510_8), ((HB.out.cell (World.block_lt_of_cell? w _ hw510_9)).trans hw510_9), ((HB.out.cell (World.block_lt_of_cell? w _ hw510_10)).trans hw510_10), ((HB.out.cell (World.block_lt_of_cell? w _ hw511_0)).trans hw511_0), ((HB.out.cell (World.block_lt_of_cell? w _ hw511_1)).trans hw511_1), ((HB.out.cell (World.block_lt_of_cell? w _ hw511_2)).trans hw511_2), ((HB.out.cell (World.block_lt_of_cell? w _ hw511_3)).trans hw511_3), ((HB.out.cell (World.block_lt_of_cell? w _ hw511_4)).trans hw511_4), ((HB.out.cell (World.block_lt_of_cell? w _ hw511_5)).trans hw511_5), ((HB.out.cell (World.block_lt_of_cell? w _ hw511_6)).trans hw511_6), ((HB.out.cell (World.block_lt_of_cell? w _ hw511_7)).trans hw511_7), ((HB.out.cell (World.block_lt_of_cell? w _ hw511_8)).trans hw511_8), ((HB.out.cell (World.block_lt_of_cell? w _ hw511_9)).trans hw511_9), ((HB.out.cell (World.block_lt_of_cell? w _ hw511_10)).trans hw511_10)⟩ (fun hHeld => ?_); refine with_tabW laws_eqTaskS.tab6 laws_eqTaskS.bits6 (fun HT_ HW_ => ?_)
    generalize wr.drew = w11 at HB hx510_0 hx510_1 hx510_10 hx510_2 hx510_3 hx510_4 hx510_5 hx510_6 hx510_7 hx510_8 hx510_9 hx511_0 hx511_1 hx511_10 hx511_2 hx511_3 hx511_4 hx511_5 hx511_6 hx511_7 hx511_8 hx511_9 hHeld ⊢; refine pV 0 17 (OB 10 1) ?_; refine pV 1 18 (OB 10 3) ?_; refine pV 2 19 (OB 10 7) ?_; refine pV 4 21 (OB 10 23) ?_; refine pV 5 22 (OB 10 55) ?_; refine pV 6 23 (OB 10 119) ?_; refine pT 3 20 (OB 10 127) ?_; refine pT 7 24 (OB 10 255) ?_; refine one_ (i := 8) (N := some 25) (OB 10 511) rfl rfl (one_of HT_.out (by kernel_rfl)) (by decide) (fun K hK => ?_); refine goes_ Try.func74 (by kernel_rfl) rfl #[.agg #[.int .i64 ((rd_T30 l0 x5_1).f0), .int .i64 ((rd_T30 l0 x5_1).f1), .int .i64 ((rd_T30 l0 x5_1).f2), .int .i64 ((rd_T30 l0 x5_1).f3), .int .i64 ((rd_T30 l0 x5_1).f4), .int .i64 ((rd_T30 l0 x5_1).f5), .int .i64 ((rd_T30 l0 x5_1).f6), .int .i64 ((rd_T30 l0 x5_1).f7), .int .i64 ((rd_T30 l0 x5_1).f8), .bool ((rd_T30 l0 x5_1).f9), .int .i64 ((rd_T30 l0 x5_1).f10)], .agg #[.int .i64 ((rd_T30 l1 x5_1).f0), .int .i64 ((rd_T30 l1 x5_1).f1), .int .i64 ((rd_T30 l1 x5_1).f2), .int .i64 ((rd_T30 l1 x5_1).f3), .int .i64 ((rd_T30 l1 x5_1).f4), .int .i64 ((rd_T30 l1 x5_1).f5), .int .i64 ((rd_T30 l1 x5_1).f6), .int .i64 ((rd_T30 l1 x5_1).f7), .int .i64 ((rd_T30 l1 x5_1).f8), .bool ((rd_T30 l1 x5_1).f9), .int .i64 ((rd_T30 l1 x5_1).f10)]] (by rfl) rfl rfl (MA) ?_
    with_reducible refine (laws_eqTask.calls ((rd_T30 l0 x5_1).f0) ((rd_T30 l0 x5_1).f1) ((rd_T30 l0 x5_1).f2) ((rd_T30 l0 x5_1).f3) ((rd_T30 l0 x5_1).f4) ((rd_T30 l0 x5_1).f5) ((rd_T30 l0 x5_1).f6) ((rd_T30 l0 x5_1).f7) ((rd_T30 l0 x5_1).f8) ((rd_T30 l0 x5_1).f9) ((rd_T30 l0 x5_1).f10) ((rd_T30 l1 x5_1).f0) ((rd_T30 l1 x5_1).f1) ((rd_T30 l1 x5_1).f2) ((rd_T30 l1 x5_1).f3) ((rd_T30 l1 x5_1).f4) ((rd_T30 l1 x5_1).f5) ((rd_T30 l1 x5_1).f6) ((rd_T30 l1 x5_1).f7) ((rd_T30 l1 x5_1).f8) ((rd_T30 l1 x5_1).f9) ((rd_T30 l1 x5_1).f10) false _ A7.out).mono ?_
    rintro e w12 ⟨rfl, hb⟩; refine ⟨_, rfl, ?_⟩; have n0_ := Aside0.mk (below_step (BL) hb); clear HB; have HB := n0_; clear n0_
    (try clear hb)
    (try clear hb2)
    (try clear hk)
    (try clear hi)
    refine hK.out _ _ ⟨((HB.out.cell (World.block_lt_of_cell? w _ hw510_0)).trans hw510_0), ((HB.out.cell (World.block_lt_of_cell? w _ hw510_1)).trans hw510_1), ((HB.out.cell (World.block_lt_of_cell? w _ hw510_2)).trans hw510_2), ((HB.out.cell (World.block_lt_of_cell? w _ hw510_3)).trans hw510_3), ((HB.out.cell (World.block_lt_of_cell? w _ hw510_4)).trans hw510_4), ((HB.out.cell (World.block_lt_of_cell? w _ hw510_5)).trans hw510_5), ((HB.out.cell (World.block_lt_of_cell? w _ hw510_6)).trans hw510_6), ((HB.out.cell (World.block_lt_of_cell? w _ hw510_7)).trans hw510_7), ((HB.out.cell (World.block_lt_of_cell? w _ hw510_8)).trans hw510_8), ((HB.out.cell (World.block_lt_of_cell? w _ hw510_9)).trans hw510_9), ((HB.out.cell (World.block_lt_of_cell? w _ hw510_10)).trans hw510_10), ((HB.out.cell (World.block_lt_of_cell? w _ hw511_0)).trans hw511_0), ((HB.out.cell (World.block_lt_of_cell? w _ hw511_1)).trans hw511_1), ((HB.out.cell (World.block_lt_of_cell? w _ hw511_2)).trans hw511_2), ((HB.out.cell (World.block_lt_of_cell? w _ hw511_3)).trans hw511_3), ((HB.out.cell (World.block_lt_of_cell? w _ hw511_4)).trans hw511_4), ((HB.out.cell (World.block_lt_of_cell? w _ hw511_5)).trans hw511_5), ((HB.out.cell (World.block_lt_of_cell? w _ hw511_6)).trans hw511_6), ((HB.out.cell (World.block_lt_of_cell? w _ hw511_7)).trans hw511_7), ((HB.out.cell (World.block_lt_of_cell? w _ hw511_8)).trans hw511_8), ((HB.out.cell (World.block_lt_of_cell? w _ hw511_9)).trans hw511_9), ((HB.out.cell (World.block_lt_of_cell? w _ hw511_10)).trans hw511_10)⟩ (fun hHeld => ?_); clear hK K; refine norm_ (a' := ?_) ?_ ?_; rotate_left
    ·
     show Act.put _ (some 25) _ = _; simp only [Act.put, zA, zB, zC, i64_w, i32_w]; rfl
    refine pV 9 26 (OB 10 1023) ?_; refine done_ (done_of HT_.out (by kernel_rfl)) ?_
    try go_wp2
    go_ret
    exact ⟨EE, BL⟩
   subst c8
   have H1 : (laws_eqTaskS.l0 k1 l0 l1 (wrap64 (x5_1 + 1))) = some r := by rw [if_pos rfl] at H; exact H
   clear H; have H := H1; clear H1; have H' := Aside0.mk H; clear H
   try go_wp2
   have n0_ := Aside0.mk (below_drew1 HB.out); clear HB; have HB := n0_; clear n0_; have p510 : 0 ≤ (x5_1 : Int) := of_decide_eq_true AS; have q510 : x5_1 < (l0.length : Int) := of_decide_eq_true AS; obtain ⟨ad510, e510, hx510_0, hx510_1, hx510_2, hx510_3, hx510_4, hx510_5, hx510_6, hx510_7, hx510_8, hx510_9, hx510_10⟩ := at_T30 HR0.out x5_1 p510 q510; have hw510_10 := hx510_10; have hw510_9 := hx510_9; have hw510_8 := hx510_8; have hw510_7 := hx510_7; have hw510_6 := hx510_6; have hw510_5 := hx510_5; have hw510_4 := hx510_4; have hw510_3 := hx510_3; have hw510_2 := hx510_2; have hw510_1 := hx510_1; have hw510_0 := hx510_0; cases e510; replace hx510_0 := (HB.out.cell (World.block_lt_of_cell? w _ hx510_0)).trans hx510_0; replace hx510_1 := (HB.out.cell (World.block_lt_of_cell? w _ hx510_1)).trans hx510_1; replace hx510_2 := (HB.out.cell (World.block_lt_of_cell? w _ hx510_2)).trans hx510_2; replace hx510_3 := (HB.out.cell (World.block_lt_of_cell? w _ hx510_3)).trans hx510_3; replace hx510_4 := (HB.out.cell (World.block_lt_of_cell? w _ hx510_4)).trans hx510_4; replace hx510_5 := (HB.out.cell (World.block_lt_of_cell? w _ hx510_5)).trans hx510_5; replace hx510_6 := (HB.out.cell (World.block_lt_of_cell? w _ hx510_6)).trans hx510_6; replace hx510_7 := (HB.out.cell (World.block_lt_of_cell? w _ hx510_7)).trans hx510_7; replace hx510_8 := (HB.out.cell (World.block_lt_of_cell? w _ hx510_8)).trans hx510_8; replace hx510_9 := (HB.out.cell (World.block_lt_of_cell? w _ hx510_9)).trans hx510_9; replace hx510_10 := (HB.out.cell (World.block_lt_of_cell? w _ hx510_10)).trans hx510_10; replace p510 := eq_true p510; replace q510 := eq_true q510; have p511 : 0 ≤ (x5_1 : Int) := of_decide_eq_true AS; have q511 : x5_1 < (l1.length : Int) := of_decide_eq_true AS; obtain ⟨ad511, e511, hx511_0, hx511_1, hx511_2, hx511_3, hx511_4, hx511_5, hx511_6, hx511_7, hx511_8, hx511_9, hx511_10⟩ := at_T30 HR1.out x5_1 p511 q511; have hw511_10 := hx511_10; have hw511_9 := hx511_9; have hw511_8 := hx511_8; have hw511_7 := hx511_7; have hw511_6 := hx511_6; have hw511_5 := hx511_5; have hw511_4 := hx511_4; have hw511_3 := hx511_3; have hw511_2 := hx511_2; have hw511_1 := hx511_1; have hw511_0 := hx511_0; cases e511; replace hx511_0 := (HB.out.cell (World.block_lt_of_cell? w _ hx511_0)).trans hx511_0; replace hx511_1 := (HB.out.cell (World.block_lt_of_cell? w _ hx511_1)).trans hx511_1; replace hx511_2 := (HB.out.cell (World.block_lt_of_cell? w _ hx511_2)).trans hx511_2; replace hx511_3 := (HB.out.cell (World.block_lt_of_cell? w _ hx511_3)).trans hx511_3; replace hx511_4 := (HB.out.cell (World.block_lt_of_cell? w _ hx511_4)).trans hx511_4; replace hx511_5 := (HB.out.cell (World.block_lt_of_cell? w _ hx511_5)).trans hx511_5; replace hx511_6 := (HB.out.cell (World.block_lt_of_cell? w _ hx511_6)).trans hx511_6; replace hx511_7 := (HB.out.cell (World.block_lt_of_cell? w _ hx511_7)).trans hx511_7; replace hx511_8 := (HB.out.cell (World.block_lt_of_cell? w _ hx511_8)).trans hx511_8; replace hx511_9 := (HB.out.cell (World.block_lt_of_cell? w _ hx511_9)).trans hx511_9; replace hx511_10 := (HB.out.cell (World.block_lt_of_cell? w _ hx511_10)).trans hx511_10; replace p511 := eq_true p511; replace q511 := eq_true q511; refine start_ (n := 10) (S := fun w' => w'.cell? (ad510.add ((x5_1).toNat * 11)) = some (.int .i64 ((rd_T30 l0 x5_1).f0)) ∧ w'.cell? ⟨(ad510.add ((x5_1).toNat * 11)).block, (ad510.add ((x5_1).toNat * 11)).off + 1, none⟩ = some (.int .i64 ((rd_T30 l0 x5_1).f1)) ∧ w'.cell? ⟨(ad510.add ((x5_1).toNat * 11)).block, (ad510.add ((x5_1).toNat * 11)).off + 2, none⟩ = some (.int .i64 ((rd_T30 l0 x5_1).f2)) ∧ w'.cell? ⟨(ad510.add ((x5_1).toNat * 11)).block, (ad510.add ((x5_1).toNat * 11)).off + 3, none⟩ = some (.int .i64 ((rd_T30 l0 x5_1).f3)) ∧ w'.cell? ⟨(ad510.add ((x5_1).toNat * 11)).block, (ad510.add ((x5_1).toNat * 11)).off + 4, none⟩ = some (.int .i64 ((rd_T30 l0 x5_1).f4)) ∧ w'.cell? ⟨(ad510.add ((x5_1).toNat * 11)).block, (ad510.add ((x5_1).toNat * 11)).off + 5, none⟩ = some (.int .i64 ((rd_T30 l0 x5_1).f5)) ∧ w'.cell? ⟨(ad510.add ((x5_1).toNat * 11)).block, (ad510.add ((x5_1).toNat * 11)).off + 6, none⟩ = some (.int .i64 ((rd_T30 l0 x5_1).f6)) ∧ w'.cell? ⟨(ad510.add ((x5_1).toNat * 11)).block, (ad510.add ((x5_1).toNat * 11)).off + 7, none⟩ = some (.int .i64 ((rd_T30 l0 x5_1).f7)) ∧ w'.cell? ⟨(ad510.add ((x5_1).toNat * 11)).block, (ad510.add ((x5_1).toNat * 11)).off + 8, none⟩ = some (.int .i64 ((rd_T30 l0 x5_1).f8)) ∧ w'.cell? ⟨(ad510.add ((x5_1).toNat * 11)).block, (ad510.add ((x5_1).toNat * 11)).off + 9, none⟩ = some (.bool ((rd_T30 l0 x5_1).f9)) ∧ w'.cell? ⟨(ad510.add ((x5_1).toNat * 11)).block, (ad510.add ((x5_1).toNat * 11)).off + 10, none⟩ = some (.int .i64 ((rd_T30 l0 x5_1).f10)) ∧ w'.cell? (ad511.add ((x5_1).toNat * 11)) = some (.int .i64 ((rd_T30 l1 x5_1).f0)) ∧ w'.cell? ⟨(ad511.add ((x5_1).toNat * 11)).block, (ad511.add ((x5_1).toNat * 11)).off + 1, none⟩ = some (.int .i64 ((rd_T30 l1 x5_1).f1)) ∧ w'.cell? ⟨(ad511.add ((x5_1).toNat * 11)).block, (ad511.add ((x5_1).toNat * 11)).off + 2, none⟩ = some (.int .i64 ((rd_T30 l1 x5_1).f2)) ∧ w'.cell? ⟨(ad511.add ((x5_1).toNat * 11)).block, (ad511.add ((x5_1).toNat * 11)).off + 3, none⟩ = some (.int .i64 ((rd_T30 l1 x5_1).f3)) ∧ w'.cell? ⟨(ad511.add ((x5_1).toNat * 11)).block, (ad511.add ((x5_1).toNat * 11)).off + 4, none⟩ = some (.int .i64 ((rd_T30 l1 x5_1).f4)) ∧ w'.cell? ⟨(ad511.add ((x5_1).toNat * 11)).block, (ad511.add ((x5_1).toNat * 11)).off + 5, none⟩ = some (.int .i64 ((rd_T30 l1 x5_1).f5)) ∧ w'.cell? ⟨(ad511.add ((x5_1).toNat * 11)).block, (ad511.add ((x5_1).toNat * 11)).off + 6, none⟩ = some (.int .i64 ((rd_T30 l1 x5_1).f6)) ∧ w'.cell? ⟨(ad511.add ((x5_1).toNat * 11)).block, (ad511.add ((x5_1).toNat * 11)).off + 7, none⟩ = some (.int .i64 ((rd_T30 l1 x5_1).f7)) ∧ w'.cell? ⟨(ad511.add ((x5_1).toNat * 11)).block, (ad511.add ((x5_1).toNat * 11)).off + 8, none⟩ = some (.int .i64 ((rd_T30 l1 x5_1).f8)) ∧ w'.cell? ⟨(ad511.add ((x5_1).toNat * 11)).block, (ad511.add ((x5_1).toNat * 11)).off + 9, none⟩ = some (.bool ((rd_T30 l1 x5_1).f9)) ∧ w'.cell? ⟨(ad511.add ((x5_1).toNat * 11)).block, (ad511.add ((x5_1).toNat * 11)).off + 10, none⟩ = some (.int .i64 ((rd_T30 l1 x5_1).f10))) (ds := []) #[false, false, false, false, false, false, false, false, false, false] (by kernel_rfl) rfl rfl ⟨((HB.out.cell (World.block_lt_of_cell? w _ hw510_0)).trans hw510_0), ((HB.out.cell (World.block_lt_of_cell? w _ hw510_1)).trans hw510_1), ((HB.out.cell (World.block_lt_of_cell? w _ hw510_2)).trans hw510_2), ((HB.out.cell (World.block_lt_of_cell? w _ hw510_3)).trans hw510_3), ((HB.out.cell (World.block_lt_of_cell? w _ hw510_4)).trans hw510_4), ((HB.out.cell (World.block_lt_of_cell? w _ hw510_5)).trans hw510_5), ((HB.out.cell (World.block_lt_of_cell? w _ hw510_6)).trans hw510_6), ((HB.out.cell (World.block_lt_of_cell? w _ hw510_7)).trans hw510_7), ((HB.out.cell (World.block_lt_of_cell? w _ hw510_8)).trans hw510_8), ((HB.out.cell (World.block_lt_of_cell? w _ hw510_9)).trans hw510_9), ((HB.out.cell (World.block_lt_of_cell? w _ hw510_10)).trans hw510_10), ((HB.out.cell (World.block_lt_of_cell? w _ hw511_0)).trans hw511_0), ((HB.out.cell (World.block_lt_of_cell? w _ hw511_1)).trans hw511_1), ((HB.out.cell (World.block_lt_of_cell? w _ hw511_2)).trans hw511_2), ((HB.out.cell (World.block_lt_of_cell? w _ hw511_3)).trans hw511_3), ((HB.out.cell (World.block_lt_of_cell? w _ hw511_4)).trans hw511_4), ((HB.out.cell (World.block_lt_of_cell? w _ hw511_5)).trans hw511_5), ((HB.out.cell (World.block_lt_of_cell? w _ hw511_6)).trans hw511_6), ((HB.out.cell (World.block_lt_of_cell? w _ hw511_7)).trans hw511_7), ((HB.out.cell (World.block_lt_of_cell? w _ hw511_8)).trans hw511_8), ((HB.out.cell (World.block_lt_of_cell? w _ hw511_9)).trans hw511_9), ((HB.out.cell (World.block_lt_of_cell? w _ hw511_10)).trans hw511_10)⟩ (fun hHeld => ?_); refine with_tabW laws_eqTaskS.tab6 laws_eqTaskS.bits6 (fun HT_ HW_ => ?_)
   generalize wr.drew = w9 at HB hx510_0 hx510_1 hx510_10 hx510_2 hx510_3 hx510_4 hx510_5 hx510_6 hx510_7 hx510_8 hx510_9 hx511_0 hx511_1 hx511_10 hx511_2 hx511_3 hx511_4 hx511_5 hx511_6 hx511_7 hx511_8 hx511_9 hHeld ⊢; refine pV 0 17 (OB 10 1) ?_; refine pV 1 18 (OB 10 3) ?_; refine pV 2 19 (OB 10 7) ?_; refine pV 4 21 (OB 10 23) ?_; refine pV 5 22 (OB 10 55) ?_; refine pV 6 23 (OB 10 119) ?_; refine pT 3 20 (OB 10 127) ?_; refine pT 7 24 (OB 10 255) ?_; refine one_ (i := 8) (N := some 25) (OB 10 511) rfl rfl (one_of HT_.out (by kernel_rfl)) (by decide) (fun K hK => ?_); refine goes_ Try.func74 (by kernel_rfl) rfl #[.agg #[.int .i64 ((rd_T30 l0 x5_1).f0), .int .i64 ((rd_T30 l0 x5_1).f1), .int .i64 ((rd_T30 l0 x5_1).f2), .int .i64 ((rd_T30 l0 x5_1).f3), .int .i64 ((rd_T30 l0 x5_1).f4), .int .i64 ((rd_T30 l0 x5_1).f5), .int .i64 ((rd_T30 l0 x5_1).f6), .int .i64 ((rd_T30 l0 x5_1).f7), .int .i64 ((rd_T30 l0 x5_1).f8), .bool ((rd_T30 l0 x5_1).f9), .int .i64 ((rd_T30 l0 x5_1).f10)], .agg #[.int .i64 ((rd_T30 l1 x5_1).f0), .int .i64 ((rd_T30 l1 x5_1).f1), .int .i64 ((rd_T30 l1 x5_1).f2), .int .i64 ((rd_T30 l1 x5_1).f3), .int .i64 ((rd_T30 l1 x5_1).f4), .int .i64 ((rd_T30 l1 x5_1).f5), .int .i64 ((rd_T30 l1 x5_1).f6), .int .i64 ((rd_T30 l1 x5_1).f7), .int .i64 ((rd_T30 l1 x5_1).f8), .bool ((rd_T30 l1 x5_1).f9), .int .i64 ((rd_T30 l1 x5_1).f10)]] (by rfl) rfl rfl (MA) ?_
   with_reducible refine (laws_eqTask.calls ((rd_T30 l0 x5_1).f0) ((rd_T30 l0 x5_1).f1) ((rd_T30 l0 x5_1).f2) ((rd_T30 l0 x5_1).f3) ((rd_T30 l0 x5_1).f4) ((rd_T30 l0 x5_1).f5) ((rd_T30 l0 x5_1).f6) ((rd_T30 l0 x5_1).f7) ((rd_T30 l0 x5_1).f8) ((rd_T30 l0 x5_1).f9) ((rd_T30 l0 x5_1).f10) ((rd_T30 l1 x5_1).f0) ((rd_T30 l1 x5_1).f1) ((rd_T30 l1 x5_1).f2) ((rd_T30 l1 x5_1).f3) ((rd_T30 l1 x5_1).f4) ((rd_T30 l1 x5_1).f5) ((rd_T30 l1 x5_1).f6) ((rd_T30 l1 x5_1).f7) ((rd_T30 l1 x5_1).f8) ((rd_T30 l1 x5_1).f9) ((rd_T30 l1 x5_1).f10) true _ A7.out).mono ?_
   rintro e w10 ⟨rfl, hb⟩; refine ⟨_, rfl, ?_⟩; have n0_ := Aside0.mk (below_step (BL) hb); clear HB; have HB := n0_; clear n0_
   (try clear hb)
   (try clear hb2)
   (try clear hk)
   (try clear hi)
   refine hK.out _ _ ⟨((HB.out.cell (World.block_lt_of_cell? w _ hw510_0)).trans hw510_0), ((HB.out.cell (World.block_lt_of_cell? w _ hw510_1)).trans hw510_1), ((HB.out.cell (World.block_lt_of_cell? w _ hw510_2)).trans hw510_2), ((HB.out.cell (World.block_lt_of_cell? w _ hw510_3)).trans hw510_3), ((HB.out.cell (World.block_lt_of_cell? w _ hw510_4)).trans hw510_4), ((HB.out.cell (World.block_lt_of_cell? w _ hw510_5)).trans hw510_5), ((HB.out.cell (World.block_lt_of_cell? w _ hw510_6)).trans hw510_6), ((HB.out.cell (World.block_lt_of_cell? w _ hw510_7)).trans hw510_7), ((HB.out.cell (World.block_lt_of_cell? w _ hw510_8)).trans hw510_8), ((HB.out.cell (World.block_lt_of_cell? w _ hw510_9)).trans hw510_9), ((HB.out.cell (World.block_lt_of_cell? w _ hw510_10)).trans hw510_10), ((HB.out.cell (World.block_lt_of_cell? w _ hw511_0)).trans hw511_0), ((HB.out.cell (World.block_lt_of_cell? w _ hw511_1)).trans hw511_1), ((HB.out.cell (World.block_lt_of_cell? w _ hw511_2)).trans hw511_2), ((HB.out.cell (World.block_lt_of_cell? w _ hw511_3)).trans hw511_3), ((HB.out.cell (World.block_lt_of_cell? w _ hw511_4)).trans hw511_4), ((HB.out.cell (World.block_lt_of_cell? w _ hw511_5)).trans hw511_5), ((HB.out.cell (World.block_lt_of_cell? w _ hw511_6)).trans hw511_6), ((HB.out.cell (World.block_lt_of_cell? w _ hw511_7)).trans hw511_7), ((HB.out.cell (World.block_lt_of_cell? w _ hw511_8)).trans hw511_8), ((HB.out.cell (World.block_lt_of_cell? w _ hw511_9)).trans hw511_9), ((HB.out.cell (World.block_lt_of_cell? w _ hw511_10)).trans hw511_10)⟩ (fun hHeld => ?_); clear hK K; refine norm_ (a' := ?_) ?_ ?_; rotate_left
   ·
    show Act.put _ (some 25) _ = _; simp only [Act.put, zA, zB, zC, i64_w, i32_w]; rfl
   refine pV 9 26 (OB 10 1023) ?_; refine done_ (done_of HT_.out (by kernel_rfl)) ?_
   try go_wp2
   go_roundg k1
   case measure => have := HK1.out; omega
   case rel => exact ⟨(wrap64 (x5_1 + 1)), SD, H', ⟨by have := HK1.out; omega⟩, ⟨BL⟩⟩

end Go.Proofs.Ytfkhncoiifojnaa.Qrt
