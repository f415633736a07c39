/- The walks of the laws of package num: edges, turns, whole numbers. -/
import Derived.Test.YtffekieoefnidaaNumV
namespace Go.Proofs.Ytffekieoefnidaa
open Go.RowKit

theorem numWhole_walk (a b : Int) (_wa : (Lit.int .i64 a).wf = true) (_wb : (Lit.int .i64 b).wf = true) (w : World) :
    Calls Try.prog 6 #[.int .i64 a, .int .i64 b] w fun e w' => e = .returned (.bool true) ∧ Ext w w' := by
  clear _wa _wb
  by_cases a0 : a < -2251799813685248
  · go_enter Try.func6, Try.ntmps6
    go_wp2_with (first | (go_at_call 14; refine (of_any _ _).mono ?_; rintro e w' ⟨rfl, rfl⟩) | (go_at_call 12; refine (right_any _ _).mono ?_; rintro e w' ⟨rfl, rfl⟩) | (go_at_call 18; refine (neg_any' _ _).mono ?_; rintro e w' ⟨rfl, rfl⟩) | (go_at_call 16; refine (add_any _ _ _).mono ?_; rintro e w1 ⟨rfl, hx1⟩) | (go_at_call 20; refine (compare_any _ _ _).mono ?_; rintro e w2 ⟨rfl, hx2⟩) | (go_at_call 22; refine (covers_any _ _ _).mono ?_; rintro e w' ⟨rfl, rfl⟩) | (go_at_call 10; refine (check_any _ _).mono ?_; rintro e w' ⟨rfl, rfl⟩) | (go_at_call 25; refine (key_any _ _).mono ?_; rintro e w3 ⟨rfl, hx3⟩) | (go_at_call 24; refine (live_any _).mono ?_; rintro e w4 ⟨rfl, hx4⟩))
    go_ret
    exact ⟨rfl, by repeat (first | assumption | refine Ext.trans ?_ (by assumption))⟩
  · by_cases a1 : 2251799813685248 < a
    · go_enter Try.func6, Try.ntmps6
      go_wp2_with (first | (go_at_call 14; refine (of_any _ _).mono ?_; rintro e w' ⟨rfl, rfl⟩) | (go_at_call 12; refine (right_any _ _).mono ?_; rintro e w' ⟨rfl, rfl⟩) | (go_at_call 18; refine (neg_any' _ _).mono ?_; rintro e w' ⟨rfl, rfl⟩) | (go_at_call 16; refine (add_any _ _ _).mono ?_; rintro e w1 ⟨rfl, hx1⟩) | (go_at_call 20; refine (compare_any _ _ _).mono ?_; rintro e w2 ⟨rfl, hx2⟩) | (go_at_call 22; refine (covers_any _ _ _).mono ?_; rintro e w' ⟨rfl, rfl⟩) | (go_at_call 10; refine (check_any _ _).mono ?_; rintro e w' ⟨rfl, rfl⟩) | (go_at_call 25; refine (key_any _ _).mono ?_; rintro e w3 ⟨rfl, hx3⟩) | (go_at_call 24; refine (live_any _).mono ?_; rintro e w4 ⟨rfl, hx4⟩))
      go_ret
      exact ⟨rfl, by repeat (first | assumption | refine Ext.trans ?_ (by assumption))⟩
    · by_cases b0 : b < -2251799813685248
      · go_enter Try.func6, Try.ntmps6
        go_wp2_with (first | (go_at_call 14; refine (of_any _ _).mono ?_; rintro e w' ⟨rfl, rfl⟩) | (go_at_call 12; refine (right_any _ _).mono ?_; rintro e w' ⟨rfl, rfl⟩) | (go_at_call 18; refine (neg_any' _ _).mono ?_; rintro e w' ⟨rfl, rfl⟩) | (go_at_call 16; refine (add_any _ _ _).mono ?_; rintro e w1 ⟨rfl, hx1⟩) | (go_at_call 20; refine (compare_any _ _ _).mono ?_; rintro e w2 ⟨rfl, hx2⟩) | (go_at_call 22; refine (covers_any _ _ _).mono ?_; rintro e w' ⟨rfl, rfl⟩) | (go_at_call 10; refine (check_any _ _).mono ?_; rintro e w' ⟨rfl, rfl⟩) | (go_at_call 25; refine (key_any _ _).mono ?_; rintro e w3 ⟨rfl, hx3⟩) | (go_at_call 24; refine (live_any _).mono ?_; rintro e w4 ⟨rfl, hx4⟩))
        go_ret
        exact ⟨rfl, by repeat (first | assumption | refine Ext.trans ?_ (by assumption))⟩
      · by_cases b1 : 2251799813685248 < b
        · go_enter Try.func6, Try.ntmps6
          go_wp2_with (first | (go_at_call 14; refine (of_any _ _).mono ?_; rintro e w' ⟨rfl, rfl⟩) | (go_at_call 12; refine (right_any _ _).mono ?_; rintro e w' ⟨rfl, rfl⟩) | (go_at_call 18; refine (neg_any' _ _).mono ?_; rintro e w' ⟨rfl, rfl⟩) | (go_at_call 16; refine (add_any _ _ _).mono ?_; rintro e w1 ⟨rfl, hx1⟩) | (go_at_call 20; refine (compare_any _ _ _).mono ?_; rintro e w2 ⟨rfl, hx2⟩) | (go_at_call 22; refine (covers_any _ _ _).mono ?_; rintro e w' ⟨rfl, rfl⟩) | (go_at_call 10; refine (check_any _ _).mono ?_; rintro e w' ⟨rfl, rfl⟩) | (go_at_call 25; refine (key_any _ _).mono ?_; rintro e w3 ⟨rfl, hx3⟩) | (go_at_call 24; refine (live_any _).mono ?_; rintro e w4 ⟨rfl, hx4⟩))
          go_ret
          exact ⟨rfl, by repeat (first | assumption | refine Ext.trans ?_ (by assumption))⟩
        · have s1 : (addV (ofV a) (ofV b) == ofV (a + b)) = true := by
            rw [ofV_eq, ofV_eq, ofV_eq, whole_add (by omega) (by omega) (by omega) (by omega)]; simp
          obtain ⟨s2, s3⟩ := whole_order (a := a) (b := b) (by omega) (by omega) (by omega) (by omega)
          rw [← ofV_eq, ← ofV_eq] at s2 s3
          have s4 : a ≠ 0 → (negV (ofV a) == ofV (-a)) = true := by
            intro h
            rw [ofV_eq, ofV_eq, negV_fine (ofRaw_fine a), whole_neg h]; simp
          by_cases l : a < b
          · rw [cmpI_lt l] at s2
            have s3' : coversV (ofV a) (ofV b) = false := by rw [s3]; simp; omega
            have hd : decide (b ≤ a) = false := by simp; omega
            clear s3
            by_cases z : a = 0
            · replace z : (a == 0) = true := by simpa using z
              clear s4
              go_enter Try.func6, Try.ntmps6
              go_wp2_with (first | (go_at_call 14; refine (of_any _ _).mono ?_; rintro e w' ⟨rfl, rfl⟩) | (go_at_call 12; refine (right_any _ _).mono ?_; rintro e w' ⟨rfl, rfl⟩) | (go_at_call 18; refine (neg_any' _ _).mono ?_; rintro e w' ⟨rfl, rfl⟩) | (go_at_call 16; refine (add_any _ _ _).mono ?_; rintro e w1 ⟨rfl, hx1⟩) | (go_at_call 20; refine (compare_any _ _ _).mono ?_; rintro e w2 ⟨rfl, hx2⟩) | (go_at_call 22; refine (covers_any _ _ _).mono ?_; rintro e w' ⟨rfl, rfl⟩) | (go_at_call 10; refine (check_any _ _).mono ?_; rintro e w' ⟨rfl, rfl⟩) | (go_at_call 25; refine (key_any _ _).mono ?_; rintro e w3 ⟨rfl, hx3⟩) | (go_at_call 24; refine (live_any _).mono ?_; rintro e w4 ⟨rfl, hx4⟩))
              go_ret
              exact ⟨rfl, by repeat (first | assumption | refine Ext.trans ?_ (by assumption))⟩
            · have s5 := s4 z
              have z' : (a == 0) = false := by simpa using z
              clear s4 z
              go_enter Try.func6, Try.ntmps6
              go_wp2_with (first | (go_at_call 14; refine (of_any _ _).mono ?_; rintro e w' ⟨rfl, rfl⟩) | (go_at_call 12; refine (right_any _ _).mono ?_; rintro e w' ⟨rfl, rfl⟩) | (go_at_call 18; refine (neg_any' _ _).mono ?_; rintro e w' ⟨rfl, rfl⟩) | (go_at_call 16; refine (add_any _ _ _).mono ?_; rintro e w1 ⟨rfl, hx1⟩) | (go_at_call 20; refine (compare_any _ _ _).mono ?_; rintro e w2 ⟨rfl, hx2⟩) | (go_at_call 22; refine (covers_any _ _ _).mono ?_; rintro e w' ⟨rfl, rfl⟩) | (go_at_call 10; refine (check_any _ _).mono ?_; rintro e w' ⟨rfl, rfl⟩) | (go_at_call 25; refine (key_any _ _).mono ?_; rintro e w3 ⟨rfl, hx3⟩) | (go_at_call 24; refine (live_any _).mono ?_; rintro e w4 ⟨rfl, hx4⟩))
              go_ret
              exact ⟨rfl, by repeat (first | assumption | refine Ext.trans ?_ (by assumption))⟩
          · by_cases l2 : b < a
            · rw [cmpI_gt l2] at s2
              have s3' : coversV (ofV a) (ofV b) = true := by rw [s3]; simp; omega
              have hd : decide (b ≤ a) = true := by simp; omega
              clear s3
              by_cases z : a = 0
              · replace z : (a == 0) = true := by simpa using z
                clear s4
                go_enter Try.func6, Try.ntmps6
                go_wp2_with (first | (go_at_call 14; refine (of_any _ _).mono ?_; rintro e w' ⟨rfl, rfl⟩) | (go_at_call 12; refine (right_any _ _).mono ?_; rintro e w' ⟨rfl, rfl⟩) | (go_at_call 18; refine (neg_any' _ _).mono ?_; rintro e w' ⟨rfl, rfl⟩) | (go_at_call 16; refine (add_any _ _ _).mono ?_; rintro e w1 ⟨rfl, hx1⟩) | (go_at_call 20; refine (compare_any _ _ _).mono ?_; rintro e w2 ⟨rfl, hx2⟩) | (go_at_call 22; refine (covers_any _ _ _).mono ?_; rintro e w' ⟨rfl, rfl⟩) | (go_at_call 10; refine (check_any _ _).mono ?_; rintro e w' ⟨rfl, rfl⟩) | (go_at_call 25; refine (key_any _ _).mono ?_; rintro e w3 ⟨rfl, hx3⟩) | (go_at_call 24; refine (live_any _).mono ?_; rintro e w4 ⟨rfl, hx4⟩))
                go_ret
                exact ⟨rfl, by repeat (first | assumption | refine Ext.trans ?_ (by assumption))⟩
              · have s5 := s4 z
                have z' : (a == 0) = false := by simpa using z
                clear s4 z
                go_enter Try.func6, Try.ntmps6
                go_wp2_with (first | (go_at_call 14; refine (of_any _ _).mono ?_; rintro e w' ⟨rfl, rfl⟩) | (go_at_call 12; refine (right_any _ _).mono ?_; rintro e w' ⟨rfl, rfl⟩) | (go_at_call 18; refine (neg_any' _ _).mono ?_; rintro e w' ⟨rfl, rfl⟩) | (go_at_call 16; refine (add_any _ _ _).mono ?_; rintro e w1 ⟨rfl, hx1⟩) | (go_at_call 20; refine (compare_any _ _ _).mono ?_; rintro e w2 ⟨rfl, hx2⟩) | (go_at_call 22; refine (covers_any _ _ _).mono ?_; rintro e w' ⟨rfl, rfl⟩) | (go_at_call 10; refine (check_any _ _).mono ?_; rintro e w' ⟨rfl, rfl⟩) | (go_at_call 25; refine (key_any _ _).mono ?_; rintro e w3 ⟨rfl, hx3⟩) | (go_at_call 24; refine (live_any _).mono ?_; rintro e w4 ⟨rfl, hx4⟩))
                go_ret
                exact ⟨rfl, by repeat (first | assumption | refine Ext.trans ?_ (by assumption))⟩
            · have e : b = a := by omega
              subst e
              rw [cmpI_eq rfl] at s2
              have s3' : coversV (ofV b) (ofV b) = true := by rw [s3]; simp
              clear s3
              by_cases z : b = 0
              · replace z : (b == 0) = true := by simpa using z
                clear s4
                go_enter Try.func6, Try.ntmps6
                go_wp2_with (first | (go_at_call 14; refine (of_any _ _).mono ?_; rintro e w' ⟨rfl, rfl⟩) | (go_at_call 12; refine (right_any _ _).mono ?_; rintro e w' ⟨rfl, rfl⟩) | (go_at_call 18; refine (neg_any' _ _).mono ?_; rintro e w' ⟨rfl, rfl⟩) | (go_at_call 16; refine (add_any _ _ _).mono ?_; rintro e w1 ⟨rfl, hx1⟩) | (go_at_call 20; refine (compare_any _ _ _).mono ?_; rintro e w2 ⟨rfl, hx2⟩) | (go_at_call 22; refine (covers_any _ _ _).mono ?_; rintro e w' ⟨rfl, rfl⟩) | (go_at_call 10; refine (check_any _ _).mono ?_; rintro e w' ⟨rfl, rfl⟩) | (go_at_call 25; refine (key_any _ _).mono ?_; rintro e w3 ⟨rfl, hx3⟩) | (go_at_call 24; refine (live_any _).mono ?_; rintro e w4 ⟨rfl, hx4⟩))
                go_ret
                exact ⟨rfl, by repeat (first | assumption | refine Ext.trans ?_ (by assumption))⟩
              · have s5 := s4 z
                have z' : (b == 0) = false := by simpa using z
                clear s4 z
                go_enter Try.func6, Try.ntmps6
                go_wp2_with (first | (go_at_call 14; refine (of_any _ _).mono ?_; rintro e w' ⟨rfl, rfl⟩) | (go_at_call 12; refine (right_any _ _).mono ?_; rintro e w' ⟨rfl, rfl⟩) | (go_at_call 18; refine (neg_any' _ _).mono ?_; rintro e w' ⟨rfl, rfl⟩) | (go_at_call 16; refine (add_any _ _ _).mono ?_; rintro e w1 ⟨rfl, hx1⟩) | (go_at_call 20; refine (compare_any _ _ _).mono ?_; rintro e w2 ⟨rfl, hx2⟩) | (go_at_call 22; refine (covers_any _ _ _).mono ?_; rintro e w' ⟨rfl, rfl⟩) | (go_at_call 10; refine (check_any _ _).mono ?_; rintro e w' ⟨rfl, rfl⟩) | (go_at_call 25; refine (key_any _ _).mono ?_; rintro e w3 ⟨rfl, hx3⟩) | (go_at_call 24; refine (live_any _).mono ?_; rintro e w4 ⟨rfl, hx4⟩))
                go_ret
                exact ⟨rfl, by repeat (first | assumption | refine Ext.trans ?_ (by assumption))⟩

theorem infiR : R 9218868437227405312 = 9218868437227405312 := R_fine infi.fine
theorem negInf : negV 9218868437227405312 = 18442240474082181120 := by rw [negV_fine infi.fine]; rfl
theorem rk_le_quiet {a : Int} (h : In64 a) (c : R a = a) : rk a ≤ rk quiet := by
  rcases num_cases h c with f | q
  · rw [rk_quiet]; have := rk_fine f; omega
  · rw [q]; omega
theorem rk_ge_inf {a : Int} (h : In64 a) (c : R a = a) : rk 18442240474082181120 ≤ rk a := by
  rcases num_cases h c with f | q
  · obtain ⟨⟨h0, h1⟩, h2⟩ := f
    unfold rg at h2; unfold rk; rw [if_pos (by decide)]; split <;> omega
  · rw [q]; decide
theorem cmpI_le {a b : Int} (h : a ≤ b) : cmpI a b ≤ 0 := by
  rcases cmpI_cases a b with ⟨e, _⟩ | ⟨e, _⟩ | ⟨e, l⟩
  · rw [e]; decide
  · rw [e]; decide
  · omega
theorem minf : Inf? 18442240474082181120 := ⟨⟨by decide, by decide⟩, by decide⟩
theorem fin_of {a : Int} (h : Fine a) (n1 : a ≠ 9218868437227405312) (n2 : a ≠ 18442240474082181120) : Fin? a := by
  rcases h.cases with ⟨⟨h0, h1⟩, h2⟩ | f
  · unfold rg at h2; omega
  · exact f
theorem SI_inf : SI 9218868437227405312 = (V 9218868437227405312 : Int) := by
  rw [SI_eq infi.1]; rfl
theorem SI_minf : SI 18442240474082181120 = -(V 9218868437227405312 : Int) := by
  rw [SI_eq minf.1]; rfl
theorem SI_bd {a : Int} (h : Fin? a) : SI a < (V 9218868437227405312 : Int) ∧ -(V 9218868437227405312 : Int) < SI a := S_bound a.toNat (rung_fin h)

theorem numEdges_walk (a : Int) (wa : (Lit.int .u64 a).wf = true) (w : World) :
    Calls Try.prog 7 #[.int .u64 a] w fun e w' => e = .returned (.bool true) ∧ Ext w w' := by
  have ha := in64_of wa
  clear wa
  by_cases ca : R a = a
  · have z1 := checkV_zero ca
    have n1 : (addV a 9221120237041090561 != 9221120237041090561) = false := by
      rw [addV_quiet_right (b := 9221120237041090561) R_quiet]; decide
    have n2 : coversV 9221120237041090561 a = false := coversV_nan_left R_quiet
    have n3 : coversV a 9221120237041090561 = false := coversV_nan_right R_quiet
    have n4q : compareV a quiet ≤ 0 := by
      rw [compareV_eq ha quiet_in, ca, R_quiet]
      exact cmpI_le (rk_le_quiet ha ca)
    have n4 : compareV a 9221120237041090561 ≤ 0 := n4q
    clear n4q
    have n5 : compareV (negV 9218868437227405312) a ≤ 0 := by
      rw [negInf, compareV_eq minf.1 ha, ca, R_fine minf.fine]
      exact cmpI_le (rk_ge_inf ha ca)
    have n6 : (a == 9221120237041090561) = true ∨ (a == 9221120237041090561) = false ∧ (a == 9218868437227405312) = true ∨ (a == 9221120237041090561) = false ∧ (a == 9218868437227405312) = false ∧ (a == negV 9218868437227405312) = true ∨ ((a == 9221120237041090561) = false ∧ (a == 9218868437227405312) = false ∧ (a == negV 9218868437227405312) = false) ∧ (addV a 9218868437227405312 == 9218868437227405312) = true ∧ (addV a (negV 9218868437227405312) == negV 9218868437227405312) = true ∧ coversV 9218868437227405312 a = true ∧ coversV a (negV 9218868437227405312) = true ∧ (addV a (negV a) == 0) = true := by
      rw [negInf]
      by_cases q : a = 9221120237041090561
      · left; simpa using q
      · right
        have fa : Fine a := by
          rcases num_cases ha ca with f | e
          · exact f
          · exact absurd e q
        have q' : (a == 9221120237041090561) = false := by simpa using q
        by_cases i1 : a = 9218868437227405312
        · left; exact ⟨q', by simpa using i1⟩
        · right
          have i1' : (a == 9218868437227405312) = false := by simpa using i1
          by_cases i2 : a = 18442240474082181120
          · left; exact ⟨q', i1', by simpa using i2⟩
          · right
            have f := fin_of fa i1 i2
            have hb := SI_bd f
            have h1 := SI_inf
            have h2 := SI_minf
            unfold SI at hb h1 h2
            refine ⟨⟨q', i1', by simpa using i2⟩, ?_, ?_, ?_, ?_, ?_⟩
            · rw [addV_fin_inf f infi]; decide
            · rw [addV_fin_inf f minf]; decide
            · rw [coversV_fine infi.fine fa, h1]; simp; omega
            · rw [coversV_fine fa minf.fine, h2]; simp; omega
            · rw [negV_fine fa, addV_self f]; decide
    clear ha ca
    rcases n6 with e1 | ⟨e1, e2⟩ | ⟨e1, e2, e3⟩ | ⟨⟨e1, e2, e3⟩, m1, m2, m3, m4, m5⟩
    all_goals
      go_enter Try.func7, Try.ntmps7
      go_wp2_with (first | (go_at_call 14; refine (of_any _ _).mono ?_; rintro e w' ⟨rfl, rfl⟩) | (go_at_call 12; refine (right_any _ _).mono ?_; rintro e w' ⟨rfl, rfl⟩) | (go_at_call 18; refine (neg_any' _ _).mono ?_; rintro e w' ⟨rfl, rfl⟩) | (go_at_call 16; refine (add_any _ _ _).mono ?_; rintro e w1 ⟨rfl, hx1⟩) | (go_at_call 20; refine (compare_any _ _ _).mono ?_; rintro e w2 ⟨rfl, hx2⟩) | (go_at_call 22; refine (covers_any _ _ _).mono ?_; rintro e w' ⟨rfl, rfl⟩) | (go_at_call 10; refine (check_any _ _).mono ?_; rintro e w' ⟨rfl, rfl⟩) | (go_at_call 25; refine (key_any _ _).mono ?_; rintro e w3 ⟨rfl, hx3⟩) | (go_at_call 24; refine (live_any _).mono ?_; rintro e w4 ⟨rfl, hx4⟩))
      go_ret
      exact ⟨rfl, by repeat (first | assumption | refine Ext.trans ?_ (by assumption))⟩
  · have z : (checkV a != 0) = true := by rw [checkV_70 ca]; rfl
    go_enter Try.func7, Try.ntmps7
    go_wp2_with (first | (go_at_call 14; refine (of_any _ _).mono ?_; rintro e w' ⟨rfl, rfl⟩) | (go_at_call 12; refine (right_any _ _).mono ?_; rintro e w' ⟨rfl, rfl⟩) | (go_at_call 18; refine (neg_any' _ _).mono ?_; rintro e w' ⟨rfl, rfl⟩) | (go_at_call 16; refine (add_any _ _ _).mono ?_; rintro e w1 ⟨rfl, hx1⟩) | (go_at_call 20; refine (compare_any _ _ _).mono ?_; rintro e w2 ⟨rfl, hx2⟩) | (go_at_call 22; refine (covers_any _ _ _).mono ?_; rintro e w' ⟨rfl, rfl⟩) | (go_at_call 10; refine (check_any _ _).mono ?_; rintro e w' ⟨rfl, rfl⟩) | (go_at_call 25; refine (key_any _ _).mono ?_; rintro e w3 ⟨rfl, hx3⟩) | (go_at_call 24; refine (live_any _).mono ?_; rintro e w4 ⟨rfl, hx4⟩))
    go_ret
    exact ⟨rfl, by repeat (first | assumption | refine Ext.trans ?_ (by assumption))⟩

set_option maxHeartbeats 2000000 in
theorem numTurns_walk (a b : Int) (wa : (Lit.int .u64 a).wf = true) (wb : (Lit.int .u64 b).wf = true) (w : World) :
    Calls Try.prog 8 #[.int .u64 a, .int .u64 b] w fun e w' => e = .returned (.bool true) ∧ Ext w w' := by
  have ha := in64_of wa
  have hb := in64_of wb
  clear wa wb
  rcases @two_checks a b with ⟨z1, z2, ca, cb⟩ | z
  · by_cases qa : a = 9221120237041090561
    · replace qa : (a == 9221120237041090561) = true := by simpa using qa
      go_enter Try.func8, Try.ntmps8
      go_wp2_with (first | (go_at_call 14; refine (of_any _ _).mono ?_; rintro e w' ⟨rfl, rfl⟩) | (go_at_call 12; refine (right_any _ _).mono ?_; rintro e w' ⟨rfl, rfl⟩) | (go_at_call 18; refine (neg_any' _ _).mono ?_; rintro e w' ⟨rfl, rfl⟩) | (go_at_call 16; refine (add_any _ _ _).mono ?_; rintro e w1 ⟨rfl, hx1⟩) | (go_at_call 20; refine (compare_any _ _ _).mono ?_; rintro e w2 ⟨rfl, hx2⟩) | (go_at_call 22; refine (covers_any _ _ _).mono ?_; rintro e w' ⟨rfl, rfl⟩) | (go_at_call 10; refine (check_any _ _).mono ?_; rintro e w' ⟨rfl, rfl⟩) | (go_at_call 25; refine (key_any _ _).mono ?_; rintro e w3 ⟨rfl, hx3⟩) | (go_at_call 24; refine (live_any _).mono ?_; rintro e w4 ⟨rfl, hx4⟩))
      go_ret
      exact ⟨rfl, by repeat (first | assumption | refine Ext.trans ?_ (by assumption))⟩
    · by_cases qb : b = 9221120237041090561
      · replace qa : (a == 9221120237041090561) = false := by simpa using qa
        replace qb : (b == 9221120237041090561) = true := by simpa using qb
        go_enter Try.func8, Try.ntmps8
        go_wp2_with (first | (go_at_call 14; refine (of_any _ _).mono ?_; rintro e w' ⟨rfl, rfl⟩) | (go_at_call 12; refine (right_any _ _).mono ?_; rintro e w' ⟨rfl, rfl⟩) | (go_at_call 18; refine (neg_any' _ _).mono ?_; rintro e w' ⟨rfl, rfl⟩) | (go_at_call 16; refine (add_any _ _ _).mono ?_; rintro e w1 ⟨rfl, hx1⟩) | (go_at_call 20; refine (compare_any _ _ _).mono ?_; rintro e w2 ⟨rfl, hx2⟩) | (go_at_call 22; refine (covers_any _ _ _).mono ?_; rintro e w' ⟨rfl, rfl⟩) | (go_at_call 10; refine (check_any _ _).mono ?_; rintro e w' ⟨rfl, rfl⟩) | (go_at_call 25; refine (key_any _ _).mono ?_; rintro e w3 ⟨rfl, hx3⟩) | (go_at_call 24; refine (live_any _).mono ?_; rintro e w4 ⟨rfl, hx4⟩))
        go_ret
        exact ⟨rfl, by repeat (first | assumption | refine Ext.trans ?_ (by assumption))⟩
      · have fa : Fine a := by
          rcases num_cases ha ca with f | e
          · exact f
          · exact absurd e qa
        have fb : Fine b := by
          rcases num_cases hb cb with f | e
          · exact f
          · exact absurd e qb
        replace qa : (a == 9221120237041090561) = false := by simpa using qa
        replace qb : (b == 9221120237041090561) = false := by simpa using qb
        have k0 := compareV_eq ha hb
        have k1 := compareV_eq (ng_in ha) (ng_in hb)
        rw [ca, cb] at k0
        rw [R_fine (ng_fine fa), R_fine (ng_fine fb), rk_ng ha, rk_ng hb, cmpI_turn, ← k0, ← negV_fine fa, ← negV_fine fb] at k1
        have k2 : coversV (negV a) (negV b) = coversV b a := by
          rw [negV_fine fa, negV_fine fb, coversV_fine (ng_fine fa) (ng_fine fb), coversV_fine fb fa]
          have h1 := SI_ng ha
          have h2 := SI_ng hb
          unfold SI at h1 h2
          rw [h1, h2]
          rw [Bool.eq_iff_iff]; simp
        have k3 : (addV (negV a) (negV b) == negV (addV a b)) = true ∨ (addV (negV a) (negV b) == negV (addV a b)) = false ∧ (addV a b == 0) = true ∧ (addV (negV a) (negV b) == 0) = true := by
          rw [negV_fine fa, negV_fine fb]
          by_cases e : addV (ng a) (ng b) = negV (addV a b)
          · left; simpa using e
          · right
            rcases addV_turn fa fb with h | ⟨h1, h2⟩
            · exact absurd h e
            · exact ⟨by simpa using e, by simpa using h1, by simpa using h2⟩
        have k4 : ∃ v : Int, compareV a b = v ∧ compareV (negV a) (negV b) = -v ∧ (v = -1 ∨ v = 0 ∨ v = 1) := by
          refine ⟨compareV a b, rfl, k1, ?_⟩
          rw [k0]
          rcases cmpI_cases (rk a) (rk b) with ⟨e, _⟩ | ⟨e, _⟩ | ⟨e, _⟩
          · exact .inl e
          · exact .inr (.inl e)
          · exact .inr (.inr e)
        obtain ⟨v, h1, h2, h3⟩ := k4
        clear k0 k1 ca cb fa fb ha hb
        cases hc : coversV b a <;> rw [hc] at k2
        all_goals
          rcases h3 with rfl | rfl | rfl
          all_goals
            rcases k3 with k3 | ⟨k3, k4, k5⟩
            all_goals
              go_enter Try.func8, Try.ntmps8
              go_wp2_with (first | (go_at_call 14; refine (of_any _ _).mono ?_; rintro e w' ⟨rfl, rfl⟩) | (go_at_call 12; refine (right_any _ _).mono ?_; rintro e w' ⟨rfl, rfl⟩) | (go_at_call 18; refine (neg_any' _ _).mono ?_; rintro e w' ⟨rfl, rfl⟩) | (go_at_call 16; refine (add_any _ _ _).mono ?_; rintro e w1 ⟨rfl, hx1⟩) | (go_at_call 20; refine (compare_any _ _ _).mono ?_; rintro e w2 ⟨rfl, hx2⟩) | (go_at_call 22; refine (covers_any _ _ _).mono ?_; rintro e w' ⟨rfl, rfl⟩) | (go_at_call 10; refine (check_any _ _).mono ?_; rintro e w' ⟨rfl, rfl⟩) | (go_at_call 25; refine (key_any _ _).mono ?_; rintro e w3 ⟨rfl, hx3⟩) | (go_at_call 24; refine (live_any _).mono ?_; rintro e w4 ⟨rfl, hx4⟩))
              go_ret
              exact ⟨rfl, by repeat (first | assumption | refine Ext.trans ?_ (by assumption))⟩
  · have b1 := checkV_bd a
    have b2 := checkV_bd b
    go_enter Try.func8, Try.ntmps8
    go_wp2_with (first | (go_at_call 14; refine (of_any _ _).mono ?_; rintro e w' ⟨rfl, rfl⟩) | (go_at_call 12; refine (right_any _ _).mono ?_; rintro e w' ⟨rfl, rfl⟩) | (go_at_call 18; refine (neg_any' _ _).mono ?_; rintro e w' ⟨rfl, rfl⟩) | (go_at_call 16; refine (add_any _ _ _).mono ?_; rintro e w1 ⟨rfl, hx1⟩) | (go_at_call 20; refine (compare_any _ _ _).mono ?_; rintro e w2 ⟨rfl, hx2⟩) | (go_at_call 22; refine (covers_any _ _ _).mono ?_; rintro e w' ⟨rfl, rfl⟩) | (go_at_call 10; refine (check_any _ _).mono ?_; rintro e w' ⟨rfl, rfl⟩) | (go_at_call 25; refine (key_any _ _).mono ?_; rintro e w3 ⟨rfl, hx3⟩) | (go_at_call 24; refine (live_any _).mono ?_; rintro e w4 ⟨rfl, hx4⟩))
    go_ret
    exact ⟨rfl, by repeat (first | assumption | refine Ext.trans ?_ (by assumption))⟩
end Go.Proofs.Ytffekieoefnidaa
