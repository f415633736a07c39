/- The walks of the laws of package num: order, edges, turns, whole numbers. -/
import Derived.Test.YtffekieoefnidaaNumW
namespace Go.Proofs.Ytffekieoefnidaa
open Go.RowKit

theorem cmpI_cases (a b : Int) : (cmpI a b = -1 ∧ a < b) ∨ (cmpI a b = 0 ∧ a = b) ∨ (cmpI a b = 1 ∧ b < a) := by
  by_cases h : a < b
  · exact .inl ⟨cmpI_lt h, h⟩
  · by_cases h2 : b < a
    · exact .inr (.inr ⟨cmpI_gt h2, h2⟩)
    · exact .inr (.inl ⟨cmpI_eq (by omega), by omega⟩)
theorem cmpI_swap (a b : Int) : cmpI b a = -cmpI a b := by
  rcases cmpI_cases a b with ⟨h, l⟩ | ⟨h, l⟩ | ⟨h, l⟩
  · rw [h, cmpI_gt l]; rfl
  · rw [h, cmpI_eq l.symm]; rfl
  · rw [h, cmpI_lt l]
theorem rk_inj {a b : Int} (ha : In64 a) (hb : In64 b) (h : rk a = rk b) : a = b := by
  obtain ⟨h0, h1⟩ := ha; obtain ⟨h2, h3⟩ := hb; unfold rk at h; split at h <;> split at h <;> omega
theorem rk_in {a : Int} (ha : In64 a) : In64 (rk a) := by
  obtain ⟨h0, h1⟩ := ha; unfold rk In64; split <;> omega

theorem b8_lt (x y : Int) : (b8 x < b8 y) ↔ x % 256 < y % 256 := by
  rw [UInt8.lt_iff_toNat_lt]
  have h1 := b8_toNat x; have h2 := b8_toNat y
  omega
theorem b8_eq (x y : Int) : (b8 x == b8 y) = decide (x % 256 = y % 256) := by
  rw [Bool.eq_iff_iff]; simp only [beq_iff_eq, decide_eq_true_eq]
  rw [← UInt8.toNat_inj]
  have h1 := b8_toNat x; have h2 := b8_toNat y
  omega
theorem lex_step (u v : Int) (p : Prop) : (u / 256 < v / 256 ∨ u / 256 = v / 256 ∧ (u % 256 < v % 256 ∨ u % 256 = v % 256 ∧ p)) ↔ (u < v ∨ u = v ∧ p) := by
  by_cases hp : p
  · simp only [hp, and_true]; omega
  · simp only [hp, and_false, or_false]; omega
/-- eight bytes, the highest first, are in the numbers' order -/
theorem be8_less {x y : Int} (hx : In64 x) (hy : In64 y) : Op.bytesLess (be8 x).toList (be8 y).toList = decide (x < y) := by
  rw [ByteArray.toList_eq, ByteArray.toList_eq]
  unfold be8
  simp only [Op.bytesLess, b8_eq, b8_lt]
  have top : ∀ z : Int, In64 z → z / 256 / 256 / 256 / 256 / 256 / 256 / 256 % 256 = z / 256 / 256 / 256 / 256 / 256 / 256 / 256 := by
    intro z ⟨h0, h1⟩; omega
  rw [top x hx, top y hy]
  rw [Bool.eq_iff_iff]
  simp only [Bool.or_eq_true, Bool.and_eq_true, decide_eq_true_eq]
  rw [lex_step, lex_step, lex_step, lex_step, lex_step, lex_step, lex_step]
  simp

set_option maxHeartbeats 800000 in
theorem numOrder_walk (a b c : Int) (wa : (Lit.int .u64 a).wf = true) (wb : (Lit.int .u64 b).wf = true) (wc : (Lit.int .u64 c).wf = true) (w : World) :
    Calls Try.prog 4 #[.int .u64 a, .int .u64 b, .int .u64 c] w fun e w' => e = .returned (.bool true) ∧ Ext w w' := by
  have ha := in64_of wa
  have hb := in64_of wb
  have hc := in64_of wc
  clear wa wb wc
  by_cases ca : R a = a
  · by_cases cb : R b = b
    · by_cases cc : R c = c
      · have z1 := checkV_zero ca
        have z2 := checkV_zero cb
        have z3 := checkV_zero cc
        have k0 := compareV_eq ha hb
        have k1 := compareV_eq hb ha
        have k2 := compareV_eq hb hc
        have k3 := compareV_eq ha hc
        have l0 : Op.bytesLess (be8 (rankV a)).toList (be8 (rankV b)).toList = decide (rk a < rk b) := by
          rw [rankV_eq ha, rankV_eq hb, ca, cb]; exact be8_less (rk_in ha) (rk_in hb)
        have ab : rk a = rk b ↔ a = b := ⟨rk_inj ha hb, fun h => by rw [h]⟩
        rw [ca, cb] at k0 k1
        rw [cb, cc] at k2
        rw [ca, cc] at k3
        have a1 := addV_comm ha hb
        have a2 : negV (negV a) = a := by
          rcases num_cases ha ca with f | q
          · rw [negV_fine f, negV_fine (ng_fine f), ng_ng ha]
          · rw [q, negV_quiet, negV_quiet]
        have a3 : checkV (addV a b) = 0 := checkV_zero R_addV
        have a4 : (addV a 0 != a) = false ∨ ((addV a 0 != a) = true ∧ (a == 9223372036854775808) = true ∧ (addV a 0 == 0) = true) := by
          rcases num_cases ha ca with f | q
          · rcases addV_zero f with e | ⟨e, e2⟩
            · left; rw [e]; simp
            · right; rw [e2, e]; decide
          · left; rw [q, addV_quiet_left R_quiet]; simp
        have a1' : (addV a b == addV b a) = true := by rw [a1]; simp
        have a2' : (negV (negV a) == a) = true := by rw [a2]; simp
        clear a1 a2
        have hall : ∃ u v x : Int, compareV a b = u ∧ compareV b a = -u ∧ compareV b c = v ∧ compareV a c = x ∧ (u = -1 ∧ Op.bytesLess (be8 (rankV a)).toList (be8 (rankV b)).toList = true ∧ (a == b) = false ∨ u = 0 ∧ Op.bytesLess (be8 (rankV a)).toList (be8 (rankV b)).toList = false ∧ (a == b) = true ∨ u = 1 ∧ Op.bytesLess (be8 (rankV a)).toList (be8 (rankV b)).toList = false ∧ (a == b) = false) ∧ (v = -1 ∨ v = 0 ∨ v = 1) ∧ (u = -1 → v = -1 → x = -1) := by
          refine ⟨_, _, _, k0, k1.trans (cmpI_swap _ _), k2, k3, ?_, ?_, ?_⟩
          · rcases cmpI_cases (rk a) (rk b) with ⟨e, l⟩ | ⟨e, l⟩ | ⟨e, l⟩
            · left; exact ⟨e, by rw [l0]; simpa using l, by simp; intro h; have := ab.2 h; omega⟩
            · right; left; exact ⟨e, by rw [l0]; simp; omega, by simpa using ab.1 l⟩
            · right; right; exact ⟨e, by rw [l0]; simp; omega, by simp; intro h; have := ab.2 h; omega⟩
          · rcases cmpI_cases (rk b) (rk c) with ⟨e, _⟩ | ⟨e, _⟩ | ⟨e, _⟩
            · exact .inl e
            · exact .inr (.inl e)
            · exact .inr (.inr e)
          · intro e1 e2
            rcases cmpI_cases (rk a) (rk b) with ⟨e, l⟩ | ⟨e, l⟩ | ⟨e, l⟩
            · rcases cmpI_cases (rk b) (rk c) with ⟨e', l'⟩ | ⟨e', l'⟩ | ⟨e', l'⟩
              · exact cmpI_lt (by omega)
              · rw [e'] at e2; exact absurd e2 (by decide)
              · rw [e'] at e2; exact absurd e2 (by decide)
            · rw [e] at e1; exact absurd e1 (by decide)
            · rw [e] at e1; exact absurd e1 (by decide)
        clear k0 k1 k2 k3 l0 ab ca cb cc ha hb hc
        obtain ⟨u, v, x, h1, h2, h3, h4, h5, h6, h7⟩ := hall
        rcases h5 with ⟨rfl, g1, g2⟩ | ⟨rfl, g1, g2⟩ | ⟨rfl, g1, g2⟩ <;> rcases h6 with rfl | rfl | rfl
        all_goals first
          | (obtain rfl : x = -1 := h7 rfl rfl
             clear h7
             rcases a4 with a4 | ⟨a4, a5, a6⟩
             all_goals
               go_enter Try.func4, Try.ntmps4
               go_wp2_with (first | (go_at_call 14; refine (of_any _ _).mono ?_; rintro e w' ⟨rfl, rfl⟩) | (go_at_call 12; refine (right_any _ _).mono ?_; rintro e w' ⟨rfl, rfl⟩) | (go_at_call 18; refine (neg_any' _ _).mono ?_; rintro e w' ⟨rfl, rfl⟩) | (go_at_call 16; refine (add_any _ _ _).mono ?_; rintro e w1 ⟨rfl, hx1⟩) | (go_at_call 20; refine (compare_any _ _ _).mono ?_; rintro e w2 ⟨rfl, hx2⟩) | (go_at_call 22; refine (covers_any _ _ _).mono ?_; rintro e w' ⟨rfl, rfl⟩) | (go_at_call 10; refine (check_any _ _).mono ?_; rintro e w' ⟨rfl, rfl⟩) | (go_at_call 25; refine (key_any _ _).mono ?_; rintro e w3 ⟨rfl, hx3⟩) | (go_at_call 24; refine (live_any _).mono ?_; rintro e w4 ⟨rfl, hx4⟩))
               go_ret
               exact ⟨rfl, by repeat (first | assumption | refine Ext.trans ?_ (by assumption))⟩)
          | (clear h7 h4
             rcases a4 with a4 | ⟨a4, a5, a6⟩
             all_goals
               go_enter Try.func4, Try.ntmps4
               go_wp2_with (first | (go_at_call 14; refine (of_any _ _).mono ?_; rintro e w' ⟨rfl, rfl⟩) | (go_at_call 12; refine (right_any _ _).mono ?_; rintro e w' ⟨rfl, rfl⟩) | (go_at_call 18; refine (neg_any' _ _).mono ?_; rintro e w' ⟨rfl, rfl⟩) | (go_at_call 16; refine (add_any _ _ _).mono ?_; rintro e w1 ⟨rfl, hx1⟩) | (go_at_call 20; refine (compare_any _ _ _).mono ?_; rintro e w2 ⟨rfl, hx2⟩) | (go_at_call 22; refine (covers_any _ _ _).mono ?_; rintro e w' ⟨rfl, rfl⟩) | (go_at_call 10; refine (check_any _ _).mono ?_; rintro e w' ⟨rfl, rfl⟩) | (go_at_call 25; refine (key_any _ _).mono ?_; rintro e w3 ⟨rfl, hx3⟩) | (go_at_call 24; refine (live_any _).mono ?_; rintro e w4 ⟨rfl, hx4⟩))
               go_ret
               exact ⟨rfl, by repeat (first | assumption | refine Ext.trans ?_ (by assumption))⟩)
      · have z : (checkV a + checkV b + checkV c != 0) = true := by
          rw [checkV_70 cc]; rcases checkV_cases a with h | h <;> rcases checkV_cases b with h' | h' <;> rw [h, h'] <;> rfl
        have b1 := checkV_bd a
        have b2 := checkV_bd b
        have b3 := checkV_bd c
        go_enter Try.func4, Try.ntmps4
        go_wp2_with (first | (go_at_call 14; refine (of_any _ _).mono ?_; rintro e w' ⟨rfl, rfl⟩) | (go_at_call 12; refine (right_any _ _).mono ?_; rintro e w' ⟨rfl, rfl⟩) | (go_at_call 18; refine (neg_any' _ _).mono ?_; rintro e w' ⟨rfl, rfl⟩) | (go_at_call 16; refine (add_any _ _ _).mono ?_; rintro e w1 ⟨rfl, hx1⟩) | (go_at_call 20; refine (compare_any _ _ _).mono ?_; rintro e w2 ⟨rfl, hx2⟩) | (go_at_call 22; refine (covers_any _ _ _).mono ?_; rintro e w' ⟨rfl, rfl⟩) | (go_at_call 10; refine (check_any _ _).mono ?_; rintro e w' ⟨rfl, rfl⟩) | (go_at_call 25; refine (key_any _ _).mono ?_; rintro e w3 ⟨rfl, hx3⟩) | (go_at_call 24; refine (live_any _).mono ?_; rintro e w4 ⟨rfl, hx4⟩))
        go_ret
        exact ⟨rfl, by repeat (first | assumption | refine Ext.trans ?_ (by assumption))⟩
    · have z : (checkV a + checkV b + checkV c != 0) = true := by
        rw [checkV_70 cb]; rcases checkV_cases a with h | h <;> rcases checkV_cases c with h' | h' <;> rw [h, h'] <;> rfl
      have b1 := checkV_bd a
      have b2 := checkV_bd b
      have b3 := checkV_bd c
      go_enter Try.func4, Try.ntmps4
      go_wp2_with (first | (go_at_call 14; refine (of_any _ _).mono ?_; rintro e w' ⟨rfl, rfl⟩) | (go_at_call 12; refine (right_any _ _).mono ?_; rintro e w' ⟨rfl, rfl⟩) | (go_at_call 18; refine (neg_any' _ _).mono ?_; rintro e w' ⟨rfl, rfl⟩) | (go_at_call 16; refine (add_any _ _ _).mono ?_; rintro e w1 ⟨rfl, hx1⟩) | (go_at_call 20; refine (compare_any _ _ _).mono ?_; rintro e w2 ⟨rfl, hx2⟩) | (go_at_call 22; refine (covers_any _ _ _).mono ?_; rintro e w' ⟨rfl, rfl⟩) | (go_at_call 10; refine (check_any _ _).mono ?_; rintro e w' ⟨rfl, rfl⟩) | (go_at_call 25; refine (key_any _ _).mono ?_; rintro e w3 ⟨rfl, hx3⟩) | (go_at_call 24; refine (live_any _).mono ?_; rintro e w4 ⟨rfl, hx4⟩))
      go_ret
      exact ⟨rfl, by repeat (first | assumption | refine Ext.trans ?_ (by assumption))⟩
  · have z : (checkV a + checkV b + checkV c != 0) = true := by
      rw [checkV_70 ca]; rcases checkV_cases b with h | h <;> rcases checkV_cases c with h' | h' <;> rw [h, h'] <;> rfl
    have b1 := checkV_bd a
    have b2 := checkV_bd b
    have b3 := checkV_bd c
    go_enter Try.func4, Try.ntmps4
    go_wp2_with (first | (go_at_call 14; refine (of_any _ _).mono ?_; rintro e w' ⟨rfl, rfl⟩) | (go_at_call 12; refine (right_any _ _).mono ?_; rintro e w' ⟨rfl, rfl⟩) | (go_at_call 18; refine (neg_any' _ _).mono ?_; rintro e w' ⟨rfl, rfl⟩) | (go_at_call 16; refine (add_any _ _ _).mono ?_; rintro e w1 ⟨rfl, hx1⟩) | (go_at_call 20; refine (compare_any _ _ _).mono ?_; rintro e w2 ⟨rfl, hx2⟩) | (go_at_call 22; refine (covers_any _ _ _).mono ?_; rintro e w' ⟨rfl, rfl⟩) | (go_at_call 10; refine (check_any _ _).mono ?_; rintro e w' ⟨rfl, rfl⟩) | (go_at_call 25; refine (key_any _ _).mono ?_; rintro e w3 ⟨rfl, hx3⟩) | (go_at_call 24; refine (live_any _).mono ?_; rintro e w4 ⟨rfl, hx4⟩))
    go_ret
    exact ⟨rfl, by repeat (first | assumption | refine Ext.trans ?_ (by assumption))⟩
end Go.Proofs.Ytffekieoefnidaa
