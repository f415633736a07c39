/- Texts of the proofs of StampMerges, merged (Cmp, StA). -/
import Derived.WalkSpells
import Derived.WalkLawsBesides
import Derived.StillTailTactics
import Derived.Deep.QuietTactic
import Derived.BigQuiet
import Derived.Test.YtnhdjaegkccmaaaGf8a1be9d
namespace Go.Proofs.Ytnhdjaegkccmaaa
open Go.RowKit
def cmpI (a b : Int) : Int := if a < b then -1 else if b < a then 1 else 0
theorem cmpInt_isNaN (a : Int) (w : World) :
    Calls Try.prog 53 #[.int .i64 a] w fun e w' => e = .returned (.bool false) ∧ w = w' := by
  go_enter Try.func53, Try.ntmps53
  go_wp2
  go_ret
  exact ⟨rfl, rfl⟩
theorem cmpInt_any (a b : Int) (w : World) :
    Calls Try.prog 44 #[.int .i64 a, .int .i64 b] w fun e w' => e = .returned (.int .i64 (cmpI a b)) ∧ w = w' := by
  by_cases h : a < b
  · have hV : cmpI a b = -1 := by simp [cmpI, h]
    rw [hV]; clear hV
    go_enter Try.func44, Try.ntmps44
    go_wp2_with (go_at_call 53; refine (cmpInt_isNaN _ _).mono ?_; rintro e w' ⟨rfl, rfl⟩)
    go_ret
    exact ⟨rfl, rfl⟩
  · by_cases h2 : b < a
    · have hV : cmpI a b = 1 := by simp [cmpI, h, h2]
      rw [hV]; clear hV
      go_enter Try.func44, Try.ntmps44
      go_wp2_with (go_at_call 53; refine (cmpInt_isNaN _ _).mono ?_; rintro e w' ⟨rfl, rfl⟩)
      go_ret
      exact ⟨rfl, rfl⟩
    · have hV : cmpI a b = 0 := by simp [cmpI, h, h2]
      rw [hV]; clear hV
      go_enter Try.func44, Try.ntmps44
      go_wp2_with (go_at_call 53; refine (cmpInt_isNaN _ _).mono ?_; rintro e w' ⟨rfl, rfl⟩)
      go_ret
      exact ⟨rfl, rfl⟩
theorem cmpInt64_isNaN (a : Int) (w : World) :
    Calls Try.prog 52 #[.int .i64 a] w fun e w' => e = .returned (.bool false) ∧ w = w' := by
  go_enter Try.func52, Try.ntmps52
  go_wp2
  go_ret
  exact ⟨rfl, rfl⟩
theorem cmpInt64_any (a b : Int) (w : World) :
    Calls Try.prog 43 #[.int .i64 a, .int .i64 b] w fun e w' => e = .returned (.int .i64 (cmpI a b)) ∧ w = w' := by
  by_cases h : a < b
  · have hV : cmpI a b = -1 := by simp [cmpI, h]
    rw [hV]; clear hV
    go_enter Try.func43, Try.ntmps43
    go_wp2_with (go_at_call 52; refine (cmpInt64_isNaN _ _).mono ?_; rintro e w' ⟨rfl, rfl⟩)
    go_ret
    exact ⟨rfl, rfl⟩
  · by_cases h2 : b < a
    · have hV : cmpI a b = 1 := by simp [cmpI, h, h2]
      rw [hV]; clear hV
      go_enter Try.func43, Try.ntmps43
      go_wp2_with (go_at_call 52; refine (cmpInt64_isNaN _ _).mono ?_; rintro e w' ⟨rfl, rfl⟩)
      go_ret
      exact ⟨rfl, rfl⟩
    · have hV : cmpI a b = 0 := by simp [cmpI, h, h2]
      rw [hV]; clear hV
      go_enter Try.func43, Try.ntmps43
      go_wp2_with (go_at_call 52; refine (cmpInt64_isNaN _ _).mono ?_; rintro e w' ⟨rfl, rfl⟩)
      go_ret
      exact ⟨rfl, rfl⟩
def orV (a b : Int) : Int := if a = 0 then b else a
theorem or_any (a b : Int) (bl off c : Nat) (w : World) (h0 : w.cell? ⟨bl, off, none⟩ = some (.int .i64 a)) (h1 : w.cell? ⟨bl, off + 1, none⟩ = some (.int .i64 b)) :
    Calls Try.prog 42 #[.slice (some ⟨bl, off, none⟩) 2 c] w fun e w' => e = .returned (.int .i64 (orV a b)) ∧ w = w' := by
  by_cases ha : a = 0
  · subst ha
    by_cases hb : b = 0
    · subst hb
      go_enter Try.func42, Try.ntmps42
      go_wp2
      go_loop [8] (fun i => ∃ k : Nat, k ≤ 2 ∧ i = .int .i64 k) (fun i => 2 - (intOf i).toNat)
      case atStart => exact ⟨0, by omega, rfl⟩
      case round =>
        obtain ⟨k, hk, rfl⟩ := hrel
        by_cases k0 : k = 0
        · subst k0
          go_wp2
          go_round
          case rel => exact ⟨1, by omega, rfl⟩
          case measure => simp [intOf]
        · by_cases k1 : k = 1
          · subst k1
            go_wp2
            go_round
            case rel => exact ⟨2, by omega, rfl⟩
            case measure => simp [intOf]
          · obtain rfl : k = 2 := by omega
            go_wp2
            go_ret
            exact ⟨rfl, rfl⟩
    · have hb' : (b != 0) = true := by simp [hb]
      have hV : orV 0 b = b := by simp [orV]
      rw [hV]; clear hV hb
      go_enter Try.func42, Try.ntmps42
      go_wp2
      go_loop [8] (fun i => ∃ k : Nat, k ≤ 1 ∧ i = .int .i64 k) (fun i => 2 - (intOf i).toNat)
      case atStart => exact ⟨0, by omega, rfl⟩
      case round =>
        obtain ⟨k, hk, rfl⟩ := hrel
        by_cases k0 : k = 0
        · subst k0
          go_wp2
          go_round
          case rel => exact ⟨1, by omega, rfl⟩
          case measure => simp [intOf]
        · obtain rfl : k = 1 := by omega
          go_wp2
          go_ret
          exact ⟨rfl, rfl⟩
  · have ha' : (a != 0) = true := by simp [ha]
    have hV : orV a b = a := by simp [orV, ha]
    rw [hV]; clear hV ha
    go_enter Try.func42, Try.ntmps42
    go_wp2
    go_loop [8] (fun i => i = .int .i64 0) (fun i => 2 - (intOf i).toNat)
    case atStart => rfl
    case round =>
      subst hrel
      go_wp2
      go_ret
      exact ⟨rfl, rfl⟩
end Go.Proofs.Ytnhdjaegkccmaaa
namespace Go.Proofs.Ytnhdjaegkccmaaa
open Go.RowKit
/-- a stamp -/
structure St where
  t : Int
  n : Int
deriving DecidableEq
def St.cmp (a b : St) : Int := orV (cmpI a.t b.t) (cmpI a.n b.n)
theorem flip_w {P : Program} {f : FuncId} {args : Array Value} {w : World} {v : Value} (h : Calls P f args w fun e w' => e = .returned v ∧ w = w') : Calls P f args w fun e w' => e = .returned v ∧ w' = w :=
  h.mono fun _ _ ⟨he, hw⟩ => ⟨he, hw.symm⟩
theorem two_drew0 (w : World) (a b : Value) (t : TypeId) : (w.alloc (.cells #[a, b] t)).drew.cell? ⟨w.heap.size, 0, none⟩ = some a := cell_two_new w a b t 0 _ rfl
theorem two_drew1 (w : World) (a b : Value) (t : TypeId) : (w.alloc (.cells #[a, b] t)).drew.cell? ⟨w.heap.size, 0 + 1, none⟩ = some b := cell_two_new w a b t 1 _ rfl
set_option maxRecDepth 100000 in
theorem compare_any (a b : St) (w : World) :
    Calls Try.prog 17 #[.agg #[.int .i64 (a).t, .int .i64 (a).n], .agg #[.int .i64 (b).t, .int .i64 (b).n]] w fun e w' => e = .returned (.int .i64 (St.cmp a b)) ∧ Ext w w' := by
  obtain ⟨t, n⟩ := a
  obtain ⟨u, m⟩ := b
  go_enter Try.func17, Try.ntmps17
  go_wp2
  obtain ⟨W, hW⟩ : ∃ W, W = (w.alloc (.cells #[.int .i64 t, .int .i64 n] 23)).alloc (.cells #[.int .i64 u, .int .i64 m] 23) := ⟨_, rfl⟩
  have c1 : W.cell? ⟨w.heap.size, 0, none⟩ = some (.int .i64 t) := by rw [hW]; simp
  have c2 : W.cell? ⟨w.heap.size, 1, none⟩ = some (.int .i64 n) := by rw [hW]; simp
  have c3 : W.cell? ⟨w.heap.size + 1, 0, none⟩ = some (.int .i64 u) := by rw [hW]; simp
  have c4 : W.cell? ⟨w.heap.size + 1, 1, none⟩ = some (.int .i64 m) := by rw [hW]; simp
  have hx : Ext w W := by rw [hW]; exact ((Ext.refl _).alloc _).alloc _
  rw [← hW]; clear hW
  refine wp_region_still_tail 10 (by kernel_rfl) (by kernel_rfl) ?_
  simp only [List.take_succ_cons, List.take_zero, List.drop_succ_cons, List.drop_zero, World.drew_eq]
  repeat still_step
  still_call (flip_w (cmpInt64_any _ _ _))
  repeat still_step
  still_call (flip_w (cmpInt_any _ _ _))
  repeat still_step
  try refine wpStill_nil ?_
  go_wp2_with (go_at_call 42; refine (or_any _ _ _ _ _ _ (two_drew0 _ _ _ _) (two_drew1 _ _ _ _)).mono ?_; rintro e w' ⟨rfl, rfl⟩)
  go_ret
  exact ⟨rfl, hx.drew.alloc _⟩
def nodeOk (n : Int) : Bool := decide (1 ≤ n) && decide (n ≤ 7)
theorem isNode_any (n : Int) (w : World) :
    Calls Try.prog 41 #[.int .i64 n] w fun e w' => e = .returned (.bool (nodeOk n)) ∧ w = w' := by
  unfold nodeOk
  by_cases h : 1 ≤ n
  · have h' : decide (1 ≤ n) = true := by simpa using h
    rw [h', Bool.true_and]
    go_enter Try.func41, Try.ntmps41
    go_wp2
    go_ret
    exact ⟨rfl, rfl⟩
  · have h' : decide (1 ≤ n) = false := by simpa using h
    rw [h', Bool.false_and]
    go_enter Try.func41, Try.ntmps41
    go_wp2
    go_ret
    exact ⟨rfl, rfl⟩
def St.ok (s : St) : Bool := nodeOk s.n && (decide (1 ≤ s.t) && decide (s.t ≤ 1099511627776))
def St.chk (s : St) : Int := if s.ok then 0 else 10
theorem check_any (s : St) (w : World) :
    Calls Try.prog 15 #[.agg #[.int .i64 (s).t, .int .i64 (s).n]] w fun e w' => e = .returned (.int .i64 s.chk) ∧ Ext w w' := by
  obtain ⟨t, n⟩ := s
  unfold St.chk St.ok
  dsimp only
  cases h : nodeOk n with
  | false =>
    rw [Bool.false_and, if_neg (by decide)]
    go_enter Try.func15, Try.ntmps15
    go_wp2_with (go_at_call 41; refine (isNode_any _ _).mono ?_; rintro e w' ⟨rfl, rfl⟩)
    go_ret
    exact ⟨rfl, (Ext.refl _).alloc _⟩
  | true =>
    rw [Bool.true_and]
    by_cases h1 : 1 ≤ t
    · by_cases h2 : t ≤ 1099511627776
      · rw [if_pos (by simp [h1, h2])]
        go_enter Try.func15, Try.ntmps15
        go_wp2_with (go_at_call 41; refine (isNode_any _ _).mono ?_; rintro e w' ⟨rfl, rfl⟩)
        go_ret
        exact ⟨rfl, (Ext.refl _).alloc _⟩
      · rw [if_neg (by simp [h2])]
        go_enter Try.func15, Try.ntmps15
        go_wp2_with (go_at_call 41; refine (isNode_any _ _).mono ?_; rintro e w' ⟨rfl, rfl⟩)
        go_ret
        exact ⟨rfl, (Ext.refl _).alloc _⟩
    · rw [if_neg (by simp [h1])]
      go_enter Try.func15, Try.ntmps15
      go_wp2_with (go_at_call 41; refine (isNode_any _ _).mono ?_; rintro e w' ⟨rfl, rfl⟩)
      go_ret
      exact ⟨rfl, (Ext.refl _).alloc _⟩
theorem num_any (n : Int) (w : World) :
    Calls Try.prog 14 #[.int .i64 n] w fun e w' => e = .returned (.int .i64 n) ∧ w = w' := by
  go_enter Try.func14, Try.ntmps14
  go_wp2
  go_ret
  exact ⟨rfl, rfl⟩
end Go.Proofs.Ytnhdjaegkccmaaa
