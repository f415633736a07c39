/- Texts of the proofs of StampLists, StampParts, StampSorts, merged (Str). -/
import Derived.Laws.Strings
import Derived.RowKit
import Derived.Lib.Bytealg
/- Words for the printed texts: comparisons of texts, the greater and the lesser of two texts. -/
namespace Go.Proofs.Ytnhdjaegkccmaaa.P
open Go.RowKit

theorem bytesLess_or (x : List UInt8) : ∀ y : List UInt8, (Op.bytesLess x y || x == y) = !(Op.bytesLess y x) := by
  induction x with
  | nil => intro y; cases y <;> simp [Op.bytesLess]
  | cons a x ih =>
    intro y
    cases y with
    | nil => simp [Op.bytesLess]
    | cons b y =>
      have h := ih y
      simp only [Op.bytesLess, List.cons_beq_cons]
      rcases Nat.lt_trichotomy a.toNat b.toNat with h1 | h1 | h1
      · have e1 : a < b := h1
        have e2 : ¬ b < a := by intro h2; have : b.toNat < a.toNat := h2; omega
        have e3 : a ≠ b := by intro e; subst e; omega
        simp [e1, e2, Ne.symm e3]
      · obtain rfl : a = b := UInt8.toNat_inj.1 h1
        have e2 : ¬ a < a := by intro h2; have : a.toNat < a.toNat := h2; omega
        simp [e2, h]
      · have e1 : ¬ a < b := by intro h2; have : a.toNat < b.toNat := h2; omega
        have e2 : b < a := h1
        have e3 : a ≠ b := by intro e; subst e; omega
        simp [e1, e2, e3]
theorem bytesLess_irrefl (x : List UInt8) : Op.bytesLess x x = false := by
  induction x with
  | nil => rfl
  | cons a x ih =>
    have : ¬ a < a := fun h => by have : a.toNat < a.toNat := h; omega
    simp [Op.bytesLess, ih, this]
theorem bytesLess_trans (x : List UInt8) : ∀ y z : List UInt8, Op.bytesLess x y = true → Op.bytesLess y z = true → Op.bytesLess x z = true := by
  induction x with
  | nil =>
    intro y z h1 h2
    cases z with
    | nil => cases y <;> simp [Op.bytesLess] at h2
    | cons c z => simp [Op.bytesLess]
  | cons a x ih =>
    intro y z h1 h2
    cases y with
    | nil => simp [Op.bytesLess] at h1
    | cons b y =>
      cases z with
      | nil => simp [Op.bytesLess] at h2
      | cons c z =>
        simp only [Op.bytesLess, Bool.or_eq_true, Bool.and_eq_true, decide_eq_true_eq, beq_iff_eq] at h1 h2 ⊢
        rcases h1 with h1 | ⟨rfl, h1⟩
        · rcases h2 with h2 | ⟨rfl, h2⟩
          · exact .inl (by have e1 : a.toNat < b.toNat := h1; have e2 : b.toNat < c.toNat := h2; show a.toNat < c.toNat; omega)
          · exact .inl h1
        · rcases h2 with h2 | ⟨rfl, h2⟩
          · exact .inl h2
          · exact .inr ⟨rfl, ih y z h1 h2⟩
theorem bytesLess_asymm {x y : List UInt8} (h : Op.bytesLess x y = true) : Op.bytesLess y x = false := by
  cases e : Op.bytesLess y x with
  | false => rfl
  | true =>
    have := bytesLess_trans _ _ _ h e
    rw [bytesLess_irrefl] at this
    cases this
theorem bytesLess_tri (x y : List UInt8) : Op.bytesLess x y = true ∨ x = y ∨ Op.bytesLess y x = true := by
  have h := bytesLess_or x y
  cases e1 : Op.bytesLess x y with
  | true => exact .inl rfl
  | false =>
    cases e2 : Op.bytesLess y x with
    | true => exact .inr (.inr rfl)
    | false => rw [e1, e2] at h; simp at h; exact .inr (.inl h)
/-- 'not behind': total, transitive -/
theorem bytesLess_ntrans {x y z : List UInt8} (h1 : Op.bytesLess x y = false) (h2 : Op.bytesLess y z = false) : Op.bytesLess x z = false := by
  cases e : Op.bytesLess x z with
  | false => rfl
  | true =>
    rcases bytesLess_tri x y with h | rfl | h
    · rw [h] at h1; cases h1
    · rw [e] at h2; cases h2
    · have := bytesLess_trans _ _ _ h e
      rw [this] at h2; cases h2
theorem bytesLess_nil (x : List UInt8) : Op.bytesLess x [] = false := by cases x <;> rfl
theorem compareBytes_lt (x : List UInt8) : ∀ y, decide (Lib.compareBytes x y < 0) = Op.bytesLess x y := by
  induction x with
  | nil => intro y; cases y <;> simp [Lib.compareBytes, Op.bytesLess]
  | cons a x ih =>
    intro y
    cases y with
    | nil => simp [Lib.compareBytes, Op.bytesLess]
    | cons b y =>
      simp only [Lib.compareBytes, Op.bytesLess]
      rcases Nat.lt_trichotomy a.toNat b.toNat with h1 | h1 | h1
      · have e1 : a < b := h1
        simp [e1]
      · obtain rfl : a = b := UInt8.toNat_inj.1 h1
        have e2 : ¬ a < a := by intro h2; have : a.toNat < a.toNat := h2; omega
        simp [e2, ih]
      · have e1 : ¬ a < b := by intro h2; have : a.toNat < b.toNat := h2; omega
        have e2 : b < a := h1
        have e3 : a ≠ b := by intro e; subst e; omega
        simp [e1, e2, e3]
theorem str_leq (t : TypeId) (a b : ByteArray) : binOp .leq t (.string a) (.string b) = pure (.bool (!(Op.bytesLess b.toList a.toList))) := by rw [← bytesLess_or]; simp [binOp, Op.stringOp]
theorem str_gtr (t : TypeId) (a b : ByteArray) : binOp .gtr t (.string a) (.string b) = pure (.bool (Op.bytesLess b.toList a.toList)) := by
  have h := bytesLess_or a.toList b.toList
  simp only [binOp, Op.stringOp]
  rw [h]; simp
theorem str_geq (t : TypeId) (a b : ByteArray) : binOp .geq t (.string a) (.string b) = pure (.bool (!(Op.bytesLess a.toList b.toList))) := by simp [binOp, Op.stringOp]
/-- the greater of two texts -/
def mxs (a b : ByteArray) : ByteArray := if Op.bytesLess a.toList b.toList = true then b else a
/-- the lesser of two texts -/
def mns (a b : ByteArray) : ByteArray := if Op.bytesLess b.toList a.toList = true then b else a
theorem max2_str (a b : ByteArray) : Builtin.max2 (.string a) (.string b) = pure (.string (mxs a b)) := by
  unfold Builtin.max2 mxs Op.stringOp asBool
  by_cases h : Op.bytesLess a.toList b.toList = true <;> simp [h]
end Go.Proofs.Ytnhdjaegkccmaaa.P
