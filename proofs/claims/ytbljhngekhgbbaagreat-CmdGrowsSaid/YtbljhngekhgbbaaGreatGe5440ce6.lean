/- Texts of the proofs of CmdEnds, CmdFirst, CmdGrows, CmdPlays, merged (Pl). -/
import Derived.WideShapes
import Derived.Lib.Strings
import Derived.Test.YtbljhngekhgbbaaGreatGb3b707fa
import Derived.Test.YtbljhngekhgbbaaGreatGb43ee308
import Derived.Test.YtbljhngekhgbbaaGreatG9c20b58a
import Derived.Test.YtbljhngekhgbbaaGreatG6e0496cb
import Derived.Test.YtbljhngekhgbbaaGreatG20caf6cc
import Derived.Test.YtbljhngekhgbbaaGreatGf0b3007f
import Derived.Test.YtbljhngekhgbbaaGreatG0f2df3e7
import Derived.Test.YtbljhngekhgbbaaGreatG7be370e0
import Derived.Test.YtbljhngekhgbbaaGreatG15131814
set_option linter.unusedSimpArgs false
set_option linter.unusedVariables false
namespace Go.Proofs.YtbljhngekhgbbaaGreat
open Go.RowKit
set_option linter.unusedVariables false
set_option linter.unusedSectionVars false
set_option linter.unusedSimpArgs false
/-- are two the same? -/
noncomputable def eqB {α : Type} (a b : α) : Bool := @decide (a = b) (Classical.propDecidable _)
section
variable {α : Type} {a b : α}
theorem eqB_iff : eqB a b = true ↔ a = b := by unfold eqB; exact @decide_eq_true_iff _ (Classical.propDecidable _)
theorem eqB_self : eqB a a = true := eqB_iff.2 rfl
theorem eqB_ne (h : a ≠ b) : eqB a b = false := by
  rw [Bool.eq_false_iff]
  exact fun h' => h (eqB_iff.1 h')
theorem eqB_false : eqB a b = false ↔ a ≠ b := by
  constructor
  · intro h e
    rw [eqB_iff.2 e] at h
    cases h
  · exact eqB_ne
/-- two truth values that are true together -/
theorem bool_ext {x y : Bool} (h : x = true ↔ y = true) : x = y := by
  cases x <;> cases y <;> simp_all
end
theorem bytes_ext {a b : ByteArray} (h : a.toList = b.toList) : a = b := WideShapes.bytes_inj (by rw [← ByteArray.toList_eq, ← ByteArray.toList_eq]; exact h)
theorem bytes_eq (a b : ByteArray) : (a.toList == b.toList) = eqB a b := bool_ext (by
  rw [beq_iff_eq, eqB_iff]
  exact ⟨bytes_ext, fun h => by rw [h]⟩)
theorem st_eq (a b : MStamp) : (a.1 == b.1 && (a.2 == b.2 && true)) = eqB a b := bool_ext (by
  cases a; cases b
  simp [eqB_iff])
theorem op_eq (a b : MOp) : (a.1 == b.1 && (a.2.toList == b.2.toList && (a.3.toList == b.3.toList && (a.4 == b.4 && true)))) = eqB a b := bool_ext (by
  cases a; cases b
  simp only [bytes_eq]
  simp [eqB_iff])
theorem pr_eq (a b : MPair) : (a.1.toList == b.1.toList && (a.2 == b.2 && true)) = eqB a b := bool_ext (by
  cases a; cases b
  simp only [bytes_eq]
  simp [eqB_iff])
theorem wr_eq (a b : MWrite) : (a.1.toList == b.1.toList && (a.2 == b.2 && (a.3 == b.3 && true))) = eqB a b := bool_ext (by
  cases a; cases b
  simp only [bytes_eq]
  simp [eqB_iff])
theorem ix (i n : Nat) : (decide ((0 : Int) ≤ (i : Int)) && (i : Int).toNat.blt n) = decide (i < n) := by
  have : decide ((0 : Int) ≤ (i : Int)) = true := by simp
  rw [this, Bool.true_and, Int.toNat_natCast]
  exact bool_ext (by simp)
theorem ix' (i n : Nat) : (decide ((0 : Int) ≤ (i : Int)) && i.blt n) = decide (i < n) := by
  rw [← ix, Int.toNat_natCast]
theorem lt_cast (i n : Nat) : decide ((i : Int) < (n : Int)) = decide (i < n) := by simp
theorem wrap_succ {i : Nat} (h : i < 9223372036854775807) : IntKind.i64.wrap ((i : Int) + 1) = ((i + 1 : Nat) : Int) := by
  rw [wrap_nat (by omega) (by omega)]
  omega
theorem wrap_pred (i : Nat) (h : i < 9223372036854775807) : IntKind.i64.wrap (((i + 1 : Nat) : Int) - 1) = (i : Int) := by
  rw [wrap_nat (by omega) (by omega)]
  omega
theorem wrap_add {i j : Nat} (h : i + j < 9223372036854775808) : IntKind.i64.wrap ((i : Int) + (j : Int)) = ((i + j : Nat) : Int) := by
  rw [wrap_nat (by omega) (by omega)]
  omega
section
variable {D R E : Type} {step : D → Option (Out D R E)}
/-- rounds that go on -/
theorem lim_go (V : Nat → D) (n : Nat) (h : ∀ i, i < n → step (V i) = some (.nxt (V (i + 1)))) : lim step (V 0) = lim step (V n) := by
  induction n with
  | zero => rfl
  | succ n ih => rw [ih fun i hi => h i (by omega), lim_nxt (h n (by omega))]
/-- a loop that looks for something -/
theorem lim_search (V : Nat → D) (n : Nat) (bad : Nat → Bool) (r : R) (e : E) (hgo : ∀ i, i < n → bad i = false → step (V i) = some (.nxt (V (i + 1)))) (hbad : ∀ i, i < n → bad i = true → step (V i) = some (.ret r)) (hend : step (V n) = some (.brk e)) :
    lim step (V 0) = some (bif (List.range n).any bad then .inl r else .inr e) := by
  by_cases hx : ∃ i, i < n ∧ bad i = true
  · obtain ⟨k, ⟨hk, hb⟩, hmin⟩ := exists_min hx
    rw [lim_go V k fun i hi => hgo i (by omega) (by
      rw [Bool.eq_false_iff]
      intro h
      have := hmin i ⟨by omega, h⟩
      omega), lim_ret (hbad k hk hb)]
    have : (List.range n).any bad = true := List.any_eq_true.2 ⟨k, List.mem_range.2 hk, hb⟩
    rw [this]
    rfl
  · have hall : ∀ i, i < n → bad i = false := fun i hi => by
      rw [Bool.eq_false_iff]
      exact fun h => hx ⟨i, hi, h⟩
    rw [lim_go V n fun i hi => hgo i hi (hall i hi), lim_brk hend]
    have : (List.range n).any bad = false := by
      rw [Bool.eq_false_iff]
      intro h
      obtain ⟨i, hi, hb⟩ := List.any_eq_true.1 h
      rw [hall i (List.mem_range.1 hi)] at hb
      cases hb
    rw [this]
    rfl
end
/-- a loop by what holds ahead of each round, and a number that becomes less -/
theorem lim_inv {D R E : Type} {step : D → Option (Out D R E)} (I : Nat → D → Prop) (Post : R ⊕ E → Prop)
    (h : ∀ n d, I n d → (∃ d' m, step d = some (.nxt d') ∧ m < n ∧ I m d') ∨ (∃ r, step d = some (.ret r) ∧ Post (.inl r)) ∨ ∃ e, step d = some (.brk e) ∧ Post (.inr e)) : ∀ n d, I n d → ∃ x, lim step d = some x ∧ Post x := by
  intro n
  induction n using Nat.strongRecOn with
  | ind n ih =>
    intro d hd
    rcases h n d hd with ⟨d', m, h1, h2, h3⟩ | ⟨r, h1, h2⟩ | ⟨e, h1, h2⟩
    · obtain ⟨x, h4, h5⟩ := ih m h2 d' h3
      exact ⟨x, by rw [lim_nxt h1]; exact h4, h5⟩
    · exact ⟨_, lim_ret h1, h2⟩
    · exact ⟨_, lim_brk h1, h2⟩
/-- lists of one length that are the same at each place are one -/
theorem any_ne {α : Type} [Inhabited α] {a b : List α} (hl : a.length = b.length) : (List.range a.length).any (fun i => !eqB (a.getD i default) (b.getD i default)) = !eqB a b := bool_ext (by
  rw [Bool.not_eq_true', eqB_false, List.any_eq_true]
  constructor
  · rintro ⟨i, hi, h⟩ rfl
    rw [eqB_self] at h
    cases h
  · intro h
    apply Classical.byContradiction
    intro hn
    apply h
    refine List.ext_getElem hl fun i h1 h2 => ?_
    apply Classical.byContradiction
    intro he
    refine hn ⟨i, List.mem_range.2 h1, ?_⟩
    rw [Bool.not_eq_true', eqB_false, List.getD_eq_getElem?_getD, List.getD_eq_getElem?_getD, List.getElem?_eq_getElem h1, List.getElem?_eq_getElem h2]
    exact he)
/-- a loop that looks at two lists side by side -/
theorem lim_same {α : Type} [Inhabited α] {step : (List α × List α × Int × Unit) → Option (Out (List α × List α × Int × Unit) (Bool × Unit) Unit)} {a b : List α} (hl : a.length = b.length)
    (h1 : ∀ i : Nat, i < a.length → step (a, b, (i : Int), ()) = some (bif eqB (a.getD i default) (b.getD i default) then .nxt (a, b, ((i + 1 : Nat) : Int), ()) else .ret (false, ()))) (h2 : step (a, b, (a.length : Int), ()) = some (.brk ())) :
    lim step (a, b, 0, ()) = some (bif eqB a b then .inr () else .inl (false, ())) := by
  have := lim_search (step := step) (fun i => (a, b, (i : Int), ())) a.length (fun i => !eqB (a.getD i default) (b.getD i default)) (false, ()) ()
    (fun i hi hb => by rw [h1 i hi]; rw [Bool.not_eq_false'] at hb; rw [hb]; rfl) (fun i hi hb => by rw [h1 i hi]; rw [Bool.not_eq_true'] at hb; rw [hb]; rfl) h2
  rw [any_ne hl] at this
  refine this.trans ?_
  cases eqB a b <;> rfl
end Go.Proofs.YtbljhngekhgbbaaGreat
