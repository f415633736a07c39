/- Texts of the proofs of TopoTells, merged (PRef). -/
import Derived.Test.YtaedgbkeiankcaaG5fc94eef
namespace Go.Proofs.Ytaedgbkeiankcaa.P
set_option linter.unusedVariables false
instance (a b : Txt) : Decidable (a ≤ b) := inferInstanceAs (Decidable (_ = false))
instance (a b : Txt) : Decidable (a < b) := inferInstanceAs (Decidable (_ = true))
namespace Sp
/-- what holds of the last mark at or below k -/
def val (P : Txt → Bool) (k : Txt) : Bool → List Txt → Bool
  | b, [] => b
  | b, m :: M => if m ≤ k then val P k (P m) M else b
/-- the spans of the marks at which P holds; o: where one has begun -/
def bld (P : Txt → Bool) : Option Txt → List Txt → List Sp
  | none, [] => []
  | some f, [] => [⟨f, .nil⟩]
  | none, m :: M => if P m then bld P (some m) M else bld P none M
  | some f, m :: M => if P m then bld P (some f) M else ⟨f, m⟩ :: bld P none M
variable {P : Txt → Bool}
theorem val_below {M : List Txt} {k : Txt} (b : Bool) (h : ∀ m ∈ M, ¬ m ≤ k) : val P k b M = b := by
  cases M with
  | nil => rfl
  | cons m M => unfold val; rw [if_neg (h m (by simp))]
theorem bld_starts : ∀ (M : List Txt) (o : Option Txt) (s : Sp), s ∈ bld P o M → o = some s.f ∨ s.f ∈ M
  | [], none, s, h => by cases h
  | [], some f, s, h => by
    simp [bld] at h
    subst h
    exact .inl rfl
  | m :: M, none, s, h => by
    unfold bld at h
    split at h
    · rcases bld_starts M _ s h with h | h
      · injection h with h
        exact .inr (by simp [h])
      · exact .inr (by simp [h])
    · rcases bld_starts M _ s h with h | h
      · cases h
      · exact .inr (by simp [h])
  | m :: M, some f, s, h => by
    unfold bld at h
    split at h
    · rcases bld_starts M _ s h with h | h
      · exact .inl h
      · exact .inr (by simp [h])
    · rcases List.mem_cons.1 h with rfl | h
      · exact .inl rfl
      · rcases bld_starts M _ s h with h | h
        · cases h
        · exact .inr (by simp [h])
theorem not_nil {a b : Txt} (h : a < b) : b ≠ .nil := by
  intro e
  have := Txt.nil_le a
  grind
theorem bld_can : ∀ (M : List Txt) (o : Option Txt), M.Pairwise (· < ·) → (∀ f, o = some f → ∀ m ∈ M, f < m) → Can (bld P o M)
  | [], none, _, _ => can_nil
  | [], some f, _, _ => can_cons (.inl rfl) can_nil (fun _ h => by cases h)
  | m :: M, none, hM, hl => by
    obtain ⟨h1, h2⟩ := List.pairwise_cons.1 hM
    unfold bld
    split
    · exact bld_can M _ h2 (fun f e => by injection e with e; subst e; exact h1)
    · exact bld_can M _ h2 (fun f e => by cases e)
  | m :: M, some f, hM, hl => by
    obtain ⟨h1, h2⟩ := List.pairwise_cons.1 hM
    have hfm := hl f rfl m (by simp)
    unfold bld
    split
    · exact bld_can M _ h2 (fun g e => by injection e with e; subst e; exact fun x hx => hl f rfl x (by simp [hx]))
    · refine can_cons (.inr hfm) (bld_can M _ h2 (fun f e => by cases e)) (fun t ht => ⟨not_nil hfm, ?_⟩)
      rcases bld_starts M _ t ht with h | h
      · cases h
      · exact h1 _ h
theorem bld_mem (k : Txt) : ∀ (M : List Txt) (o : Option Txt), M.Pairwise (· < ·) → (∀ f, o = some f → ∀ m ∈ M, f < m) → (mem (bld P o M) k ↔ match o with | none => val P k false M = true | some f => f ≤ k ∧ val P k true M = true)
  | [], none, _, _ => by simp [bld, val, mem_nil]
  | [], some f, _, _ => by simp [bld, val, mem_cons, mem_nil, inn]
  | m :: M, none, hM, hl => by
    obtain ⟨h1, h2⟩ := List.pairwise_cons.1 hM
    have hb : ∀ b, ¬ m ≤ k → val P k b M = b := fun b hk => val_below b (fun x hx hxk => hk (by have := h1 x hx; grind))
    unfold bld
    by_cases c : P m = true
    · rw [if_pos c, bld_mem k M _ h2 (fun f e => by injection e with e; subst e; exact h1)]
      simp only [val, c]
      by_cases hk : m ≤ k <;> simp [hk]
    · rw [if_neg c, bld_mem k M _ h2 (fun f e => by cases e)]
      simp only [val]
      by_cases hk : m ≤ k
      · simp [hk, c]
      · simp [hk, hb false hk]
  | m :: M, some f, hM, hl => by
    obtain ⟨h1, h2⟩ := List.pairwise_cons.1 hM
    have hb : ∀ b, ¬ m ≤ k → val P k b M = b := fun b hk => val_below b (fun x hx hxk => hk (by have := h1 x hx; grind))
    have hfm := hl f rfl m (by simp)
    unfold bld
    by_cases c : P m = true
    · rw [if_pos c, bld_mem k M _ h2 (fun g e => by injection e with e; subst e; exact fun x hx => hl f rfl x (by simp [hx]))]
      simp only [val, c]
      by_cases hk : m ≤ k
      · simp [hk]
      · simp [hk, hb true hk]
    · rw [if_neg c, mem_cons, bld_mem k M _ h2 (fun f e => by cases e)]
      have hmn := not_nil hfm
      have c' : P m = false := by simpa using c
      simp only [val, inn, c']
      by_cases hk : m ≤ k
      · simp only [hk, if_true]
        grind
      · simp only [hk, hb false hk, if_false]
        grind
theorem val_last (k : Txt) : ∀ (M : List Txt) (b : Bool), M.Pairwise (· < ·) → (∃ m ∈ M, m ≤ k ∧ (∀ x ∈ M, x ≤ k → x ≤ m) ∧ val P k b M = P m) ∨ ((∀ m ∈ M, ¬ m ≤ k) ∧ val P k b M = b)
  | [], b, _ => .inr ⟨fun _ h => (by cases h), rfl⟩
  | m :: M, b, hM => by
    obtain ⟨h1, h2⟩ := List.pairwise_cons.1 hM
    by_cases hk : m ≤ k
    · left
      unfold val
      rw [if_pos hk]
      rcases val_last k M (P m) h2 with ⟨x, hx, hxk, hl, hv⟩ | ⟨hn, hv⟩
      · refine ⟨x, by simp [hx], hxk, fun y hy hyk => ?_, hv⟩
        rcases List.mem_cons.1 hy with rfl | hy
        · have := h1 x hx; grind
        · exact hl y hy hyk
      · refine ⟨m, by simp, hk, fun y hy hyk => ?_, hv⟩
        rcases List.mem_cons.1 hy with rfl | hy
        · exact Std.IsPreorder.le_refl _
        · exact absurd hyk (hn y hy)
    · right
      refine ⟨fun x hx hxk => ?_, by unfold val; rw [if_neg hk]⟩
      rcases List.mem_cons.1 hx with rfl | hx
      · exact hk hxk
      · have := h1 x hx; grind
/-- M holds the texts at which a's spans begin and end -/
def Covers (M : List Txt) (a : List Sp) : Prop := ∀ s ∈ a, s.f ∈ M ∧ (s.t ≠ .nil → s.t ∈ M)
theorem mem_last {M : List Txt} {a : List Sp} (hc : Covers M a) {m k : Txt} (hmk : m ≤ k) (hl : ∀ x ∈ M, x ≤ k → x ≤ m) : mem a m ↔ mem a k := by
  have : ∀ s ∈ a, inn m s ↔ inn k s := by
    intro s hs
    obtain ⟨h1, h2⟩ := hc s hs
    have h3 := hl s.f h1
    have h4 := fun h => hl s.t (h2 h)
    unfold inn
    grind
  exact ⟨fun ⟨s, hs, h⟩ => ⟨s, hs, (this s hs).1 h⟩, fun ⟨s, hs, h⟩ => ⟨s, hs, (this s hs).2 h⟩⟩
theorem mem_none {M : List Txt} {a : List Sp} (hc : Covers M a) {k : Txt} (hl : ∀ m ∈ M, ¬ m ≤ k) : ¬ mem a k := fun ⟨s, hs, h⟩ => hl s.f (hc s hs).1 h.1
/-- THE REFERENCE's SET -/
theorem ref_set {M : List Txt} {a b : List Sp} (hM : M.Pairwise (· < ·)) (ha : Covers M a) (hb : Covers M b) (op : Bool → Bool → Bool) (h0 : op false false = false) (A B : Txt → Bool) (hA : ∀ k, A k = true ↔ mem a k) (hB : ∀ k, B k = true ↔ mem b k) :
    Can (bld (fun t => op (A t) (B t)) none M) ∧ ∀ k, mem (bld (fun t => op (A t) (B t)) none M) k ↔ op (A k) (B k) = true := by
  refine ⟨bld_can M none hM (fun f e => by cases e), fun k => ?_⟩
  rw [bld_mem k M none hM (fun f e => by cases e)]
  rcases val_last (P := fun t => op (A t) (B t)) k M false hM with ⟨m, _, hmk, hl, hv⟩ | ⟨hn, hv⟩
  · have e1 : A m = A k := Bool.eq_iff_iff.2 (by rw [hA, hA]; exact mem_last ha hmk hl)
    have e2 : B m = B k := Bool.eq_iff_iff.2 (by rw [hB, hB]; exact mem_last hb hmk hl)
    simp only [hv, e1, e2]
  · have e1 : A k = false := by
      cases e : A k with
      | false => rfl
      | true => exact absurd ((hA k).1 e) (mem_none ha hn)
    have e2 : B k = false := by
      cases e : B k with
      | false => rfl
      | true => exact absurd ((hB k).1 e) (mem_none hb hn)
    simp only [hv, e1, e2, h0]
end Sp
end Go.Proofs.Ytaedgbkeiankcaa.P
