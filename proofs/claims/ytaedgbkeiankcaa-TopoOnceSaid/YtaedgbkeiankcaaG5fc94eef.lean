/- Texts of the proofs of TopoOnce, TopoTells, merged (Str, PSp). -/
import Derived.Laws.Strings
import Derived.RowKit
import Derived.Lib.Bytealg
namespace Go.Proofs.Ytaedgbkeiankcaa.P
open Go.RowKit
theorem bytesLess_or (x : List UInt8) : ∀ y : List UInt8, (Op.bytesLess x y || x == y) = !(Op.bytesLess y x) := by
  induction x with
  | nil => intro y; cases y <;> simp [Op.bytesLess]
  | cons a x ih =>
    intro y
    cases y with
    | nil => simp [Op.bytesLess]
    | cons b y =>
      have h := ih y
      simp only [Op.bytesLess, List.cons_beq_cons]
      rcases Nat.lt_trichotomy a.toNat b.toNat with h1 | h1 | h1
      · have e1 : a < b := h1
        have e2 : ¬ b < a := by intro h2; have : b.toNat < a.toNat := h2; omega
        have e3 : a ≠ b := by intro e; subst e; omega
        simp [e1, e2, Ne.symm e3]
      · obtain rfl : a = b := UInt8.toNat_inj.1 h1
        have e2 : ¬ a < a := by intro h2; have : a.toNat < a.toNat := h2; omega
        simp [e2, h]
      · have e1 : ¬ a < b := by intro h2; have : a.toNat < b.toNat := h2; omega
        have e2 : b < a := h1
        have e3 : a ≠ b := by intro e; subst e; omega
        simp [e1, e2, e3]
theorem bytesLess_irrefl (x : List UInt8) : Op.bytesLess x x = false := by
  induction x with
  | nil => rfl
  | cons a x ih =>
    have : ¬ a < a := fun h => by have : a.toNat < a.toNat := h; omega
    simp [Op.bytesLess, ih, this]
theorem bytesLess_trans (x : List UInt8) : ∀ y z : List UInt8, Op.bytesLess x y = true → Op.bytesLess y z = true → Op.bytesLess x z = true := by
  induction x with
  | nil =>
    intro y z h1 h2
    cases z with
    | nil => cases y <;> simp [Op.bytesLess] at h2
    | cons c z => simp [Op.bytesLess]
  | cons a x ih =>
    intro y z h1 h2
    cases y with
    | nil => simp [Op.bytesLess] at h1
    | cons b y =>
      cases z with
      | nil => simp [Op.bytesLess] at h2
      | cons c z =>
        simp only [Op.bytesLess, Bool.or_eq_true, Bool.and_eq_true, decide_eq_true_eq, beq_iff_eq] at h1 h2 ⊢
        rcases h1 with h1 | ⟨rfl, h1⟩
        · rcases h2 with h2 | ⟨rfl, h2⟩
          · exact .inl (by have e1 : a.toNat < b.toNat := h1; have e2 : b.toNat < c.toNat := h2; show a.toNat < c.toNat; omega)
          · exact .inl h1
        · rcases h2 with h2 | ⟨rfl, h2⟩
          · exact .inl h2
          · exact .inr ⟨rfl, ih y z h1 h2⟩
theorem bytesLess_asymm {x y : List UInt8} (h : Op.bytesLess x y = true) : Op.bytesLess y x = false := by
  cases e : Op.bytesLess y x with
  | false => rfl
  | true =>
    have := bytesLess_trans _ _ _ h e
    rw [bytesLess_irrefl] at this
    cases this
theorem bytesLess_tri (x y : List UInt8) : Op.bytesLess x y = true ∨ x = y ∨ Op.bytesLess y x = true := by
  have h := bytesLess_or x y
  cases e1 : Op.bytesLess x y with
  | true => exact .inl rfl
  | false =>
    cases e2 : Op.bytesLess y x with
    | true => exact .inr (.inr rfl)
    | false => rw [e1, e2] at h; simp at h; exact .inr (.inl h)
/-- 'not behind': total, transitive -/
theorem bytesLess_ntrans {x y z : List UInt8} (h1 : Op.bytesLess x y = false) (h2 : Op.bytesLess y z = false) : Op.bytesLess x z = false := by
  cases e : Op.bytesLess x z with
  | false => rfl
  | true =>
    rcases bytesLess_tri x y with h | rfl | h
    · rw [h] at h1; cases h1
    · rw [e] at h2; cases h2
    · have := bytesLess_trans _ _ _ h e
      rw [this] at h2; cases h2
theorem bytesLess_nil (x : List UInt8) : Op.bytesLess x [] = false := by cases x <;> rfl
theorem compareBytes_lt (x : List UInt8) : ∀ y, decide (Lib.compareBytes x y < 0) = Op.bytesLess x y := by
  induction x with
  | nil => intro y; cases y <;> simp [Lib.compareBytes, Op.bytesLess]
  | cons a x ih =>
    intro y
    cases y with
    | nil => simp [Lib.compareBytes, Op.bytesLess]
    | cons b y =>
      simp only [Lib.compareBytes, Op.bytesLess]
      rcases Nat.lt_trichotomy a.toNat b.toNat with h1 | h1 | h1
      · have e1 : a < b := h1
        simp [e1]
      · obtain rfl : a = b := UInt8.toNat_inj.1 h1
        have e2 : ¬ a < a := by intro h2; have : a.toNat < a.toNat := h2; omega
        simp [e2, ih]
      · have e1 : ¬ a < b := by intro h2; have : a.toNat < b.toNat := h2; omega
        have e2 : b < a := h1
        have e3 : a ≠ b := by intro e; subst e; omega
        simp [e1, e2, e3]
theorem str_leq (t : TypeId) (a b : ByteArray) : binOp .leq t (.string a) (.string b) = pure (.bool (!(Op.bytesLess b.toList a.toList))) := by rw [← bytesLess_or]; simp [binOp, Op.stringOp]
theorem str_geq (t : TypeId) (a b : ByteArray) : binOp .geq t (.string a) (.string b) = pure (.bool (!(Op.bytesLess a.toList b.toList))) := by simp [binOp, Op.stringOp]
/-- the greater of two texts -/
def mxs (a b : ByteArray) : ByteArray := if Op.bytesLess a.toList b.toList = true then b else a
theorem max2_str (a b : ByteArray) : Builtin.max2 (.string a) (.string b) = pure (.string (mxs a b)) := by
  unfold Builtin.max2 mxs Op.stringOp asBool
  by_cases h : Op.bytesLess a.toList b.toList = true <;> simp [h]
end Go.Proofs.Ytaedgbkeiankcaa.P
namespace Go.Proofs.Ytaedgbkeiankcaa.P
set_option linter.unusedVariables false
/-- a text, as what is compared -/
structure Txt where
  l : List UInt8
namespace Txt
instance : LE Txt := ⟨fun a b => Op.bytesLess b.l a.l = false⟩
instance : LT Txt := ⟨fun a b => Op.bytesLess a.l b.l = true⟩
theorem le_def (a b : Txt) : a ≤ b ↔ Op.bytesLess b.l a.l = false := Iff.rfl
theorem lt_def (a b : Txt) : a < b ↔ Op.bytesLess a.l b.l = true := Iff.rfl
instance : Std.IsLinearOrder Txt where
  le_refl a := bytesLess_irrefl _
  le_trans a b c h1 h2 := bytesLess_ntrans h2 h1
  le_antisymm a b h1 h2 := by
    cases a; cases b
    rcases bytesLess_tri _ _ with h | h | h
    · rw [le_def] at h2; simp at h2; rw [h] at h2; cases h2
    · rw [h]
    · rw [le_def] at h1; simp at h1; rw [h] at h1; cases h1
  le_total a b := by
    rw [le_def, le_def]
    cases e : Op.bytesLess b.l a.l with
    | false => exact .inl rfl
    | true => exact .inr (bytesLess_asymm e)
instance : Std.LawfulOrderLT Txt where
  lt_iff a b := by
    rw [lt_def, le_def, le_def]
    constructor
    · intro h; exact ⟨bytesLess_asymm h, by rw [h]; simp⟩
    · intro ⟨_, h⟩; simpa using h
def nil : Txt := ⟨[]⟩
theorem nil_le (a : Txt) : nil ≤ a := bytesLess_nil _
end Txt
/-- from f on, below t; where t is nil, all from f on -/
structure Sp where
  f : Txt
  t : Txt
namespace Sp
def inn (k : Txt) (s : Sp) : Prop := s.f ≤ k ∧ (s.t = .nil ∨ k < s.t)
def mem (l : List Sp) (k : Txt) : Prop := ∃ s ∈ l, inn k s
def full (s : Sp) : Prop := s.t = .nil ∨ s.f < s.t
def gap (s t : Sp) : Prop := s.t ≠ .nil ∧ s.t < t.f
def Can (l : List Sp) : Prop := (∀ s ∈ l, full s) ∧ l.Pairwise gap
theorem mem_nil (k : Txt) : ¬ mem [] k := fun ⟨_, h, _⟩ => by cases h
theorem mem_cons (s : Sp) (l : List Sp) (k : Txt) : mem (s :: l) k ↔ inn k s ∨ mem l k := by simp [mem]
theorem mem_append (a b : List Sp) (k : Txt) : mem (a ++ b) k ↔ mem a k ∨ mem b k := by
  simp only [mem, List.mem_append]
  constructor
  · rintro ⟨s, h | h, hi⟩
    · exact .inl ⟨s, h, hi⟩
    · exact .inr ⟨s, h, hi⟩
  · rintro (⟨s, h, hi⟩ | ⟨s, h, hi⟩)
    · exact ⟨s, .inl h, hi⟩
    · exact ⟨s, .inr h, hi⟩
theorem Can.tail {s : Sp} {l : List Sp} (h : Can (s :: l)) : Can l := ⟨fun x hx => h.1 x (by simp [hx]), (List.pairwise_cons.1 h.2).2⟩
theorem Can.head {s : Sp} {l : List Sp} (h : Can (s :: l)) : full s := h.1 s (by simp)
theorem can_nil : Can [] := ⟨fun _ h => (by cases h), List.Pairwise.nil⟩
theorem can_cons {s : Sp} {l : List Sp} (h1 : full s) (h2 : Can l) (h3 : ∀ t ∈ l, gap s t) : Can (s :: l) :=
  ⟨fun x hx => by rcases List.mem_cons.1 hx with rfl | hx; exact h1; exact h2.1 x hx, List.pairwise_cons.2 ⟨h3, h2.2⟩⟩
theorem full_in {s : Sp} (h : full s) : inn s.f s := ⟨Std.IsPreorder.le_refl _, h⟩
/-- all behind lie behind -/
theorem Can.behind {s : Sp} {l : List Sp} (h : Can (s :: l)) {k : Txt} (hk : mem l k) : s.t ≠ .nil ∧ s.t < k := by
  obtain ⟨t, ht, h1, _⟩ := hk
  obtain ⟨h2, h3⟩ := (List.pairwise_cons.1 h.2).1 t ht
  exact ⟨h2, by grind⟩
theorem Can.ge {s : Sp} {l : List Sp} (h : Can (s :: l)) {k : Txt} (hk : mem (s :: l) k) : s.f ≤ k := by
  rcases (mem_cons _ _ _).1 hk with hk | hk
  · exact hk.1
  · obtain ⟨h1, h2⟩ := h.behind hk
    rcases h.head with h3 | h3
    · exact absurd h3 h1
    · grind
theorem Can.end_not {s : Sp} {l : List Sp} (h : Can (s :: l)) (hn : s.t ≠ .nil) : ¬ mem (s :: l) s.t := by
  intro hk
  rcases (mem_cons _ _ _).1 hk with hk | hk
  · rcases hk.2 with h2 | h2
    · exact hn h2
    · grind
  · have := (h.behind hk).2
    grind
theorem Can.tail_mem {s : Sp} {l : List Sp} (h : Can (s :: l)) (k : Txt) : mem l k ↔ mem (s :: l) k ∧ s.t ≠ .nil ∧ s.t ≤ k := by
  constructor
  · intro hk
    obtain ⟨h1, h2⟩ := h.behind hk
    exact ⟨(mem_cons _ _ _).2 (.inr hk), h1, by grind⟩
  · rintro ⟨hk, h1, h2⟩
    rcases (mem_cons _ _ _).1 hk with hk | hk
    · rcases hk.2 with h3 | h3
      · exact absurd h3 h1
      · grind
    · exact hk
theorem mem_first {s : Sp} {l : List Sp} (h : full s) : mem (s :: l) s.f := (mem_cons _ _ _).2 (.inl (full_in h))
/-- THE SAME SET IS THE SAME LIST -/
theorem can_unique : ∀ (a b : List Sp), Can a → Can b → (∀ k, mem a k ↔ mem b k) → a = b
  | [], [], _, _, _ => rfl
  | [], t :: b, _, hb, h => absurd ((h t.f).2 (mem_first hb.head)) (mem_nil _)
  | s :: a, [], ha, _, h => absurd ((h s.f).1 (mem_first ha.head)) (mem_nil _)
  | s :: a, t :: b, ha, hb, h => by
    have e1 : s.f = t.f := by
      have h1 := hb.ge ((h s.f).1 (mem_first ha.head))
      have h2 := ha.ge ((h t.f).2 (mem_first hb.head))
      exact Std.IsPartialOrder.le_antisymm _ _ h2 h1
    have key : ∀ (s t : Sp) (a b : List Sp), Can (s :: a) → Can (t :: b) → (∀ k, mem (s :: a) k ↔ mem (t :: b) k) → s.f = t.f → t.t ≠ .nil → s.t ≠ .nil ∧ s.t ≤ t.t := by
      intro s t a b ha hb h e1 hn
      have hnot : ¬ mem (s :: a) t.t := fun hk => hb.end_not hn ((h _).1 hk)
      have hft : t.f < t.t := by rcases hb.head with h1 | h1; exact absurd h1 hn; exact h1
      have hni : ¬ inn t.t s := fun hi => hnot ((mem_cons _ _ _).2 (.inl hi))
      by_cases hs : s.t = .nil
      · exact absurd ⟨by rw [e1]; grind, .inl hs⟩ hni
      · refine ⟨hs, ?_⟩
        by_cases hlt : t.t < s.t
        · exact absurd ⟨by rw [e1]; grind, .inr hlt⟩ hni
        · grind
    have e2 : s.t = t.t := by
      by_cases hs : s.t = .nil
      · by_cases ht : t.t = .nil
        · rw [hs, ht]
        · exact absurd hs (key s t a b ha hb h e1 ht).1
      · by_cases ht : t.t = .nil
        · exact absurd ht (key t s b a hb ha (fun k => (h k).symm) e1.symm hs).1
        · have h1 := (key s t a b ha hb h e1 ht).2
          have h2 := (key t s b a hb ha (fun k => (h k).symm) e1.symm hs).2
          exact Std.IsPartialOrder.le_antisymm _ _ h1 h2
    have e3 : a = b := by
      refine can_unique a b ha.tail hb.tail fun k => ?_
      rw [ha.tail_mem, hb.tail_mem, h k, e2]
    cases s; cases t
    simp at e1 e2
    rw [e1, e2, e3]
open Classical in
noncomputable def most (a b : Txt) : Txt := if a = .nil ∨ b = .nil then .nil else if a < b then b else a
/-- out is the set of p's spans, and its spans begin, and end, where spans of p do -/
structure Of (p out : List Sp) : Prop where
  can : Can out
  mem : ∀ k, mem out k ↔ mem p k
  begins : ∀ s ∈ out, ∃ x ∈ p, x.f = s.f
  ends : ∀ s ∈ out, ∃ x ∈ p, x.t = s.t
  len : out.length ≤ p.length
theorem Of.nil : Of [] [] := ⟨can_nil, fun _ => Iff.rfl, fun _ h => (by cases h), fun _ h => (by cases h), Nat.le_refl _⟩
theorem can_snoc {D : List Sp} {a : Sp} (h : Can (D ++ [a])) : Can D ∧ full a ∧ ∀ d ∈ D, gap d a := by
  refine ⟨⟨fun x hx => h.1 x (by simp [hx]), (List.pairwise_append.1 h.2).1⟩, h.1 a (by simp), fun d hd => (List.pairwise_append.1 h.2).2.2 d hd a (by simp)⟩
theorem can_snoc' {D : List Sp} {a : Sp} (h1 : Can D) (h2 : full a) (h3 : ∀ d ∈ D, gap d a) : Can (D ++ [a]) :=
  ⟨fun x hx => by rcases List.mem_append.1 hx with hx | hx; exact h1.1 x hx; simp at hx; subst hx; exact h2, List.pairwise_append.2 ⟨h1.2, by simp, fun d hd b hb => by simp at hb; subst hb; exact h3 d hd⟩⟩
/-- one that joins the last -/
theorem Of.join {p D : List Sp} {last s m : Sp} (h : Of p (D ++ [last])) (hs : full s) (hr : ∀ x ∈ p, x.f ≤ s.f) (hj : last.t = .nil ∨ s.f ≤ last.t) (hf : m.f = last.f) (ht : m.t = most last.t s.t) : Of (p ++ [s]) (D ++ [m]) := by
  obtain ⟨hD, hl, hg⟩ := can_snoc h.can
  obtain ⟨x0, hx0, ex0⟩ := h.begins last (by simp)
  have hlf : last.f ≤ s.f := by rw [← ex0]; exact hr x0 hx0
  obtain ⟨y0, hy0, ey0⟩ := h.ends last (by simp)
  have hm : full m := by
    unfold full
    rw [hf, ht]
    unfold most
    unfold full at hl hs
    split
    · exact .inl rfl
    · split <;> grind
  have hi : ∀ k, inn k m ↔ inn k last ∨ inn k s := by
    intro k
    unfold inn
    rw [hf, ht]
    unfold most
    unfold full at hl hs
    split
    · grind
    · split <;> grind
  refine ⟨can_snoc' hD hm (fun d hd => ⟨(hg d hd).1, by rw [hf]; exact (hg d hd).2⟩), fun k => ?_, fun a ha => ?_, fun a ha => ?_, ?_⟩
  · rw [mem_append, mem_append, mem_cons, mem_cons, hi, ← h.mem k, mem_append, mem_cons]
    grind [mem_nil]
  · rcases List.mem_append.1 ha with ha | ha
    · obtain ⟨x, hx, e⟩ := h.begins a (by simp [ha])
      exact ⟨x, by simp [hx], e⟩
    · simp at ha
      subst ha
      exact ⟨x0, by simp [hx0], by rw [ex0, hf]⟩
  · rcases List.mem_append.1 ha with ha | ha
    · obtain ⟨x, hx, e⟩ := h.ends a (by simp [ha])
      exact ⟨x, by simp [hx], e⟩
    · simp at ha
      subst ha
      rw [ht]
      unfold most
      split
      · rename_i h0
        rcases h0 with h0 | h0
        · exact ⟨y0, by simp [hy0], by rw [ey0, h0]⟩
        · exact ⟨s, by simp, h0⟩
      · split
        · exact ⟨s, by simp, rfl⟩
        · exact ⟨y0, by simp [hy0], ey0⟩
  · have := h.len
    simp at this ⊢
    omega
/-- one behind a gap -/
theorem Of.snoc {p out : List Sp} {s : Sp} (h : Of p out) (hs : full s) (hg : ∀ d ∈ out, gap d s) : Of (p ++ [s]) (out ++ [s]) := by
  refine ⟨can_snoc' h.can hs hg, fun k => by rw [mem_append, mem_append, h.mem k], fun a ha => ?_, fun a ha => ?_, by have := h.len; simp; omega⟩
  · rcases List.mem_append.1 ha with ha | ha
    · obtain ⟨x, hx, e⟩ := h.begins a ha
      exact ⟨x, by simp [hx], e⟩
    · simp at ha
      subst ha
      exact ⟨a, by simp, rfl⟩
  · rcases List.mem_append.1 ha with ha | ha
    · obtain ⟨x, hx, e⟩ := h.ends a ha
      exact ⟨x, by simp [hx], e⟩
    · simp at ha
      subst ha
      exact ⟨a, by simp, rfl⟩
theorem gap_all {D : List Sp} {last s : Sp} (h : Can (D ++ [last])) (hn : last.t ≠ .nil) (hl : last.t < s.f) : ∀ d ∈ D ++ [last], gap d s := by
  obtain ⟨hD, hf, hg⟩ := can_snoc h
  intro d hd
  rcases List.mem_append.1 hd with hd | hd
  · obtain ⟨h1, h2⟩ := hg d hd
    refine ⟨h1, ?_⟩
    rcases hf with h3 | h3
    · exact absurd h3 hn
    · grind
  · simp at hd
    subst hd
    exact ⟨hn, hl⟩
end Sp
end Go.Proofs.Ytaedgbkeiankcaa.P
