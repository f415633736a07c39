/- Texts of the proofs of SpanAway, SpanEach, SpanOrder, SpanSets, merged (PCut, PLess, PLessE). -/
import Derived.Test.YtjimijpkhmpilaaG5dc59ff8
import Derived.Test.YtjimijpkhmpilaaGdf599b72
/- Plain: what span.Cut comes to, of two sets: the set of both. -/
namespace Go.Proofs.Ytjimijpkhmpilaa.P
open Go.RowKit Go.Proofs.YtjimijpkhmpilaaW.PrintWords
set_option linter.unusedVariables false

theorem least_or (a b : ByteArray) : (tx (leastV a b) = tx a ∧ (tx b = .nil ∨ (tx a ≠ .nil ∧ tx a ≤ tx b))) ∨ (tx (leastV a b) = tx b ∧ tx b ≠ .nil ∧ (tx a = .nil ∨ tx b < tx a)) := by
  unfold leastV
  by_cases h1 : a.toList = []
  · have e1 := (tx_nil a).2 h1
    rw [if_pos h1]
    by_cases h2 : b.toList = []
    · have e2 := (tx_nil b).2 h2
      exact .inl ⟨by rw [e1, e2], .inl e2⟩
    · exact .inr ⟨rfl, fun e => h2 ((tx_nil b).1 e), .inl e1⟩
  · rw [if_neg h1]
    have e1 : tx a ≠ .nil := fun e => h1 ((tx_nil a).1 e)
    by_cases h2 : b.toList = []
    · rw [if_pos h2]
      exact .inl ⟨rfl, .inl ((tx_nil b).2 h2)⟩
    · rw [if_neg h2]
      have e2 : tx b ≠ .nil := fun e => h2 ((tx_nil b).1 e)
      by_cases h3 : Op.bytesLess b.toList a.toList = true
      · rw [if_pos h3]
        exact .inr ⟨rfl, e2, .inr h3⟩
      · rw [if_neg h3]
        exact .inl ⟨rfl, .inr ⟨e1, Bool.eq_false_iff.2 h3⟩⟩
theorem mxs_or (a b : ByteArray) : (tx (mxs a b) = tx a ∧ tx b ≤ tx a) ∨ (tx (mxs a b) = tx b ∧ tx a ≤ tx b) := by
  unfold mxs
  split
  · rename_i h
    exact .inr ⟨rfl, bytesLess_asymm h⟩
  · rename_i h
    exact .inl ⟨rfl, Bool.eq_false_iff.2 h⟩
theorem both_in (s t : S34) (k : Txt) : Sp.inn k (toSp (bothV s t)) ↔ Sp.inn k (toSp s) ∧ Sp.inn k (toSp t) := by
  have h1 := least_or s.f1 t.f1
  have h2 := mxs_or s.f0 t.f0
  unfold Sp.inn toSp bothV
  dsimp only
  grind
theorem in_full {k : Txt} {s : Sp} (h : Sp.inn k s) : Sp.full s := by
  unfold Sp.inn at h
  unfold Sp.full
  grind
theorem cut_spec : ∀ (n : Nat) (a b : List S34), a.length + b.length ≤ n → Sp.Can (a.map toSp) → Sp.Can (b.map toSp) → Sp.Can ((cutN n a b).map toSp) ∧ ∀ k : Txt, Sp.mem ((cutN n a b).map toSp) k ↔ Sp.mem (a.map toSp) k ∧ Sp.mem (b.map toSp) k
  | n, [], b, _, _, _ => by
    rw [cutN_nil]
    exact ⟨Sp.can_nil, fun k => by simp [Sp.mem_nil]⟩
  | n, s :: a, [], _, _, _ => by
    rw [cutN_nil2]
    exact ⟨Sp.can_nil, fun k => by simp [Sp.mem_nil]⟩
  | 0, s :: a, t :: b, h, _, _ => by simp at h
  | n + 1, s :: a, t :: b, h, ha, hb => by
    simp only [List.length_cons] at h
    rw [List.map_cons] at ha hb
    have hL := least_or s.f1 t.f1
    have hbi := both_in s t
    have hbt : (toSp (bothV s t)).t = tx (leastV s.f1 t.f1) := rfl
    have hst : (toSp s).t = tx s.f1 := rfl
    have htt : (toSp t).t = tx t.f1 := rfl
    -- what is behind
    obtain ⟨hc, hm, hg⟩ : Sp.Can ((if (bothV s t).f1.toList = s.f1.toList then cutN n a (t :: b) else cutN n (s :: a) b).map toSp) ∧
        (∀ k, (Sp.mem (toSp s :: a.map toSp) k ∧ Sp.mem (toSp t :: b.map toSp) k) ↔ Sp.inn k (toSp (bothV s t)) ∨ Sp.mem ((if (bothV s t).f1.toList = s.f1.toList then cutN n a (t :: b) else cutN n (s :: a) b).map toSp) k) ∧
        (∀ k, Sp.mem ((if (bothV s t).f1.toList = s.f1.toList then cutN n a (t :: b) else cutN n (s :: a) b).map toSp) k → (toSp (bothV s t)).t ≠ .nil ∧ (toSp (bothV s t)).t < k) := by
      by_cases c : (bothV s t).f1.toList = s.f1.toList
      · have c' : tx (leastV s.f1 t.f1) = tx s.f1 := by unfold tx; exact congrArg Txt.mk c
        simp only [if_pos c]
        obtain ⟨h1, h2⟩ := cut_spec n a (t :: b) (by simp only [List.length_cons]; omega) ha.tail (by rw [List.map_cons]; exact hb)
        rw [List.map_cons] at h2
        refine ⟨h1, fun k => ?_, fun k hk => ?_⟩
        · rw [h2, hbi, Sp.mem_cons, Sp.mem_cons]
          have hb1 := fun h => hb.behind (k := k) h
          rw [htt] at hb1
          unfold Sp.inn
          rw [hst, htt]
          grind
        · have := ha.behind ((h2 k).1 hk).1
          rw [hbt, c']
          exact this
      · have c' : tx (leastV s.f1 t.f1) ≠ tx s.f1 := fun e => c (congrArg Txt.l e)
        simp only [if_neg c]
        obtain ⟨h1, h2⟩ := cut_spec n (s :: a) b (by simp only [List.length_cons]; omega) (by rw [List.map_cons]; exact ha) hb.tail
        rw [List.map_cons] at h2
        have hL2 : tx (leastV s.f1 t.f1) = tx t.f1 ∧ tx t.f1 ≠ .nil ∧ (tx s.f1 = .nil ∨ tx t.f1 < tx s.f1) := by
          rcases hL with h | h
          · exact absurd h.1 c'
          · exact h
        refine ⟨h1, fun k => ?_, fun k hk => ?_⟩
        · rw [h2, hbi, Sp.mem_cons, Sp.mem_cons]
          have ha1 := fun h => ha.behind (k := k) h
          rw [hst] at ha1
          unfold Sp.inn
          rw [hst, htt]
          grind
        · have := hb.behind ((h2 k).1 hk).2
          rw [hbt, hL2.1]
          exact this
    unfold cutN
    generalize (if (bothV s t).f1.toList = s.f1.toList then cutN n a (t :: b) else cutN n (s :: a) b) = R at *
    by_cases cf : fullSp (bothV s t) = true
    · rw [if_pos cf, List.singleton_append, List.map_cons]
      refine ⟨Sp.can_cons ((fullSp_iff _).1 cf) hc (fun x hx => ?_), fun k => ?_⟩
      · exact hg x.f ⟨x, hx, Sp.full_in (hc.1 x hx)⟩
      · rw [Sp.mem_cons, List.map_cons, List.map_cons, hm]
    · rw [if_neg cf, List.nil_append]
      refine ⟨hc, fun k => ?_⟩
      rw [List.map_cons, List.map_cons, hm]
      constructor
      · exact .inr
      · rintro (h | h)
        · exact absurd ((fullSp_iff _).2 (in_full h)) cf
        · exact h
end Go.Proofs.Ytjimijpkhmpilaa.P
/- Plain: what span.Less comes to, of two sets: the set of what is in the first alone. -/
namespace Go.Proofs.Ytjimijpkhmpilaa.P
open Go.RowKit Go.Proofs.YtjimijpkhmpilaaW.PrintWords
set_option linter.unusedVariables false

def beforeB (e k : ByteArray) : Bool := if e.toList = [] then false else !(Op.bytesLess k.toList e.toList)
def leftB (t r : ByteArray) : Bool := if t.toList = [] then false else if r.toList = [] then true else Op.bytesLess t.toList r.toList
theorem before_iff (e k : ByteArray) : beforeB e k = true ↔ tx e ≠ .nil ∧ tx e ≤ tx k := by
  unfold beforeB
  by_cases h : e.toList = []
  · rw [if_pos h]
    have := (tx_nil e).2 h
    grind
  · rw [if_neg h]
    have h1 : tx e ≠ .nil := fun x => h ((tx_nil e).1 x)
    rw [Bool.not_eq_true']
    exact ⟨fun h => ⟨h1, h⟩, fun h => h.2⟩
theorem left_iff (t r : ByteArray) : leftB t r = true ↔ tx t ≠ .nil ∧ (tx r = .nil ∨ tx t < tx r) := by
  unfold leftB
  by_cases h : t.toList = []
  · rw [if_pos h]
    have := (tx_nil t).2 h
    grind
  · rw [if_neg h]
    have h1 : tx t ≠ .nil := fun x => h ((tx_nil t).1 x)
    by_cases h2 : r.toList = []
    · rw [if_pos h2]
      have := (tx_nil r).2 h2
      grind
    · rw [if_neg h2]
      have h3 : tx r ≠ .nil := fun x => h2 ((tx_nil r).1 x)
      exact ⟨fun h => ⟨h1, .inr h⟩, fun h => h.2.resolve_left h3⟩
def lessOne (rt : ByteArray) : ByteArray → List S34 → List S34
  | rf, [] => [⟨rf, rt⟩]
  | rf, t :: b => if beforeB t.f1 rf = true then lessOne rt rf b else if beforeB rt t.f0 = true then [⟨rf, rt⟩] else
      (if Op.bytesLess rf.toList t.f0.toList = true then [⟨rf, t.f0⟩] else []) ++ (if leftB t.f1 rt = true then lessOne rt t.f1 b else [])
def lessAll (a b : List S34) : List S34 := a.flatMap fun s => lessOne s.f1 s.f0 b
theorem can_append {A B : List Sp} (hA : Sp.Can A) (hB : Sp.Can B) (h : ∀ x ∈ A, ∀ y ∈ B, Sp.gap x y) : Sp.Can (A ++ B) :=
  ⟨fun x hx => by rcases List.mem_append.1 hx with hx | hx; exact hA.1 x hx; exact hB.1 x hx, List.pairwise_append.2 ⟨hA.2, hB.2, h⟩⟩
theorem one_spec (rt : ByteArray) : ∀ (b : List S34) (rf : ByteArray), Sp.full ⟨tx rf, tx rt⟩ → Sp.Can (b.map toSp) → Sp.Can ((lessOne rt rf b).map toSp) ∧ ∀ k : Txt, Sp.mem ((lessOne rt rf b).map toSp) k ↔ Sp.inn k ⟨tx rf, tx rt⟩ ∧ ¬ Sp.mem (b.map toSp) k
  | [], rf, hf, _ => ⟨Sp.can_cons hf Sp.can_nil (fun _ h => by cases h), fun k => by simp [lessOne, Sp.mem_cons, Sp.mem_nil, toSp]⟩
  | t :: b, rf, hf, hb => by
    rw [List.map_cons] at hb
    have hbe := fun k h => hb.behind (k := k) h
    have hge := fun k h => hb.ge (k := k) h
    have htf := hb.head
    have e1 : (toSp t).f = tx t.f0 := rfl
    have e2 : (toSp t).t = tx t.f1 := rfl
    rw [e2] at hbe
    rw [e1] at hge
    unfold Sp.full at hf htf
    rw [e1, e2] at htf
    dsimp only at hf
    unfold lessOne
    by_cases c1 : beforeB t.f1 rf = true
    · rw [if_pos c1]
      obtain ⟨h1, h2⟩ := one_spec rt b rf hf hb.tail
      refine ⟨h1, fun k => ?_⟩
      have := (before_iff _ _).1 c1
      rw [h2, List.map_cons, Sp.mem_cons]
      unfold Sp.inn
      rw [e1, e2]
      dsimp only
      grind
    · rw [if_neg c1]
      by_cases c2 : beforeB rt t.f0 = true
      · rw [if_pos c2]
        have h3 := (before_iff _ _).1 c2
        refine ⟨Sp.can_cons hf Sp.can_nil (fun _ h => by cases h), fun k => ?_⟩
        rw [List.map_cons, List.map_cons, Sp.mem_cons, List.map_nil]
        have hg := hge k
        have hn := Sp.mem_nil k
        have e3 : toSp (⟨rf, rt⟩ : S34) = ⟨tx rf, tx rt⟩ := rfl
        rw [e3]
        unfold Sp.inn
        dsimp only
        grind
      · rw [if_neg c2]
        have n1 := fun h => c1 ((before_iff _ _).2 h)
        have n2 := fun h => c2 ((before_iff _ _).2 h)
        have hR : Sp.Can ((if leftB t.f1 rt = true then lessOne rt t.f1 b else []).map toSp) ∧ ∀ k, Sp.mem ((if leftB t.f1 rt = true then lessOne rt t.f1 b else []).map toSp) k ↔ leftB t.f1 rt = true ∧ Sp.inn k ⟨tx t.f1, tx rt⟩ ∧ ¬ Sp.mem (b.map toSp) k := by
          by_cases c3 : leftB t.f1 rt = true
          · have h4 := (left_iff _ _).1 c3
            obtain ⟨h1, h2⟩ := one_spec rt b t.f1 h4.2 hb.tail
            rw [if_pos c3]
            exact ⟨h1, fun k => by rw [h2]; simp [c3]⟩
          · rw [if_neg c3]
            exact ⟨Sp.can_nil, fun k => by simp [Sp.mem_nil, c3]⟩
        generalize (if leftB t.f1 rt = true then lessOne rt t.f1 b else []) = R at *
        obtain ⟨hRc, hRm⟩ := hR
        have hlf := left_iff t.f1 rt
        have hmem : ∀ k, (Sp.inn k ⟨tx rf, tx rt⟩ ∧ ¬ Sp.mem (toSp t :: b.map toSp) k) ↔ (tx rf < tx t.f0 ∧ Sp.inn k ⟨tx rf, tx t.f0⟩) ∨ Sp.mem (R.map toSp) k := by
          intro k
          have hbk := hbe k
          have hnn : tx rf < tx t.f0 → tx t.f0 ≠ .nil := Sp.not_nil
          rw [hRm, hlf, Sp.mem_cons]
          unfold Sp.inn
          rw [e1, e2]
          dsimp only
          grind
        by_cases c4 : Op.bytesLess rf.toList t.f0.toList = true
        · have c4' : tx rf < tx t.f0 := c4
          rw [if_pos c4, List.singleton_append, List.map_cons]
          have e3 : toSp (⟨rf, t.f0⟩ : S34) = ⟨tx rf, tx t.f0⟩ := rfl
          rw [e3]
          refine ⟨Sp.can_cons (.inr c4') hRc (fun x hx => ?_), fun k => ?_⟩
          · have h5 := (hRm x.f).1 ⟨x, hx, Sp.full_in (hRc.1 x hx)⟩
            have h6 := h5.2.1.1
            have h7 := (hlf.1 h5.1).1
            refine ⟨Sp.not_nil c4', ?_⟩
            dsimp only at h6 ⊢
            grind
          · rw [Sp.mem_cons, List.map_cons, hmem]
            grind
        · have c4' : ¬ tx rf < tx t.f0 := c4
          rw [if_neg c4, List.nil_append]
          refine ⟨hRc, fun k => ?_⟩
          rw [List.map_cons, hmem]
          grind
theorem all_spec (b : List S34) (hb : Sp.Can (b.map toSp)) : ∀ a : List S34, Sp.Can (a.map toSp) → Sp.Can ((lessAll a b).map toSp) ∧ ∀ k : Txt, Sp.mem ((lessAll a b).map toSp) k ↔ Sp.mem (a.map toSp) k ∧ ¬ Sp.mem (b.map toSp) k
  | [], _ => ⟨Sp.can_nil, fun k => by simp [lessAll, Sp.mem_nil]⟩
  | s :: a, ha => by
    rw [List.map_cons] at ha
    obtain ⟨h1, h2⟩ := all_spec b hb a ha.tail
    obtain ⟨h3, h4⟩ := one_spec s.f1 b s.f0 ha.head hb
    have e : lessAll (s :: a) b = lessOne s.f1 s.f0 b ++ lessAll a b := by simp [lessAll]
    rw [e, List.map_append]
    refine ⟨can_append h3 h1 (fun x hx y hy => ?_), fun k => ?_⟩
    · obtain ⟨h5, h6⟩ := ha.behind ((h2 y.f).1 ⟨y, hy, Sp.full_in (h1.1 y hy)⟩).1
      have h7 := ((h4 x.f).1 ⟨x, hx, Sp.full_in (h3.1 x hx)⟩).1
      have h8 : ¬ Sp.inn (tx s.f1) x := fun hi => by
        have h9 := ((h4 _).1 ⟨x, hx, hi⟩).1
        unfold Sp.inn at h9
        have e2 : (toSp s).t = tx s.f1 := rfl
        rw [e2] at h5
        dsimp only at h9
        grind
      have e2 : (toSp s).t = tx s.f1 := rfl
      rw [e2] at h5 h6
      unfold Sp.inn at h7 h8
      dsimp only at h7
      unfold Sp.gap
      grind
    · rw [Sp.mem_append, h2, h4, List.map_cons, Sp.mem_cons]
      have e2 : toSp s = ⟨tx s.f0, tx s.f1⟩ := rfl
      rw [e2]
      grind
theorem one_len (rt : ByteArray) : ∀ (b : List S34) (rf : ByteArray), (lessOne rt rf b).length ≤ b.length + 1
  | [], rf => by simp [lessOne]
  | t :: b, rf => by
    have h1 := one_len rt b rf
    have h2 := one_len rt b t.f1
    unfold lessOne
    rw [List.length_cons]
    split
    · omega
    · split
      · simp
      · rw [List.length_append]
        split <;> split <;> simp <;> omega
theorem all_len (a b : List S34) : (lessAll a b).length ≤ a.length * (b.length + 1) := by
  induction a with
  | nil => simp [lessAll]
  | cons s a ih =>
    have h1 := one_len s.f1 b s.f0
    have e : lessAll (s :: a) b = lessOne s.f1 s.f0 b ++ lessAll a b := by simp [lessAll]
    rw [e, List.length_append, List.length_cons, Nat.add_mul, Nat.one_mul]
    omega
theorem cut_len : ∀ (n : Nat) (a b : List S34), (cutN n a b).length ≤ n
  | n, [], b => by rw [cutN_nil]; exact Nat.zero_le _
  | n, s :: a, [] => by rw [cutN_nil2]; exact Nat.zero_le _
  | 0, s :: a, t :: b => by simp [cutN]
  | n + 1, s :: a, t :: b => by
    have h1 := cut_len n a (t :: b)
    have h2 := cut_len n (s :: a) b
    unfold cutN
    rw [List.length_append]
    split <;> split <;> simp <;> omega
end Go.Proofs.Ytjimijpkhmpilaa.P
/- Plain: span.Less, as printed, comes to lessAll. -/
namespace Go.Proofs.Ytjimijpkhmpilaa.P
open Go.RowKit Go.Proofs.YtjimijpkhmpilaaW.PrintWords
set_option linter.unusedVariables false

theorem before_f (e k : ByteArray) : span_end_before.f e k = some (beforeB e k) := by
  unfold span_end_before.f beforeB
  split <;> rfl
theorem left_br {α : Type} (g : Bool → α) (t r : ByteArray) : (if t.toList = ([] : List UInt8) then g false else (if r.toList = ([] : List UInt8) then g true else g (Op.bytesLess t.toList r.toList))) = g (leftB t r) := by
  unfold leftB
  split
  · rfl
  · split <;> rfl
theorem rd_out (l : List S34) (x y : List S34) (h : x = y) : l ++ x = l ++ y := by rw [h]
section
variable (a b : List S34)
theorem less_l1 (hb : b.length ≤ 1000) (i : Nat) (hi : i < 1000) (rt : ByteArray)
    (hnext : ∀ out : List S34, out.length ≤ (i + 1) * 1001 → Ev (fun k => span_Less.l0 k b out a (a.length : Int) ((i + 1 : Nat) : Int)) (out ++ lessAll (a.drop (i + 1)) b)) :
    ∀ (d j : Nat) (out : List S34) (rf : ByteArray), j ≤ b.length → b.length - j = d → out.length ≤ i * 1001 + j →
      Ev (fun k => span_Less.l1 k b out false a (a.length : Int) (i : Int) b (b.length : Int) (j : Int) rf rt) (out ++ lessAll (a.drop (i + 1)) b) ∧
      Ev (fun k => span_Less.l1 k b out true a (a.length : Int) (i : Int) b (b.length : Int) (j : Int) rf rt) (out ++ (lessOne rt rf (b.drop j) ++ lessAll (a.drop (i + 1)) b)) := by
  have hwi : wrap64 ((i : Int) + 1) = ((i + 1 : Nat) : Int) := by rw [wrap_in] <;> omega
  intro d
  induction d with
  | zero =>
    intro j out rf hj hd ho
    have h1 : ¬ (j : Int) < (b.length : Int) := by omega
    have hl : out.length < 4398046511104 := by omega
    refine ⟨Ev.step (fun k => by simp only [span_Less.l1, if_neg h1, Bool.false_eq_true, if_false, hwi] <;> rfl) (hnext out (by omega)), ?_⟩
    rw [List.drop_eq_nil_of_le (by omega)]
    exact Ev.step (fun k => by simp only [span_Less.l1, if_neg h1, if_true, if_pos hl, hwi] <;> rfl) (Ev.eq (hnext (out ++ [⟨rf, rt⟩]) (by simp; omega)) (by simp [lessOne]))
  | succ d ih =>
    intro j out rf hj hd ho
    have h1 : (j : Int) < (b.length : Int) := by omega
    have h0 : (0 : Int) ≤ (j : Int) := by omega
    have hjl : j < b.length := by omega
    have hw : wrap64 ((j : Int) + 1) = ((j + 1 : Nat) : Int) := by rw [wrap_in] <;> omega
    have hl : out.length < 4398046511104 := by omega
    obtain ⟨ihF, ihT⟩ := ih (j + 1) out rf (by omega) (by omega) (by omega)
    constructor
    · exact Ev.step (fun k => by simp only [span_Less.l1, if_pos h1, if_pos h0, Bool.false_eq_true, if_false] <;> rfl)
        (Ev.step (fun k => by simp only [span_Less.j2, if_true, hw] <;> rfl) ihF)
    · rw [List.drop_eq_getElem_cons hjl]
      refine Ev.step (fun k => by simp only [span_Less.l1, if_pos h1, if_pos h0, if_true, rd_at b j hjl, before_f, Option.bind_some] <;> rfl) ?_
      generalize b[j] = t
      unfold lessOne
      cases c1 : beforeB t.f1 rf with
      | true =>
        simp only [if_true]
        exact Ev.step (fun k => by simp only [span_Less.j2, if_true, hw] <;> rfl) ihT
      | false =>
        simp only [Bool.false_eq_true, if_false]
        cases c2 : beforeB rt t.f0 with
        | true =>
          simp only [if_true]
          exact Ev.step (fun k => by simp only [span_Less.j2, Bool.false_eq_true, if_false, before_f, c2, Option.bind_some, if_true, if_pos hl, hwi] <;> rfl) (Ev.eq (hnext (out ++ [⟨rf, rt⟩]) (by simp; omega)) (by simp))
        | false =>
          simp only [Bool.false_eq_true, if_false]
          have hend : ∀ out' : List S34, out'.length ≤ i * 1001 + (j + 1) → Ev (fun k => span_Less.l1 k b out' (leftB t.f1 rt) a (a.length : Int) (i : Int) b (b.length : Int) ((j + 1 : Nat) : Int) t.f1 rt) (out' ++ ((if leftB t.f1 rt = true then lessOne rt t.f1 (b.drop (j + 1)) else []) ++ lessAll (a.drop (i + 1)) b)) := by
            intro out' h'
            obtain ⟨f1, f2⟩ := ih (j + 1) out' t.f1 (by omega) (by omega) (by omega)
            cases leftB t.f1 rt with
            | true => simpa using f2
            | false => simpa using f1
          cases c4 : Op.bytesLess rf.toList t.f0.toList with
          | true =>
            refine Ev.step (fun k => ?_) (Ev.eq (hend (out ++ [⟨rf, t.f0⟩]) (by simp; omega)) (by simp))
            simp only [span_Less.j2, Bool.false_eq_true, if_false, before_f, c2, Option.bind_some, c4, if_true, if_pos hl, hw]
            exact left_br (fun v => span_Less.l1 k b (out ++ [⟨rf, t.f0⟩]) v a (a.length : Int) (i : Int) b (b.length : Int) ((j + 1 : Nat) : Int) t.f1 rt) _ _
          | false =>
            refine Ev.step (fun k => ?_) (Ev.eq (hend out (by omega)) (by simp))
            simp only [span_Less.j2, Bool.false_eq_true, if_false, before_f, c2, Option.bind_some, c4, hw]
            exact left_br (fun v => span_Less.l1 k b out v a (a.length : Int) (i : Int) b (b.length : Int) ((j + 1 : Nat) : Int) t.f1 rt) _ _
theorem less_l0 (ha : a.length ≤ 1000) (hb : b.length ≤ 1000) : ∀ (d i : Nat) (out : List S34), i ≤ a.length → a.length - i = d → out.length ≤ i * 1001 → Ev (fun k => span_Less.l0 k b out a (a.length : Int) (i : Int)) (out ++ lessAll (a.drop i) b) := by
  intro d
  induction d with
  | zero =>
    intro i out hi hd ho
    have h1 : ¬ (i : Int) < (a.length : Int) := by omega
    rw [List.drop_eq_nil_of_le (by omega)]
    exact Ev.step (fun k => by simp only [span_Less.l0, if_neg h1] <;> rfl) (Ev.eq (Ev.val out) (by simp [lessAll]))
  | succ d ih =>
    intro i out hi hd ho
    have h1 : (i : Int) < (a.length : Int) := by omega
    have h0 : (0 : Int) ≤ (i : Int) := by omega
    have hil : i < a.length := by omega
    have e : lessAll (a.drop i) b = lessOne a[i].f1 a[i].f0 (b.drop 0) ++ lessAll (a.drop (i + 1)) b := by
      rw [List.drop_eq_getElem_cons hil, List.drop_zero]
      simp only [lessAll, List.flatMap_cons]
    rw [e]
    have h2 := (less_l1 a b hb i (by omega) a[i].f1 (fun out' h' => ih (i + 1) out' (by omega) (by omega) h') b.length 0 out a[i].f0 (Nat.zero_le _) (Nat.sub_zero _) (Nat.le_trans ho (Nat.le_add_right _ _))).2
    refine Ev.step (fun k => ?_) h2
    simp only [span_Less.l0, if_pos h1, if_pos h0, rd_at a i hil]
    rfl
theorem less_ev (ha : a.length ≤ 1000) (hb : b.length ≤ 1000) : Ev (fun k => span_Less.f k a b) (lessAll a b) := less_l0 a b ha hb a.length 0 [] (by omega) (by omega) (by simp)
end
end Go.Proofs.Ytjimijpkhmpilaa.P
