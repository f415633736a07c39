/- Texts of the proofs of CmdGrows, CmdPlays, merged (P9h, P9i, PPlays). -/
import Derived.Test.YtbljhngekhgbbaaGreatGb3b707fa
import Derived.Test.YtbljhngekhgbbaaGreatGb43ee308
import Derived.Test.YtbljhngekhgbbaaGreatG9c20b58a
import Derived.Test.YtbljhngekhgbbaaGreatG6e0496cb
import Derived.Test.YtbljhngekhgbbaaGreatG20caf6cc
import Derived.Test.YtbljhngekhgbbaaGreatGf0b3007f
import Derived.Test.YtbljhngekhgbbaaGreatG0f2df3e7
import Derived.Test.YtbljhngekhgbbaaGreatG7be370e0
import Derived.Test.YtbljhngekhgbbaaGreatG15131814
import Derived.Test.YtbljhngekhgbbaaGreatG01690cca
import Derived.Test.YtbljhngekhgbbaaGreatG0abb3d8d
import Derived.Test.YtbljhngekhgbbaaGreatGe5440ce6
import Derived.Test.YtbljhngekhgbbaaGreatG06d599ac
import Derived.Test.YtbljhngekhgbbaaGreatG2eb54c3b
import Derived.Test.YtbljhngekhgbbaaGreatG7905db0f
import Derived.Test.YtbljhngekhgbbaaGreatGce5f1358
import Derived.Test.YtbljhngekhgbbaaGreatG416aaa5c
import Derived.Test.YtbljhngekhgbbaaGreatG61d85f5b
import Derived.Test.YtbljhngekhgbbaaGreatG402eeab4
import Derived.Test.YtbljhngekhgbbaaGreatG31ac927f
import Derived.Test.YtbljhngekhgbbaaGreatGad551571
import Derived.Test.YtbljhngekhgbbaaGreatG2b473ce7
import Derived.Test.YtbljhngekhgbbaaGreatG68d54092
import Derived.Test.YtbljhngekhgbbaaGreatGb3f77d99
import Derived.Test.YtbljhngekhgbbaaGreatG93612b59
import Derived.Test.YtbljhngekhgbbaaGreatG339d55ae
import Derived.Test.YtbljhngekhgbbaaGreatG26b4b785
import Derived.Test.YtbljhngekhgbbaaGreatGb89376ef
import Derived.Test.YtbljhngekhgbbaaGreatG852ba3f0
import Derived.Test.YtbljhngekhgbbaaGreatG2fc397cf
import Derived.Test.YtbljhngekhgbbaaGreatG353104c5
set_option linter.unusedSimpArgs false
set_option linter.unusedVariables false
namespace Go.Proofs.YtbljhngekhgbbaaGreat
open Go.RowKit
set_option linter.unusedVariables false
set_option linter.unusedSimpArgs false
/-- all that an act hands in, by its sizes and kinds -/
structure GA (a : MAct) : Prop where
  ops : a.ops.length ≤ 140737488355328 ∧ ∀ o ∈ a.ops, gOp o
  deps : gD a.deps
  value : gD a.value.deps
  writes : gWr a.writes
  pairs : gPr a.pairs
theorem gA_of {a : MAct} (h : g_act09 a) : GA a := by
  obtain ⟨_, h1, _, _, _, h2, h3, h4, h5, _⟩ := h
  exact ⟨gOps_of h1, gD_of h2, gD_of h3.2.2.1, gWr_of h4, gPr_of h5⟩
theorem small_some (c : MCmd) (h1 : c.ops.length ≤ 140737488355328) (h2 : c.seen.length ≤ 140737488355328) (h3 : c.value.deps.length ≤ 140737488355328) (h4 : c.writes.length ≤ 140737488355328) (h5 : c.pairs.length ≤ 140737488355328) : ∃ r, law09_small_o c = some r := by
  have q0 : ∀ b : Int, ∃ b' : Int, lim law09_small_s0 (c, b, 0, ()) = some (.inr (c, b', ())) := fun b => by
    have hl : c.2.length ≤ 140737488355328 := h1
    obtain ⟨x, e1, e2⟩ := lim_inv (step := law09_small_s0) (fun n d => ∃ (i : Nat) (b : Int), i ≤ c.2.length ∧ n = c.2.length - i ∧ d = (c, b, (i : Int), ())) (fun x => ∃ b' : Int, x = .inr (c, b', ())) (by
      rintro n d ⟨i, b, hi, rfl, rfl⟩
      by_cases hlt : i < c.2.length
      · exact .inl ⟨_, c.2.length - (i + 1), by simp only [law09_small_s0, lt_cast, ix', Int.toNat_natCast, hlt, decide_true, cond_true, wrap_succ (show i < 9223372036854775807 by omega)]; rfl, by omega, i + 1, _, by omega, rfl, rfl⟩
      · exact .inr (.inr ⟨_, by simp only [law09_small_s0, lt_cast, hlt, decide_false, cond_false]; rfl, _, rfl⟩)) _ _ ⟨0, b, Nat.zero_le _, rfl, rfl⟩
    obtain ⟨b', rfl⟩ := e2
    exact ⟨b', e1⟩
  have q1 : ∀ b : Int, ∃ b' : Int, lim law09_small_s1 (c, b, 0, ()) = some (.inr (c, b', ())) := fun b => by
    have hl : c.7.length ≤ 140737488355328 := h2
    obtain ⟨x, e1, e2⟩ := lim_inv (step := law09_small_s1) (fun n d => ∃ (i : Nat) (b : Int), i ≤ c.7.length ∧ n = c.7.length - i ∧ d = (c, b, (i : Int), ())) (fun x => ∃ b' : Int, x = .inr (c, b', ())) (by
      rintro n d ⟨i, b, hi, rfl, rfl⟩
      by_cases hlt : i < c.7.length
      · exact .inl ⟨_, c.7.length - (i + 1), by simp only [law09_small_s1, lt_cast, ix', Int.toNat_natCast, hlt, decide_true, cond_true, wrap_succ (show i < 9223372036854775807 by omega)]; rfl, by omega, i + 1, _, by omega, rfl, rfl⟩
      · exact .inr (.inr ⟨_, by simp only [law09_small_s1, lt_cast, hlt, decide_false, cond_false]; rfl, _, rfl⟩)) _ _ ⟨0, b, Nat.zero_le _, rfl, rfl⟩
    obtain ⟨b', rfl⟩ := e2
    exact ⟨b', e1⟩
  have q2 : ∀ b : Int, ∃ b' : Int, lim law09_small_s2 (c, b, 0, ()) = some (.inr (c, b', ())) := fun b => by
    have hl : c.11.3.length ≤ 140737488355328 := h3
    obtain ⟨x, e1, e2⟩ := lim_inv (step := law09_small_s2) (fun n d => ∃ (i : Nat) (b : Int), i ≤ c.11.3.length ∧ n = c.11.3.length - i ∧ d = (c, b, (i : Int), ())) (fun x => ∃ b' : Int, x = .inr (c, b', ())) (by
      rintro n d ⟨i, b, hi, rfl, rfl⟩
      by_cases hlt : i < c.11.3.length
      · exact .inl ⟨_, c.11.3.length - (i + 1), by simp only [law09_small_s2, lt_cast, ix', Int.toNat_natCast, hlt, decide_true, cond_true, wrap_succ (show i < 9223372036854775807 by omega)]; rfl, by omega, i + 1, _, by omega, rfl, rfl⟩
      · exact .inr (.inr ⟨_, by simp only [law09_small_s2, lt_cast, hlt, decide_false, cond_false]; rfl, _, rfl⟩)) _ _ ⟨0, b, Nat.zero_le _, rfl, rfl⟩
    obtain ⟨b', rfl⟩ := e2
    exact ⟨b', e1⟩
  have q3 : ∀ b : Int, ∃ b' : Int, lim law09_small_s3 (c, b, 0, ()) = some (.inr (c, b', ())) := fun b => by
    have hl : c.13.length ≤ 140737488355328 := h4
    obtain ⟨x, e1, e2⟩ := lim_inv (step := law09_small_s3) (fun n d => ∃ (i : Nat) (b : Int), i ≤ c.13.length ∧ n = c.13.length - i ∧ d = (c, b, (i : Int), ())) (fun x => ∃ b' : Int, x = .inr (c, b', ())) (by
      rintro n d ⟨i, b, hi, rfl, rfl⟩
      by_cases hlt : i < c.13.length
      · exact .inl ⟨_, c.13.length - (i + 1), by simp only [law09_small_s3, lt_cast, ix', Int.toNat_natCast, hlt, decide_true, cond_true, wrap_succ (show i < 9223372036854775807 by omega)]; rfl, by omega, i + 1, _, by omega, rfl, rfl⟩
      · exact .inr (.inr ⟨_, by simp only [law09_small_s3, lt_cast, hlt, decide_false, cond_false]; rfl, _, rfl⟩)) _ _ ⟨0, b, Nat.zero_le _, rfl, rfl⟩
    obtain ⟨b', rfl⟩ := e2
    exact ⟨b', e1⟩
  have q4 : ∀ b : Int, ∃ b' : Int, lim law09_small_s4 (c, b, 0, ()) = some (.inr (b', ())) := fun b => by
    have hl : c.14.length ≤ 140737488355328 := h5
    obtain ⟨x, e1, e2⟩ := lim_inv (step := law09_small_s4) (fun n d => ∃ (i : Nat) (b : Int), i ≤ c.14.length ∧ n = c.14.length - i ∧ d = (c, b, (i : Int), ())) (fun x => ∃ b' : Int, x = .inr (b', ())) (by
      rintro n d ⟨i, b, hi, rfl, rfl⟩
      by_cases hlt : i < c.14.length
      · exact .inl ⟨_, c.14.length - (i + 1), by simp only [law09_small_s4, lt_cast, ix', Int.toNat_natCast, hlt, decide_true, cond_true, wrap_succ (show i < 9223372036854775807 by omega)]; rfl, by omega, i + 1, _, by omega, rfl, rfl⟩
      · exact .inr (.inr ⟨_, by simp only [law09_small_s4, lt_cast, hlt, decide_false, cond_false]; rfl, _, rfl⟩)) _ _ ⟨0, b, Nat.zero_le _, rfl, rfl⟩
    obtain ⟨b', rfl⟩ := e2
    exact ⟨b', e1⟩
  obtain ⟨b0, e0⟩ := q0 0
  obtain ⟨b1, e1⟩ := q1 b0
  obtain ⟨b2, e2⟩ := q2 b1
  obtain ⟨b3, e3⟩ := q3 b2
  obtain ⟨b4, e4⟩ := q4 b3
  unfold law09_small_o
  generalize decide (120 < IntKind.i64.wrap (IntKind.i64.wrap (IntKind.i64.wrap (IntKind.i64.wrap ((c.2.length : Int) + (c.7.length : Int)) + (c.11.3.length : Int)) + (c.13.length : Int)) + (c.14.length : Int))) = n
  cases n with
  | true => exact ⟨_, rfl⟩
  | false =>
    simp only [cond_false, law09_small_ok0, law09_small_rb0, law09_small_e0, e0, Option.isSome_some, isR, getE, cond_true, law09_small_ok1, law09_small_rb1, law09_small_e1, e1, law09_small_ok2, law09_small_rb2, law09_small_e2, e2, law09_small_ok3, law09_small_rb3, law09_small_e3, e3, law09_small_ok4, law09_small_rb4, law09_small_e4, e4]
    generalize decide (b4 ≤ 20000) = m
    cases m <;> exact ⟨_, rfl⟩
/-- may all that an act hands in be? -/
structure Right (a : MAct) (id : MStamp) : Prop where
  ops : opsC a.ops = 0
  ballot : ref09_Ballot a.a = true
  is : ref01_Is a.b = true
  less : ref01_Less a.b id = false
  deps : depsC a.deps = 0
  value : vB a.value = true
  writes : writesB a.writes = true
  pairs : pairsB a.pairs = true
theorem right_some {a : MAct} (h : GA a) (id : MStamp) : ∃ r, law09_right_o a id = some r ∧ (r = true → Right a id) := by
  obtain ⟨r0, e0⟩ := small_some ⟨⟨0, 0⟩, a.ops, 0, ⟨0, 0⟩, ⟨0, 0⟩, false, a.deps, ⟨0, 0⟩, false, ⟨0, 0⟩, a.value, false, a.writes, a.pairs⟩ h.ops.1 h.deps.1 h.value.1 h.writes.1 h.pairs.1
  have e1 : ref08_Check_o a.2 = some (opsC a.ops) := ref08_Check_eq h.ops.1
  have e2 : ref06_Check_o a.6 = some (depsC a.deps) := ref06_Check_eq h.deps
  have e3 : ref09_Value_o a.7 = some (vB a.value) := by rw [← valB_eq]; exact ref09_Value_eq h.value
  have e4 : ref09_Writes_o a.8 = some (writesB a.writes) := ref09_Writes_eq h.writes.1
  have e5 : ref08_Data_o a.9 = some (pairsB a.pairs) := ref08_Data_eq h.pairs.1
  unfold law09_right_o
  have e0' : law09_small_o { id := { time := 0, node := 0 }, ops := a.2, phase := 0, promise := { time := 0, node := 0 }, vote := { time := 0, node := 0 }, fast := false, seen := a.6, bound := { time := 0, node := 0 }, has := false, ballot := { time := 0, node := 0 }, value := a.7, ready := false, writes := a.8, pairs := a.9 } = some r0 := e0
  simp only [e0', e1, e2, e3, e4, e5, Option.isSome_some, Option.getD_some, cond_true]
  cases r0 with
  | false => exact ⟨_, rfl, fun h => by cases h⟩
  | true =>
  cases h1 : (opsC a.ops != 0) with
  | true => exact ⟨_, rfl, fun h => by cases h⟩
  | false =>
  cases h2 : ref09_Ballot a.3 with
  | false => exact ⟨_, rfl, fun h => by cases h⟩
  | true =>
  cases h3 : ref01_Is a.4 with
  | false => exact ⟨_, rfl, fun h => by cases h⟩
  | true =>
  cases h4 : ref01_Less a.4 id with
  | true => exact ⟨_, rfl, fun h => by cases h⟩
  | false =>
  cases h5 : (depsC a.deps != 0) with
  | true => exact ⟨_, rfl, fun h => by cases h⟩
  | false =>
  cases h6 : vB a.value with
  | false => exact ⟨_, rfl, fun h => by cases h⟩
  | true =>
  cases h7 : writesB a.writes with
  | false => exact ⟨_, rfl, fun h => by cases h⟩
  | true =>
  cases h8 : pairsB a.pairs with
  | false => exact ⟨_, rfl, fun h => by cases h⟩
  | true => exact ⟨_, rfl, fun _ => ⟨by simpa using h1, h2, h3, h4, by simpa using h5, h6, h7, h8⟩⟩
/-- what a command may be after an act -/
theorem pair_eta {α : Type} (p : α × Bool) : (bif p.2 then (p.1, true) else (p.1, false)) = p := by
  obtain ⟨x, b⟩ := p
  cases b <;> rfl
theorem act_cases (k : Int) : k = 0 ∨ k = 1 ∨ k = 2 ∨ k = 3 ∨ k = 4 ∨ k = 5 ∨ k = 6 ∨ ((k == 0) = false ∧ (k == 1) = false ∧ (k == 2) = false ∧ (k == 3) = false ∧ (k == 4) = false ∧ (k == 5) = false ∧ (k == 6) = false) := by
  simp only [beq_eq_false_iff_ne]
  omega
theorem does_eq (c : MCmd) (a : MAct) : law09_does c a = bif a.kind == 0 then (cmd_Witness c a.ops a.b a.fast a.deps, true) else bif a.kind == 1 then cmd_Promise c a.a else bif a.kind == 2 then cmd_Bind c a.a a.b else bif a.kind == 3 then cmd_Accept c a.a a.value else bif a.kind == 4 then (cmd_Decide c a.ops a.value, true) else bif a.kind == 5 then (cmd_Load c a.writes, true) else bif a.kind == 6 then (cmd_Done c a.pairs, true) else (c, true) := by
  unfold law09_does
  simp only [pair_eta]
  show (bif a.kind == 0 then (bif a.fast then _ else _) else _) = _
  cases hf : a.fast <;> rfl
end Go.Proofs.YtbljhngekhgbbaaGreat
namespace Go.Proofs.YtbljhngekhgbbaaGreat
open Go.RowKit
set_option linter.unusedVariables false
set_option linter.unusedSimpArgs false
/-- is a no less than b? -/
def GeS (a b : MStamp) : Prop := ¬ LtS a b
theorem geS_refl (a : MStamp) : GeS a a := by unfold GeS LtS; omega
theorem geS_trans {a b c : MStamp} (h : GeS a b) (k : GeS b c) : GeS a c := by unfold GeS LtS at *; omega
theorem ltS_ge {a b : MStamp} (h : LtS a b) : GeS b a := by unfold GeS LtS at *; omega
theorem maxS_left (a b : MStamp) : GeS (maxS a b) a := by
  unfold maxS
  cases h : ref01_Less a b with
  | true => exact ltS_ge ((less_iff a b).1 h)
  | false => exact geS_refl a
theorem maxS_right (a b : MStamp) : GeS (maxS a b) b := by
  unfold maxS
  cases h : ref01_Less a b with
  | true => exact geS_refl b
  | false => exact (less_false a b).1 h
theorem maxS_lub {a b c : MStamp} (h : GeS c a) (k : GeS c b) : GeS c (maxS a b) := by
  unfold maxS
  cases ref01_Less a b
  · exact h
  · exact k
theorem maxS_mono {a b a' b' : MStamp} (h : GeS a' a) (k : GeS b' b) : GeS (maxS a' b') (maxS a b) := maxS_lub (geS_trans (maxS_left a' b') h) (geS_trans (maxS_right a' b') k)
theorem maxS_or (a b : MStamp) : maxS a b = a ∨ maxS a b = b := by
  unfold maxS
  cases ref01_Less a b
  · exact .inl rfl
  · exact .inr rfl
theorem maxS_ballot {a b : MStamp} (h : ref09_Ballot a = true) (k : ref09_Ballot b = true) : ref09_Ballot (maxS a b) = true := by
  rcases maxS_or a b with e | e <;> rw [e] <;> assumption
theorem ballot_ge0 {a : MStamp} (h : ref09_Ballot a = true) : GeS a z0 := ballot_ge a h
theorem vB_tm {v : MVal} (h : vB v = true) : ref09_Ballot v.tm = true := by
  unfold vB at h
  cases hg : v.gone with
  | true =>
    rw [hg] at h
    simp only [cond_true, Bool.and_eq_true] at h
    rw [eqB_iff.1 h.1]
    exact ballot_z
  | false =>
    rw [hg] at h
    simp only [cond_false, Bool.and_eq_true] at h
    exact ballot_is h.1
/-- a command that may be, told in parts -/
structure CmdP (c : MCmd) : Prop where
  is : ref01_Is c.id = true
  seen0 : c.ops.length = 0 → c.vote = z0 ∧ c.fast = false ∧ c.seen.length = 0
  vote : c.vote = z0 ∨ (ref01_Is c.vote = true ∧ ref01_Less c.vote c.id = false)
  deps : depsC c.seen = 0
  value : valueB c = true
  writes0 : c.ready = false → c.writes.length = 0
  pairs0 : c.phase ≠ 3 → c.pairs.length = 0
  ph : (c.phase = 0 ∧ c.ops.length = 0 ∧ c.ready = false) ∨ (c.phase = 1 ∧ c.ops.length ≠ 0 ∧ c.ready = false) ∨ (c.phase = 2 ∧ c.has = true ∧ (c.ops.length ≠ 0 ∨ c.value.gone = true) ∧ ¬ (c.ready = true ∧ c.value.gone = true)) ∨
    (c.phase = 3 ∧ c.has = true ∧ (c.ops.length ≠ 0 ∨ c.value.gone = true) ∧ ¬ (c.ready = true ∧ c.value.gone = true) ∧ c.ready = true)
  promise : ref09_Ballot c.promise = true
  ballot : ref09_Ballot c.ballot = true
  bound : ref09_Ballot c.bound = true
  ops : c.ops.length = 0 ∨ opsC c.ops = 0
  writes : writesB c.writes = true
  pairs : pairsB c.pairs = true
/-- what an act turns -/
structure Grows (c : MCmd) (a : MAct) (x : MCmd) (ok : Bool) : Prop where
  gc : GC x
  may : CmdP x
  id : x.id = c.id
  phase : c.phase ≤ x.phase
  promise : GeS x.promise c.promise
  top : a.kind ≠ 3 → a.kind ≠ 4 → GeS (topC x) (topC c)
  ops : c.ops.length ≠ 0 → x.vote = c.vote ∧ x.fast = c.fast ∧ x.ops = c.ops
  value : 2 ≤ c.phase → x.value = c.value
  final : cmd_Final c = true → x = c
  no : ok = false → x = c
  bound : GeS x.bound c.bound
theorem Grows.refl {c : MCmd} (h : GC c) (k : CmdP c) (a : MAct) (ok : Bool) : Grows c a c ok := ⟨h, k, rfl, Int.le_refl _, geS_refl _, fun _ _ => geS_refl _, fun _ => ⟨rfl, rfl, rfl⟩, fun _ => rfl, fun _ => rfl, fun _ => rfl, geS_refl _⟩
theorem int_eq (n k : Int) : (n == k) = decide (n = k) := bool_ext (by simp)
theorem final_iff (c : MCmd) : cmd_Final c = true ↔ c.phase = 3 ∨ (c.phase = 2 ∧ c.value.gone = true) := by
  unfold cmd_Final
  show (bif c.phase == 3 then true else bif c.phase == 2 then bif c.value.gone then true else false else false) = true ↔ _
  by_cases h3 : c.phase = 3
  · simp [h3]
  · by_cases h2 : c.phase = 2
    · cases hg : c.value.gone <;> simp [h2, hg]
    · simp [h3, h2]
theorem undecided {c : MCmd} (k : CmdP c) (h : c.phase < 2) : c.ready = false ∧ c.writes.length = 0 ∧ c.pairs.length = 0 ∧ cmd_Final c = false := by
  have hr : c.ready = false := by
    rcases k.ph with ⟨_, _, e⟩ | ⟨_, _, e⟩ | ⟨e, _⟩ | ⟨e, _⟩
    · exact e
    · exact e
    · omega
    · omega
  refine ⟨hr, k.writes0 hr, k.pairs0 (by omega), ?_⟩
  rw [Bool.eq_false_iff]
  intro hf
  rcases (final_iff c).1 hf with e | ⟨e, _⟩ <;> omega
theorem grows {c : MCmd} {a : MAct} (h : GC c) (k : CmdP c) (ha : GA a) (hr : Right a c.id) : Grows c a (law09_does c a).1 (law09_does c a).2 := by
  rw [does_eq]
  rcases act_cases a.kind with e | e | e | e | e | e | e | ⟨e0, e1, e2, e3, e4, e5, e6⟩
  · -- witness
    rw [e]
    show Grows c a (cmd_Witness c a.ops a.b a.fast a.deps) true
    by_cases h0 : c.ops = []
    · by_cases h2 : c.phase < 2
      · rw [witness_eq h0 h2]
        obtain ⟨u1, u2, u3, u4⟩ := undecided k h2
        have hp0 : c.phase = 0 := by
          rcases k.ph with ⟨e, _⟩ | ⟨_, e, _⟩ | ⟨e, _⟩ | ⟨e, _⟩
          · exact e
          · rw [h0] at e; exact absurd rfl e
          · omega
          · omega
        have hne : a.ops.length ≠ 0 := by have := opsC_ne hr.ops; simpa using this
        have hv := (k.seen0 (by rw [h0]; rfl)).1
        refine ⟨⟨ha.ops, ha.deps, h.deps, h.writes, h.pairs⟩, ⟨k.is, fun hx => absurd hx hne, .inr ⟨hr.is, hr.less⟩, hr.deps, k.value, fun _ => u2, fun _ => u3, .inr (.inl ⟨rfl, hne, u1⟩), k.promise, k.ballot, k.bound, .inr hr.ops, k.writes, k.pairs⟩, rfl, by show c.phase ≤ 1; omega, geS_refl _, fun _ _ => ?_, fun hx => by rw [h0] at hx; exact absurd rfl hx, fun hx => by omega, fun hx => (by rw [u4] at hx; cases hx), fun hx => (by cases hx), geS_refl _⟩
        unfold topC
        refine maxS_mono (maxS_mono (maxS_mono (geS_refl _) ?_) (geS_refl _)) (geS_refl _)
        show GeS a.b c.vote
        rw [hv]
        exact ballot_ge0 (ballot_is hr.is)
      · have : cmd_Witness c a.ops a.b a.fast a.deps = c := by
          unfold cmd_Witness
          rw [decided_eq, decide_eq_true (by omega)]
          cases ((c.2.length : Int) == 0) <;> rfl
        rw [this]
        exact .refl h k a _
    · rw [witness_no h0]
      exact .refl h k a _
  · -- promise
    rw [e]
    show Grows c a (cmd_Promise c a.a).1 (cmd_Promise c a.a).2
    by_cases h2 : c.phase < 2
    · rw [promise_eq h2]
      cases hl : ref01_Less a.a c.promise with
      | true => exact .refl h k a _
      | false =>
        obtain ⟨u1, u2, u3, u4⟩ := undecided k h2
        exact ⟨⟨h.ops, h.seen, h.deps, h.writes, h.pairs⟩, ⟨k.is, k.seen0, k.vote, k.deps, k.value, k.writes0, k.pairs0, k.ph, hr.ballot, k.ballot, k.bound, k.ops, k.writes, k.pairs⟩, rfl, Int.le_refl _, (less_false _ _).1 hl, fun _ _ => geS_refl _, fun _ => ⟨rfl, rfl, rfl⟩, fun _ => rfl, fun hx => (by rw [u4] at hx; cases hx), fun hx => (by cases hx), geS_refl _⟩
    · rw [promise_done (by omega)]
      exact .refl h k a _
  · -- bind
    rw [e]
    show Grows c a (cmd_Bind c a.a a.b).1 (cmd_Bind c a.a a.b).2
    by_cases h2 : c.phase < 2
    · rw [bind_eq h2]
      cases hl : ref01_Less a.a c.promise with
      | true => exact .refl h k a _
      | false =>
        obtain ⟨u1, u2, u3, u4⟩ := undecided k h2
        exact ⟨⟨h.ops, h.seen, h.deps, h.writes, h.pairs⟩, ⟨k.is, k.seen0, k.vote, k.deps, k.value, k.writes0, k.pairs0, k.ph, hr.ballot, k.ballot, maxS_ballot k.bound (ballot_is hr.is), k.ops, k.writes, k.pairs⟩, rfl, Int.le_refl _, (less_false _ _).1 hl, fun _ _ => maxS_mono (maxS_mono (geS_refl _) (maxS_left _ _)) (geS_refl _), fun _ => ⟨rfl, rfl, rfl⟩, fun _ => rfl, fun hx => (by rw [u4] at hx; cases hx), fun hx => (by cases hx), maxS_left _ _⟩
    · rw [bind_done (by omega)]
      exact .refl h k a _
  · -- accept
    rw [e]
    show Grows c a (cmd_Accept c a.a a.value).1 (cmd_Accept c a.a a.value).2
    by_cases h2 : c.phase < 2
    · rw [accept_eq h2]
      cases hl : ref01_Less a.a c.promise with
      | true => exact .refl h k a _
      | false =>
        obtain ⟨u1, u2, u3, u4⟩ := undecided k h2
        refine ⟨⟨h.ops, h.seen, ha.value, h.writes, h.pairs⟩, ⟨k.is, k.seen0, k.vote, k.deps, hr.value, k.writes0, k.pairs0, ?_, hr.ballot, hr.ballot, maxS_ballot k.bound (vB_tm hr.value), k.ops, k.writes, k.pairs⟩, rfl, Int.le_refl _, (less_false _ _).1 hl, fun hx => absurd e hx, fun _ => ⟨rfl, rfl, rfl⟩, fun hx => by omega, fun hx => (by rw [u4] at hx; cases hx), fun hx => (by cases hx), maxS_left _ _⟩
        rcases k.ph with q | q | ⟨q, _⟩ | ⟨q, _⟩
        · exact .inl q
        · exact .inr (.inl q)
        · omega
        · omega
    · rw [accept_done (by omega)]
      exact .refl h k a _
  · -- decide
    rw [e]
    show Grows c a (cmd_Decide c a.ops a.value) true
    by_cases h2 : c.phase < 2
    · obtain ⟨u1, u2, u3, u4⟩ := undecided k h2
      have hne : a.ops.length ≠ 0 := by have := opsC_ne hr.ops; simpa using this
      have hx : cmd_Decide c a.ops a.value = { c with ops := bif decide (c.ops.length = 0) && !a.value.gone then a.ops else c.ops, phase := 2, has := true, value := a.value } := by
        unfold cmd_Decide
        rw [decided_eq, decide_eq_false (by omega), len0]
        show (bif decide (c.ops.length = 0) then bif a.value.gone then _ else _ else _) = _
        cases decide (c.ops.length = 0) <;> cases a.value.gone <;> rfl
      rw [hx]
      cases hd : (decide (c.ops.length = 0) && !a.value.gone) with
      | true =>
        simp only [Bool.and_eq_true, decide_eq_true_eq, Bool.not_eq_true'] at hd
        have hs := k.seen0 hd.1
        exact ⟨⟨ha.ops, h.seen, ha.value, h.writes, h.pairs⟩, ⟨k.is, fun hx => absurd hx hne, .inl hs.1, k.deps, hr.value, fun _ => u2, fun _ => u3, .inr (.inr (.inl ⟨rfl, rfl, .inl hne, fun hh => by have := hh.1; rw [show c.ready = false from u1] at this; cases this⟩)), k.promise, k.ballot, k.bound, .inr hr.ops, k.writes, k.pairs⟩, rfl, by show c.phase ≤ 2; omega, geS_refl _, fun _ hx => absurd e hx, fun hx => absurd hd.1 hx, fun hx => by omega, fun hx => (by rw [u4] at hx; cases hx), fun hx => (by cases hx), geS_refl _⟩
      | false =>
        have ho : c.ops.length ≠ 0 ∨ a.value.gone = true := by
          by_cases h0 : c.ops.length = 0
          · right
            rw [decide_eq_true h0] at hd
            simpa using hd
          · exact .inl h0
        exact ⟨⟨h.ops, h.seen, ha.value, h.writes, h.pairs⟩, ⟨k.is, k.seen0, k.vote, k.deps, hr.value, fun _ => u2, fun _ => u3, .inr (.inr (.inl ⟨rfl, rfl, ho, fun hh => by have := hh.1; rw [show c.ready = false from u1] at this; cases this⟩)), k.promise, k.ballot, k.bound, k.ops, k.writes, k.pairs⟩, rfl, by show c.phase ≤ 2; omega, geS_refl _, fun _ hx => absurd e hx, fun _ => ⟨rfl, rfl, rfl⟩, fun hx => by omega, fun hx => (by rw [u4] at hx; cases hx), fun hx => (by cases hx), geS_refl _⟩
    · have : cmd_Decide c a.ops a.value = c := by
        unfold cmd_Decide
        rw [decided_eq, decide_eq_true (by omega)]
        rfl
      rw [this]
      exact .refl h k a _
  · -- load
    rw [e]
    show Grows c a (cmd_Load c a.writes) true
    have hx : cmd_Load c a.writes = bif decide (c.phase = 2) && (!c.value.gone && !c.ready) then { c with ready := true, writes := a.writes } else c := by
      unfold cmd_Load
      rw [int_eq c.3 2]
      show (bif decide (c.phase = 2) then bif c.value.gone then _ else bif c.ready then _ else _ else _) = _
      cases decide (c.phase = 2) <;> cases c.value.gone <;> cases c.ready <;> rfl
    rw [hx]
    cases hd : (decide (c.phase = 2) && (!c.value.gone && !c.ready)) with
    | false => exact .refl h k a _
    | true =>
      simp only [Bool.and_eq_true, decide_eq_true_eq, Bool.not_eq_true'] at hd
      obtain ⟨d1, d2, d3⟩ := hd
      have hph : c.has = true ∧ (c.ops.length ≠ 0 ∨ c.value.gone = true) := by
        rcases k.ph with ⟨q, _⟩ | ⟨q, _⟩ | ⟨q, q1, q2, q3⟩ | ⟨q, _⟩
        · omega
        · omega
        · exact ⟨q1, q2⟩
        · omega
      have hnf : cmd_Final c = false := by
        rw [Bool.eq_false_iff]
        intro hf
        rcases (final_iff c).1 hf with q | ⟨_, q⟩
        · omega
        · rw [d2] at q; cases q
      exact ⟨⟨h.ops, h.seen, h.deps, ha.writes, h.pairs⟩, ⟨k.is, k.seen0, k.vote, k.deps, k.value, fun hx => (by cases hx), k.pairs0, .inr (.inr (.inl ⟨d1, hph.1, hph.2, fun hh => by have hh2 : c.value.gone = true := hh.2; rw [d2] at hh2; cases hh2⟩)), k.promise, k.ballot, k.bound, k.ops, hr.writes, k.pairs⟩, rfl, Int.le_refl _, geS_refl _, fun _ _ => geS_refl _, fun _ => ⟨rfl, rfl, rfl⟩, fun _ => rfl, fun hx => (by rw [hnf] at hx; cases hx), fun hx => (by cases hx), geS_refl _⟩
  · -- done
    rw [e]
    show Grows c a (cmd_Done c a.pairs) true
    have hx : cmd_Done c a.pairs = bif decide (c.phase = 2) && c.ready then { c with phase := 3, pairs := a.pairs } else c := by
      unfold cmd_Done
      rw [int_eq c.3 2]
      show (bif decide (c.phase = 2) then bif c.ready then _ else _ else _) = _
      cases decide (c.phase = 2) <;> cases c.ready <;> rfl
    rw [hx]
    cases hd : (decide (c.phase = 2) && c.ready) with
    | false => exact .refl h k a _
    | true =>
      simp only [Bool.and_eq_true, decide_eq_true_eq] at hd
      obtain ⟨d1, d2⟩ := hd
      have hph : c.has = true ∧ (c.ops.length ≠ 0 ∨ c.value.gone = true) ∧ ¬ (c.ready = true ∧ c.value.gone = true) := by
        rcases k.ph with ⟨q, _⟩ | ⟨q, _⟩ | ⟨q, q1, q2, q3⟩ | ⟨q, _⟩
        · omega
        · omega
        · exact ⟨q1, q2, q3⟩
        · omega
      have hnf : cmd_Final c = false := by
        rw [Bool.eq_false_iff]
        intro hf
        rcases (final_iff c).1 hf with q | ⟨_, q⟩
        · omega
        · exact hph.2.2 ⟨d2, q⟩
      exact ⟨⟨h.ops, h.seen, h.deps, h.writes, ha.pairs⟩, ⟨k.is, k.seen0, k.vote, k.deps, k.value, k.writes0, fun hx => absurd rfl hx, .inr (.inr (.inr ⟨rfl, hph.1, hph.2.1, hph.2.2, d2⟩)), k.promise, k.ballot, k.bound, k.ops, k.writes, hr.pairs⟩, rfl, by show c.phase ≤ 3; omega, geS_refl _, fun _ _ => geS_refl _, fun _ => ⟨rfl, rfl, rfl⟩, fun _ => rfl, fun hx => (by rw [hnf] at hx; cases hx), fun hx => (by cases hx), geS_refl _⟩
  · rw [e0, e1, e2, e3, e4, e5, e6]
    exact .refl h k a _
theorem new_may {id : MStamp} (h : ref01_Is id = true) : GC (cmd_New id) ∧ CmdP (cmd_New id) := by
  refine ⟨⟨⟨Nat.zero_le _, fun o ho => by simp [new_eq] at ho⟩, gD_nil, gD_nil, gWr_nil, gPr_nil⟩, ⟨h, fun _ => ⟨rfl, rfl, rfl⟩, .inl rfl, depsC_nil, ?_, fun _ => rfl, fun _ => rfl, .inl ⟨rfl, rfl, rfl⟩, ballot_z, ballot_z, ballot_z, .inl rfl, writesB_nil, pairsB_nil⟩⟩
  unfold valueB
  simp [new_eq, eqB_self]
end Go.Proofs.YtbljhngekhgbbaaGreat
namespace Go.Proofs.YtbljhngekhgbbaaGreat
open Go.RowKit
set_option linter.unusedVariables false
set_option linter.unusedSimpArgs false
theorem gAt {b : List MAct} (h : ∀ y ∈ b, g_act09 y) {i : Nat} (hi : i < b.length) : GA (b.getD i default) := by
  have e : b.getD i default = b[i] := by simp [List.getD, hi]
  rw [e]
  exact gA_of (h _ (List.getElem_mem hi))
end Go.Proofs.YtbljhngekhgbbaaGreat
