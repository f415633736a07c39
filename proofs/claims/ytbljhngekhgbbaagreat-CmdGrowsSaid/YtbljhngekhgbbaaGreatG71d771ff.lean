/- Texts of the proofs of CmdGrows, merged (PGrows). -/
import Derived.Test.YtbljhngekhgbbaaGreatGb3b707fa
import Derived.Test.YtbljhngekhgbbaaGreatGb43ee308
import Derived.Test.YtbljhngekhgbbaaGreatG9c20b58a
import Derived.Test.YtbljhngekhgbbaaGreatG6e0496cb
import Derived.Test.YtbljhngekhgbbaaGreatG20caf6cc
import Derived.Test.YtbljhngekhgbbaaGreatGf0b3007f
import Derived.Test.YtbljhngekhgbbaaGreatG0f2df3e7
import Derived.Test.YtbljhngekhgbbaaGreatG7be370e0
import Derived.Test.YtbljhngekhgbbaaGreatG15131814
import Derived.Test.YtbljhngekhgbbaaGreatG8a797d8d
import Derived.Test.YtbljhngekhgbbaaGreatG01690cca
import Derived.Test.YtbljhngekhgbbaaGreatG08b825e4
import Derived.Test.YtbljhngekhgbbaaGreatG0abb3d8d
import Derived.Test.YtbljhngekhgbbaaGreatGd1ea08b8
import Derived.Test.YtbljhngekhgbbaaGreatGe5440ce6
import Derived.Test.YtbljhngekhgbbaaGreatG06d599ac
import Derived.Test.YtbljhngekhgbbaaGreatG2eb54c3b
import Derived.Test.YtbljhngekhgbbaaGreatG7905db0f
import Derived.Test.YtbljhngekhgbbaaGreatGce5f1358
import Derived.Test.YtbljhngekhgbbaaGreatGae8351a8
import Derived.Test.YtbljhngekhgbbaaGreatG416aaa5c
import Derived.Test.YtbljhngekhgbbaaGreatG77bfc8c1
import Derived.Test.YtbljhngekhgbbaaGreatG61d85f5b
import Derived.Test.YtbljhngekhgbbaaGreatGfb7cc156
import Derived.Test.YtbljhngekhgbbaaGreatG402eeab4
import Derived.Test.YtbljhngekhgbbaaGreatG31ac927f
import Derived.Test.YtbljhngekhgbbaaGreatGad551571
import Derived.Test.YtbljhngekhgbbaaGreatG00952383
import Derived.Test.YtbljhngekhgbbaaGreatG2b473ce7
import Derived.Test.YtbljhngekhgbbaaGreatG68d54092
import Derived.Test.YtbljhngekhgbbaaGreatGb3f77d99
import Derived.Test.YtbljhngekhgbbaaGreatG93612b59
import Derived.Test.YtbljhngekhgbbaaGreatG339d55ae
import Derived.Test.YtbljhngekhgbbaaGreatG26b4b785
import Derived.Test.YtbljhngekhgbbaaGreatGb89376ef
import Derived.Test.YtbljhngekhgbbaaGreatG852ba3f0
import Derived.Test.YtbljhngekhgbbaaGreatG2fc397cf
import Derived.Test.YtbljhngekhgbbaaGreatG353104c5
import Derived.Test.YtbljhngekhgbbaaGreatG051f91c5
import Derived.Test.YtbljhngekhgbbaaGreatG03d6059f
import Derived.Test.YtbljhngekhgbbaaGreatGc8e6ba2c
set_option linter.unusedSimpArgs false
set_option linter.unusedVariables false
namespace Go.Proofs.YtbljhngekhgbbaaGreat
open Go.RowKit
set_option linter.unusedVariables false
set_option linter.unusedSimpArgs false
set_option maxRecDepth 100000
theorem ct {α : Type} {b : Bool} {x y z : α} (h : b = true) (k : x = z) : (bif b then x else y) = z := by rw [h]; exact k
theorem cf {α : Type} {b : Bool} {x y z : α} (h : b = false) (k : y = z) : (bif b then x else y) = z := by rw [h]; exact k
theorem grows_step {b : List MAct} {a : MStamp} {c : MCmd} {i : Nat} (hb : ∀ y ∈ b, g_act09 y) (hl : b.length ≤ 40) (hc : GC c) (hp : CmdP c) (hid : c.id = a) :
    (∃ c', GC c' ∧ CmdP c' ∧ c'.id = a ∧ i < b.length ∧ law09_CmdGrows_s0 (b, a, c, (i : Int), ()) = some (.nxt (b, a, c', ((i + 1 : Nat) : Int), ()))) ∨ law09_CmdGrows_s0 (b, a, c, (i : Int), ()) = some (.ret (true, ())) ∨ law09_CmdGrows_s0 (b, a, c, (i : Int), ()) = some (.brk ()) := by
  by_cases hlt : i < b.length
  · obtain ⟨r, h1, h2⟩ := right_some (gAt hb hlt) a
    have hL : decide ((i : Int) < (b.length : Int)) = true := by rw [lt_cast, decide_eq_true hlt]
    have hI : (decide ((0 : Int) ≤ (i : Int)) && (i : Int).toNat.blt b.length) = true := by rw [Int.toNat_natCast, ix', decide_eq_true hlt]
    have hA : b.getD (i : Int).toNat default = b.getD i default := by rw [Int.toNat_natCast]
    cases r with
    | false =>
      refine .inr (.inl ?_)
      dsimp only [law09_CmdGrows_s0]
      rw [hA]
      refine ct hL (ct hI (ct (by rw [h1]; rfl) (cf (by rw [h1]; rfl) rfl)))
    | true =>
      have hg := grows hc hp (gAt hb hlt) (by rw [hid]; exact h2 rfl)
      refine .inl ⟨_, hg.gc, hg.may, hg.id.trans hid, hlt, ?_⟩
      have hS := ref09_Same_eq c hg.gc.cmd
      have hW : IntKind.i64.wrap ((i : Int) + 1) = ((i + 1 : Nat) : Int) := wrap_succ (by omega)
      have hK := cmd_Check_eq hg.gc
      rw [(cmdP_iff _).2 hg.may] at hK
      dsimp only [law09_CmdGrows_s0]
      rw [hA]
      generalize hA' : b.getD i default = A at *
      generalize hD' : law09_does c A = D at *
      refine ct hL (ct hI (ct (by rw [h1]; rfl) (ct (by rw [h1]; rfl) (ct hI ?_))))
      have f1 : (cmd_Check_o D.1).isSome = true := by rw [hK]; rfl
      have f2 : (law09_num ((cmd_Check_o D.1).getD 0) != 0) = false := by rw [hK]; rfl
      have f3 : (!(D.1.1.1 == a.1 && (D.1.1.2 == a.2 && true))) = false := by
        have : D.1.1 = a := hg.id.trans hid
        rw [this]
        simp
      have f4 : decide (D.1.3 < c.3) = false := decide_eq_false (by have := hg.phase; exact fun h => by have h' : D.1.phase < c.phase := h; omega)
      have f5 : ref01_Less D.1.4 c.4 = false := (less_false _ _).2 hg.promise
      have f6 : A.kind ≠ 3 → A.kind ≠ 4 → ref01_Less (cmd_Top D.1) (cmd_Top c) = false := fun p q => by
        rw [cmd_Top_eq, cmd_Top_eq]
        exact (less_false _ _).2 (hg.top p q)
      have f7 : ref01_Less D.1.8 c.8 = false := (less_false _ _).2 hg.bound
      have f8 : decide (0 < (c.2.length : Int)) = true → (!(D.1.5.1 == c.5.1 && (D.1.5.2 == c.5.2 && true))) = false ∧ D.1.6 = c.6 ∧ (ref08_Ops_o D.1.2 c.2).isSome = true ∧ (ref08_Ops_o D.1.2 c.2).getD false = true := fun h => by
        have h' : c.ops.length ≠ 0 := by have h'' : 0 < (c.ops.length : Int) := by simpa using h
                                         omega
        obtain ⟨p, q, o⟩ := hg.ops h'
        have p' : D.1.5 = c.5 := p
        have o' : D.1.2 = c.2 := o
        have ho : c.2.length ≤ maxLen := hc.cmd.ops
        rw [p', o', ref08_Ops_eq _ ho, eqB_self]
        exact ⟨by simp, q, rfl, rfl⟩
      have f9 : decide (2 ≤ c.3) = true → (ref09_SameValue_o D.1.11 c.11).isSome = true ∧ (ref09_SameValue_o D.1.11 c.11).getD false = true := fun h => by
        have h' : 2 ≤ c.phase := of_decide_eq_true h
        have e : D.1.11 = c.11 := hg.value h'
        have hv : gDeps c.11.deps := hc.cmd.deps
        rw [e, ref09_SameValue_eq _ hv, eqB_self]
        exact ⟨rfl, rfl⟩
      have fS : D.1 = c → (ref09_Same_o D.1 c).isSome = true ∧ (ref09_Same_o D.1 c).getD false = true := fun h => by
        rw [hS, h, eqB_self]
        exact ⟨rfl, rfl⟩
      have f10 : cmd_Final c = true → (ref09_Same_o D.1 c).isSome = true ∧ (ref09_Same_o D.1 c).getD false = true := fun h => fS (hg.final h)
      have f11 : D.2 = false → (ref09_Same_o D.1 c).isSome = true ∧ (ref09_Same_o D.1 c).getD false = true := fun h => fS (hg.no h)
      rw [hW]
      clear hS hK hg h1 h2 hL hA hA' hD' fS
      generalize ((cmd_Check_o D.1).isSome) = u1 at *
      generalize (law09_num ((cmd_Check_o D.1).getD 0) != 0) = u2 at *
      generalize (!(D.1.1.1 == a.1 && (D.1.1.2 == a.2 && true))) = u3 at *
      generalize (decide (D.1.3 < c.3)) = u4 at *
      generalize (ref01_Less D.1.4 c.4) = u5 at *
      generalize (ref01_Less (cmd_Top D.1) (cmd_Top c)) = u6 at *
      generalize (ref01_Less D.1.8 c.8) = u7 at *
      generalize (!(D.1.5.1 == c.5.1 && (D.1.5.2 == c.5.2 && true))) = u8 at *
      generalize (ref08_Ops_o D.1.2 c.2).isSome = u9 at *
      generalize (ref08_Ops_o D.1.2 c.2).getD false = u10 at *
      generalize (ref09_SameValue_o D.1.11 c.11).isSome = u11 at *
      generalize (ref09_SameValue_o D.1.11 c.11).getD false = u12 at *
      generalize (ref09_Same_o D.1 c).isSome = u13 at *
      generalize (ref09_Same_o D.1 c).getD false = u14 at *
      have fK : (A.1 != 3) = false ∨ (A.1 != 4) = false ∨ u6 = false := by
        by_cases p : A.kind = 3
        · exact .inl (by have : A.1 = 3 := p; rw [this]; rfl)
        · by_cases q : A.kind = 4
          · exact .inr (.inl (by have : A.1 = 4 := q; rw [this]; rfl))
          · exact .inr (.inr (f6 p q))
      clear f6
      generalize (A.1 != 3) = u15 at *
      generalize (A.1 != 4) = u16 at *
      generalize decide (0 < (c.2.length : Int)) = u17 at *
      generalize decide (2 ≤ c.3) = u18 at *
      generalize cmd_Final c = u19 at *
      generalize D.1.6 = u20 at *
      generalize c.6 = u21 at *
      generalize D.2 = u22 at *
      generalize (decide ((0 : Int) ≤ (i : Int)) && (i : Int).toNat.blt b.length) = u23 at *
      subst f1 f2 f3 f4 f5 f7
      have kI : u23 = true := hI
      subst kI
      have e8 : u17 = true → u8 = false ∧ u20 = u21 ∧ u9 = true ∧ u10 = true := f8
      have e9 : u18 = true → u11 = true ∧ u12 = true := f9
      have e10 : u19 = true → u13 = true ∧ u14 = true := f10
      have e11 : u22 = false → u13 = true ∧ u14 = true := f11
      have eK : u15 = false ∨ u16 = false ∨ u6 = false := fK
      clear f8 f9 f10 f11 fK
      cases u17 with
      | true =>
        obtain ⟨g1, g2, g3, g4⟩ := e8 rfl
        subst g1 g2 g3 g4
        cases u18 with
        | true =>
          obtain ⟨g1, g2⟩ := e9 rfl
          subst g1 g2
          cases u19 with
          | true =>
            obtain ⟨g1, g2⟩ := e10 rfl
            subst g1 g2
            rcases eK with rfl | rfl | rfl
            · cases u22 <;> cases u6 <;> cases u20 <;> rfl
            · cases u22 <;> cases u6 <;> cases u15 <;> cases u20 <;> rfl
            · cases u22 <;> cases u20 <;> rfl
          | false =>
            cases u22 with
            | true =>
              rcases eK with rfl | rfl | rfl
              · cases u6 <;> cases u20 <;> rfl
              · cases u6 <;> cases u15 <;> cases u20 <;> rfl
              · cases u20 <;> rfl
            | false =>
              obtain ⟨g1, g2⟩ := e11 rfl
              subst g1 g2
              rcases eK with rfl | rfl | rfl
              · cases u6 <;> cases u20 <;> rfl
              · cases u6 <;> cases u15 <;> cases u20 <;> rfl
              · cases u20 <;> rfl
        | false =>
          cases u19 with
          | true =>
            obtain ⟨g1, g2⟩ := e10 rfl
            subst g1 g2
            rcases eK with rfl | rfl | rfl
            · cases u22 <;> cases u6 <;> cases u20 <;> rfl
            · cases u22 <;> cases u6 <;> cases u15 <;> cases u20 <;> rfl
            · cases u22 <;> cases u20 <;> rfl
          | false =>
            cases u22 with
            | true =>
              rcases eK with rfl | rfl | rfl
              · cases u6 <;> cases u20 <;> rfl
              · cases u6 <;> cases u15 <;> cases u20 <;> rfl
              · cases u20 <;> rfl
            | false =>
              obtain ⟨g1, g2⟩ := e11 rfl
              subst g1 g2
              rcases eK with rfl | rfl | rfl
              · cases u6 <;> cases u20 <;> rfl
              · cases u6 <;> cases u15 <;> cases u20 <;> rfl
              · cases u20 <;> rfl
      | false =>
        cases u18 with
        | true =>
          obtain ⟨g1, g2⟩ := e9 rfl
          subst g1 g2
          cases u19 with
          | true =>
            obtain ⟨g1, g2⟩ := e10 rfl
            subst g1 g2
            rcases eK with rfl | rfl | rfl
            · cases u22 <;> cases u6 <;> rfl
            · cases u22 <;> cases u6 <;> cases u15 <;> rfl
            · cases u22 <;> rfl
          | false =>
            cases u22 with
            | true =>
              rcases eK with rfl | rfl | rfl
              · cases u6 <;> rfl
              · cases u6 <;> cases u15 <;> rfl
              · rfl
            | false =>
              obtain ⟨g1, g2⟩ := e11 rfl
              subst g1 g2
              rcases eK with rfl | rfl | rfl
              · cases u6 <;> rfl
              · cases u6 <;> cases u15 <;> rfl
              · rfl
        | false =>
          cases u19 with
          | true =>
            obtain ⟨g1, g2⟩ := e10 rfl
            subst g1 g2
            rcases eK with rfl | rfl | rfl
            · cases u22 <;> cases u6 <;> rfl
            · cases u22 <;> cases u6 <;> cases u15 <;> rfl
            · cases u22 <;> rfl
          | false =>
            cases u22 with
            | true =>
              rcases eK with rfl | rfl | rfl
              · cases u6 <;> rfl
              · cases u6 <;> cases u15 <;> rfl
              · rfl
            | false =>
              obtain ⟨g1, g2⟩ := e11 rfl
              subst g1 g2
              rcases eK with rfl | rfl | rfl
              · cases u6 <;> rfl
              · cases u6 <;> cases u15 <;> rfl
              · rfl
  · refine .inr (.inr ?_)
    dsimp only [law09_CmdGrows_s0]
    exact cf (by rw [lt_cast, decide_eq_false hlt]) rfl
theorem CmdGrows_pure (a : MStamp) (b : List MAct) (_ : g_stamp a) (hb : b.length ≤ reachBytes ∧ ∀ y ∈ b, g_act09 y) : law09_CmdGrows_o a b = some true := by
  unfold law09_CmdGrows_o
  by_cases hl : (40 : Int) < (b.length : Int)
  · simp only [hl, decide_true, cond_true]
  simp only [hl, decide_false, cond_false]
  cases hi : ref01_Is a with
  | false => rfl
  | true =>
  obtain ⟨n1, n2⟩ := new_may hi
  obtain ⟨x, e1, e2⟩ := lim_inv (step := law09_CmdGrows_s0) (fun n d => ∃ (i : Nat) (c : MCmd), i ≤ b.length ∧ n = b.length - i ∧ d = (b, a, c, (i : Int), ()) ∧ GC c ∧ CmdP c ∧ c.id = a) (fun x => x = .inl (true, ()) ∨ x = .inr ()) (by
    rintro n d ⟨i, c, hi, rfl, rfl, hc, hp, hid⟩
    rcases grows_step (i := i) hb.2 (by omega) hc hp hid with ⟨c', k1, k2, k3, k4, k5⟩ | k | k
    · exact .inl ⟨_, b.length - (i + 1), k5, by omega, i + 1, c', by omega, rfl, rfl, k1, k2, k3⟩
    · exact .inr (.inl ⟨_, k, .inl rfl⟩)
    · exact .inr (.inr ⟨_, k, .inr rfl⟩)) _ (b, a, cmd_New a, (0 : Int), ()) ⟨0, cmd_New a, Nat.zero_le _, rfl, rfl, n1, n2, rfl⟩
  simp only [cond_true]
  unfold law09_CmdGrows_ok0 law09_CmdGrows_rb0 law09_CmdGrows_r0
  rw [e1]
  rcases e2 with rfl | rfl <;> rfl
end Go.Proofs.YtbljhngekhgbbaaGreat
