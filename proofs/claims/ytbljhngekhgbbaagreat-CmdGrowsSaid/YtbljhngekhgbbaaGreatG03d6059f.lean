/- Texts of the proofs of CmdGrows, merged (P9i). -/
import Derived.Test.YtbljhngekhgbbaaGreatGb3b707fa
import Derived.Test.YtbljhngekhgbbaaGreatGb43ee308
import Derived.Test.YtbljhngekhgbbaaGreatG9c20b58a
import Derived.Test.YtbljhngekhgbbaaGreatG6e0496cb
import Derived.Test.YtbljhngekhgbbaaGreatG20caf6cc
import Derived.Test.YtbljhngekhgbbaaGreatGf0b3007f
import Derived.Test.YtbljhngekhgbbaaGreatG0f2df3e7
import Derived.Test.YtbljhngekhgbbaaGreatG7be370e0
import Derived.Test.YtbljhngekhgbbaaGreatG15131814
import Derived.Test.YtbljhngekhgbbaaGreatG8a797d8d
import Derived.Test.YtbljhngekhgbbaaGreatG01690cca
import Derived.Test.YtbljhngekhgbbaaGreatG08b825e4
import Derived.Test.YtbljhngekhgbbaaGreatG0abb3d8d
import Derived.Test.YtbljhngekhgbbaaGreatGd1ea08b8
import Derived.Test.YtbljhngekhgbbaaGreatGe5440ce6
import Derived.Test.YtbljhngekhgbbaaGreatG06d599ac
import Derived.Test.YtbljhngekhgbbaaGreatG2eb54c3b
import Derived.Test.YtbljhngekhgbbaaGreatG7905db0f
import Derived.Test.YtbljhngekhgbbaaGreatGce5f1358
import Derived.Test.YtbljhngekhgbbaaGreatGae8351a8
import Derived.Test.YtbljhngekhgbbaaGreatG416aaa5c
import Derived.Test.YtbljhngekhgbbaaGreatG77bfc8c1
import Derived.Test.YtbljhngekhgbbaaGreatG61d85f5b
import Derived.Test.YtbljhngekhgbbaaGreatGfb7cc156
import Derived.Test.YtbljhngekhgbbaaGreatG402eeab4
import Derived.Test.YtbljhngekhgbbaaGreatG31ac927f
import Derived.Test.YtbljhngekhgbbaaGreatGad551571
import Derived.Test.YtbljhngekhgbbaaGreatG00952383
import Derived.Test.YtbljhngekhgbbaaGreatG2b473ce7
import Derived.Test.YtbljhngekhgbbaaGreatG68d54092
import Derived.Test.YtbljhngekhgbbaaGreatGb3f77d99
import Derived.Test.YtbljhngekhgbbaaGreatG93612b59
import Derived.Test.YtbljhngekhgbbaaGreatG339d55ae
import Derived.Test.YtbljhngekhgbbaaGreatG26b4b785
import Derived.Test.YtbljhngekhgbbaaGreatGb89376ef
import Derived.Test.YtbljhngekhgbbaaGreatG852ba3f0
import Derived.Test.YtbljhngekhgbbaaGreatG2fc397cf
import Derived.Test.YtbljhngekhgbbaaGreatG353104c5
import Derived.Test.YtbljhngekhgbbaaGreatG051f91c5
set_option linter.unusedSimpArgs false
set_option linter.unusedVariables false
namespace Go.Proofs.YtbljhngekhgbbaaGreat
open Go.RowKit
set_option linter.unusedVariables false
set_option linter.unusedSimpArgs false
theorem cmdP_iff (c : MCmd) : cmdB c = true ↔ CmdP c := by
  unfold cmdB seenB phaseB
  constructor
  · intro h
    simp only [Bool.and_eq_true, Bool.or_eq_true, Bool.not_eq_true', decide_eq_true_eq, decide_eq_false_iff_not, beq_iff_eq, eqB_iff] at h
    obtain ⟨h1, ⟨h2, h3, h4⟩, h5, ⟨h6, h7, h8⟩, h9, h10, h11, h12, h13, h14⟩ := h
    refine ⟨h1, fun h => h2.resolve_left (fun hn => hn h), h3, h4, h5, fun h => h6.resolve_left (by rw [h]; decide), fun h => h7.resolve_left h, ?_, h9, h10, h11, h12, h13, h14⟩
    rcases phase_cases c.phase with e | e | e | e | ⟨e0, e1, e2, e3⟩
    · rw [e] at h8
      exact .inl ⟨e, by simpa using h8⟩
    · rw [e] at h8
      exact .inr (.inl ⟨e, by simpa using h8⟩)
    · rw [e] at h8
      refine .inr (.inr (.inl ⟨e, ?_⟩))
      have h8' : (c.has && ((!decide (c.ops.length = 0) || c.value.gone) && !(c.ready && c.value.gone))) = true := h8
      simp only [Bool.and_eq_true, Bool.or_eq_true, Bool.not_eq_true', decide_eq_false_iff_not] at h8'
      exact ⟨h8'.1, h8'.2.1, fun hh => by have := h8'.2.2; rw [hh.1, hh.2] at this; cases this⟩
    · rw [e] at h8
      refine .inr (.inr (.inr ⟨e, ?_⟩))
      have h8' : (c.has && ((!decide (c.ops.length = 0) || c.value.gone) && (!(c.ready && c.value.gone) && c.ready))) = true := h8
      simp only [Bool.and_eq_true, Bool.or_eq_true, Bool.not_eq_true', decide_eq_false_iff_not] at h8'
      exact ⟨h8'.1, h8'.2.1, fun hh => (by have := h8'.2.2.1; rw [hh.1, hh.2] at this; cases this), h8'.2.2.2⟩
    · rw [e0, e1, e2, e3] at h8
      cases h8
  · intro h
    simp only [Bool.and_eq_true, Bool.or_eq_true, Bool.not_eq_true', decide_eq_true_eq, decide_eq_false_iff_not, beq_iff_eq, eqB_iff]
    refine ⟨h.is, ⟨?_, h.vote, h.deps⟩, h.value, ⟨?_, ?_, ?_⟩, h.promise, h.ballot, h.bound, h.ops, h.writes, h.pairs⟩
    · by_cases e : c.ops.length = 0
      · exact .inr (h.seen0 e)
      · exact .inl e
    · cases e : c.ready with
      | true => exact .inl rfl
      | false => exact .inr (h.writes0 e)
    · by_cases e : c.phase = 3
      · exact .inl e
      · exact .inr (h.pairs0 e)
    · rcases h.ph with ⟨e, p1, p2⟩ | ⟨e, p1, p2⟩ | ⟨e, p1, p2, p3⟩ | ⟨e, p1, p2, p3, p4⟩
      · rw [e, p2]; simpa using p1
      · rw [e, p2]; simpa using p1
      · rw [e, p1]
        show (true && ((!decide (c.ops.length = 0) || c.value.gone) && !(c.ready && c.value.gone))) = true
        cases hr : c.ready <;> cases hg : c.value.gone <;> simp_all
      · rw [e, p1, p4]
        show (true && ((!decide (c.ops.length = 0) || c.value.gone) && (!(true && c.value.gone) && true))) = true
        cases hg : c.value.gone <;> simp_all
end Go.Proofs.YtbljhngekhgbbaaGreat
