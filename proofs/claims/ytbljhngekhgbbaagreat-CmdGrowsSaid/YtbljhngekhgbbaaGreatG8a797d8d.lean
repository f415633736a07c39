/- Texts of the proofs of CmdEnds, CmdFirst, CmdGrows, merged (AmOr, AmLg). -/
import Derived.Test.YtbljhngekhgbbaaGreatGb3b707fa
import Derived.Test.YtbljhngekhgbbaaGreatGb43ee308
import Derived.Test.YtbljhngekhgbbaaGreatG9c20b58a
import Derived.Test.YtbljhngekhgbbaaGreatG6e0496cb
import Derived.Test.YtbljhngekhgbbaaGreatG20caf6cc
import Derived.Test.YtbljhngekhgbbaaGreatGf0b3007f
import Derived.Test.YtbljhngekhgbbaaGreatG0f2df3e7
import Derived.Test.YtbljhngekhgbbaaGreatG7be370e0
import Derived.Test.YtbljhngekhgbbaaGreatG15131814
set_option linter.unusedSimpArgs false
set_option linter.unusedVariables false
namespace Go.Proofs.YtbljhngekhgbbaaGreat
open Go.RowKit
set_option linter.unusedVariables false
set_option linter.unusedSectionVars false
set_option linter.unusedSimpArgs false
section
variable {P : Program} {f : FuncId} {α γ δ ε ζ ξ η θ κ : Type}
def Ora.of3c {A : Dk α} {B : Dk γ} {D : Dk δ} {Z : Dk ζ} {s : α → γ → δ → ζ} (p : α → γ → δ → Bool) (h : ∀ a b d, p a b d = true → CallsTo P f [A.enc a, B.enc b, D.enc d] (Z.enc (s a b d))) : Ora P where
  f := f
  run ts := match ts with
    | [a, b, d] => (A.dec a).bind fun a => (B.dec b).bind fun b => (D.dec d).map fun d => (p a b d, Z.enc (s a b d))
    | _ => none
  ok ts r e := by
    split at e
    · obtain ⟨a, ha, e⟩ := Option.bind_eq_some_iff.1 e
      obtain ⟨b, hb, e⟩ := Option.bind_eq_some_iff.1 e
      obtain ⟨d, hd, e⟩ := Option.map_eq_some_iff.1 e
      simp only [Prod.mk.injEq] at e
      obtain ⟨hp, rfl⟩ := e
      exact (h a b d hp).weak ⟨A.leq ha, B.leq hb, D.leq hd, trivial⟩ .rfl
    · cases e
end
section
variable {P : Program} {N : Nat} {C : Ctx} {c : Code} {st s : SSt} {e : Exit} {Q : Exit → SSt → Prop}
end
end Go.Proofs.YtbljhngekhgbbaaGreat
namespace Go.Proofs.YtbljhngekhgbbaaGreat
open Go.RowKit
set_option linter.unusedVariables false
set_option linter.unusedSectionVars false
set_option linter.unusedSimpArgs false
section
variable {P : Program} {N z : Nat} {C : Ctx} {c : Code} {s t u st : SSt} {Q : Exit → SSt → Prop} {e : Exit}
end
theorem dF_leq {g : FuncId} {p : PV} {a : Unit} (h : dF g p = some a) : p.Leq (.lit (.func (.func g) ⟨[]⟩ ⟨[]⟩)) := by
  unfold dF at h
  split at h
  · split at h
    · rename_i e; subst e; exact .rfl
    · cases h
  · cases h
def kF (g : FuncId) : Dk Unit := .ofP (fun _ => .lit (.func (.func g) ⟨[]⟩ ⟨[]⟩)) (dF g) dF_leq
abbrev sF (t : Nat) (g : FuncId) : Slot := .val t Unit ⟨()⟩ (kF g) (fun _ => rfl)
abbrev sT (t : Nat) : Slot := .val t ByteArray ⟨.empty⟩ kT (fun _ => rfl)
instance : Inhabited MStamp := ⟨dfl .stamp⟩
instance : Inhabited MSpan := ⟨dfl .span⟩
instance : Inhabited MShard := ⟨dfl .shard⟩
instance : Inhabited MDep := ⟨dfl .dep⟩
instance : Inhabited MOp := ⟨dfl .op⟩
instance : Inhabited MPair := ⟨dfl .pair⟩
instance : Inhabited MWrite := ⟨dfl .write⟩
instance : Inhabited MVal := ⟨⟨false, ⟨0, 0⟩, []⟩⟩
instance : Inhabited MCmd := ⟨dfl .cmd⟩
instance : Inhabited MTold := ⟨dfl .told⟩
instance : Inhabited MAct := ⟨dfl .act⟩
instance : Inhabited MMsg := ⟨dfl .msg⟩
section
variable {N z : Nat} {s t : SSt}
end
section
variable {P : Program} {f : FuncId} {α γ δ ε ζ η : Type} [Inhabited ζ]
def Ora.p3 {A : Dk α} {B : Dk γ} {D : Dk δ} {Z : Dk ζ} {s : α → γ → δ → Option ζ} (h : ∀ a b d r, s a b d = some r → CallsTo P f [A.enc a, B.enc b, D.enc d] (Z.enc r)) : Ora P := .of3c (A := A) (B := B) (D := D) (Z := Z) (s := fun a b d => (s a b d).getD default) (fun a b d => (s a b d).isSome) fun a b d hp => h a b d _ (opt_of hp)
end
open Classical in
section
variable {D R E : Type} {step : D → Option (Out D R E)} {d : D} {x : R ⊕ E}
end
section
variable {P : Program} {R : OrK} {N z n : Nat} {C : Ctx} {c : Code}
end
end Go.Proofs.YtbljhngekhgbbaaGreat
