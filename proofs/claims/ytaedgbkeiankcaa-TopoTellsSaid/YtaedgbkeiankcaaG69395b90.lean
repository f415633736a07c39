/- Texts of the proofs of TopoTells, merged (PToC, Pxfmlaw04TopoTells, PToT, PToU). -/
import Derived.Test.YtaedgbkeiankcaaWWords
import Derived.Test.YtaedgbkeiankcaaWLast
import Derived.Test.YtaedgbkeiankcaaWTab
import Derived.Test.YtaedgbkeiankcaaWQPut
import Derived.Test.YtaedgbkeiankcaaWApart
import Derived.Test.YtaedgbkeiankcaaWArr
import Derived.Test.YtaedgbkeiankcaaWZeros
import Derived.Test.YtaedgbkeiankcaaWFoot
import Derived.Test.YtaedgbkeiankcaaWKept
import Derived.Test.YtaedgbkeiankcaaWShare
import Derived.Test.YtaedgbkeiankcaaWN
import Derived.Test.YtaedgbkeiankcaaWEqStruct
import Derived.Test.YtaedgbkeiankcaaWRepsOne
import Derived.Test.YtaedgbkeiankcaaWGuard
import Derived.Test.YtaedgbkeiankcaaWNEv
import Derived.Test.YtaedgbkeiankcaaWMore
import Derived.Test.YtaedgbkeiankcaaG64eb9ef8
import Derived.Test.YtaedgbkeiankcaaGca2bd920
import Derived.Test.YtaedgbkeiankcaaGe5ba3929
import Derived.Test.YtaedgbkeiankcaaGff33e446
import Derived.Test.YtaedgbkeiankcaaG5fc94eef
import Derived.Test.YtaedgbkeiankcaaG65f7974d
import Derived.Test.YtaedgbkeiankcaaG4bcd870f
import Derived.Test.YtaedgbkeiankcaaG41c11834
import Derived.Test.YtaedgbkeiankcaaG132b0fe3
import Derived.Test.YtaedgbkeiankcaaG0dc59620
import Derived.Test.YtaedgbkeiankcaaGc773388e
import Derived.Test.YtaedgbkeiankcaaG8ef4219a
import Derived.Test.YtaedgbkeiankcaaGae6c6a1e
import Derived.Test.YtaedgbkeiankcaaG59233577
import Derived.Test.YtaedgbkeiankcaaG9f496484
import Derived.Test.YtaedgbkeiankcaaG432ab4c7
import Derived.Test.YtaedgbkeiankcaaG9919190a
import Derived.Test.YtaedgbkeiankcaaG9a577d31
import Derived.Test.YtaedgbkeiankcaaG59149f34
import Derived.Test.YtaedgbkeiankcaaG76e5816a
import Derived.Test.YtaedgbkeiankcaaG451f7519
import Derived.Test.YtaedgbkeiankcaaG702c08ce
import Derived.Test.YtaedgbkeiankcaaG366182de
namespace Go.Proofs.Ytaedgbkeiankcaa.P
open Go.RowKit Go.Proofs.YtaedgbkeiankcaaW.PrintWords
set_option linter.unusedVariables false
set_option linter.unusedSimpArgs false
def okS (l : List Shd) (m : Nat) : Bool := (if m + 1 < l.length then !(badS (beg l m) (l.getD m z37)) else lastS (beg l m) (l.getD m z37)) && nodesB (l.getD m z37).f1
theorem topoB_ok (l : List Shd) : topoB l = (decide (l.length ≠ 0 ∧ l.length ≤ 8) && okR (okS l) l.length 0) := by
  unfold topoB
  by_cases hn : l.length ≠ 0 ∧ l.length ≤ 8
  · rw [decide_eq_true hn, Bool.true_and, Bool.true_and, Bool.eq_iff_iff, Bool.and_eq_true, Bool.and_eq_true, okR_iff, List.all_eq_true, List.all_eq_true]
    have gd : ∀ m (h : m < l.length), l.getD m z37 = l[m] := fun m h => by simp [List.getD_eq_getElem?_getD, h]
    constructor
    · rintro ⟨h1, h2, h3⟩ m _ hm
      unfold okS
      rw [Bool.and_eq_true]
      refine ⟨?_, by rw [gd m (by omega)]; exact h3 _ (List.getElem_mem _)⟩
      split
      · exact h1 m (List.mem_range.2 (by omega))
      · rw [show m = l.length - 1 from by omega]; exact h2
    · intro h
      refine ⟨fun m hm => ?_, ?_, fun x hx => ?_⟩
      · have hm := List.mem_range.1 hm
        have := h m (Nat.zero_le _) (by omega)
        unfold okS at this
        rw [if_pos (by omega), Bool.and_eq_true] at this
        exact this.1
      · have := h (l.length - 1) (Nat.zero_le _) (by omega)
        unfold okS at this
        rw [if_neg (by omega), Bool.and_eq_true] at this
        exact this.1
      · obtain ⟨m, hm, rfl⟩ := List.getElem_of_mem hx
        have := h m (Nat.zero_le _) (by omega)
        unfold okS at this
        rw [Bool.and_eq_true, gd m hm] at this
        exact this.2
  · rw [decide_eq_false hn, Bool.false_and, Bool.false_and]
theorem rchk_l1 (l : List Shd) (ns : List Int) (hns : ns.length ≤ 1000) (x3 : ByteArray) (i : Nat) (hi : i < 1000) (R : Int) (hR : Ev (fun k => folkmootref04_Check.l0 k l x3 ((i + 1 : Nat) : Int)) R) : ∀ (d j : Nat), j ≤ ns.length → ns.length - j = d →
    Ev (fun k => folkmootref04_Check.l1 k l x3 (i : Int) ns (j : Int)) (if okR (okN ns) d j = true then R else 40) := by
  intro d
  induction d with
  | zero =>
    intro j hj hd
    have h1 : ¬ (j : Int) < (ns.length : Int) := by omega
    have hw : wrap64 ((i : Int) + 1) = ((i + 1 : Nat) : Int) := by rw [wrap_in] <;> omega
    rw [okR, if_pos rfl]
    exact Ev.step (fun k => by simp only [folkmootref04_Check.l1, if_neg h1, hw] <;> rfl) hR
  | succ d ih =>
    intro j hj hd
    have h1 : (j : Int) < (ns.length : Int) := by omega
    have h0 : (0 : Int) ≤ (j : Int) := by omega
    have hw : wrap64 ((j : Int) + 1) = ((j + 1 : Nat) : Int) := by rw [wrap_in] <;> omega
    have hm : j ≠ 0 → wrap64 ((j : Int) - 1) = ((j - 1 : Nat) : Int) := fun _ => by rw [wrap_in] <;> omega
    have r1 : rd ns (j : Int) = ns.getD j 0 := rfl
    have r2 : rd ns ((j - 1 : Nat) : Int) = ns.getD (j - 1) 0 := rfl
    have h2 : (0 : Int) ≤ ((j - 1 : Nat) : Int) := by omega
    have h3 : ((j - 1 : Nat) : Int) < (ns.length : Int) := by omega
    have hn := ih (j + 1) (by omega) (by omega)
    rw [okR]
    unfold okN
    by_cases c1 : ns.getD j 0 < 1
    · rw [decide_eq_false (by omega : ¬ 1 ≤ ns.getD j 0), Bool.false_and, Bool.false_and, Bool.false_and, if_neg (by simp)]
      exact Ev.step (fun k => by simp only [folkmootref04_Check.l1, if_pos h1, if_pos h0, r1, if_pos c1] <;> rfl) (Ev.val _)
    · rw [decide_eq_true (by omega : 1 ≤ ns.getD j 0), Bool.true_and]
      by_cases c2 : ns.getD j 0 > 7
      · rw [decide_eq_false (by omega : ¬ ns.getD j 0 ≤ 7), Bool.false_and, Bool.false_and, if_neg (by simp)]
        exact Ev.step (fun k => by simp only [folkmootref04_Check.l1, if_pos h1, if_pos h0, r1, if_neg c1, if_pos c2] <;> rfl) (Ev.val _)
      · rw [decide_eq_true (by omega : ns.getD j 0 ≤ 7), Bool.true_and]
        by_cases c3 : j = 0
        · have c3' : ¬ (j : Int) > 0 := by omega
          rw [decide_eq_true c3, Bool.true_or, Bool.true_and]
          exact Ev.step (fun k => by simp only [folkmootref04_Check.l1, if_pos h1, if_pos h0, r1, if_neg c1, if_neg c2, if_neg c3', hw] <;> rfl) hn
        · have c3' : (j : Int) > 0 := by omega
          rw [decide_eq_false c3, Bool.false_or]
          by_cases c4 : ns.getD j 0 ≤ ns.getD (j - 1) 0
          · rw [decide_eq_false (by omega : ¬ ns.getD (j - 1) 0 < ns.getD j 0), Bool.false_and, if_neg (by simp)]
            exact Ev.step (fun k => by simp only [folkmootref04_Check.l1, if_pos h1, if_pos h0, r1, if_neg c1, if_neg c2, if_pos c3', hm c3, if_pos h2, if_pos h3, r2, if_pos c4] <;> rfl) (Ev.val _)
          · rw [decide_eq_true (by omega : ns.getD (j - 1) 0 < ns.getD j 0), Bool.true_and]
            exact Ev.step (fun k => by simp only [folkmootref04_Check.l1, if_pos h1, if_pos h0, r1, if_neg c1, if_neg c2, if_pos c3', hm c3, if_pos h2, if_pos h3, r2, if_neg c4, hw] <;> rfl) hn
theorem rchk_j2 (l : List Shd) (i : Nat) (hil : i < l.length) (hl : l.length ≤ 8) (fr : ByteArray) (R : Int) (hR : Ev (fun k => folkmootref04_Check.l0 k l l[i].f0.f1 ((i + 1 : Nat) : Int)) R) (c : Bool) :
    Ev (fun k => folkmootref04_Check.j2 k l (i : Int) c fr l[i].f0.f1) (if c = true then 40 else if nodesB l[i].f1 = true then R else 40) := by
  cases c with
  | true => exact Ev.step (fun k => by simp only [folkmootref04_Check.j2, if_true] <;> rfl) (Ev.val _)
  | false =>
    have h1 : (i : Int) < (l.length : Int) := by omega
    have h0 : (0 : Int) ≤ (i : Int) := by omega
    have hr : rd_T37 l (i : Int) = l[i] := by simp [rd_T37, List.getD_eq_getElem?_getD, hil]
    rw [if_neg (by simp), nodesB_ok]
    generalize l[i].f0.f1 = x3 at *
    generalize hns' : l[i].f1 = ns
    have hr1 : (rd_T37 l (i : Int)).f1 = ns := by rw [hr]; exact hns'
    have j3t : Ev (fun k => folkmootref04_Check.j3 k l x3 (i : Int) ns true) 40 := Ev.step (fun k => by simp only [folkmootref04_Check.j3, if_true] <;> rfl) (Ev.val _)
    by_cases c0 : (ns.length : Int) < 1
    · rw [decide_eq_false (by omega), Bool.false_and, if_neg (by simp)]
      exact Ev.step (fun k => by simp only [folkmootref04_Check.j2, Bool.false_eq_true, if_false, if_pos h0, if_pos h1, hr1, if_pos c0] <;> rfl) j3t
    · by_cases c5 : (ns.length : Int) > 5
      · rw [decide_eq_false (by omega), Bool.false_and, if_neg (by simp)]
        exact Ev.step (fun k => by simp only [folkmootref04_Check.j2, Bool.false_eq_true, if_false, if_pos h0, if_pos h1, hr1, if_neg c0, decide_eq_true c5] <;> rfl) j3t
      · rw [decide_eq_true (by omega : ns.length ≠ 0 ∧ ns.length ≤ 5), Bool.true_and]
        refine Ev.step (fun k => by simp only [folkmootref04_Check.j2, Bool.false_eq_true, if_false, if_pos h0, if_pos h1, hr1, if_neg c0, decide_eq_false c5] <;> rfl) ?_
        exact Ev.step (fun k => by simp only [folkmootref04_Check.j3, Bool.false_eq_true, if_false] <;> rfl) (rchk_l1 l ns (by omega) x3 i (by omega) R hR ns.length 0 (Nat.zero_le _) (Nat.sub_zero _))
theorem rchk_l0 (l : List Shd) (hl : l.length ≤ 8) : ∀ (d i : Nat) (fr : ByteArray), i ≤ l.length → l.length - i = d → (i < l.length → fr = beg l i) → Ev (fun k => folkmootref04_Check.l0 k l fr (i : Int)) (if okR (okS l) d i = true then 0 else 40) := by
  intro d
  induction d with
  | zero =>
    intro i fr hi hd hf
    have h1 : ¬ (i : Int) < (l.length : Int) := by omega
    rw [okR, if_pos rfl]
    exact Ev.step (fun k => by simp only [folkmootref04_Check.l0, if_neg h1] <;> rfl) (Ev.val _)
  | succ d ih =>
    intro i fr hi hd hf
    have h1 : (i : Int) < (l.length : Int) := by omega
    have h0 : (0 : Int) ≤ (i : Int) := by omega
    have hil : i < l.length := by omega
    have hfr := hf hil
    have hgd : l.getD i z37 = l[i] := by simp [List.getD_eq_getElem?_getD, hil]
    have hr : rd_T37 l (i : Int) = l[i] := by simp [rd_T37, List.getD_eq_getElem?_getD, hil]
    have hm : wrap64 ((l.length : Int) - 1) = ((l.length - 1 : Nat) : Int) := by rw [wrap_in] <;> omega
    have hn := ih (i + 1) l[i].f0.f1 (by omega) (by omega) (fun h => (beg_succ l i hil).symm)
    have hj := fun (fr2 : ByteArray) (c : Bool) => rchk_j2 l i hil hl fr2 _ hn c
    clear hn
    rw [okR]
    generalize okR (okS l) d (i + 1) = rest at hj ⊢
    unfold okS
    rw [hgd, ← hfr]
    generalize nodesB l[i].f1 = nb at hj ⊢
    by_cases cF : l[i].f0.f0.toList = fr.toList
    · by_cases cL : (i : Int) = ((l.length - 1 : Nat) : Int)
      · rw [if_neg (show ¬ i + 1 < l.length by omega)]
        by_cases cT : l[i].f0.f1.toList = ([] : List UInt8)
        · have e : lastS fr l[i] = true := by unfold lastS; rw [beq_iff_eq.2 cF, beq_iff_eq.2 cT]; rfl
          rw [e, Bool.true_and]
          refine Ev.eq (Ev.step (fun k => by simp only [folkmootref04_Check.l0, if_pos h1, if_pos h0, hr, if_pos cF, hm, if_pos cL, if_pos cT] <;> rfl) (hj l[i].f0.f0 false)) ?_
          cases nb <;> cases rest <;> rfl
        · have e : lastS fr l[i] = false := by unfold lastS; rw [beq_iff_eq.2 cF, beq_eq_false_iff_ne.2 cT]; rfl
          rw [e, Bool.false_and, Bool.false_and]
          exact Ev.eq (Ev.step (fun k => by simp only [folkmootref04_Check.l0, if_pos h1, if_pos h0, hr, if_pos cF, hm, if_pos cL, if_neg cT] <;> rfl) (hj l[i].f0.f0 true)) rfl
      · rw [if_pos (show i + 1 < l.length by omega)]
        by_cases cB : Op.bytesLess l[i].f0.f0.toList l[i].f0.f1.toList = true
        · have e : (!(badS fr l[i])) = !(decide ((l[i].f0.f1.size : Int) > 16)) := by
            unfold badS
            have hs : decide (16 < l[i].f0.f1.size) = decide ((l[i].f0.f1.size : Int) > 16) := by rw [decide_eq_decide]; omega
            rw [beq_iff_eq.2 cF, ← cF, cB, hs]
            rfl
          rw [e]
          refine Ev.eq (Ev.step (fun k => by simp only [folkmootref04_Check.l0, if_pos h1, if_pos h0, hr, if_pos cF, hm, if_neg cL, if_pos cB] <;> rfl) (hj l[i].f0.f0 (decide ((l[i].f0.f1.size : Int) > 16)))) ?_
          cases decide ((l[i].f0.f1.size : Int) > 16) <;> cases nb <;> cases rest <;> rfl
        · have e : badS fr l[i] = true := by
            unfold badS
            rw [beq_iff_eq.2 cF, ← cF, show Op.bytesLess l[i].f0.f0.toList l[i].f0.f1.toList = false by simpa using cB]
            rfl
          rw [e, Bool.not_true, Bool.false_and, Bool.false_and]
          exact Ev.eq (Ev.step (fun k => by simp only [folkmootref04_Check.l0, if_pos h1, if_pos h0, hr, if_pos cF, hm, if_neg cL, if_neg cB] <;> rfl) (hj l[i].f0.f0 true)) rfl
    · have e1 : badS fr l[i] = true := by unfold badS; rw [beq_eq_false_iff_ne.2 cF]; rfl
      have e2 : lastS fr l[i] = false := by unfold lastS; rw [beq_eq_false_iff_ne.2 cF]; rfl
      rw [e1, e2]
      have e3 : (if i + 1 < l.length then (!true) else false) = false := by split <;> rfl
      rw [e3, Bool.false_and, Bool.false_and]
      exact Ev.eq (Ev.step (fun k => by simp only [folkmootref04_Check.l0, if_pos h1, if_pos h0, hr, if_neg cF] <;> rfl) (hj l[i].f0.f0 true)) rfl
theorem rcheck_ev (l : List Shd) : Ev (fun k => folkmootref04_Check.f k l) (if topoB l = true then 0 else 40) := by
  rw [topoB_ok]
  have jt : Ev (fun k => folkmootref04_Check.j0 k l true) 40 := Ev.step (fun k => by simp only [folkmootref04_Check.j0, if_true] <;> rfl) (Ev.val _)
  unfold folkmootref04_Check.f
  by_cases c0 : (l.length : Int) < 1
  · simp only [if_pos c0]
    rw [decide_eq_false (by omega), Bool.false_and]
    exact jt
  · by_cases c8 : (l.length : Int) > 8
    · simp only [if_neg c0, decide_eq_true c8]
      rw [decide_eq_false (by omega : ¬ (l.length ≠ 0 ∧ l.length ≤ 8)), Bool.false_and]
      exact jt
    · simp only [if_neg c0, decide_eq_false c8]
      rw [decide_eq_true (by omega : l.length ≠ 0 ∧ l.length ≤ 8), Bool.true_and]
      exact Ev.step (fun k => by simp only [folkmootref04_Check.j0, Bool.false_eq_true, if_false] <;> rfl) (rchk_l0 l (by omega) l.length 0 _ (Nat.zero_le _) (Nat.sub_zero _) (fun _ => rfl))
end Go.Proofs.Ytaedgbkeiankcaa.P
namespace Go.Proofs.Ytaedgbkeiankcaa.P
open Go.RowKit Go.Proofs.YtaedgbkeiankcaaW.PrintWords Go.Proofs.YtaedgbkeiankcaaW.PrintLast Go.Proofs.YtaedgbkeiankcaaW.PrintMore
attribute [local go_sem] str_leq str_geq max2_str max2_int min2_int max_two min_two max_three min_three max_four min_four
set_option linter.unusedVariables false
set_option linter.unusedSimpArgs false
mutual
def folkmootlaw04_TopoTells.j0 : Nat → List (S37) → ByteArray → List (S35) → Int → List Int → Bool → Option (Bool)
  | 0, _, _, _, _, _, _ => none
  | k + 1, x0, x1, x2, x3, x4, x35 => if x35 = true then ((folkmootlaw04_live.f k).bind fun t267 => (some t267)) else ((folkmootref03_Union.f k x2).bind fun t268 => (folkmootlaw04_TopoTells.l0 k x0 x1 x3 x4 t268 false 0))
def folkmootlaw04_TopoTells.l0 : Nat → List (S37) → ByteArray → Int → List Int → List (S35) → Bool → Int → Option (Bool)
  | 0, _, _, _, _, _, _, _ => none
  | k + 1, x0, x1, x3, x4, x11, x12, x13 => if x13 < (x4.length : Int) then (if x12 = true then (folkmootlaw04_TopoTells.l0 k x0 x1 x3 x4 x11 true (wrap64 (x13 + 1))) else (if 0 ≤ x13 then (if (rd x4 x13) ≥ 0 then (if (rd x4 x13) < (x0.length : Int) then (if 0 ≤ (rd x4 x13) then ((folkmootref04_In.f k ((rd_T37 x0 (rd x4 x13)).f1) x3).bind fun t275 => (folkmootlaw04_TopoTells.l0 k x0 x1 x3 x4 x11 t275 (wrap64 (x13 + 1)))) else (none)) else (folkmootlaw04_TopoTells.l0 k x0 x1 x3 x4 x11 false (wrap64 (x13 + 1)))) else (folkmootlaw04_TopoTells.l0 k x0 x1 x3 x4 x11 false (wrap64 (x13 + 1)))) else (none))) else (folkmootlaw04_TopoTells.l1 k x0 x1 x3 x4 x11 x12 0)
def folkmootlaw04_TopoTells.l1 : Nat → List (S37) → ByteArray → Int → List Int → List (S35) → Bool → Int → Option (Bool)
  | 0, _, _, _, _, _, _, _ => none
  | k + 1, x0, x1, x3, x4, x11, x12, x14 => if x14 < (x0.length : Int) then (if 0 ≤ x14 then ((topo_Quorum.f ((rd_T37 x0 x14).f0.f0) ((rd_T37 x0 x14).f0.f1) ((rd_T37 x0 x14).f1)).bind fun t278 => (if (wrap64 (2 * t278)) ≤ (((rd_T37 x0 x14).f1).length : Int) then (some false) else (if (wrap64 (2 * (wrap64 (t278 - 1)))) > (((rd_T37 x0 x14).f1).length : Int) then (some false) else (folkmootlaw04_TopoTells.l1 k x0 x1 x3 x4 x11 x12 (wrap64 (x14 + 1)))))) else (none)) else ((topo_Find.f x0 x1).bind fun t279 => ((folkmootref04_Find.f k x0 x1).bind fun t280 => (if t279 = t280 then ((topo_Touch.f x0 x11).bind fun t281 => ((folkmootref04_Touch.f k x0 x11).bind fun t284 => ((folkmootref04_Ints.f k t281 t284).bind fun t287 => (if t287 = true then ((topo_Of.f x0 x3).bind fun t288 => ((folkmootref04_Of.f k x0 x3).bind fun t291 => ((folkmootref04_Ints.f k t288 t291).bind fun t294 => (if t294 = true then ((topo_Owned.f k x0 x3).bind fun t295 => ((folkmootref04_Owned.f k x0 x3).bind fun t298 => ((folkmootref03_Same.f k t295 t298).bind fun t301 => (if t301 = true then ((some (([] : List Int) : List Int)).bind fun y302 => (if y302.length + x4.length < 17592186044416 then ((topo_Keeps.f k x0 x3 (y302 ++ x4)).bind fun t308 => (if (t308 == x12) = true then ((some (([] : List Int) : List Int)).bind fun y309 => (if y309.length + x4.length < 17592186044416 then ((topo_Nodes.f x0 (y309 ++ x4)).bind fun t315 => ((folkmootref04_Nodes.f k x0 x4).bind fun t318 => ((folkmootref04_Ints.f k t315 t318).bind fun t321 => (if t321 = true then ((folkmootlaw04_live.f k).bind fun t322 => (some t322)) else (some false))))) else (none))) else (some false))) else (none))) else (some false))))) else (some false))))) else (some false))))) else (some false))))
end
def folkmootlaw04_TopoTells.f (k : Nat) (l0 : List (S37)) (a1 : ByteArray) (l2 : List (S35)) (a3 : Int) (l4 : List Int) : Option (Bool) := (folkmootlaw04_small.f k l0 l2).bind fun t265 => (if t265 = true then (if (a1.size : Int) > 4000 then (folkmootlaw04_TopoTells.j0 k l0 a1 l2 a3 l4 true) else (if (l4.length : Int) > 30 then (folkmootlaw04_TopoTells.j0 k l0 a1 l2 a3 l4 true) else ((folkmootref04_Check.f k l0).bind fun t266 => (folkmootlaw04_TopoTells.j0 k l0 a1 l2 a3 l4 (t266 != 0))))) else (folkmootlaw04_TopoTells.j0 k l0 a1 l2 a3 l4 true))
set_option maxHeartbeats 8000000 in
set_option maxRecDepth 100000 in
theorem folkmootlaw04_TopoTells.calls (k : Nat) (A0 : Option Addr) (c0 : Nat) (l0 : List (S37)) (a1 : ByteArray) (A2 : Option Addr) (c2 : Nat) (l2 : List (S35)) (a3 : Int) (A4 : Option Addr) (c4 : Nat) (l4 : List Int) (r : Bool) (w : World) (hr0 : Kd.C k37 w A0 l0.length l0) (hc0 : l0.length ≤ c0) (hr2 : Kd.C k35 w A2 l2.length l2) (hc2 : l2.length ≤ c2) (hr4 : Kd.C (Kd.int .i64) w A4 l4.length l4) (hc4 : l4.length ≤ c4) (h : folkmootlaw04_TopoTells.f k l0 a1 l2 a3 l4 = some r) (hrt_ : r = true := by rfl) :
    Calls Try.prog 6 #[.slice A0 l0.length c0, .string a1, .slice A2 l2.length c2, .int .i64 a3, .slice A4 l4.length c4] w fun e w' => e = .returned (.bool r) ∧ Below w.heap.size w w' := by
  subst hrt_
  have hu37 := Try.underlying37
  have HR0 := Aside0.mk hr0
  have HC0 := Aside0.mk hc0
  clear hr0 hc0
  have HR2 := Aside0.mk hr2
  have HC2 := Aside0.mk hc2
  clear hr2 hc2
  have HR4 := Aside0.mk hr4
  have HC4 := Aside0.mk hc4
  clear hr4 hc4
  have HB := Aside0.mk (Below.refl w.heap.size w)
  have H : ((folkmootlaw04_small.f k l0 l2).bind fun t265 => (if t265 = true then (if (a1.size : Int) > 4000 then (folkmootlaw04_TopoTells.j0 k l0 a1 l2 a3 l4 true) else (if (l4.length : Int) > 30 then (folkmootlaw04_TopoTells.j0 k l0 a1 l2 a3 l4 true) else ((folkmootref04_Check.f k l0).bind fun t266 => (folkmootlaw04_TopoTells.j0 k l0 a1 l2 a3 l4 (t266 != 0))))) else (folkmootlaw04_TopoTells.j0 k l0 a1 l2 a3 l4 true))) = some true := h
  clear h
  have HC6 := Aside0.mk H
  clear H
  go_enter Try.func6, Try.ntmps6
  go_upto_region 1 with (fail)
  go_cut [35] (fun v35 wc => ∃ (kq : Nat) (x35_5 : Bool), v35 = .bool x35_5 ∧ Aside0 (folkmootlaw04_TopoTells.j0 kq l0 a1 l2 a3 l4 x35_5 = some true) ∧ Aside0 (kq ≤ k) ∧ Aside0 (Below w.heap.size w wc))
  case first =>
    have H := HC6.out
    clear HC6
    replace H := Option.bind_eq_some_iff.mp H
    obtain ⟨t265, A70, H⟩ := H
    replace H : (if t265 = true then (if (a1.size : Int) > 4000 then (folkmootlaw04_TopoTells.j0 k l0 a1 l2 a3 l4 true) else (if (l4.length : Int) > 30 then (folkmootlaw04_TopoTells.j0 k l0 a1 l2 a3 l4 true) else ((folkmootref04_Check.f k l0).bind fun t266 => (folkmootlaw04_TopoTells.j0 k l0 a1 l2 a3 l4 (t266 != 0))))) else (folkmootlaw04_TopoTells.j0 k l0 a1 l2 a3 l4 true)) = some true := H
    have A7 := Aside0.mk A70
    clear A70
    by_cases c8 : t265 = true
    · subst c8
      have H1 : (if (a1.size : Int) > 4000 then (folkmootlaw04_TopoTells.j0 k l0 a1 l2 a3 l4 true) else (if (l4.length : Int) > 30 then (folkmootlaw04_TopoTells.j0 k l0 a1 l2 a3 l4 true) else ((folkmootref04_Check.f k l0).bind fun t266 => (folkmootlaw04_TopoTells.j0 k l0 a1 l2 a3 l4 (t266 != 0))))) = some true := by rw [if_pos rfl] at H; exact H
      clear H
      have H := H1
      clear H1
      by_cases c9 : (a1.size : Int) > 4000
      · rw [if_pos c9] at H
        have c9b0 : decide (4000 < (a1.size : Int)) = true := decide_eq_true c9
        have c9b1 : decide (4000 < a1.size) = true := decide_eq_true (by omega)
        clear c9
        (first | rw [c9b0] | (simp only [i64_w, i32_w]; rw [c9b0]) | skip)
        have H' := Aside0.mk H
        clear H
        go_wp2_with (first | ((with_reducible refine gate_callee (f := 9) rfl ?_); refine goesL_ (some 19) rfl rfl Try.func9 (by kernel_rfl) rfl #[.slice A0 l0.length c0, .slice A2 l2.length c2] rfl (by (try simp only [List.map_toArray, List.map_cons, List.map_nil]); first | done | rfl | (simp only [List.length_drop, List.length_take]; rfl)) ?_; (with_reducible refine (folkmootlaw04_small.calls k _ _ l0 _ _ l2 true _ ?side1 ?side2 ?side3 ?side4 A7.out).mono ?_); (case side1 => exact uC (Kd.C_below HR0.out HB.out)); (case side2 => exact HC0.out); (case side3 => exact uC (Kd.C_below HR2.out HB.out)); (case side4 => exact HC2.out); rintro e w' ⟨rfl, ⟨nd, rfl⟩⟩; refine ⟨_, rfl, ?_⟩))
        go_meet
        case rel => exact ⟨_, (true), (by first | rfl | (simp; done) | (simp [*]; done)), H', ⟨by first | omega | exact Nat.le_refl _⟩, ⟨by repeat (first | (with_reducible first | exact HB.out | apply below_alloc | apply pw_below_drewN | apply below_drew1) | exact HB.out)⟩⟩
      · rw [if_neg c9] at H
        have c9b0 : decide (4000 < (a1.size : Int)) = false := decide_eq_false c9
        have c9b1 : decide (4000 < a1.size) = false := decide_eq_false (by omega)
        clear c9
        (first | rw [c9b0] | (simp only [i64_w, i32_w]; rw [c9b0]) | skip)
        by_cases c10 : (l4.length : Int) > 30
        · rw [if_pos c10] at H
          have c10b0 : decide (30 < (l4.length : Int)) = true := decide_eq_true c10
          have c10b1 : decide (30 < l4.length) = true := decide_eq_true (by omega)
          clear c10
          have H' := Aside0.mk H
          clear H
          go_wp2_with (first | ((with_reducible refine gate_callee (f := 9) rfl ?_); refine goesL_ (some 19) rfl rfl Try.func9 (by kernel_rfl) rfl #[.slice A0 l0.length c0, .slice A2 l2.length c2] rfl (by (try simp only [List.map_toArray, List.map_cons, List.map_nil]); first | done | rfl | (simp only [List.length_drop, List.length_take]; rfl)) ?_; (with_reducible refine (folkmootlaw04_small.calls k _ _ l0 _ _ l2 true _ ?side1 ?side2 ?side3 ?side4 A7.out).mono ?_); (case side1 => exact uC (Kd.C_below HR0.out HB.out)); (case side2 => exact HC0.out); (case side3 => exact uC (Kd.C_below HR2.out HB.out)); (case side4 => exact HC2.out); rintro e w' ⟨rfl, ⟨nd, rfl⟩⟩; refine ⟨_, rfl, ?_⟩))
          go_meet
          case rel => exact ⟨_, (true), (by first | rfl | (simp; done) | (simp [*]; done)), H', ⟨by first | omega | exact Nat.le_refl _⟩, ⟨by repeat (first | (with_reducible first | exact HB.out | apply below_alloc | apply pw_below_drewN | apply below_drew1) | exact HB.out)⟩⟩
        · rw [if_neg c10] at H
          have c10b0 : decide (30 < (l4.length : Int)) = false := decide_eq_false c10
          have c10b1 : decide (30 < l4.length) = false := decide_eq_false (by omega)
          clear c10
          replace H := Option.bind_eq_some_iff.mp H
          obtain ⟨t266, A110, H⟩ := H
          replace H : (folkmootlaw04_TopoTells.j0 k l0 a1 l2 a3 l4 (t266 != 0)) = some true := H
          have A11 := Aside0.mk A110
          clear A110
          have H' := Aside0.mk H
          clear H
          go_wp2_with (first | ((with_reducible refine gate_callee (f := 9) rfl ?_); refine goesL_ (some 19) rfl rfl Try.func9 (by kernel_rfl) rfl #[.slice A0 l0.length c0, .slice A2 l2.length c2] rfl (by (try simp only [List.map_toArray, List.map_cons, List.map_nil]); first | done | rfl | (simp only [List.length_drop, List.length_take]; rfl)) ?_; (with_reducible refine (folkmootlaw04_small.calls k _ _ l0 _ _ l2 true _ ?side1 ?side2 ?side3 ?side4 A7.out).mono ?_); (case side1 => exact uC (Kd.C_below HR0.out HB.out)); (case side2 => exact HC0.out); (case side3 => exact uC (Kd.C_below HR2.out HB.out)); (case side4 => exact HC2.out); rintro e w' ⟨rfl, ⟨nd, rfl⟩⟩; refine ⟨_, rfl, ?_⟩) | (go_at_call 13; (with_reducible refine (folkmootref04_Check.calls k _ _ l0 t266 _ ?side1 ?side2 A11.out).mono ?_); (case side1 => exact (Kd.C_below HR0.out (uB HB))); (case side2 => exact HC0.out); rintro e w12 ⟨rfl, hb⟩; replace HB := sB HB hb; (try clear hb); (try clear hb2); (try clear hk); (try clear hi)))
          go_meet
          case rel => exact ⟨_, ((t266 != 0)), (by first | rfl | (simp; done) | (simp [*]; done)), H', ⟨by first | omega | exact Nat.le_refl _⟩, ⟨by repeat (first | (with_reducible first | exact HB.out | apply below_alloc | apply pw_below_drewN | apply below_drew1) | exact HB.out)⟩⟩
    · replace c8 := Bool.eq_false_iff.mpr c8
      subst c8
      have H1 : (folkmootlaw04_TopoTells.j0 k l0 a1 l2 a3 l4 true) = some true := by rw [if_neg (show ¬ (false = true) by decide)] at H; exact H
      clear H
      have H := H1
      clear H1
      have H' := Aside0.mk H
      clear H
      go_wp2_with (first | ((with_reducible refine gate_callee (f := 9) rfl ?_); refine goesL_ (some 19) rfl rfl Try.func9 (by kernel_rfl) rfl #[.slice A0 l0.length c0, .slice A2 l2.length c2] rfl (by (try simp only [List.map_toArray, List.map_cons, List.map_nil]); first | done | rfl | (simp only [List.length_drop, List.length_take]; rfl)) ?_; (with_reducible refine (folkmootlaw04_small.calls k _ _ l0 _ _ l2 false _ ?side1 ?side2 ?side3 ?side4 A7.out).mono ?_); (case side1 => exact uC (Kd.C_below HR0.out HB.out)); (case side2 => exact HC0.out); (case side3 => exact uC (Kd.C_below HR2.out HB.out)); (case side4 => exact HC2.out); rintro e w' ⟨rfl, ⟨nd, rfl⟩⟩; refine ⟨_, rfl, ?_⟩))
      go_meet
      case rel => exact ⟨_, (true), (by first | rfl | (simp; done) | (simp [*]; done)), H', ⟨by first | omega | exact Nat.le_refl _⟩, ⟨by repeat (first | (with_reducible first | exact HB.out | apply below_alloc | apply pw_below_drewN | apply below_drew1) | exact HB.out)⟩⟩
  case rest =>
    clear HC6
    try clear c1
    try clear c2
    try clear p2
    try clear c4
    try clear c6
    try clear c8
    try clear c9
    try clear c9b0
    try clear c9b1
    try clear c10
    try clear c10b0
    try clear c10b1
    obtain ⟨kq, x35_5, rfl, HA, HJ5, HB⟩ := hcut
    cases kq with
    | zero => exact absurd HA.out (by simp [folkmootlaw04_TopoTells.j0])
    | succ kj5 =>
      have H := HA.out
      clear HA
      simp only [folkmootlaw04_TopoTells.j0] at H
      by_cases c13 : x35_5 = true
      · subst c13
        have H1 : ((folkmootlaw04_live.f kj5).bind fun t267 => (some t267)) = some true := by rw [if_pos rfl] at H; exact H
        clear H
        have H := H1
        clear H1
        replace H := Option.bind_eq_some_iff.mp H
        obtain ⟨t267, A140, H⟩ := H
        replace H : (some t267) = some true := H
        have A14 := Aside0.mk A140
        clear A140
        have hrt_ := Aside0.mk (Option.some.inj H)
        clear H
        go_wp2_with (first | ((with_reducible refine gate_callee (f := 10) rfl ?_); refine goesL_ (some 36) rfl rfl Try.func10 (by kernel_rfl) rfl #[] rfl (by (try simp only [List.map_toArray, List.map_cons, List.map_nil]); first | done | rfl | (simp only [List.length_drop, List.length_take]; rfl)) ?_; (with_reducible refine (folkmootlaw04_live.calls kj5  t267 _ A14.out).mono ?_); rintro e w15 ⟨rfl, hb⟩; refine ⟨_, rfl, ?_⟩; replace HB := sB HB hb; (try clear hb); (try clear hb2); (try clear hk); (try clear hi)))
        go_ret
        exact ⟨by first | rfl | (exact congrArg (fun b_ => Ending.returned (Value.bool b_)) hrt_.out) | (simp [errW_none, errW_some] <;> rfl) | (simp [*, errW_none, errW_some] <;> rfl), by repeat (first | (with_reducible first | exact HB.out | apply below_alloc | apply pw_below_drewN | apply below_drew1) | exact HB.out)⟩
      · replace c13 := Bool.eq_false_iff.mpr c13
        subst c13
        have H1 : ((folkmootref03_Union.f kj5 l2).bind fun t268 => (folkmootlaw04_TopoTells.l0 kj5 l0 a1 a3 l4 t268 false 0)) = some true := by rw [if_neg (show ¬ (false = true) by decide)] at H; exact H
        clear H
        have H := H1
        clear H1
        replace H := Option.bind_eq_some_iff.mp H
        obtain ⟨t268, A160, H⟩ := H
        replace H : (folkmootlaw04_TopoTells.l0 kj5 l0 a1 a3 l4 t268 false 0) = some true := H
        have A16 := Aside0.mk A160
        clear A160
        have H' := Aside0.mk H
        clear H
        go_wp2_with (first | ((with_reducible refine gate_callee (f := 17) rfl ?_); refine goesL_ (some 38) rfl rfl Try.func17 (by kernel_rfl) rfl #[.slice A2 l2.length c2] rfl (by (try simp only [List.map_toArray, List.map_cons, List.map_nil]); first | done | rfl | (simp only [List.length_drop, List.length_take]; rfl)) ?_; (with_reducible refine (folkmootref03_Union.calls kj5 _ _ l2 t268 _ ?side1 ?side2 A16.out).mono ?_); (case side1 => exact uC (Kd.C_below HR2.out HB.out)); (case side2 => exact HC2.out); rintro e w17 ⟨v269, rfl, ho0, hb⟩; refine ⟨_, rfl, ?_⟩; have HO270 := lR ho0 HB; replace HB := sB HB hb; (try clear hb); (try clear hb2); (try clear hk); (try clear hi); (try clear ho0)))
        go_loopg [12, 13] kj5 (fun kq v12 v13 w' => ∃ (x12_2 : Bool) (x13_2 : Int), v12 = .bool x12_2 ∧ v13 = .int .i64 x13_2 ∧ Aside0 (folkmootlaw04_TopoTells.l0 kq l0 a1 a3 l4 t268 x12_2 x13_2 = some true) ∧ Aside0 (kq ≤ kj5) ∧ Aside0 (Kd.R k35 35 w' w.heap.size (fun _ => True) v269 t268) ∧ Aside0 (Below w.heap.size w w'))
        case atStart => exact ⟨(false), (0), (by first | rfl | (simp; done) | (simp [*]; done)), (by first | rfl | (simp; done) | (simp [*]; done)), H', ⟨Nat.le_refl _⟩, ⟨by (with_reducible repeat (first | apply Kd.R_alloc | apply Kd.R_drewN | apply Kd.R_drew)); exact HO270.out⟩, ⟨by repeat (first | (with_reducible first | exact HB.out | apply below_alloc | apply pw_below_drewN | apply below_drew1) | exact HB.out)⟩⟩
        case round =>
          clear H'
          try clear c1
          try clear c2
          try clear p2
          try clear c4
          try clear c6
          try clear c8
          try clear c9
          try clear c9b0
          try clear c9b1
          try clear c10
          try clear c10b0
          try clear c10b1
          try clear c13
          try clear c17
          try clear p2
          obtain ⟨x12_2, x13_2, rfl, rfl, HA, HK2, HO_11, HB⟩ := hrel
          cases gk with
          | zero => exact absurd HA.out (by simp [folkmootlaw04_TopoTells.l0])
          | succ k2 =>
            have H := HA.out
            clear HA
            simp only [folkmootlaw04_TopoTells.l0] at H
            by_cases c18 : x13_2 < (l4.length : Int)
            · rw [if_pos c18] at H
              have c18b0 : decide (x13_2 < (l4.length : Int)) = true := decide_eq_true c18
              clear c18
              by_cases c19 : x12_2 = true
              · subst c19
                have H1 : (folkmootlaw04_TopoTells.l0 k2 l0 a1 a3 l4 t268 true (wrap64 (x13_2 + 1))) = some true := by rw [if_pos rfl] at H; exact H
                clear H
                have H := H1
                clear H1
                have H' := Aside0.mk H
                clear H
                go_wp2
                go_roundg k2
                case measure => have := HJ5.out; have := HK2.out; omega
                case rel => exact ⟨(true), (wrap64 (x13_2 + 1)), (by first | rfl | (simp; done) | (simp [*]; done)), (by first | rfl | (simp; done) | (simp [*]; done)), H', ⟨by have := HJ5.out; have := HK2.out; omega⟩, ⟨by (with_reducible repeat (first | apply Kd.R_alloc | apply Kd.R_drewN | apply Kd.R_drew)); exact HO_11.out⟩, ⟨by repeat (first | (with_reducible first | exact HB.out | apply below_alloc | apply pw_below_drewN | apply below_drew1) | exact HB.out)⟩⟩
              · replace c19 := Bool.eq_false_iff.mpr c19
                subst c19
                have H1 : (if 0 ≤ x13_2 then (if (rd l4 x13_2) ≥ 0 then (if (rd l4 x13_2) < (l0.length : Int) then (if 0 ≤ (rd l4 x13_2) then ((folkmootref04_In.f k2 ((rd_T37 l0 (rd l4 x13_2)).f1) a3).bind fun t275 => (folkmootlaw04_TopoTells.l0 k2 l0 a1 a3 l4 t268 t275 (wrap64 (x13_2 + 1)))) else (none)) else (folkmootlaw04_TopoTells.l0 k2 l0 a1 a3 l4 t268 false (wrap64 (x13_2 + 1)))) else (folkmootlaw04_TopoTells.l0 k2 l0 a1 a3 l4 t268 false (wrap64 (x13_2 + 1)))) else (none)) = some true := by rw [if_neg (show ¬ (false = true) by decide)] at H; exact H
                clear H
                have H := H1
                clear H1
                by_cases c20 : 0 ≤ x13_2
                · rw [if_pos c20] at H
                  have c20b0 : decide (0 ≤ x13_2) = true := decide_eq_true c20
                  clear c20
                  by_cases c21 : (rd l4 x13_2) ≥ 0
                  · rw [if_pos c21] at H
                    have c21b0 : decide (0 ≤ (rd l4 x13_2)) = true := decide_eq_true c21
                    clear c21
                    by_cases c22 : (rd l4 x13_2) < (l0.length : Int)
                    · rw [if_pos c22] at H
                      have c22b0 : decide ((rd l4 x13_2) < (l0.length : Int)) = true := decide_eq_true c22
                      clear c22
                      by_cases c23 : 0 ≤ (rd l4 x13_2)
                      · rw [if_pos c23] at H
                        have c23b0 : decide (0 ≤ (rd l4 x13_2)) = true := decide_eq_true c23
                        clear c23
                        replace H := Option.bind_eq_some_iff.mp H
                        obtain ⟨t275, A240, H⟩ := H
                        replace H : (folkmootlaw04_TopoTells.l0 k2 l0 a1 a3 l4 t268 t275 (wrap64 (x13_2 + 1))) = some true := H
                        have A24 := Aside0.mk A240
                        clear A240
                        have H' := Aside0.mk H
                        clear H
                        have p271 : 0 ≤ (x13_2 : Int) := of_decide_eq_true (by first | (with_reducible assumption) | assumption)
                        have q271 : x13_2 < (l4.length : Int) := of_decide_eq_true (by first | (with_reducible assumption) | assumption)
                        obtain ⟨ad271, e271, hx271_0⟩ := Kd.at_int HR4.out x13_2 p271 q271
                        cases e271
                        replace hx271_0 := (HB.out.cell (World.block_lt_of_cell? w _ hx271_0)).trans hx271_0
                        replace p271 := eq_true p271
                        replace q271 := eq_true q271
                        have p272 : 0 ≤ (x13_2 : Int) := of_decide_eq_true (by first | (with_reducible assumption) | assumption)
                        have q272 : x13_2 < (l4.length : Int) := of_decide_eq_true (by first | (with_reducible assumption) | assumption)
                        obtain ⟨ad272, e272, hx272_0⟩ := Kd.at_int HR4.out x13_2 p272 q272
                        obtain rfl : ad271 = ad272 := (by injection e272)
                        replace hx272_0 := (HB.out.cell (World.block_lt_of_cell? w _ hx272_0)).trans hx272_0
                        replace p272 := eq_true p272
                        replace q272 := eq_true q272
                        have p273 : 0 ≤ (x13_2 : Int) := of_decide_eq_true (by first | (with_reducible assumption) | assumption)
                        have q273 : x13_2 < (l4.length : Int) := of_decide_eq_true (by first | (with_reducible assumption) | assumption)
                        obtain ⟨ad273, e273, hx273_0⟩ := Kd.at_int HR4.out x13_2 p273 q273
                        obtain rfl : ad271 = ad273 := (by injection e273)
                        replace hx273_0 := (HB.out.cell (World.block_lt_of_cell? w _ hx273_0)).trans hx273_0
                        replace p273 := eq_true p273
                        replace q273 := eq_true q273
                        have p274 : 0 ≤ ((rd l4 x13_2) : Int) := of_decide_eq_true (by first | (with_reducible assumption) | assumption)
                        have q274 : (rd l4 x13_2) < (l0.length : Int) := of_decide_eq_true (by first | (with_reducible assumption) | assumption)
                        obtain ⟨ad274, A274_2, c274_2, e274, hx274_0, hx274_1, hx274_2, hl274_2, hi274_2⟩ := at_T37 HR0.out (rd l4 x13_2) p274 q274
                        cases e274
                        replace hx274_0 := (HB.out.cell (World.block_lt_of_cell? w _ hx274_0)).trans hx274_0
                        replace hx274_1 := (HB.out.cell (World.block_lt_of_cell? w _ hx274_1)).trans hx274_1
                        replace hx274_2 := (HB.out.cell (World.block_lt_of_cell? w _ hx274_2)).trans hx274_2
                        have HR274_2 := Aside0.mk hi274_2
                        have HC274_2 := Aside0.mk hl274_2
                        clear hi274_2 hl274_2
                        replace p274 := eq_true p274
                        replace q274 := eq_true q274
                        go_wp2_with (first | (go_at_call 20; (with_reducible refine (folkmootref04_In.calls k2 _ _ ((rd_T37 l0 (rd l4 x13_2)).f1) a3 t275 _ ?side1 ?side2 A24.out).mono ?_); (case side1 => exact uC (Kd.C_below HR274_2.out HB.out)); (case side2 => exact HC274_2.out); rintro e w' ⟨rfl, ⟨nd, rfl⟩⟩))
                        go_roundg k2
                        case measure => have := HJ5.out; have := HK2.out; omega
                        case rel => exact ⟨(t275), (wrap64 (x13_2 + 1)), (by first | rfl | (simp; done) | (simp [*]; done)), (by first | rfl | (simp; done) | (simp [*]; done)), H', ⟨by have := HJ5.out; have := HK2.out; omega⟩, ⟨by (with_reducible repeat (first | apply Kd.R_alloc | apply Kd.R_drewN | apply Kd.R_drew)); exact HO_11.out⟩, ⟨by repeat (first | (with_reducible first | exact HB.out | apply below_alloc | apply pw_below_drewN | apply below_drew1) | exact HB.out)⟩⟩
                      · rw [if_neg c23] at H
                        exact absurd H (by simp)
                    · rw [if_neg c22] at H
                      have c22b0 : decide ((rd l4 x13_2) < (l0.length : Int)) = false := decide_eq_false c22
                      clear c22
                      have H' := Aside0.mk H
                      clear H
                      have p271 : 0 ≤ (x13_2 : Int) := of_decide_eq_true (by first | (with_reducible assumption) | assumption)
                      have q271 : x13_2 < (l4.length : Int) := of_decide_eq_true (by first | (with_reducible assumption) | assumption)
                      obtain ⟨ad271, e271, hx271_0⟩ := Kd.at_int HR4.out x13_2 p271 q271
                      cases e271
                      replace hx271_0 := (HB.out.cell (World.block_lt_of_cell? w _ hx271_0)).trans hx271_0
                      replace p271 := eq_true p271
                      replace q271 := eq_true q271
                      have p272 : 0 ≤ (x13_2 : Int) := of_decide_eq_true (by first | (with_reducible assumption) | assumption)
                      have q272 : x13_2 < (l4.length : Int) := of_decide_eq_true (by first | (with_reducible assumption) | assumption)
                      obtain ⟨ad272, e272, hx272_0⟩ := Kd.at_int HR4.out x13_2 p272 q272
                      obtain rfl : ad271 = ad272 := (by injection e272)
                      replace hx272_0 := (HB.out.cell (World.block_lt_of_cell? w _ hx272_0)).trans hx272_0
                      replace p272 := eq_true p272
                      replace q272 := eq_true q272
                      go_wp2
                      go_roundg k2
                      case measure => have := HJ5.out; have := HK2.out; omega
                      case rel => exact ⟨(false), (wrap64 (x13_2 + 1)), (by first | rfl | (simp; done) | (simp [*]; done)), (by first | rfl | (simp; done) | (simp [*]; done)), H', ⟨by have := HJ5.out; have := HK2.out; omega⟩, ⟨by (with_reducible repeat (first | apply Kd.R_alloc | apply Kd.R_drewN | apply Kd.R_drew)); exact HO_11.out⟩, ⟨by repeat (first | (with_reducible first | exact HB.out | apply below_alloc | apply pw_below_drewN | apply below_drew1) | exact HB.out)⟩⟩
                  · rw [if_neg c21] at H
                    have c21b0 : decide (0 ≤ (rd l4 x13_2)) = false := decide_eq_false c21
                    clear c21
                    have H' := Aside0.mk H
                    clear H
                    have p271 : 0 ≤ (x13_2 : Int) := of_decide_eq_true (by first | (with_reducible assumption) | assumption)
                    have q271 : x13_2 < (l4.length : Int) := of_decide_eq_true (by first | (with_reducible assumption) | assumption)
                    obtain ⟨ad271, e271, hx271_0⟩ := Kd.at_int HR4.out x13_2 p271 q271
                    cases e271
                    replace hx271_0 := (HB.out.cell (World.block_lt_of_cell? w _ hx271_0)).trans hx271_0
                    replace p271 := eq_true p271
                    replace q271 := eq_true q271
                    go_wp2
                    go_roundg k2
                    case measure => have := HJ5.out; have := HK2.out; omega
                    case rel => exact ⟨(false), (wrap64 (x13_2 + 1)), (by first | rfl | (simp; done) | (simp [*]; done)), (by first | rfl | (simp; done) | (simp [*]; done)), H', ⟨by have := HJ5.out; have := HK2.out; omega⟩, ⟨by (with_reducible repeat (first | apply Kd.R_alloc | apply Kd.R_drewN | apply Kd.R_drew)); exact HO_11.out⟩, ⟨by repeat (first | (with_reducible first | exact HB.out | apply below_alloc | apply pw_below_drewN | apply below_drew1) | exact HB.out)⟩⟩
                · rw [if_neg c20] at H
                  exact absurd H (by simp)
            · rw [if_neg c18] at H
              have c18b0 : decide (x13_2 < (l4.length : Int)) = false := decide_eq_false c18
              clear c18
              have H' := Aside0.mk H
              clear H
              go_wp2
              go_loopg [14] k2 (fun kq v14 w' => ∃ (x14_3 : Int), v14 = .int .i64 x14_3 ∧ Aside0 (folkmootlaw04_TopoTells.l1 kq l0 a1 a3 l4 t268 x12_2 x14_3 = some true) ∧ Aside0 (kq ≤ k2) ∧ Aside0 (Kd.R k35 35 w' w.heap.size (fun _ => True) v269 t268) ∧ Aside0 (Below w.heap.size w w'))
              case atStart => exact ⟨(0), (by first | rfl | (simp; done) | (simp [*]; done)), H', ⟨Nat.le_refl _⟩, ⟨by (with_reducible repeat (first | apply Kd.R_alloc | apply Kd.R_drewN | apply Kd.R_drew)); exact HO_11.out⟩, ⟨by repeat (first | (with_reducible first | exact HB.out | apply below_alloc | apply pw_below_drewN | apply below_drew1) | exact HB.out)⟩⟩
              case round =>
                clear H'
                try clear c1
                try clear c2
                try clear p2
                try clear q2
                try clear hx2
                try clear c4
                try clear c6
                try clear p6
                try clear c8
                try clear c9
                try clear c9b0
                try clear c9b1
                try clear c10
                try clear c10b0
                try clear c10b1
                try clear c13
                try clear c17
                try clear c18
                try clear c18b0
                try clear c19
                try clear c20
                try clear c20b0
                try clear c21
                try clear c21b0
                try clear c22
                try clear c22b0
                try clear c23
                try clear c23b0
                try clear hx271_0
                try clear hx272_0
                try clear hx273_0
                try clear hx274_0
                try clear hx274_1
                try clear hx274_2
                try clear p2
                try clear p271
                try clear p272
                try clear p273
                try clear p274
                try clear q271
                try clear q272
                try clear q273
                try clear q274
                obtain ⟨x14_3, rfl, HA, HK3, HO_11, HB⟩ := hrel
                cases gk with
                | zero => exact absurd HA.out (by simp [folkmootlaw04_TopoTells.l1])
                | succ k3 =>
                  have H := HA.out
                  clear HA
                  simp only [folkmootlaw04_TopoTells.l1] at H
                  by_cases c25 : x14_3 < (l0.length : Int)
                  · rw [if_pos c25] at H
                    have c25b0 : decide (x14_3 < (l0.length : Int)) = true := decide_eq_true c25
                    clear c25
                    by_cases c26 : 0 ≤ x14_3
                    · rw [if_pos c26] at H
                      have c26b0 : decide (0 ≤ x14_3) = true := decide_eq_true c26
                      clear c26
                      replace H := Option.bind_eq_some_iff.mp H
                      obtain ⟨t278, A270, H⟩ := H
                      replace H : (if (wrap64 (2 * t278)) ≤ (((rd_T37 l0 x14_3).f1).length : Int) then (some false) else (if (wrap64 (2 * (wrap64 (t278 - 1)))) > (((rd_T37 l0 x14_3).f1).length : Int) then (some false) else (folkmootlaw04_TopoTells.l1 k3 l0 a1 a3 l4 t268 x12_2 (wrap64 (x14_3 + 1))))) = some true := H
                      have A27 := Aside0.mk A270
                      clear A270
                      by_cases c28 : (wrap64 (2 * t278)) ≤ (((rd_T37 l0 x14_3).f1).length : Int)
                      · rw [if_pos c28] at H
                        have c28b0 : decide ((wrap64 (2 * t278)) ≤ (((rd_T37 l0 x14_3).f1).length : Int)) = true := decide_eq_true c28
                        clear c28
                        exact absurd H (by simp)
                      · rw [if_neg c28] at H
                        have c28b0 : decide ((wrap64 (2 * t278)) ≤ (((rd_T37 l0 x14_3).f1).length : Int)) = false := decide_eq_false c28
                        clear c28
                        by_cases c30 : (wrap64 (2 * (wrap64 (t278 - 1)))) > (((rd_T37 l0 x14_3).f1).length : Int)
                        · rw [if_pos c30] at H
                          have c30b0 : decide ((((rd_T37 l0 x14_3).f1).length : Int) < (wrap64 (2 * (wrap64 (t278 - 1))))) = true := decide_eq_true c30
                          clear c30
                          exact absurd H (by simp)
                        · rw [if_neg c30] at H
                          have c30b0 : decide ((((rd_T37 l0 x14_3).f1).length : Int) < (wrap64 (2 * (wrap64 (t278 - 1))))) = false := decide_eq_false c30
                          clear c30
                          have H' := Aside0.mk H
                          clear H
                          have p276 : 0 ≤ (x14_3 : Int) := of_decide_eq_true (by first | (with_reducible assumption) | assumption)
                          have q276 : x14_3 < (l0.length : Int) := of_decide_eq_true (by first | (with_reducible assumption) | assumption)
                          obtain ⟨ad276, A276_2, c276_2, e276, hx276_0, hx276_1, hx276_2, hl276_2, hi276_2⟩ := at_T37 HR0.out x14_3 p276 q276
                          cases e276
                          replace hx276_0 := (HB.out.cell (World.block_lt_of_cell? w _ hx276_0)).trans hx276_0
                          replace hx276_1 := (HB.out.cell (World.block_lt_of_cell? w _ hx276_1)).trans hx276_1
                          replace hx276_2 := (HB.out.cell (World.block_lt_of_cell? w _ hx276_2)).trans hx276_2
                          have HR276_2 := Aside0.mk hi276_2
                          have HC276_2 := Aside0.mk hl276_2
                          clear hi276_2 hl276_2
                          replace p276 := eq_true p276
                          replace q276 := eq_true q276
                          have p277 : 0 ≤ (x14_3 : Int) := of_decide_eq_true (by first | (with_reducible assumption) | assumption)
                          have q277 : x14_3 < (l0.length : Int) := of_decide_eq_true (by first | (with_reducible assumption) | assumption)
                          obtain ⟨ad277, A277_2, c277_2, e277, hx277_0, hx277_1, hx277_2, hl277_2, hi277_2⟩ := at_T37 HR0.out x14_3 p277 q277
                          obtain rfl : ad276 = ad277 := (by injection e277)
                          replace hx277_0 := (HB.out.cell (World.block_lt_of_cell? w _ hx277_0)).trans hx277_0
                          replace hx277_1 := (HB.out.cell (World.block_lt_of_cell? w _ hx277_1)).trans hx277_1
                          replace hx277_2 := (HB.out.cell (World.block_lt_of_cell? w _ hx277_2)).trans hx277_2
                          have HR277_2 := Aside0.mk hi277_2
                          have HC277_2 := Aside0.mk hl277_2
                          clear hi277_2 hl277_2
                          replace p277 := eq_true p277
                          replace q277 := eq_true q277
                          have ea_ := Option.some.inj (hx276_2.symm.trans hx277_2)
                          injection ea_ with ea_ en_ ec_
                          subst ea_
                          subst ec_
                          clear en_
                          go_wp2_with (first | ((with_reducible refine gate_callee (f := 21) rfl ?_); refine goesL_ (some 90) rfl rfl Try.func21 (by kernel_rfl) rfl #[.agg #[.string ((rd_T37 l0 x14_3).f0.f0), .string ((rd_T37 l0 x14_3).f0.f1), .slice A276_2 ((rd_T37 l0 x14_3).f1).length c276_2]] rfl (by (try simp only [List.map_toArray, List.map_cons, List.map_nil]); first | done | rfl | (simp only [List.length_drop, List.length_take]; rfl)) ?_; (with_reducible refine (topo_Quorum.calls ((rd_T37 l0 x14_3).f0.f0) ((rd_T37 l0 x14_3).f0.f1) _ _ ((rd_T37 l0 x14_3).f1) t278 _ ?side1 ?side2 A27.out).mono ?_); (case side1 => exact uC (Kd.C_below HR277_2.out HB.out)); (case side2 => exact HC277_2.out); rintro e w32 ⟨rfl, hb⟩; refine ⟨_, rfl, ?_⟩; replace HO_11 := bR HO_11 hb; replace HB := sB HB hb; (try clear hb); (try clear hb2); (try clear hk); (try clear hi)))
                          go_roundg k3
                          case measure => have := HJ5.out; have := HK2.out; have := HK3.out; omega
                          case rel => exact ⟨(wrap64 (x14_3 + 1)), (by first | rfl | (simp; done) | (simp [*]; done)), H', ⟨by have := HJ5.out; have := HK2.out; have := HK3.out; omega⟩, ⟨by (with_reducible repeat (first | apply Kd.R_alloc | apply Kd.R_drewN | apply Kd.R_drew)); exact HO_11.out⟩, ⟨by repeat (first | (with_reducible first | exact HB.out | apply below_alloc | apply pw_below_drewN | apply below_drew1) | exact HB.out)⟩⟩
                    · rw [if_neg c26] at H
                      exact absurd H (by simp)
                  · rw [if_neg c25] at H
                    have c25b0 : decide (x14_3 < (l0.length : Int)) = false := decide_eq_false c25
                    clear c25
                    replace H := Option.bind_eq_some_iff.mp H
                    obtain ⟨t279, A330, H⟩ := H
                    replace H : ((folkmootref04_Find.f k3 l0 a1).bind fun t280 => (if t279 = t280 then ((topo_Touch.f l0 t268).bind fun t281 => ((folkmootref04_Touch.f k3 l0 t268).bind fun t284 => ((folkmootref04_Ints.f k3 t281 t284).bind fun t287 => (if t287 = true then ((topo_Of.f l0 a3).bind fun t288 => ((folkmootref04_Of.f k3 l0 a3).bind fun t291 => ((folkmootref04_Ints.f k3 t288 t291).bind fun t294 => (if t294 = true then ((topo_Owned.f k3 l0 a3).bind fun t295 => ((folkmootref04_Owned.f k3 l0 a3).bind fun t298 => ((folkmootref03_Same.f k3 t295 t298).bind fun t301 => (if t301 = true then ((some (([] : List Int) : List Int)).bind fun y302 => (if y302.length + l4.length < 17592186044416 then ((topo_Keeps.f k3 l0 a3 (y302 ++ l4)).bind fun t308 => (if (t308 == x12_2) = true then ((some (([] : List Int) : List Int)).bind fun y309 => (if y309.length + l4.length < 17592186044416 then ((topo_Nodes.f l0 (y309 ++ l4)).bind fun t315 => ((folkmootref04_Nodes.f k3 l0 l4).bind fun t318 => ((folkmootref04_Ints.f k3 t315 t318).bind fun t321 => (if t321 = true then ((folkmootlaw04_live.f k3).bind fun t322 => (some t322)) else (some false))))) else (none))) else (some false))) else (none))) else (some false))))) else (some false))))) else (some false))))) else (some false))) = some true := H
                    have A33 := Aside0.mk A330
                    clear A330
                    replace H := Option.bind_eq_some_iff.mp H
                    obtain ⟨t280, A340, H⟩ := H
                    replace H : (if t279 = t280 then ((topo_Touch.f l0 t268).bind fun t281 => ((folkmootref04_Touch.f k3 l0 t268).bind fun t284 => ((folkmootref04_Ints.f k3 t281 t284).bind fun t287 => (if t287 = true then ((topo_Of.f l0 a3).bind fun t288 => ((folkmootref04_Of.f k3 l0 a3).bind fun t291 => ((folkmootref04_Ints.f k3 t288 t291).bind fun t294 => (if t294 = true then ((topo_Owned.f k3 l0 a3).bind fun t295 => ((folkmootref04_Owned.f k3 l0 a3).bind fun t298 => ((folkmootref03_Same.f k3 t295 t298).bind fun t301 => (if t301 = true then ((some (([] : List Int) : List Int)).bind fun y302 => (if y302.length + l4.length < 17592186044416 then ((topo_Keeps.f k3 l0 a3 (y302 ++ l4)).bind fun t308 => (if (t308 == x12_2) = true then ((some (([] : List Int) : List Int)).bind fun y309 => (if y309.length + l4.length < 17592186044416 then ((topo_Nodes.f l0 (y309 ++ l4)).bind fun t315 => ((folkmootref04_Nodes.f k3 l0 l4).bind fun t318 => ((folkmootref04_Ints.f k3 t315 t318).bind fun t321 => (if t321 = true then ((folkmootlaw04_live.f k3).bind fun t322 => (some t322)) else (some false))))) else (none))) else (some false))) else (none))) else (some false))))) else (some false))))) else (some false))))) else (some false)) = some true := H
                    have A34 := Aside0.mk A340
                    clear A340
                    by_cases c35 : t279 = t280
                    · rw [if_pos c35] at H
                      have c35b0 : (t279 == t280) = true := beq_iff_eq.mpr c35
                      (try (have c35e : (t279 = t280) := by simpa using c35))
                      have c35b1 : (t279 != t280) = false := bne_eq_false_iff_eq.mpr c35
                      clear c35
                      replace H := Option.bind_eq_some_iff.mp H
                      obtain ⟨t281, A360, H⟩ := H
                      replace H : ((folkmootref04_Touch.f k3 l0 t268).bind fun t284 => ((folkmootref04_Ints.f k3 t281 t284).bind fun t287 => (if t287 = true then ((topo_Of.f l0 a3).bind fun t288 => ((folkmootref04_Of.f k3 l0 a3).bind fun t291 => ((folkmootref04_Ints.f k3 t288 t291).bind fun t294 => (if t294 = true then ((topo_Owned.f k3 l0 a3).bind fun t295 => ((folkmootref04_Owned.f k3 l0 a3).bind fun t298 => ((folkmootref03_Same.f k3 t295 t298).bind fun t301 => (if t301 = true then ((some (([] : List Int) : List Int)).bind fun y302 => (if y302.length + l4.length < 17592186044416 then ((topo_Keeps.f k3 l0 a3 (y302 ++ l4)).bind fun t308 => (if (t308 == x12_2) = true then ((some (([] : List Int) : List Int)).bind fun y309 => (if y309.length + l4.length < 17592186044416 then ((topo_Nodes.f l0 (y309 ++ l4)).bind fun t315 => ((folkmootref04_Nodes.f k3 l0 l4).bind fun t318 => ((folkmootref04_Ints.f k3 t315 t318).bind fun t321 => (if t321 = true then ((folkmootlaw04_live.f k3).bind fun t322 => (some t322)) else (some false))))) else (none))) else (some false))) else (none))) else (some false))))) else (some false))))) else (some false)))) = some true := H
                      have A36 := Aside0.mk A360
                      clear A360
                      replace H := Option.bind_eq_some_iff.mp H
                      obtain ⟨t284, A370, H⟩ := H
                      replace H : ((folkmootref04_Ints.f k3 t281 t284).bind fun t287 => (if t287 = true then ((topo_Of.f l0 a3).bind fun t288 => ((folkmootref04_Of.f k3 l0 a3).bind fun t291 => ((folkmootref04_Ints.f k3 t288 t291).bind fun t294 => (if t294 = true then ((topo_Owned.f k3 l0 a3).bind fun t295 => ((folkmootref04_Owned.f k3 l0 a3).bind fun t298 => ((folkmootref03_Same.f k3 t295 t298).bind fun t301 => (if t301 = true then ((some (([] : List Int) : List Int)).bind fun y302 => (if y302.length + l4.length < 17592186044416 then ((topo_Keeps.f k3 l0 a3 (y302 ++ l4)).bind fun t308 => (if (t308 == x12_2) = true then ((some (([] : List Int) : List Int)).bind fun y309 => (if y309.length + l4.length < 17592186044416 then ((topo_Nodes.f l0 (y309 ++ l4)).bind fun t315 => ((folkmootref04_Nodes.f k3 l0 l4).bind fun t318 => ((folkmootref04_Ints.f k3 t315 t318).bind fun t321 => (if t321 = true then ((folkmootlaw04_live.f k3).bind fun t322 => (some t322)) else (some false))))) else (none))) else (some false))) else (none))) else (some false))))) else (some false))))) else (some false))) = some true := H
                      have A37 := Aside0.mk A370
                      clear A370
                      replace H := Option.bind_eq_some_iff.mp H
                      obtain ⟨t287, A380, H⟩ := H
                      replace H : (if t287 = true then ((topo_Of.f l0 a3).bind fun t288 => ((folkmootref04_Of.f k3 l0 a3).bind fun t291 => ((folkmootref04_Ints.f k3 t288 t291).bind fun t294 => (if t294 = true then ((topo_Owned.f k3 l0 a3).bind fun t295 => ((folkmootref04_Owned.f k3 l0 a3).bind fun t298 => ((folkmootref03_Same.f k3 t295 t298).bind fun t301 => (if t301 = true then ((some (([] : List Int) : List Int)).bind fun y302 => (if y302.length + l4.length < 17592186044416 then ((topo_Keeps.f k3 l0 a3 (y302 ++ l4)).bind fun t308 => (if (t308 == x12_2) = true then ((some (([] : List Int) : List Int)).bind fun y309 => (if y309.length + l4.length < 17592186044416 then ((topo_Nodes.f l0 (y309 ++ l4)).bind fun t315 => ((folkmootref04_Nodes.f k3 l0 l4).bind fun t318 => ((folkmootref04_Ints.f k3 t315 t318).bind fun t321 => (if t321 = true then ((folkmootlaw04_live.f k3).bind fun t322 => (some t322)) else (some false))))) else (none))) else (some false))) else (none))) else (some false))))) else (some false))))) else (some false)) = some true := H
                      have A38 := Aside0.mk A380
                      clear A380
                      by_cases c39 : t287 = true
                      · subst c39
                        have H1 : ((topo_Of.f l0 a3).bind fun t288 => ((folkmootref04_Of.f k3 l0 a3).bind fun t291 => ((folkmootref04_Ints.f k3 t288 t291).bind fun t294 => (if t294 = true then ((topo_Owned.f k3 l0 a3).bind fun t295 => ((folkmootref04_Owned.f k3 l0 a3).bind fun t298 => ((folkmootref03_Same.f k3 t295 t298).bind fun t301 => (if t301 = true then ((some (([] : List Int) : List Int)).bind fun y302 => (if y302.length + l4.length < 17592186044416 then ((topo_Keeps.f k3 l0 a3 (y302 ++ l4)).bind fun t308 => (if (t308 == x12_2) = true then ((some (([] : List Int) : List Int)).bind fun y309 => (if y309.length + l4.length < 17592186044416 then ((topo_Nodes.f l0 (y309 ++ l4)).bind fun t315 => ((folkmootref04_Nodes.f k3 l0 l4).bind fun t318 => ((folkmootref04_Ints.f k3 t315 t318).bind fun t321 => (if t321 = true then ((folkmootlaw04_live.f k3).bind fun t322 => (some t322)) else (some false))))) else (none))) else (some false))) else (none))) else (some false))))) else (some false))))) = some true := by rw [if_pos rfl] at H; exact H
                        clear H
                        have H := H1
                        clear H1
                        replace H := Option.bind_eq_some_iff.mp H
                        obtain ⟨t288, A400, H⟩ := H
                        replace H : ((folkmootref04_Of.f k3 l0 a3).bind fun t291 => ((folkmootref04_Ints.f k3 t288 t291).bind fun t294 => (if t294 = true then ((topo_Owned.f k3 l0 a3).bind fun t295 => ((folkmootref04_Owned.f k3 l0 a3).bind fun t298 => ((folkmootref03_Same.f k3 t295 t298).bind fun t301 => (if t301 = true then ((some (([] : List Int) : List Int)).bind fun y302 => (if y302.length + l4.length < 17592186044416 then ((topo_Keeps.f k3 l0 a3 (y302 ++ l4)).bind fun t308 => (if (t308 == x12_2) = true then ((some (([] : List Int) : List Int)).bind fun y309 => (if y309.length + l4.length < 17592186044416 then ((topo_Nodes.f l0 (y309 ++ l4)).bind fun t315 => ((folkmootref04_Nodes.f k3 l0 l4).bind fun t318 => ((folkmootref04_Ints.f k3 t315 t318).bind fun t321 => (if t321 = true then ((folkmootlaw04_live.f k3).bind fun t322 => (some t322)) else (some false))))) else (none))) else (some false))) else (none))) else (some false))))) else (some false)))) = some true := H
                        have A40 := Aside0.mk A400
                        clear A400
                        replace H := Option.bind_eq_some_iff.mp H
                        obtain ⟨t291, A410, H⟩ := H
                        replace H : ((folkmootref04_Ints.f k3 t288 t291).bind fun t294 => (if t294 = true then ((topo_Owned.f k3 l0 a3).bind fun t295 => ((folkmootref04_Owned.f k3 l0 a3).bind fun t298 => ((folkmootref03_Same.f k3 t295 t298).bind fun t301 => (if t301 = true then ((some (([] : List Int) : List Int)).bind fun y302 => (if y302.length + l4.length < 17592186044416 then ((topo_Keeps.f k3 l0 a3 (y302 ++ l4)).bind fun t308 => (if (t308 == x12_2) = true then ((some (([] : List Int) : List Int)).bind fun y309 => (if y309.length + l4.length < 17592186044416 then ((topo_Nodes.f l0 (y309 ++ l4)).bind fun t315 => ((folkmootref04_Nodes.f k3 l0 l4).bind fun t318 => ((folkmootref04_Ints.f k3 t315 t318).bind fun t321 => (if t321 = true then ((folkmootlaw04_live.f k3).bind fun t322 => (some t322)) else (some false))))) else (none))) else (some false))) else (none))) else (some false))))) else (some false))) = some true := H
                        have A41 := Aside0.mk A410
                        clear A410
                        replace H := Option.bind_eq_some_iff.mp H
                        obtain ⟨t294, A420, H⟩ := H
                        replace H : (if t294 = true then ((topo_Owned.f k3 l0 a3).bind fun t295 => ((folkmootref04_Owned.f k3 l0 a3).bind fun t298 => ((folkmootref03_Same.f k3 t295 t298).bind fun t301 => (if t301 = true then ((some (([] : List Int) : List Int)).bind fun y302 => (if y302.length + l4.length < 17592186044416 then ((topo_Keeps.f k3 l0 a3 (y302 ++ l4)).bind fun t308 => (if (t308 == x12_2) = true then ((some (([] : List Int) : List Int)).bind fun y309 => (if y309.length + l4.length < 17592186044416 then ((topo_Nodes.f l0 (y309 ++ l4)).bind fun t315 => ((folkmootref04_Nodes.f k3 l0 l4).bind fun t318 => ((folkmootref04_Ints.f k3 t315 t318).bind fun t321 => (if t321 = true then ((folkmootlaw04_live.f k3).bind fun t322 => (some t322)) else (some false))))) else (none))) else (some false))) else (none))) else (some false))))) else (some false)) = some true := H
                        have A42 := Aside0.mk A420
                        clear A420
                        by_cases c43 : t294 = true
                        · subst c43
                          have H1 : ((topo_Owned.f k3 l0 a3).bind fun t295 => ((folkmootref04_Owned.f k3 l0 a3).bind fun t298 => ((folkmootref03_Same.f k3 t295 t298).bind fun t301 => (if t301 = true then ((some (([] : List Int) : List Int)).bind fun y302 => (if y302.length + l4.length < 17592186044416 then ((topo_Keeps.f k3 l0 a3 (y302 ++ l4)).bind fun t308 => (if (t308 == x12_2) = true then ((some (([] : List Int) : List Int)).bind fun y309 => (if y309.length + l4.length < 17592186044416 then ((topo_Nodes.f l0 (y309 ++ l4)).bind fun t315 => ((folkmootref04_Nodes.f k3 l0 l4).bind fun t318 => ((folkmootref04_Ints.f k3 t315 t318).bind fun t321 => (if t321 = true then ((folkmootlaw04_live.f k3).bind fun t322 => (some t322)) else (some false))))) else (none))) else (some false))) else (none))) else (some false))))) = some true := by rw [if_pos rfl] at H; exact H
                          clear H
                          have H := H1
                          clear H1
                          replace H := Option.bind_eq_some_iff.mp H
                          obtain ⟨t295, A440, H⟩ := H
                          replace H : ((folkmootref04_Owned.f k3 l0 a3).bind fun t298 => ((folkmootref03_Same.f k3 t295 t298).bind fun t301 => (if t301 = true then ((some (([] : List Int) : List Int)).bind fun y302 => (if y302.length + l4.length < 17592186044416 then ((topo_Keeps.f k3 l0 a3 (y302 ++ l4)).bind fun t308 => (if (t308 == x12_2) = true then ((some (([] : List Int) : List Int)).bind fun y309 => (if y309.length + l4.length < 17592186044416 then ((topo_Nodes.f l0 (y309 ++ l4)).bind fun t315 => ((folkmootref04_Nodes.f k3 l0 l4).bind fun t318 => ((folkmootref04_Ints.f k3 t315 t318).bind fun t321 => (if t321 = true then ((folkmootlaw04_live.f k3).bind fun t322 => (some t322)) else (some false))))) else (none))) else (some false))) else (none))) else (some false)))) = some true := H
                          have A44 := Aside0.mk A440
                          clear A440
                          replace H := Option.bind_eq_some_iff.mp H
                          obtain ⟨t298, A450, H⟩ := H
                          replace H : ((folkmootref03_Same.f k3 t295 t298).bind fun t301 => (if t301 = true then ((some (([] : List Int) : List Int)).bind fun y302 => (if y302.length + l4.length < 17592186044416 then ((topo_Keeps.f k3 l0 a3 (y302 ++ l4)).bind fun t308 => (if (t308 == x12_2) = true then ((some (([] : List Int) : List Int)).bind fun y309 => (if y309.length + l4.length < 17592186044416 then ((topo_Nodes.f l0 (y309 ++ l4)).bind fun t315 => ((folkmootref04_Nodes.f k3 l0 l4).bind fun t318 => ((folkmootref04_Ints.f k3 t315 t318).bind fun t321 => (if t321 = true then ((folkmootlaw04_live.f k3).bind fun t322 => (some t322)) else (some false))))) else (none))) else (some false))) else (none))) else (some false))) = some true := H
                          have A45 := Aside0.mk A450
                          clear A450
                          replace H := Option.bind_eq_some_iff.mp H
                          obtain ⟨t301, A460, H⟩ := H
                          replace H : (if t301 = true then ((some (([] : List Int) : List Int)).bind fun y302 => (if y302.length + l4.length < 17592186044416 then ((topo_Keeps.f k3 l0 a3 (y302 ++ l4)).bind fun t308 => (if (t308 == x12_2) = true then ((some (([] : List Int) : List Int)).bind fun y309 => (if y309.length + l4.length < 17592186044416 then ((topo_Nodes.f l0 (y309 ++ l4)).bind fun t315 => ((folkmootref04_Nodes.f k3 l0 l4).bind fun t318 => ((folkmootref04_Ints.f k3 t315 t318).bind fun t321 => (if t321 = true then ((folkmootlaw04_live.f k3).bind fun t322 => (some t322)) else (some false))))) else (none))) else (some false))) else (none))) else (some false)) = some true := H
                          have A46 := Aside0.mk A460
                          clear A460
                          by_cases c47 : t301 = true
                          · subst c47
                            have H1 : ((some (([] : List Int) : List Int)).bind fun y302 => (if y302.length + l4.length < 17592186044416 then ((topo_Keeps.f k3 l0 a3 (y302 ++ l4)).bind fun t308 => (if (t308 == x12_2) = true then ((some (([] : List Int) : List Int)).bind fun y309 => (if y309.length + l4.length < 17592186044416 then ((topo_Nodes.f l0 (y309 ++ l4)).bind fun t315 => ((folkmootref04_Nodes.f k3 l0 l4).bind fun t318 => ((folkmootref04_Ints.f k3 t315 t318).bind fun t321 => (if t321 = true then ((folkmootlaw04_live.f k3).bind fun t322 => (some t322)) else (some false))))) else (none))) else (some false))) else (none))) = some true := by rw [if_pos rfl] at H; exact H
                            clear H
                            have H := H1
                            clear H1
                            obtain ⟨y302, hy302⟩ : ∃ y_ : List Int, y_ = (([] : List Int)) := ⟨_, rfl⟩
                            replace H : (if y302.length + l4.length < 17592186044416 then ((topo_Keeps.f k3 l0 a3 (y302 ++ l4)).bind fun t308 => (if (t308 == x12_2) = true then ((some (([] : List Int) : List Int)).bind fun y309 => (if y309.length + l4.length < 17592186044416 then ((topo_Nodes.f l0 (y309 ++ l4)).bind fun t315 => ((folkmootref04_Nodes.f k3 l0 l4).bind fun t318 => ((folkmootref04_Ints.f k3 t315 t318).bind fun t321 => (if t321 = true then ((folkmootlaw04_live.f k3).bind fun t322 => (some t322)) else (some false))))) else (none))) else (some false))) else (none)) = some true := by first | (rw [hy302]; with_reducible exact H) | (have H2_ := (Option.bind_some _ _).symm.trans H; rw [hy302]; with_reducible exact H2_) | (have H2_ := (Option.bind_some _ _).symm.trans H; with_reducible exact H2_) | with_reducible exact H | (rw [hy302]; exact H) | exact H
                            have Ny302 := Aside0.mk hy302
                            clear hy302
                            by_cases c48 : y302.length + l4.length < 17592186044416
                            · rw [if_pos c48] at H
                              have LMc48 := Aside0.mk c48
                              clear c48
                              obtain ⟨y305, hy305⟩ : ∃ y_ : List Int, y_ = (y302 ++ l4) := ⟨_, rfl⟩
                              replace H : ((topo_Keeps.f k3 l0 a3 y305).bind fun t308 => (if (t308 == x12_2) = true then ((some (([] : List Int) : List Int)).bind fun y309 => (if y309.length + l4.length < 17592186044416 then ((topo_Nodes.f l0 (y309 ++ l4)).bind fun t315 => ((folkmootref04_Nodes.f k3 l0 l4).bind fun t318 => ((folkmootref04_Ints.f k3 t315 t318).bind fun t321 => (if t321 = true then ((folkmootlaw04_live.f k3).bind fun t322 => (some t322)) else (some false))))) else (none))) else (some false))) = some true := by first | (rw [hy305]; with_reducible exact H) | (have H2_ := (Option.bind_some _ _).symm.trans H; rw [hy305]; with_reducible exact H2_) | (have H2_ := (Option.bind_some _ _).symm.trans H; with_reducible exact H2_) | with_reducible exact H | (rw [hy305]; exact H) | exact H
                              have Ny305 := Aside0.mk hy305
                              clear hy305
                              replace H := Option.bind_eq_some_iff.mp H
                              obtain ⟨t308, A490, H⟩ := H
                              replace H : (if (t308 == x12_2) = true then ((some (([] : List Int) : List Int)).bind fun y309 => (if y309.length + l4.length < 17592186044416 then ((topo_Nodes.f l0 (y309 ++ l4)).bind fun t315 => ((folkmootref04_Nodes.f k3 l0 l4).bind fun t318 => ((folkmootref04_Ints.f k3 t315 t318).bind fun t321 => (if t321 = true then ((folkmootlaw04_live.f k3).bind fun t322 => (some t322)) else (some false))))) else (none))) else (some false)) = some true := H
                              have A49 := Aside0.mk A490
                              clear A490
                              by_cases c50 : (t308 == x12_2) = true
                              · rw [if_pos c50] at H
                                have c50b0 : (t308 == x12_2) = true := c50
                                (try (have c50e : (t308 = x12_2) := by simpa using c50))
                                (try (have c50b1 : decide (t308 = x12_2) = true := by simpa using c50))
                                (try (have c50b2 : (t308 == x12_2) = true := by simpa using c50))
                                clear c50
                                obtain ⟨y309, hy309⟩ : ∃ y_ : List Int, y_ = (([] : List Int)) := ⟨_, rfl⟩
                                replace H : (if y309.length + l4.length < 17592186044416 then ((topo_Nodes.f l0 (y309 ++ l4)).bind fun t315 => ((folkmootref04_Nodes.f k3 l0 l4).bind fun t318 => ((folkmootref04_Ints.f k3 t315 t318).bind fun t321 => (if t321 = true then ((folkmootlaw04_live.f k3).bind fun t322 => (some t322)) else (some false))))) else (none)) = some true := by first | (rw [hy309]; with_reducible exact H) | (have H2_ := (Option.bind_some _ _).symm.trans H; rw [hy309]; with_reducible exact H2_) | (have H2_ := (Option.bind_some _ _).symm.trans H; with_reducible exact H2_) | with_reducible exact H | (rw [hy309]; exact H) | exact H
                                have Ny309 := Aside0.mk hy309
                                clear hy309
                                by_cases c51 : y309.length + l4.length < 17592186044416
                                · rw [if_pos c51] at H
                                  have LMc51 := Aside0.mk c51
                                  clear c51
                                  obtain ⟨y312, hy312⟩ : ∃ y_ : List Int, y_ = (y309 ++ l4) := ⟨_, rfl⟩
                                  replace H : ((topo_Nodes.f l0 y312).bind fun t315 => ((folkmootref04_Nodes.f k3 l0 l4).bind fun t318 => ((folkmootref04_Ints.f k3 t315 t318).bind fun t321 => (if t321 = true then ((folkmootlaw04_live.f k3).bind fun t322 => (some t322)) else (some false))))) = some true := by first | (rw [hy312]; with_reducible exact H) | (have H2_ := (Option.bind_some _ _).symm.trans H; rw [hy312]; with_reducible exact H2_) | (have H2_ := (Option.bind_some _ _).symm.trans H; with_reducible exact H2_) | with_reducible exact H | (rw [hy312]; exact H) | exact H
                                  have Ny312 := Aside0.mk hy312
                                  clear hy312
                                  replace H := Option.bind_eq_some_iff.mp H
                                  obtain ⟨t315, A520, H⟩ := H
                                  replace H : ((folkmootref04_Nodes.f k3 l0 l4).bind fun t318 => ((folkmootref04_Ints.f k3 t315 t318).bind fun t321 => (if t321 = true then ((folkmootlaw04_live.f k3).bind fun t322 => (some t322)) else (some false)))) = some true := H
                                  have A52 := Aside0.mk A520
                                  clear A520
                                  replace H := Option.bind_eq_some_iff.mp H
                                  obtain ⟨t318, A530, H⟩ := H
                                  replace H : ((folkmootref04_Ints.f k3 t315 t318).bind fun t321 => (if t321 = true then ((folkmootlaw04_live.f k3).bind fun t322 => (some t322)) else (some false))) = some true := H
                                  have A53 := Aside0.mk A530
                                  clear A530
                                  replace H := Option.bind_eq_some_iff.mp H
                                  obtain ⟨t321, A540, H⟩ := H
                                  replace H : (if t321 = true then ((folkmootlaw04_live.f k3).bind fun t322 => (some t322)) else (some false)) = some true := H
                                  have A54 := Aside0.mk A540
                                  clear A540
                                  by_cases c55 : t321 = true
                                  · subst c55
                                    have H1 : ((folkmootlaw04_live.f k3).bind fun t322 => (some t322)) = some true := by rw [if_pos rfl] at H; exact H
                                    clear H
                                    have H := H1
                                    clear H1
                                    replace H := Option.bind_eq_some_iff.mp H
                                    obtain ⟨t322, A560, H⟩ := H
                                    replace H : (some t322) = some true := H
                                    have A56 := Aside0.mk A560
                                    clear A560
                                    have hrt_ := Aside0.mk (Option.some.inj H)
                                    clear H
                                    go_wp2_with (first | ((with_reducible refine gate_callee (f := 22) rfl ?_); refine goesL_ (some 104) rfl rfl Try.func22 (by kernel_rfl) rfl #[.slice A0 l0.length c0, .string a1] rfl (by (try simp only [List.map_toArray, List.map_cons, List.map_nil]); first | done | rfl | (simp only [List.length_drop, List.length_take]; rfl)) ?_; (with_reducible refine (topo_Find.calls _ _ l0 a1 t279 _ ?side1 ?side2 A33.out).mono ?_); (case side1 => exact uC (Kd.C_below HR0.out HB.out)); (case side2 => exact HC0.out); rintro e w57 ⟨rfl, hb⟩; refine ⟨_, rfl, ?_⟩; replace HO_11 := bR HO_11 hb; replace HB := sB HB hb; (try clear hb); (try clear hb2); (try clear hk); (try clear hi)) | ((with_reducible refine gate_callee (f := 23) rfl ?_); refine goesL_ (some 107) rfl rfl Try.func23 (by kernel_rfl) rfl #[.slice A0 l0.length c0, .string a1] rfl (by (try simp only [List.map_toArray, List.map_cons, List.map_nil]); first | done | rfl | (simp only [List.length_drop, List.length_take]; rfl)) ?_; (with_reducible refine (folkmootref04_Find.calls k3 _ _ l0 a1 t280 _ ?side1 ?side2 A34.out).mono ?_); (case side1 => exact uC (Kd.C_below HR0.out HB.out)); (case side2 => exact HC0.out); rintro e w58 ⟨rfl, hb⟩; refine ⟨_, rfl, ?_⟩; replace HO_11 := bR HO_11 hb; replace HB := sB HB hb; (try clear hb); (try clear hb2); (try clear hk); (try clear hi); obtain ⟨Ao59, co59, eo59⟩ := Kd.R_slice HO_11.out; subst eo59) | (go_at_call 25; (with_reducible refine (topo_Touch.calls _ _ l0 _ _ t268 t281 _ ?side1 ?side2 ?side3 ?side4 A36.out).mono ?_); (case side1 => exact uC (Kd.C_below HR0.out HB.out)); (case side2 => exact HC0.out); (case side3 => exact uC (Kd.R_reads' HO_11.out).2.2); (case side4 => exact (Kd.R_reads' HO_11.out).2.1); rintro e w60 ⟨v282, rfl, ho0, hb⟩; replace HO_11 := bR HO_11 hb; have HO283 := lR ho0 HB; replace HB := sB HB hb; (try clear hb); (try clear hb2); (try clear hk); (try clear hi); (try clear ho0)) | (go_at_call 26; (with_reducible refine (folkmootref04_Touch.calls k3 _ _ l0 _ _ t268 t284 _ ?side1 ?side2 ?side3 ?side4 A37.out).mono ?_); (case side1 => exact uC (Kd.C_below HR0.out HB.out)); (case side2 => exact HC0.out); (case side3 => exact uC (Kd.R_reads' HO_11.out).2.2); (case side4 => exact (Kd.R_reads' HO_11.out).2.1); rintro e w61 ⟨v285, rfl, ho0, hb⟩; replace HO_11 := bR HO_11 hb; have HO286 := lR (nR ho0 HO283) HB; replace HO283 := eR HO283 ho0 hb; replace HB := sB HB hb; (try clear hb); (try clear hb2); (try clear hk); (try clear hi); (try clear ho0); obtain ⟨Ao62, co62, eo62⟩ := Kd.R_slice HO283.out; subst eo62; obtain ⟨Ao63, co63, eo63⟩ := Kd.R_slice HO286.out; subst eo63) | (go_at_call 24; (with_reducible refine (folkmootref04_Ints.calls k3 _ _ t281 _ _ t284 true _ ?side1 ?side2 ?side3 ?side4 A38.out).mono ?_); (case side1 => exact uC (Kd.R_reads' HO283.out).2.2); (case side2 => exact (Kd.R_reads' HO283.out).2.1); (case side3 => exact uC (Kd.R_reads' HO286.out).2.2); (case side4 => exact (Kd.R_reads' HO286.out).2.1); rintro e w' ⟨rfl, ⟨nd, rfl⟩⟩) | (go_at_call 15; (with_reducible refine (topo_Of.calls _ _ l0 a3 t288 _ ?side1 ?side2 A40.out).mono ?_); (case side1 => exact (Kd.C_below HR0.out (uB HB))); (case side2 => exact HC0.out); rintro e w64 ⟨v289, rfl, ho0, hb⟩; replace HO_11 := bR HO_11 hb; have HO290 := lR (nR (nR ho0 HO283) HO286) HB; replace HO283 := eR HO283 ho0 hb; replace HO286 := eR HO286 ho0 hb; replace HB := sB HB hb; (try clear hb); (try clear hb2); (try clear hk); (try clear hi); (try clear ho0)) | (go_at_call 27; (with_reducible refine (folkmootref04_Of.calls k3 _ _ l0 a3 t291 _ ?side1 ?side2 A41.out).mono ?_); (case side1 => exact uC (Kd.C_below HR0.out HB.out)); (case side2 => exact HC0.out); rintro e w65 ⟨v292, rfl, ho0, hb⟩; replace HO_11 := bR HO_11 hb; have HO293 := lR (nR (nR (nR ho0 HO283) HO286) HO290) HB; replace HO283 := eR HO283 ho0 hb; replace HO286 := eR HO286 ho0 hb; replace HO290 := eR HO290 ho0 hb; replace HB := sB HB hb; (try clear hb); (try clear hb2); (try clear hk); (try clear hi); (try clear ho0); obtain ⟨Ao66, co66, eo66⟩ := Kd.R_slice HO290.out; subst eo66; obtain ⟨Ao67, co67, eo67⟩ := Kd.R_slice HO293.out; subst eo67) | (go_at_call 24; (with_reducible refine (folkmootref04_Ints.calls k3 _ _ t288 _ _ t291 true _ ?side1 ?side2 ?side3 ?side4 A42.out).mono ?_); (case side1 => exact uC (Kd.R_reads' HO290.out).2.2); (case side2 => exact (Kd.R_reads' HO290.out).2.1); (case side3 => exact uC (Kd.R_reads' HO293.out).2.2); (case side4 => exact (Kd.R_reads' HO293.out).2.1); rintro e w' ⟨rfl, ⟨nd, rfl⟩⟩) | (go_at_call 14; (with_reducible refine (topo_Owned.calls k3 _ _ l0 a3 t295 _ ?side1 ?side2 A44.out).mono ?_); (case side1 => exact (Kd.C_below HR0.out (uB HB))); (case side2 => exact HC0.out); rintro e w68 ⟨v296, rfl, ho0, hb⟩; replace HO283 := bR HO283 hb; replace HO286 := bR HO286 hb; replace HO290 := bR HO290 hb; replace HO293 := bR HO293 hb; have HO297 := lR (nR ho0 HO_11) HB; replace HO_11 := eR HO_11 ho0 hb; replace HB := sB HB hb; (try clear hb); (try clear hb2); (try clear hk); (try clear hi); (try clear ho0)) | (go_at_call 28; (with_reducible refine (folkmootref04_Owned.calls k3 _ _ l0 a3 t298 _ ?side1 ?side2 A45.out).mono ?_); (case side1 => exact uC (Kd.C_below HR0.out HB.out)); (case side2 => exact HC0.out); rintro e w69 ⟨v299, rfl, ho0, hb⟩; replace HO283 := bR HO283 hb; replace HO286 := bR HO286 hb; replace HO290 := bR HO290 hb; replace HO293 := bR HO293 hb; have HO300 := lR (nR (nR ho0 HO_11) HO297) HB; replace HO_11 := eR HO_11 ho0 hb; replace HO297 := eR HO297 ho0 hb; replace HB := sB HB hb; (try clear hb); (try clear hb2); (try clear hk); (try clear hi); (try clear ho0); obtain ⟨Ao70, co70, eo70⟩ := Kd.R_slice HO297.out; subst eo70; obtain ⟨Ao71, co71, eo71⟩ := Kd.R_slice HO300.out; subst eo71) | (go_at_call 16; (with_reducible refine (folkmootref03_Same.calls k3 _ _ t295 _ _ t298 true _ ?side1 ?side2 ?side3 ?side4 A46.out).mono ?_); (case side1 => exact uC (Kd.R_reads' HO297.out).2.2); (case side2 => exact (Kd.R_reads' HO297.out).2.1); (case side3 => exact uC (Kd.R_reads' HO300.out).2.2); (case side4 => exact (Kd.R_reads' HO300.out).2.1); rintro e w' ⟨rfl, ⟨nd, rfl⟩⟩) | ((with_reducible refine gate_dst (N := 139) rfl ?_); (try (refine gate_guard (by rfl) ?_; dsimp only)); refine Kd.R_lit (Kd.int .i64) _ 3 ?hg (N := 139) ?hd (xs := ([] : List Int)) (inner := []) (ok := fun _ => True) (okp := fun _ => True) ?hr ?hp (fun _ hk => hk) trivial (Below.refl _ _) (Nat.le_refl _) (by simp) ?_; (case hd => rfl); (case hg => rfl); (case hr => first | (go_simp; done) | (go_simp; rfl)); (case hp => exact (Reps.none _ _)); intro v303 w72 ho73 hb hg_ hnew_; clear hg_ hnew_; (first | rw [← Ny302.out] at ho73 | (simp only [Int.reduceToNat] at ho73; rw [← Ny302.out] at ho73)); replace HO_11 := bR HO_11 hb; replace HO297 := bR HO297 hb; replace HO300 := bR HO300 hb; have HO304 := lR (Kd.R_new' (nR (nR (nR ho73 HO283) HO286) HO290) (Kd.R_lt (uR HO293))) HB; replace HO283 := eR HO283 ho73 hb; replace HO286 := eR HO286 ho73 hb; replace HO290 := eR HO290 ho73 hb; replace HO293 := eR HO293 ho73 hb; replace HB := sB HB hb; clear hb ho73) | ((with_reducible refine gate_builtin (b := .append) (xs := #[.tmp 139, .tmp 140]) rfl ?_); (try (refine gate_guard (by rfl) ?_; dsimp only)); at_builtin; refine Kd.R_append_rows (Kd.int .i64) (w0 := w) w.heap.size rfl (.tmp 139) (.tmp 140) 32 3 (.int .i64 0) 8 rfl Try.underlying32 info3 rfl (by decide) (by omega) v303 y302 l4 _ _ _ (fun k_ => some k_ ≠ (.slice Ao62 t281.length co62 : Value).ownBlock ∧ some k_ ≠ (.slice Ao63 t284.length co63 : Value).ownBlock ∧ some k_ ≠ (.slice Ao66 t288.length co66 : Value).ownBlock ∧ some k_ ≠ (.slice Ao67 t291.length co67 : Value).ownBlock) (fun _ => False) rfl rfl ?aO ?aR (fun _ _ h => h) (fun _ h => h.elim) ?aF ?aB ?aS ?aL ?_; (case aR => exact uC (Kd.C_below HR4.out HB.out)); (case aB => exact (uB HB)); (case aF => exact (fun k_ hk => ⟨Kd.fresh' (Kd.R_lt (uR HO283)) k_ hk, Kd.fresh' (Kd.R_lt (uR HO286)) k_ hk, Kd.fresh' (Kd.R_lt (uR HO290)) k_ hk, Kd.fresh' (Kd.R_lt (uR HO293)) k_ hk⟩)); (case aO => exact (by (with_reducible repeat (first | apply Kd.R_alloc | apply Kd.R_drewN | apply Kd.R_drew)); exact Kd.R_mono HO304.out (fun _ hk => ⟨hk.1.1.1.2, ⟨hk.1.1.2, ⟨hk.1.2, hk.2⟩⟩⟩))); (case aS => exact (below_size (uB HB))); (case aL => have := LMc48.out; omega); intro v306 w74 ho hb hg hat; rw [← Ny305.out] at ho; have n0_ := Aside0.mk (Kd.R_over' (uR HO_11) (Kd.R_typed (uR HO304)) (by decide) hg); have n1_ := Aside0.mk (Kd.R_after (ok := (fun k_ => some k_ ≠ (.slice Ao63 t284.length co63 : Value).ownBlock ∧ some k_ ≠ (.slice Ao66 t288.length co66 : Value).ownBlock ∧ some k_ ≠ (.slice Ao67 t291.length co67 : Value).ownBlock)) (by (with_reducible repeat (first | apply Kd.R_alloc | apply Kd.R_drewN | apply Kd.R_drew)); exact Kd.R_mono HO283.out (fun _ hk => ⟨⟨hk.1.1.1.2, ⟨hk.1.1.2, hk.1.2⟩⟩, hk.2⟩)) hg hat); have n2_ := Aside0.mk (Kd.R_after (ok := (fun k_ => some k_ ≠ (.slice Ao62 t281.length co62 : Value).ownBlock ∧ some k_ ≠ (.slice Ao66 t288.length co66 : Value).ownBlock ∧ some k_ ≠ (.slice Ao67 t291.length co67 : Value).ownBlock)) (by (with_reducible repeat (first | apply Kd.R_alloc | apply Kd.R_drewN | apply Kd.R_drew)); exact Kd.R_mono HO286.out (fun _ hk => ⟨⟨hk.1.1.1.2, ⟨hk.1.1.2, hk.1.2⟩⟩, hk.2⟩)) hg hat); have n3_ := Aside0.mk (Kd.R_after (ok := (fun k_ => some k_ ≠ (.slice Ao62 t281.length co62 : Value).ownBlock ∧ some k_ ≠ (.slice Ao63 t284.length co63 : Value).ownBlock ∧ some k_ ≠ (.slice Ao67 t291.length co67 : Value).ownBlock)) (by (with_reducible repeat (first | apply Kd.R_alloc | apply Kd.R_drewN | apply Kd.R_drew)); exact Kd.R_mono HO290.out (fun _ hk => ⟨⟨hk.1.1.1.2, ⟨hk.1.1.2, hk.1.2⟩⟩, hk.2⟩)) hg hat); have n4_ := Aside0.mk (Kd.R_after (ok := (fun k_ => some k_ ≠ (.slice Ao62 t281.length co62 : Value).ownBlock ∧ some k_ ≠ (.slice Ao63 t284.length co63 : Value).ownBlock ∧ some k_ ≠ (.slice Ao66 t288.length co66 : Value).ownBlock)) (by (with_reducible repeat (first | apply Kd.R_alloc | apply Kd.R_drewN | apply Kd.R_drew)); exact Kd.R_mono HO293.out (fun _ hk => ⟨⟨hk.1.1.1.2, ⟨hk.1.1.2, hk.1.2⟩⟩, hk.2⟩)) hg hat); have n5_ := Aside0.mk (Kd.R_over' (uR HO297) (Kd.R_typed (uR HO304)) (by decide) hg); have n6_ := Aside0.mk (Kd.R_over' (uR HO300) (Kd.R_typed (uR HO304)) (by decide) hg); have n7_ := Aside0.mk (hb); have n8_ := Aside0.mk (ho); clear HO_11; clear HO283; clear HO286; clear HO290; clear HO293; clear HO297; clear HO300; clear HB; clear HO304; have HO_11 := n0_; have HO283 := n1_; have HO286 := n2_; have HO290 := n3_; have HO293 := n4_; have HO297 := n5_; have HO300 := n6_; have HB := n7_; have HO307 := n8_; clear n0_ n1_ n2_ n3_ n4_ n5_ n6_ n7_ n8_; clear ho hb hg hat; obtain ⟨Ao75, co75, eo75⟩ := Kd.R_slice HO307.out; subst eo75) | (go_at_call 19; (with_reducible refine (topo_Keeps.calls k3 _ _ l0 a3 _ _ y305 t308 _ ?side1 ?side2 ?side3 ?side4 A49.out).mono ?_); (case side1 => exact uC (Kd.C_below HR0.out HB.out)); (case side2 => exact HC0.out); (case side3 => exact uC (Kd.R_reads' HO307.out).2.2); (case side4 => exact (Kd.R_reads' HO307.out).2.1); rintro e w76 ⟨rfl, hb⟩; replace HO_11 := bR HO_11 hb; replace HO283 := bR HO283 hb; replace HO286 := bR HO286 hb; replace HO290 := bR HO290 hb; replace HO293 := bR HO293 hb; replace HO297 := bR HO297 hb; replace HO300 := bR HO300 hb; replace HO307 := bR HO307 hb; replace HB := sB HB hb; (try clear hb); (try clear hb2); (try clear hk); (try clear hi)) | ((with_reducible refine gate_dst (N := 148) rfl ?_); (try (refine gate_guard (by rfl) ?_; dsimp only)); refine Kd.R_lit (Kd.int .i64) _ 3 ?hg (N := 148) ?hd (xs := ([] : List Int)) (inner := []) (ok := fun _ => True) (okp := fun _ => True) ?hr ?hp (fun _ hk => hk) trivial (Below.refl _ _) (Nat.le_refl _) (by simp) ?_; (case hd => rfl); (case hg => rfl); (case hr => first | (go_simp; done) | (go_simp; rfl)); (case hp => exact (Reps.none _ _)); intro v310 w77 ho78 hb hg_ hnew_; clear hg_ hnew_; (first | rw [← Ny309.out] at ho78 | (simp only [Int.reduceToNat] at ho78; rw [← Ny309.out] at ho78)); replace HO_11 := bR HO_11 hb; replace HO297 := bR HO297 hb; replace HO300 := bR HO300 hb; have HO311 := lR (Kd.R_new' (Kd.R_new' (nR (nR (nR ho78 HO283) HO286) HO290) (Kd.R_lt (uR HO293))) (Kd.R_lt (uR HO307))) HB; replace HO283 := eR HO283 ho78 hb; replace HO286 := eR HO286 ho78 hb; replace HO290 := eR HO290 ho78 hb; replace HO293 := eR HO293 ho78 hb; replace HO307 := eR HO307 ho78 hb; replace HB := sB HB hb; clear hb ho78) | ((with_reducible refine gate_builtin (b := .append) (xs := #[.tmp 148, .tmp 149]) rfl ?_); (try (refine gate_guard (by rfl) ?_; dsimp only)); at_builtin; refine Kd.R_append_rows (Kd.int .i64) (w0 := w) w.heap.size rfl (.tmp 148) (.tmp 149) 32 3 (.int .i64 0) 8 rfl Try.underlying32 info3 rfl (by decide) (by omega) v310 y309 l4 _ _ _ (fun k_ => some k_ ≠ (.slice Ao62 t281.length co62 : Value).ownBlock ∧ some k_ ≠ (.slice Ao63 t284.length co63 : Value).ownBlock ∧ some k_ ≠ (.slice Ao66 t288.length co66 : Value).ownBlock ∧ some k_ ≠ (.slice Ao67 t291.length co67 : Value).ownBlock ∧ some k_ ≠ (.slice Ao75 y305.length co75 : Value).ownBlock) (fun _ => False) rfl rfl ?aO ?aR (fun _ _ h => h) (fun _ h => h.elim) ?aF ?aB ?aS ?aL ?_; (case aR => exact uC (Kd.C_below HR4.out HB.out)); (case aB => exact (uB HB)); (case aF => exact (fun k_ hk => ⟨Kd.fresh' (Kd.R_lt (uR HO283)) k_ hk, Kd.fresh' (Kd.R_lt (uR HO286)) k_ hk, Kd.fresh' (Kd.R_lt (uR HO290)) k_ hk, Kd.fresh' (Kd.R_lt (uR HO293)) k_ hk, Kd.fresh' (Kd.R_lt (uR HO307)) k_ hk⟩)); (case aO => exact (by (with_reducible repeat (first | apply Kd.R_alloc | apply Kd.R_drewN | apply Kd.R_drew)); exact Kd.R_mono HO311.out (fun _ hk => ⟨hk.1.1.1.1.2, ⟨hk.1.1.1.2, ⟨hk.1.1.2, ⟨hk.1.2, hk.2⟩⟩⟩⟩))); (case aS => exact (below_size (uB HB))); (case aL => have := LMc51.out; omega); intro v313 w79 ho hb hg hat; rw [← Ny312.out] at ho; have n0_ := Aside0.mk (Kd.R_over' (uR HO_11) (Kd.R_typed (uR HO311)) (by decide) hg); have n1_ := Aside0.mk (Kd.R_after (ok := (fun k_ => some k_ ≠ (.slice Ao63 t284.length co63 : Value).ownBlock ∧ some k_ ≠ (.slice Ao66 t288.length co66 : Value).ownBlock ∧ some k_ ≠ (.slice Ao67 t291.length co67 : Value).ownBlock ∧ some k_ ≠ (.slice Ao75 y305.length co75 : Value).ownBlock)) (by (with_reducible repeat (first | apply Kd.R_alloc | apply Kd.R_drewN | apply Kd.R_drew)); exact Kd.R_mono HO283.out (fun _ hk => ⟨⟨hk.1.1.1, ⟨hk.1.1.2.1, ⟨hk.1.1.2.2, hk.1.2⟩⟩⟩, hk.2⟩)) hg hat); have n2_ := Aside0.mk (Kd.R_after (ok := (fun k_ => some k_ ≠ (.slice Ao62 t281.length co62 : Value).ownBlock ∧ some k_ ≠ (.slice Ao66 t288.length co66 : Value).ownBlock ∧ some k_ ≠ (.slice Ao67 t291.length co67 : Value).ownBlock ∧ some k_ ≠ (.slice Ao75 y305.length co75 : Value).ownBlock)) (by (with_reducible repeat (first | apply Kd.R_alloc | apply Kd.R_drewN | apply Kd.R_drew)); exact Kd.R_mono HO286.out (fun _ hk => ⟨⟨hk.1.1.1, ⟨hk.1.1.2.1, ⟨hk.1.1.2.2, hk.1.2⟩⟩⟩, hk.2⟩)) hg hat); have n3_ := Aside0.mk (Kd.R_after (ok := (fun k_ => some k_ ≠ (.slice Ao62 t281.length co62 : Value).ownBlock ∧ some k_ ≠ (.slice Ao63 t284.length co63 : Value).ownBlock ∧ some k_ ≠ (.slice Ao67 t291.length co67 : Value).ownBlock ∧ some k_ ≠ (.slice Ao75 y305.length co75 : Value).ownBlock)) (by (with_reducible repeat (first | apply Kd.R_alloc | apply Kd.R_drewN | apply Kd.R_drew)); exact Kd.R_mono HO290.out (fun _ hk => ⟨⟨hk.1.1.1, ⟨hk.1.1.2.1, ⟨hk.1.1.2.2, hk.1.2⟩⟩⟩, hk.2⟩)) hg hat); have n4_ := Aside0.mk (Kd.R_after (ok := (fun k_ => some k_ ≠ (.slice Ao62 t281.length co62 : Value).ownBlock ∧ some k_ ≠ (.slice Ao63 t284.length co63 : Value).ownBlock ∧ some k_ ≠ (.slice Ao66 t288.length co66 : Value).ownBlock ∧ some k_ ≠ (.slice Ao75 y305.length co75 : Value).ownBlock)) (by (with_reducible repeat (first | apply Kd.R_alloc | apply Kd.R_drewN | apply Kd.R_drew)); exact Kd.R_mono HO293.out (fun _ hk => ⟨⟨hk.1.1.1, ⟨hk.1.1.2.1, ⟨hk.1.1.2.2, hk.1.2⟩⟩⟩, hk.2⟩)) hg hat); have n5_ := Aside0.mk (Kd.R_over' (uR HO297) (Kd.R_typed (uR HO311)) (by decide) hg); have n6_ := Aside0.mk (Kd.R_over' (uR HO300) (Kd.R_typed (uR HO311)) (by decide) hg); have n7_ := Aside0.mk (Kd.R_after (ok := (fun k_ => some k_ ≠ (.slice Ao62 t281.length co62 : Value).ownBlock ∧ some k_ ≠ (.slice Ao63 t284.length co63 : Value).ownBlock ∧ some k_ ≠ (.slice Ao66 t288.length co66 : Value).ownBlock ∧ some k_ ≠ (.slice Ao67 t291.length co67 : Value).ownBlock)) (uR HO307) hg hat); have n8_ := Aside0.mk (hb); have n9_ := Aside0.mk (ho); clear HO_11; clear HO283; clear HO286; clear HO290; clear HO293; clear HO297; clear HO300; clear HO307; clear HB; clear HO311; have HO_11 := n0_; have HO283 := n1_; have HO286 := n2_; have HO290 := n3_; have HO293 := n4_; have HO297 := n5_; have HO300 := n6_; have HO307 := n7_; have HB := n8_; have HO314 := n9_; clear n0_ n1_ n2_ n3_ n4_ n5_ n6_ n7_ n8_ n9_; clear ho hb hg hat; obtain ⟨Ao80, co80, eo80⟩ := Kd.R_slice HO314.out; subst eo80) | (go_at_call 18; (with_reducible refine (topo_Nodes.calls _ _ l0 _ _ y312 t315 _ ?side1 ?side2 ?side3 ?side4 A52.out).mono ?_); (case side1 => exact uC (Kd.C_below HR0.out HB.out)); (case side2 => exact HC0.out); (case side3 => exact uC (Kd.R_reads' HO314.out).2.2); (case side4 => exact (Kd.R_reads' HO314.out).2.1); rintro e w81 ⟨v316, rfl, ho0, hb⟩; replace HO_11 := bR HO_11 hb; replace HO297 := bR HO297 hb; replace HO300 := bR HO300 hb; have HO317 := lR (Kd.R_new' (Kd.R_new' (Kd.R_new' (nR (nR (nR ho0 HO283) HO286) HO290) (Kd.R_lt (uR HO293))) (Kd.R_lt (uR HO307))) (Kd.R_lt (uR HO314))) HB; replace HO283 := eR HO283 ho0 hb; replace HO286 := eR HO286 ho0 hb; replace HO290 := eR HO290 ho0 hb; replace HO293 := eR HO293 ho0 hb; replace HO307 := eR HO307 ho0 hb; replace HO314 := eR HO314 ho0 hb; replace HB := sB HB hb; (try clear hb); (try clear hb2); (try clear hk); (try clear hi); (try clear ho0)) | (go_at_call 29; (with_reducible refine (folkmootref04_Nodes.calls k3 _ _ l0 _ _ l4 t318 _ ?side1 ?side2 ?side3 ?side4 A53.out).mono ?_); (case side1 => exact uC (Kd.C_below HR0.out HB.out)); (case side2 => exact HC0.out); (case side3 => exact uC (Kd.C_below HR4.out HB.out)); (case side4 => exact HC4.out); rintro e w82 ⟨v319, rfl, ho0, hb⟩; replace HO_11 := bR HO_11 hb; replace HO297 := bR HO297 hb; replace HO300 := bR HO300 hb; have HO320 := lR (Kd.R_new' (Kd.R_new' (Kd.R_new' (Kd.R_new' (nR (nR (nR ho0 HO283) HO286) HO290) (Kd.R_lt (uR HO293))) (Kd.R_lt (uR HO307))) (Kd.R_lt (uR HO314))) (Kd.R_lt (uR HO317))) HB; replace HO283 := eR HO283 ho0 hb; replace HO286 := eR HO286 ho0 hb; replace HO290 := eR HO290 ho0 hb; replace HO293 := eR HO293 ho0 hb; replace HO307 := eR HO307 ho0 hb; replace HO314 := eR HO314 ho0 hb; replace HO317 := eR HO317 ho0 hb; replace HB := sB HB hb; (try clear hb); (try clear hb2); (try clear hk); (try clear hi); (try clear ho0); obtain ⟨Ao83, co83, eo83⟩ := Kd.R_slice HO317.out; subst eo83; obtain ⟨Ao84, co84, eo84⟩ := Kd.R_slice HO320.out; subst eo84) | (go_at_call 24; (with_reducible refine (folkmootref04_Ints.calls k3 _ _ t315 _ _ t318 true _ ?side1 ?side2 ?side3 ?side4 A54.out).mono ?_); (case side1 => exact uC (Kd.R_reads' HO317.out).2.2); (case side2 => exact (Kd.R_reads' HO317.out).2.1); (case side3 => exact uC (Kd.R_reads' HO320.out).2.2); (case side4 => exact (Kd.R_reads' HO320.out).2.1); rintro e w' ⟨rfl, ⟨nd, rfl⟩⟩) | (go_at_call 10; (with_reducible refine (folkmootlaw04_live.calls k3  t322 _ A56.out).mono ?_); rintro e w85 ⟨rfl, hb⟩; replace HO_11 := bR HO_11 hb; replace HO283 := bR HO283 hb; replace HO286 := bR HO286 hb; replace HO290 := bR HO290 hb; replace HO293 := bR HO293 hb; replace HO297 := bR HO297 hb; replace HO300 := bR HO300 hb; replace HO307 := bR HO307 hb; replace HO314 := bR HO314 hb; replace HO317 := bR HO317 hb; replace HO320 := bR HO320 hb; replace HB := sB HB hb; (try clear hb); (try clear hb2); (try clear hk); (try clear hi)))
                                    go_ret
                                    exact ⟨by first | rfl | (exact congrArg (fun b_ => Ending.returned (Value.bool b_)) hrt_.out) | (simp [errW_none, errW_some] <;> rfl) | (simp [*, errW_none, errW_some] <;> rfl), by repeat (first | (with_reducible first | exact HB.out | apply below_alloc | apply pw_below_drewN | apply below_drew1) | exact HB.out)⟩
                                  · replace c55 := Bool.eq_false_iff.mpr c55
                                    subst c55
                                    have H1 : (some false) = some true := by rw [if_neg (show ¬ (false = true) by decide)] at H; exact H
                                    exact absurd H1 (by simp)
                                · rw [if_neg c51] at H
                                  exact absurd H (by simp)
                              · rw [if_neg c50] at H
                                have c50b0 : (t308 == x12_2) = false := by simpa using c50
                                (try (have c50e : ¬ (t308 = x12_2) := by simpa using c50))
                                (try (have c50b1 : decide (t308 = x12_2) = false := by simpa using c50))
                                (try (have c50b2 : (t308 == x12_2) = false := by simpa using c50))
                                (try (have c50b3 : ¬ (t308 = x12_2) := by simpa using c50))
                                clear c50
                                exact absurd H (by simp)
                            · rw [if_neg c48] at H
                              exact absurd H (by simp)
                          · replace c47 := Bool.eq_false_iff.mpr c47
                            subst c47
                            have H1 : (some false) = some true := by rw [if_neg (show ¬ (false = true) by decide)] at H; exact H
                            exact absurd H1 (by simp)
                        · replace c43 := Bool.eq_false_iff.mpr c43
                          subst c43
                          have H1 : (some false) = some true := by rw [if_neg (show ¬ (false = true) by decide)] at H; exact H
                          exact absurd H1 (by simp)
                      · replace c39 := Bool.eq_false_iff.mpr c39
                        subst c39
                        have H1 : (some false) = some true := by rw [if_neg (show ¬ (false = true) by decide)] at H; exact H
                        exact absurd H1 (by simp)
                    · rw [if_neg c35] at H
                      have c35b0 : (t279 == t280) = false := beq_eq_false_iff_ne.mpr c35
                      (try (have c35e : ¬ (t279 = t280) := by simpa using c35))
                      have c35b1 : (t279 != t280) = true := bne_iff_ne.mpr c35
                      exact absurd H (by simp)
end Go.Proofs.Ytaedgbkeiankcaa.P
namespace Go.Proofs.Ytaedgbkeiankcaa.P
open Go.RowKit Go.Proofs.YtaedgbkeiankcaaW.PrintWords
set_option linter.unusedVariables false
set_option linter.unusedSimpArgs false
theorem rfind_none (l : List Shd) (key : ByteArray) (hl : l.length ≤ 1000) (h : ∀ x ∈ l, inSp key x.f0 = false) : ∀ (d i : Nat), i ≤ l.length → l.length - i = d → Ev (fun k => folkmootref04_Find.l0 k l key (i : Int)) 0 := by
  intro d
  induction d with
  | zero =>
    intro i hi hd
    have h1 : ¬ (i : Int) < (l.length : Int) := by omega
    exact Ev.step (fun k => by simp only [folkmootref04_Find.l0, if_neg h1] <;> rfl) (Ev.val _)
  | succ d ih =>
    intro i hi hd
    have h1 : (i : Int) < (l.length : Int) := by omega
    have h0 : (0 : Int) ≤ (i : Int) := by omega
    have hw : wrap64 ((i : Int) + 1) = ((i + 1 : Nat) : Int) := by rw [wrap_in] <;> omega
    have hx := h _ (List.getElem_mem (show i < l.length by omega))
    have hh := rhas_one l[i] key
    rw [hx, ← rdT_at l i (by omega)] at hh
    refine Ev.step (fun k => by simp only [folkmootref04_Find.l0, if_pos h1, if_pos h0] <;> rfl) (Ev.bind hh ?_)
    simp only [Bool.false_eq_true, if_false, hw]
    exact ih (i + 1) (by omega) (by omega)
theorem rfind_some (l : List Shd) (key : ByteArray) (hl : l.length ≤ 1000) (k0 : Nat) (hk : k0 < l.length) (hit : inSp key l[k0].f0 = true) (miss : ∀ j (hj : j < k0), inSp key (l[j]'(by omega)).f0 = false) : ∀ (d i : Nat), i ≤ k0 → k0 - i = d → Ev (fun k => folkmootref04_Find.l0 k l key (i : Int)) (k0 : Int) := by
  intro d
  induction d with
  | zero =>
    intro i hi hd
    obtain rfl : i = k0 := by omega
    have h1 : (i : Int) < (l.length : Int) := by omega
    have h0 : (0 : Int) ≤ (i : Int) := by omega
    have hh := rhas_one l[i] key
    rw [hit, ← rdT_at l i (by omega)] at hh
    refine Ev.step (fun k => by simp only [folkmootref04_Find.l0, if_pos h1, if_pos h0] <;> rfl) (Ev.bind hh ?_)
    simp only [if_true]
    exact Ev.val _
  | succ d ih =>
    intro i hi hd
    have h1 : (i : Int) < (l.length : Int) := by omega
    have h0 : (0 : Int) ≤ (i : Int) := by omega
    have hw : wrap64 ((i : Int) + 1) = ((i + 1 : Nat) : Int) := by rw [wrap_in] <;> omega
    have hh := rhas_one (l[i]'(by omega)) key
    rw [miss i (by omega), ← rdT_at l i (by omega)] at hh
    refine Ev.step (fun k => by simp only [folkmootref04_Find.l0, if_pos h1, if_pos h0] <;> rfl) (Ev.bind hh ?_)
    simp only [Bool.false_eq_true, if_false, hw]
    exact ih (i + 1) (by omega) (by omega)
theorem rfind_ev (l : List Shd) (key : ByteArray) (hl : l.length ≤ 1000) : ∃ r, topo_Find.f l key = some r ∧ Ev (fun k => folkmootref04_Find.f k l key) r := by
  refine ⟨_, rfl, ?_⟩
  rcases idxR_spec (fun x : Shd => inSp key x.f0) l with ⟨e, h⟩ | ⟨k0, hk, e, hit, miss⟩
  · rw [e]
    exact Ev.eq (rfind_none l key hl h l.length 0 (Nat.zero_le _) (Nat.sub_zero _)) (by omega)
  · rw [e]
    exact Ev.eq (rfind_some l key hl k0 hk hit miss k0 0 (Nat.zero_le _) (Nat.sub_zero _)) (by omega)
theorem rcut_ev (l : List Shd) (ht : topoB l = true) (set : List Spn) (hc : Sp.Can (set.map toSp)) (hs : set.length ≤ 1000) (x : Shd) (hx : x ∈ l) : ∃ s : List Spn, Ev (fun k => folkmootref03_Cut.f k [(⟨x.f0.f0, x.f0.f1⟩ : Spn)] set) s ∧ (((s.length : Int) > 0) ↔ meetP set x = true) := by
  obtain ⟨s, h1, h2, h3⟩ := set_ev [x.f0] set 1 (by simp; omega)
  obtain ⟨c1, c2⟩ := cut_spec ([x.f0].length + set.length) [x.f0] set (Nat.le_refl _) (can_one (topo_full l ht x hx)) hc
  have e : s = cutN ([x.f0].length + set.length) [x.f0] set := eq_of_any h2 c1 fun k => Bool.eq_iff_iff.2 (by
    rw [any_iff, any_iff, h3, c2, ← any_iff, ← any_iff]
    simp [opW])
  refine ⟨s, Ev.bind h1 (Ev.val _), ?_⟩
  have h := meetP_f set x (by omega)
  unfold span_Meet.f span_Cut.f at h
  rw [if_pos (by simp; omega), Option.bind_some] at h
  have h4 := Option.some.inj h
  rw [← e] at h4
  rw [← h4, decide_eq_true_iff]
theorem rtouch_l0 (l : List Shd) (ht : topoB l = true) (set : List Spn) (hc : Sp.Can (set.map toSp)) (hs : set.length ≤ 1000) (hl : l.length ≤ 1000) : ∀ (d i : Nat), i ≤ l.length → l.length - i = d →
    Ev (fun k => folkmootref04_Touch.l0 k l set (placesN (meetP set) z37 l i) (i : Int)) (placesL (meetP set) l) := by
  intro d
  induction d with
  | zero =>
    intro i hi hd
    have h1 : ¬ (i : Int) < (l.length : Int) := by omega
    obtain rfl : i = l.length := by omega
    exact Ev.step (fun k => by simp only [folkmootref04_Touch.l0, if_neg h1] <;> rfl) (Ev.val _)
  | succ d ih =>
    intro i hi hd
    have h1 : (i : Int) < (l.length : Int) := by omega
    have h0 : (0 : Int) ≤ (i : Int) := by omega
    have hil : i < l.length := by omega
    have hw : wrap64 ((i : Int) + 1) = ((i + 1 : Nat) : Int) := by rw [wrap_in] <;> omega
    obtain ⟨s, hcut, hiff⟩ := rcut_ev l ht set hc hs l[i] (List.getElem_mem hil)
    have hlen := placesN_len (meetP set) z37 l i
    have hlt : (placesN (meetP set) z37 l i).length < 17592186044416 := by omega
    have hn := ih (i + 1) (by omega) (by omega)
    rw [placesN_succ, gdT_at l i hil] at hn
    rw [← rdT_at l i hil] at hcut
    refine Ev.step (fun k => by simp only [folkmootref04_Touch.l0, if_pos h1, if_pos h0] <;> rfl) (Ev.bind hcut ?_)
    by_cases c : (s.length : Int) > 0
    · rw [if_pos (hiff.1 c)] at hn
      simp only [if_pos c, if_pos hlt, hw]
      exact hn
    · rw [if_neg (fun e => c (hiff.2 e)), List.append_nil] at hn
      simp only [if_neg c, hw]
      exact hn
theorem rof_l0 (l : List Shd) (n : Int) (hns : ∀ x ∈ l, x.f1.length ≤ 1000) (hl : l.length ≤ 1000) : ∀ (d i : Nat), i ≤ l.length → l.length - i = d →
    Ev (fun k => folkmootref04_Of.l0 k l n (placesN (fun x : Shd => x.f1.contains n) z37 l i) (i : Int)) (ofL l n) := by
  intro d
  induction d with
  | zero =>
    intro i hi hd
    have h1 : ¬ (i : Int) < (l.length : Int) := by omega
    obtain rfl : i = l.length := by omega
    exact Ev.step (fun k => by simp only [folkmootref04_Of.l0, if_neg h1] <;> rfl) (Ev.val _)
  | succ d ih =>
    intro i hi hd
    have h1 : (i : Int) < (l.length : Int) := by omega
    have h0 : (0 : Int) ≤ (i : Int) := by omega
    have hil : i < l.length := by omega
    have hw : wrap64 ((i : Int) + 1) = ((i + 1 : Nat) : Int) := by rw [wrap_in] <;> omega
    have hin := rin_ev l[i].f1 n (by have := hns _ (List.getElem_mem hil); omega)
    have hlen := placesN_len (fun x : Shd => x.f1.contains n) z37 l i
    have hlt : (placesN (fun x : Shd => x.f1.contains n) z37 l i).length < 17592186044416 := by omega
    have hn := ih (i + 1) (by omega) (by omega)
    rw [placesN_succ, gdT_at l i hil] at hn
    rw [← rdT_at l i hil] at hin hn
    generalize (rd_T37 l (i : Int)).f1.contains n = b at hin hn
    refine Ev.step (fun k => by simp only [folkmootref04_Of.l0, if_pos h1, if_pos h0] <;> rfl) (Ev.bind hin ?_)
    cases b with
    | true =>
      rw [if_pos rfl] at hn
      simp only [if_true, if_pos hlt, hw]
      exact hn
    | false =>
      rw [if_neg (by simp), List.append_nil] at hn
      simp only [Bool.false_eq_true, if_false, hw]
      exact hn
theorem rowned_l0 (l : List Shd) (n : Int) (hns : ∀ x ∈ l, x.f1.length ≤ 1000) (hl : l.length ≤ 1000) : ∀ (d i : Nat), i ≤ l.length → l.length - i = d →
    Ev (fun k => folkmootref04_Owned.l0 k l n (((l.take i).filter fun x => x.f1.contains n).map fun x => x.f0) (i : Int)) (ownL l n) := by
  intro d
  induction d with
  | zero =>
    intro i hi hd
    have h1 : ¬ (i : Int) < (l.length : Int) := by omega
    rw [List.take_of_length_le (by omega)]
    have hfl := List.length_filter_le (fun x : Shd => x.f1.contains n) l
    have e : unionL ((l.filter fun x => x.f1.contains n).map fun x => x.f0) = ownL l n := eq_of_any (union_can _) (union_can _) fun k => by
      rw [union_any]
      have h2 := own_has l n k
      rw [h2, List.any_map, List.any_filter]
      rfl
    refine Ev.step (fun k => by simp only [folkmootref04_Owned.l0, if_neg h1] <;> rfl) (Ev.bind (refUnion_ev _ (by rw [List.length_map]; omega)) (Ev.eq (Ev.val _) e))
  | succ d ih =>
    intro i hi hd
    have h1 : (i : Int) < (l.length : Int) := by omega
    have h0 : (0 : Int) ≤ (i : Int) := by omega
    have hil : i < l.length := by omega
    have hw : wrap64 ((i : Int) + 1) = ((i + 1 : Nat) : Int) := by rw [wrap_in] <;> omega
    have hin := rin_ev l[i].f1 n (by have := hns _ (List.getElem_mem hil); omega)
    have hlen := List.length_filter_le (fun x : Shd => x.f1.contains n) (l.take i)
    rw [List.length_take] at hlen
    have hlt : (((l.take i).filter fun x => x.f1.contains n).map fun x => x.f0).length < 4398046511104 := by rw [List.length_map]; omega
    have hn := ih (i + 1) (by omega) (by omega)
    rw [List.take_succ_eq_append_getElem hil, List.filter_append, List.map_append, List.filter_cons, List.filter_nil] at hn
    rw [← rdT_at l i hil] at hin hn
    generalize hb : (rd_T37 l (i : Int)).f1.contains n = b at hin hn
    refine Ev.step (fun k => by simp only [folkmootref04_Owned.l0, if_pos h1, if_pos h0] <;> rfl) (Ev.bind hin ?_)
    cases b with
    | true =>
      simp only [if_true, List.map_cons, List.map_nil] at hn
      simp only [if_true, if_pos hlt, hw]
      exact hn
    | false =>
      simp only [Bool.false_eq_true, if_false, List.map_nil, List.append_nil] at hn
      simp only [Bool.false_eq_true, if_false, hw]
      exact hn
theorem in_step (l : List Shd) (n v : Int) (hl : l.length ≤ 1000) (hns : ∀ x ∈ l, x.f1.length ≤ 1000) : (¬ v ≥ 0 ∧ nodeIn l n v = false) ∨ (v ≥ 0 ∧ ¬ v < (l.length : Int) ∧ nodeIn l n v = false) ∨ (v ≥ 0 ∧ v < (l.length : Int) ∧ Ev (fun k => folkmootref04_In.f k (rd_T37 l v).f1 n) (nodeIn l n v)) := by
  by_cases h0 : v ≥ 0
  · by_cases h1 : v < (l.length : Int)
    · refine .inr (.inr ⟨h0, h1, ?_⟩)
      obtain ⟨m, rfl⟩ := Int.eq_ofNat_of_zero_le h0
      have hm : m < l.length := by omega
      unfold nodeIn
      rw [decide_eq_true ⟨by omega, h1⟩, Bool.true_and, rdT_at l m hm]
      have e : l.getD (m : Int).toNat z37 = l[m] := gdT_at l m hm
      rw [e]
      exact rin_ev _ _ (by have := hns _ (List.getElem_mem hm); omega)
    · exact .inr (.inl ⟨h0, h1, by unfold nodeIn; rw [decide_eq_false (by omega)]; rfl⟩)
  · exact .inl ⟨h0, by unfold nodeIn; rw [decide_eq_false (by omega)]; rfl⟩
theorem rnodes_l1 (l : List Shd) (is : List Int) (m : Int) (x5 : List Int) (hl : l.length ≤ 1000) (hi : is.length ≤ 1000) (hns : ∀ x ∈ l, x.f1.length ≤ 1000) (hm : 0 ≤ m ∧ m ≤ 100) (hx : x5.length ≤ 100) (R : List Int) (hR : Ev (fun k => folkmootref04_Nodes.l0 k l is (if is.any (nodeIn l m) = true then x5 ++ [m] else x5) (m + 1)) R) : ∀ (d i : Nat), i ≤ is.length → is.length - i = d →
    Ev (fun k => folkmootref04_Nodes.l1 k l is x5 m ((is.take i).any (nodeIn l m)) (i : Int)) R := by
  have hwm : wrap64 (m + 1) = m + 1 := by rw [wrap_in] <;> omega
  have hlt : x5.length < 17592186044416 := by omega
  intro d
  induction d with
  | zero =>
    intro i hi2 hd
    have h1 : ¬ (i : Int) < (is.length : Int) := by omega
    rw [List.take_of_length_le (by omega)]
    cases e : is.any (nodeIn l m) with
    | true =>
      rw [e, if_pos rfl] at hR
      exact Ev.step (fun k => by simp only [folkmootref04_Nodes.l1, if_neg h1, if_true, if_pos hlt, hwm] <;> rfl) hR
    | false =>
      rw [e, if_neg (by simp)] at hR
      exact Ev.step (fun k => by simp only [folkmootref04_Nodes.l1, if_neg h1, Bool.false_eq_true, if_false, hwm] <;> rfl) hR
  | succ d ih =>
    intro i hi2 hd
    have h1 : (i : Int) < (is.length : Int) := by omega
    have h0 : (0 : Int) ≤ (i : Int) := by omega
    have hil : i < is.length := by omega
    have hw : wrap64 ((i : Int) + 1) = ((i + 1 : Nat) : Int) := by rw [wrap_in] <;> omega
    have hr := rdI_at is i hil
    have hn := ih (i + 1) (by omega) (by omega)
    rw [List.take_succ_eq_append_getElem hil, List.any_append, List.any_cons, List.any_nil, Bool.or_false] at hn
    generalize (is.take i).any (nodeIn l m) = b at hn ⊢
    cases b with
    | true =>
      rw [Bool.true_or] at hn
      exact Ev.step (fun k => by simp only [folkmootref04_Nodes.l1, if_pos h1, if_true, hw] <;> rfl) hn
    | false =>
      rw [Bool.false_or] at hn
      have hs := in_step l m is[i] hl hns
      generalize is[i] = v at hr hn hs
      rcases hs with ⟨c0, e⟩ | ⟨c0, c1, e⟩ | ⟨c0, c1, e⟩
      · rw [e] at hn
        exact Ev.step (fun k => by simp only [folkmootref04_Nodes.l1, if_pos h1, Bool.false_eq_true, if_false, if_pos h0, hr, if_neg c0, hw] <;> rfl) hn
      · rw [e] at hn
        exact Ev.step (fun k => by simp only [folkmootref04_Nodes.l1, if_pos h1, Bool.false_eq_true, if_false, if_pos h0, hr, if_pos c0, if_neg c1, hw] <;> rfl) hn
      · have c2 : 0 ≤ v := c0
        refine Ev.step (fun k => by simp only [folkmootref04_Nodes.l1, if_pos h1, Bool.false_eq_true, if_false, if_pos h0, hr, if_pos c0, if_pos c1, if_pos c2, hw] <;> rfl) (Ev.bind e hn)
theorem rnodes_l0 (l : List Shd) (is : List Int) (hl : l.length ≤ 1000) (hi : is.length ≤ 1000) (hns : ∀ x ∈ l, x.f1.length ≤ 1000) : ∀ (d m : Nat), 1 ≤ m → m ≤ 8 → 8 - m = d →
    Ev (fun k => folkmootref04_Nodes.l0 k l is (placesN id false (is.foldl (markS l) (List.replicate 8 false)) m) (m : Int)) (nodesL l is) := by
  intro d
  induction d with
  | zero =>
    intro m h1m hm hd
    obtain rfl : m = 8 := by omega
    have h1 : ¬ ((8 : Nat) : Int) ≤ 7 := by omega
    exact Ev.step (fun k => by simp only [folkmootref04_Nodes.l0, if_neg h1] <;> rfl) (Ev.val _)
  | succ d ih =>
    intro m h1m hm hd
    have h1 : (m : Int) ≤ 7 := by omega
    have hn := ih (m + 1) (by omega) (by omega) (by omega)
    have hlen := placesN_len id false (is.foldl (markS l) (List.replicate 8 false)) m
    rw [placesN_succ, id_eq, foldS_at l is _ m (by simp; omega) (by omega) (by simp)] at hn
    have hz : (List.replicate 8 false).getD m false = false := by rw [List.getD_eq_getElem?_getD, List.getElem?_replicate]; split <;> rfl
    rw [hz, Bool.false_or] at hn
    generalize placesN id false (is.foldl (markS l) (List.replicate 8 false)) m = x5 at hlen hn ⊢
    refine Ev.step (fun k => by simp only [folkmootref04_Nodes.l0, if_pos h1] <;> rfl) (rnodes_l1 l is (m : Int) x5 hl hi hns (by omega) (by omega) _ ?_ is.length 0 (Nat.zero_le _) (Nat.sub_zero _))
    have e : is.any (nodeIn l (m : Int)) = is.any fun i => nodeAt l i m := rfl
    rw [e]
    cases hc : is.any fun i => nodeAt l i m with
    | true => rw [hc, if_pos rfl] at hn; rw [if_pos rfl]; exact hn
    | false => rw [hc, if_neg (by simp), List.append_nil] at hn; rw [if_neg (by simp)]; exact hn
theorem rnodes_ev (l : List Shd) (is : List Int) (hl : l.length ≤ 1000) (hi : is.length ≤ 1000) (hns : ∀ x ∈ l, x.f1.length ≤ 1000) : Ev (fun k => folkmootref04_Nodes.f k l is) (nodesL l is) := by
  have h := rnodes_l0 l is hl hi hns 7 1 (Nat.le_refl _) (by omega) rfl
  have e : placesN id false (is.foldl (markS l) (List.replicate 8 false)) 1 = [] := by
    rw [placesN_succ, id_eq, foldS_zero]
    rfl
  rw [e] at h
  exact h
end Go.Proofs.Ytaedgbkeiankcaa.P
namespace Go.Proofs.Ytaedgbkeiankcaa.P
open Go.RowKit Go.Proofs.YtaedgbkeiankcaaW.PrintWords
set_option linter.unusedVariables false
set_option linter.unusedSimpArgs false
theorem quorum_ex (a b : ByteArray) (ns : List Int) (h : ns.length ≤ 1000) : ∃ q, topo_Quorum.f a b ns = some q ∧ ¬ wrap64 (2 * q) ≤ (ns.length : Int) ∧ ¬ wrap64 (2 * wrap64 (q - 1)) > (ns.length : Int) := by
  refine ⟨(ns.length : Int) / 2 + 1, quorum_f a b ns h, ?_, ?_⟩
  · rw [wrap_in (by omega) (by omega)]
    omega
  · rw [wrap_in (x := (ns.length : Int) / 2 + 1 - 1) (by omega) (by omega), wrap_in (by omega) (by omega)]
    omega
theorem tells_l1 (l : List Shd) (key : ByteArray) (n : Int) (is : List Int) (set : List Spn) (ht : topoB l = true) (hc : Sp.Can (set.map toSp)) (hs : set.length ≤ 1000) (hl : l.length ≤ 30) (hi : is.length ≤ 30) (hns : ∀ x ∈ l, x.f1.length ≤ 1000) : ∀ (d i : Nat), i ≤ l.length → l.length - i = d →
    Ev (fun k => folkmootlaw04_TopoTells.l1 k l key n is set (is.any (nodeIn l n)) (i : Int)) true := by
  intro d
  induction d with
  | zero =>
    intro i hii hd
    have h1 : ¬ (i : Int) < (l.length : Int) := by omega
    obtain ⟨r, hf, hrf⟩ := rfind_ev l key (by omega)
    have pl := placesN_len (meetP set) z37 l l.length
    have ol := ofL_len l n
    have wl := ownL_len l n
    have nl := nodesL_len l is
    have e1 : ([] : List Int).length + is.length < 17592186044416 := by simp; omega
    have rt := rtouch_l0 l ht set hc hs (by omega) l.length 0 (Nat.zero_le _) (Nat.sub_zero _)
    have ro := rof_l0 l n hns (by omega) l.length 0 (Nat.zero_le _) (Nat.sub_zero _)
    have rw_ := rowned_l0 l n hns (by omega) l.length 0 (Nat.zero_le _) (Nat.sub_zero _)
    have rk := tkeeps_ev l n is
    rw [keeps_eq l ht n is] at rk
    refine Ev.step (fun k => by simp only [folkmootlaw04_TopoTells.l1, if_neg h1, hf, Option.bind_some] <;> rfl) (Ev.bind hrf ?_)
    simp only [if_true, ttouch_f l set (by omega) (by omega), Option.bind_some]
    refine Ev.bind rt (Ev.bind (ints_ev (placesL (meetP set) l) (by unfold placesL; omega)) ?_)
    simp only [if_true, tof_f l n (by omega), Option.bind_some]
    refine Ev.bind ro (Ev.bind (ints_ev (ofL l n) (by omega)) ?_)
    simp only [if_true]
    refine Ev.bind (owned_ev l n hl) (Ev.bind rw_ (Ev.bind (same_ev (ownL l n) (by omega)) ?_))
    simp only [if_true, Option.bind_some, if_pos e1, List.nil_append]
    refine Ev.bind rk ?_
    simp only [beq_self_eq_true, if_true, tnodes_f, Option.bind_some]
    refine Ev.bind (rnodes_ev l is (by omega) (by omega) hns) (Ev.bind (ints_ev (nodesL l is) (by omega)) ?_)
    simp only [if_true]
    exact Ev.bind tlive_ev (Ev.val _)
  | succ d ih =>
    intro i hii hd
    have h1 : (i : Int) < (l.length : Int) := by omega
    have h0 : (0 : Int) ≤ (i : Int) := by omega
    have hil : i < l.length := by omega
    have hw : wrap64 ((i : Int) + 1) = ((i + 1 : Nat) : Int) := by rw [wrap_in] <;> omega
    have hr := rdT_at l i hil
    have hq := quorum_ex l[i].f0.f0 l[i].f0.f1 l[i].f1 (hns _ (List.getElem_mem hil))
    rw [← hr] at hq
    obtain ⟨q, hq, c1, c2⟩ := hq
    refine Ev.step (fun k => by simp only [folkmootlaw04_TopoTells.l1, if_pos h1, if_pos h0, hq, Option.bind_some, if_neg c1, if_neg c2, hw] <;> rfl) (ih (i + 1) (by omega) (by omega))
theorem tells_l0 (l : List Shd) (key : ByteArray) (n : Int) (is : List Int) (set : List Spn) (ht : topoB l = true) (hc : Sp.Can (set.map toSp)) (hs : set.length ≤ 1000) (hl : l.length ≤ 30) (hi : is.length ≤ 30) (hns : ∀ x ∈ l, x.f1.length ≤ 1000) : ∀ (d i : Nat), i ≤ is.length → is.length - i = d →
    Ev (fun k => folkmootlaw04_TopoTells.l0 k l key n is set ((is.take i).any (nodeIn l n)) (i : Int)) true := by
  intro d
  induction d with
  | zero =>
    intro i hi2 hd
    have h1 : ¬ (i : Int) < (is.length : Int) := by omega
    rw [List.take_of_length_le (by omega)]
    exact Ev.step (fun k => by simp only [folkmootlaw04_TopoTells.l0, if_neg h1] <;> rfl) (tells_l1 l key n is set ht hc hs hl hi hns l.length 0 (Nat.zero_le _) (Nat.sub_zero _))
  | succ d ih =>
    intro i hi2 hd
    have h1 : (i : Int) < (is.length : Int) := by omega
    have h0 : (0 : Int) ≤ (i : Int) := by omega
    have hil : i < is.length := by omega
    have hw : wrap64 ((i : Int) + 1) = ((i + 1 : Nat) : Int) := by rw [wrap_in] <;> omega
    have hr := rdI_at is i hil
    have hn := ih (i + 1) (by omega) (by omega)
    rw [List.take_succ_eq_append_getElem hil, List.any_append, List.any_cons, List.any_nil, Bool.or_false] at hn
    generalize (is.take i).any (nodeIn l n) = b at hn ⊢
    cases b with
    | true =>
      rw [Bool.true_or] at hn
      exact Ev.step (fun k => by simp only [folkmootlaw04_TopoTells.l0, if_pos h1, if_true, hw] <;> rfl) hn
    | false =>
      rw [Bool.false_or] at hn
      have hs2 := in_step l n is[i] (by omega) hns
      generalize is[i] = v at hr hn hs2
      rcases hs2 with ⟨c0, e⟩ | ⟨c0, c1, e⟩ | ⟨c0, c1, e⟩
      · rw [e] at hn
        exact Ev.step (fun k => by simp only [folkmootlaw04_TopoTells.l0, if_pos h1, Bool.false_eq_true, if_false, if_pos h0, hr, if_neg c0, hw] <;> rfl) hn
      · rw [e] at hn
        exact Ev.step (fun k => by simp only [folkmootlaw04_TopoTells.l0, if_pos h1, Bool.false_eq_true, if_false, if_pos h0, hr, if_pos c0, if_neg c1, hw] <;> rfl) hn
      · have c2 : 0 ≤ v := c0
        refine Ev.step (fun k => by simp only [folkmootlaw04_TopoTells.l0, if_pos h1, Bool.false_eq_true, if_false, if_pos h0, hr, if_pos c0, if_pos c1, if_pos c2, hw] <;> rfl) (Ev.bind e hn)
theorem topo_nodes_le (l : List Shd) (ht : topoB l = true) (x : Shd) (hx : x ∈ l) : x.f1.length ≤ 1000 := by
  have := (topoB_iff l ht).2.2.2.2 x hx
  rw [nodesB_ok, Bool.and_eq_true, decide_eq_true_iff] at this
  omega
theorem tells_j0 (l : List Shd) (key : ByteArray) (s : List Spn) (n : Int) (is : List Int) (c : Bool) (h : c = false → l.length ≤ 30 ∧ s.length ≤ 30 ∧ is.length ≤ 30 ∧ topoB l = true) : Ev (fun k => folkmootlaw04_TopoTells.j0 k l key s n is c) true := by
  cases c with
  | true => exact Ev.step (fun k => by simp only [folkmootlaw04_TopoTells.j0, if_true] <;> rfl) (Ev.bind tlive_ev (Ev.val _))
  | false =>
    obtain ⟨hl, hs, hi, ht⟩ := h rfl
    have hu := union_len s
    exact Ev.step (fun k => by simp only [folkmootlaw04_TopoTells.j0, Bool.false_eq_true, if_false] <;> rfl) (Ev.bind (refUnion_ev s (by omega)) (tells_l0 l key n is (unionL s) ht (union_can s) (by omega) hl hi (topo_nodes_le l ht) is.length 0 (Nat.zero_le _) (Nat.sub_zero _)))
theorem topoTells_pure (l : List Shd) (key : ByteArray) (s : List Spn) (n : Int) (is : List Int) (hl : l.length ≤ 140737488351232) (hk : key.size ≤ 140737488351232) (hs : s.length ≤ 140737488351232) (hn : (Lit.int .i64 n).wf = true) (hi : is.length ≤ 140737488351232) : ∃ k, folkmootlaw04_TopoTells.f k l key s n is = some true := by
  obtain ⟨b, hb, hsm⟩ := tsmall_ev l s (by omega) (by omega)
  refine Ev.rounds (g := fun k => folkmootlaw04_TopoTells.f k l key s n is) (Ev.bind hb ?_)
  have jt := tells_j0 l key s n is true (fun h => by cases h)
  cases b with
  | false =>
    simp only [Bool.false_eq_true, if_false]
    exact jt
  | true =>
    simp only [if_true]
    by_cases c1 : (key.size : Int) > 4000
    · simp only [if_pos c1]
      exact jt
    · by_cases c2 : (is.length : Int) > 30
      · simp only [if_neg c1, if_pos c2]
        exact jt
      · simp only [if_neg c1, if_neg c2]
        refine Ev.bind (rcheck_ev l) (tells_j0 l key s n is _ (fun h => ⟨(hsm rfl).1, (hsm rfl).2, by omega, ?_⟩))
        cases e : topoB l with
        | true => rfl
        | false => rw [e] at h; simp at h
end Go.Proofs.Ytaedgbkeiankcaa.P
