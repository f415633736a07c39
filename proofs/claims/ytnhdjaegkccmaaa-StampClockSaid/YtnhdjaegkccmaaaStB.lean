/- Contracts: stamp.After. -/
import Derived.Test.YtnhdjaegkccmaaaStL
namespace Go.Proofs.Ytnhdjaegkccmaaa
open Go.RowKit

theorem max_any_n (l : List St) (n : Nat) (hn : l.length = n) (A : Option Addr) (c : Nat) (w : World) (hm : n ≤ 70368744177664) (hs : Sts w A l) :
    Calls Try.prog 22 #[.slice A n c] w fun e w' => e = .returned (.agg #[.int .i64 (maxSt l).t, .int .i64 (maxSt l).n]) ∧ Ext w w' := by
  subst hn; exact max_any l A c w hm hs
theorem stCells_snoc (l : List St) (s : St) : stCells l ++ [.int .i64 s.t, .int .i64 s.n] = stCells (l ++ [s]) := by
  unfold stCells; rw [List.flatMap_append]; rfl

/-- a stamp that may stand among others: none, or one -/
def St.fine (s : St) : Bool := (s.t == 0 && s.n == 0) || s.ok
def topT (l : List St) : Int := (maxSt (l ++ [St.z])).t
def afterE (node : Int) (l : List St) : Int := if nodeOk node = false then 2 else if l.all St.fine = false then 10 else if 1099511627776 ≤ topT l then 11 else 0
def afterS (node : Int) (l : List St) : St := if afterE node l = 0 then ⟨topT l + 1, node⟩ else St.z

theorem st_info : (Try.prog.info? 23).map (fun i => (i.zero, i.size, i.bytes)) = some (some (.agg #[.int .i64 0, .int .i64 0]), 2, 16) := by kernel_rfl

theorem st_field0 (a b : Int) (w : World) : (Instr.field 23 (.agg #[.int .i64 a, .int .i64 b]) 0).run Try.prog w = .ok (.int .i64 a) w := by kernel_rfl
theorem st_field1 (a b : Int) (w : World) : (Instr.field 23 (.agg #[.int .i64 a, .int .i64 b]) 1).run Try.prog w = .ok (.int .i64 b) w := by kernel_rfl

theorem after_node (node : Int) (l : List St) (A : Option Addr) (c : Nat) (w : World) (h : nodeOk node = false) :
    Calls Try.prog 19 #[.int .i64 node, .slice A l.length c] w fun e w' => e = .returned (.tuple #[.agg #[.int .i64 (St.z).t, .int .i64 (St.z).n], .int .i64 2]) ∧ Ext w w' := by
  go_enter Try.func19, Try.ntmps19
  go_wp2_with (go_at_call 41; refine (isNode_any _ _).mono ?_; rintro e w' ⟨rfl, rfl⟩)
  refine bodyPost_ret (v := .tuple #[.agg #[.int .i64 (St.z).t, .int .i64 (St.z).n], .int .i64 2]) (by simp [results, Try.results19, go_sem, St.z]) rfl ⟨rfl, (Ext.refl _).alloc _⟩

theorem foldl_max_mem (l : List St) (a : St) : l.foldl maxStep a = a ∨ l.foldl maxStep a ∈ l := by
  induction l generalizing a with
  | nil => exact .inl rfl
  | cons b l ih =>
    simp only [List.foldl_cons]
    rcases ih (maxStep a b) with h | h
    · rw [h]; unfold maxStep; split
      · right; exact List.mem_cons_self
      · exact .inl rfl
    · right; exact List.mem_cons_of_mem _ h
theorem maxSt_mem (l : List St) (h : l ≠ []) : maxSt l ∈ l := by
  cases l with
  | nil => exact absurd rfl h
  | cons a l =>
    show l.foldl maxStep a ∈ a :: l
    rcases foldl_max_mem l a with e | e
    · rw [e]; exact List.mem_cons_self
    · exact List.mem_cons_of_mem _ e
theorem fine_ge {s : St} (h : s.fine = true) : 0 ≤ s.t := by
  unfold St.fine St.ok at h
  simp only [Bool.or_eq_true, Bool.and_eq_true, beq_iff_eq, decide_eq_true_eq] at h
  omega
theorem topT_ge {l : List St} (h : l.all St.fine = true) : 0 ≤ (maxSt (l ++ [St.z])).t := by
  have hm := maxSt_mem (l ++ [St.z]) (by simp)
  rcases List.mem_append.1 hm with e | e
  · exact fine_ge (List.all_eq_true.1 h _ e)
  · rw [List.mem_singleton.1 e]; decide

set_option maxRecDepth 100000 in
theorem after_x (node : Int) (l : List St) (A : Option Addr) (c : Nat) (w : World) (h : nodeOk node = true) (hm : l.length ≤ 1000) (hlc : l.length ≤ c) (hA : A = none → c = 0) (hs0 : Sts w A l) :
    Calls Try.prog 19 #[.int .i64 node, .slice A l.length c] w fun e w' => e = .returned (.tuple #[.agg #[.int .i64 (afterS node l).t, .int .i64 (afterS node l).n], .int .i64 (afterE node l)]) ∧ Ext w w' := by
  go_enter Try.func19, Try.ntmps19
  go_wp2_with (go_at_call 41; refine (isNode_any _ _).mono ?_; rintro e w' ⟨rfl, rfl⟩)
  go_loopw [15] (fun i wr => ∃ k : Nat, k ≤ l.length ∧ i = .int .i64 k ∧ Ext w wr ∧ Blk wr w.heap.size 23 #[.int .i64 0, .int .i64 0] ∧ (l.take k).all St.fine = true) (fun i _ => l.length - (intOf i).toNat)
  case atStart => exact ⟨0, by omega, rfl, (Ext.refl _).alloc _, Blk.new _ _ _, rfl⟩
  case round =>
    obtain ⟨k, hk, rfl, hx, hb0, hall⟩ := hrel
    by_cases hlt : k < l.length
    · obtain ⟨b, o, rfl, hb, hc⟩ := hs0 (by rintro rfl; simp at hlt)
      have h1 := hx.cell hb (hc k hlt).1
      have h2 := hx.cell hb (hc k hlt).2
      have hs := hb0.lt
      have hbr := hx.lt hb
      have hT : (l.take (k + 1)).all St.fine = (l[k]).fine := by
        rw [List.take_succ_eq_append_getElem hlt, List.all_append, hall]; simp
      have hA : (l[k]).fine = false → l.all St.fine = false := by
        intro hf
        cases hh : l.all St.fine with
        | false => rfl
        | true =>
          have := List.all_eq_true.1 hh _ (List.getElem_mem hlt)
          rw [hf] at this; cases this
      have HT := Lib.hid hT
      have HA := Lib.hid hA
      have HC := Lib.hid hc
      clear hT hA hc
      generalize hX : l[k] = X at *
      clear hX
      cases e1 : (X.t == 0) <;> cases e2 : (X.n == 0)
      case true.true =>
        have hF : X.fine = true := by unfold St.fine; rw [e1, e2]; rfl
        have HF := Lib.hid hF
        clear hF
        go_wp2_with fail
        go_roundw
        case rel => exact ⟨k + 1, by omega, by go_num, hx.alloc _, hb0.alloc _, by rw [HT.out, HF.out]⟩
        case measure => simp [intOf]; omega
      all_goals
        cases ho : X.ok
        case true =>
          have hF : X.fine = true := by unfold St.fine; rw [ho]; simp
          have HF := Lib.hid hF
          have hk : X.chk = 0 := by unfold St.chk; rw [ho]; rfl
          clear hF ho
          go_wp2_with (go_at_call 15; refine (check_any X _).mono ?_; rintro e w1 ⟨rfl, hx1⟩)
          go_roundw
          case rel => exact ⟨k + 1, by omega, by go_num, (hx.alloc _).trans hx1, (hb0.alloc _).ext hx1, by rw [HT.out, HF.out]⟩
          case measure => simp [intOf]; omega
        case false =>
          have hF : X.fine = false := by unfold St.fine; rw [ho, e1, e2]; rfl
          have hA := HA.out hF
          have hE : afterE node l = 10 := by unfold afterE; rw [h, if_neg (by decide), if_pos hA]
          have hS : afterS node l = St.z := by unfold afterS; rw [hE]; rfl
          have HE := Lib.hid hE
          have HS := Lib.hid hS
          have hk : X.chk = 10 := by unfold St.chk; rw [ho]; rfl
          clear hF ho hA HA HT hE hS
          go_wp2_with (go_at_call 15; refine (check_any X _).mono ?_; rintro e w1 ⟨rfl, hx1⟩; have hb1 := (hb0.alloc _).ext hx1; have d1 : w1.cell? ⟨w.heap.size, 0, none⟩ = some (.int .i64 0) := hb1.cell 0; have d2 : w1.cell? ⟨w.heap.size, 1, none⟩ = some (.int .i64 0) := hb1.cell 1; have d3 := hb1.frozen 0; have d4 := hb1.frozen 1)
          refine bodyPost_ret (v := .tuple #[.agg #[.int .i64 (St.z).t, .int .i64 (St.z).n], .int .i64 10]) (by simp [results, Try.results19, go_sem, d1, d2, St.z]) rfl ⟨by rw [HE.out, HS.out], (((hx.alloc _).trans hx1).setCell (by simp) _).setCell (by simp) _⟩
    · obtain rfl : k = l.length := by omega
      rw [List.take_length] at hall
      have hs := hb0.lt
      have hlc' : A = none → l.length = 0 := fun h => by have := hA h; omega
      have ho1 : A = none → l.length = 0 ∧ l.length = 0 := fun h => ⟨hlc' h, hlc' h⟩
      have ho3 : ∀ b' : Addr, A = some b' → ∀ j u, (stCells l)[j]? = some u → (wr.alloc (.cells #[.int .i64 0, .int .i64 0] 23)).cell? (b'.add j) = some u := by
        intro b' hb' j u hu
        obtain ⟨b, o, hab, hb, hc⟩ := hs0 (by rintro rfl; simp [stCells] at hu)
        rw [hab] at hb'
        injection hb' with hb'
        subst hb'
        have ho := Sts.holds (w := wr) (b := b) (o := o) (l := l) (fun k hk => ⟨hx.cell hb (hc k hk).1, hx.cell hb (hc k hk).2⟩)
        exact ((Ext.refl wr).alloc _).cell (by rw [block_of_add]; exact hx.lt hb) (ho j u hu)
      have ho5 : ∀ u ∈ [Value.int .i64 0, .int .i64 0], u.oneCell' = true := by simp [Value.oneCell']
      have ho6 : l.length < l.length + 1 := by omega
      have ho7 : l.length + 1 ≤ maxLen := by unfold maxLen; omega
      have ho8 : (l.length + 1) * 16 ≤ 140737488355328 := by omega
      have HA := Lib.hid hA
      have HS0 := Lib.hid hs0
      clear hs0
      obtain ⟨i0, hi0, hz0, hz1, hz2⟩ := info_parts st_info
      go_wp2_with (at_builtin; (refine wpList_append_grows _ rfl (.tmp 34) (.tmp 36) _ rfl 23 i0 _ 2 16 Try.underlying31 hi0 hz0 hz1 hz2 rfl (by decide) A l.length l.length (stCells l) rfl ho1 (stCells_len l) ho3 ⟨wr.heap.size, 0, none⟩ 1 1 [.int .i64 0, .int .i64 0] rfl rfl (cell_two_new _ _ _ _) ho5 ho6 ho7 ho8 ?_); intro v1 w1 hown hgrow)
      obtain ⟨g, cap, hv, _, hlt2⟩ := hown.form (by omega)
      subst hv
      have hx2 : Ext wr w1 := ((Ext.refl wr).alloc _).trans (Ext.of ((Below.refl _ _).grown hgrow (Nat.le_refl _) (fun k h => by cases h)))
      have hs1 : Sts w1 (some ⟨g, 0, none⟩) (l ++ [St.z]) := by
        refine Sts.of_cells hlt2 ?_
        rw [← stCells_snoc]
        exact hown.cells (g := g) rfl
      have hmx := max_any_n (l ++ [St.z]) (l.length + 1) (by simp) (some ⟨g, 0, none⟩) cap w1 (by omega) hs1
      have HM := Lib.hid hmx
      have hb1 := hb0.ext hx2
      clear hmx hs1 hown hgrow ho1 ho3 hlc' ho5 ho6 ho7 ho8
      have hfd := st_field0
      by_cases hover : 1099511627776 ≤ topT l
      · have hE : afterE node l = 11 := by unfold afterE; rw [h, hall, if_neg (by decide), if_neg (by decide), if_pos hover]
        have hS : afterS node l = St.z := by unfold afterS; rw [hE]; rfl
        have HE := Lib.hid hE
        have HS := Lib.hid hS
        clear hE hS
        unfold topT at hover
        go_wp2_with (go_at_call 22; refine HM.out.mono ?_; rintro e w2 ⟨rfl, hx3⟩; have hb2 := hb1.ext hx3; have d1 : w2.cell? ⟨w.heap.size, 0, none⟩ = some (.int .i64 0) := hb2.cell 0; have d2 : w2.cell? ⟨w.heap.size, 1, none⟩ = some (.int .i64 0) := hb2.cell 1; have d3 := hb2.frozen 0; have d4 := hb2.frozen 1)
        refine bodyPost_ret (v := .tuple #[.agg #[.int .i64 (St.z).t, .int .i64 (St.z).n], .int .i64 11]) (by simp [results, Try.results19, go_sem, d1, d2, St.z]) rfl ⟨by rw [HE.out, HS.out], (((hx.trans hx2).trans hx3).setCell (by simp) _).setCell (by simp) _⟩
      · have hE : afterE node l = 0 := by unfold afterE; rw [h, hall, if_neg (by decide), if_neg (by decide), if_neg hover]
        have hS : afterS node l = ⟨topT l + 1, node⟩ := by unfold afterS; rw [hE]; rfl
        have HE := Lib.hid hE
        have HS := Lib.hid hS
        clear hE hS
        unfold topT at hover
        have hov : (maxSt (l ++ [St.z])).t < 1099511627776 := by omega
        clear hover
        have hlow := topT_ge hall
        go_wp2_with (go_at_call 22; refine HM.out.mono ?_; rintro e w2 ⟨rfl, hx3⟩; have hb2 := hb1.ext hx3; have d1 : w2.cell? ⟨w.heap.size, 0, none⟩ = some (.int .i64 0) := hb2.cell 0; have d2 : w2.cell? ⟨w.heap.size, 1, none⟩ = some (.int .i64 0) := hb2.cell 1; have d3 := hb2.frozen 0; have d4 := hb2.frozen 1)
        refine bodyPost_ret (v := .tuple #[.agg #[.int .i64 ((maxSt (l ++ [St.z])).t + 1), .int .i64 node], .int .i64 0]) (by simp [results, Try.results19, go_sem, d1, d2]) rfl ⟨by rw [HE.out, HS.out]; rfl, (((hx.trans hx2).trans hx3).setCell (by simp) _).setCell (by simp) _⟩

theorem after_any (node : Int) (l : List St) (A : Option Addr) (c : Nat) (w : World) (hm : l.length ≤ 1000) (hlc : l.length ≤ c) (hA : A = none → c = 0) (hs0 : Sts w A l) :
    Calls Try.prog 19 #[.int .i64 node, .slice A l.length c] w fun e w' => e = .returned (.tuple #[.agg #[.int .i64 (afterS node l).t, .int .i64 (afterS node l).n], .int .i64 (afterE node l)]) ∧ Ext w w' := by
  cases h : nodeOk node with
  | true => exact after_x node l A c w h hm hlc hA hs0
  | false =>
    have hE : afterE node l = 2 := by unfold afterE; rw [h]; rfl
    have hS : afterS node l = St.z := by unfold afterS; rw [hE]; rfl
    rw [hE, hS]
    exact after_node node l A c w h
end Go.Proofs.Ytnhdjaegkccmaaa
