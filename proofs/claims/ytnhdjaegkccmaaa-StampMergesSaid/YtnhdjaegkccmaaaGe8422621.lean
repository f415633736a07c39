/- Texts of the proofs of StampMerges, merged (StL, StB, StC). -/
import Derived.Test.YtnhdjaegkccmaaaGf8a1be9d
import Derived.Test.YtnhdjaegkccmaaaG6fd917f9
import Derived.Test.YtnhdjaegkccmaaaG70b67bd7
namespace Go.Proofs.Ytnhdjaegkccmaaa
open Go.RowKit
/-- the cells of a list of stamps -/
def stCells (l : List St) : List Value := l.flatMap fun s => [.int .i64 s.t, .int .i64 s.n]
theorem stCells_len (l : List St) : (stCells l).length = l.length * 2 := by
  unfold stCells
  induction l with
  | nil => rfl
  | cons a l ih => simp only [List.flatMap_cons, List.length_append, List.length_cons, List.length_nil, ih]; omega
theorem stCells_t (l : List St) (k : Nat) (h : k < l.length) : (stCells l)[k * 2]? = some (.int .i64 (l[k]).t) := by
  induction l generalizing k with
  | nil => simp at h
  | cons a l ih =>
    cases k with
    | zero => rfl
    | succ k =>
      have := ih k (by simpa using h)
      simp only [List.getElem_cons_succ]
      rw [← this]
      show ([Value.int .i64 a.t, .int .i64 a.n] ++ stCells l)[(k + 1) * 2]? = _
      rw [List.getElem?_append_right (by simp; omega)]
      congr 1; simp; omega
theorem stCells_n (l : List St) (k : Nat) (h : k < l.length) : (stCells l)[k * 2 + 1]? = some (.int .i64 (l[k]).n) := by
  induction l generalizing k with
  | nil => simp at h
  | cons a l ih =>
    cases k with
    | zero => rfl
    | succ k =>
      have := ih k (by simpa using h)
      simp only [List.getElem_cons_succ]
      rw [← this]
      show ([Value.int .i64 a.t, .int .i64 a.n] ++ stCells l)[(k + 1) * 2 + 1]? = _
      rw [List.getElem?_append_right (by simp; omega)]
      congr 1; simp; omega
/-- a slice that reads as a list of stamps: below the heap's end -/
def Sts (w : World) (A : Option Addr) (l : List St) : Prop :=
  l ≠ [] → ∃ b o, A = some ⟨b, o, none⟩ ∧ b < w.heap.size ∧ ∀ k (hk : k < l.length), w.cell? ⟨b, o + k * 2, none⟩ = some (.int .i64 (l[k]).t) ∧ w.cell? ⟨b, o + k * 2 + 1, none⟩ = some (.int .i64 (l[k]).n)
def maxStep (m s : St) : St := if 0 < St.cmp s m then s else m
def St.z : St := ⟨0, 0⟩
def maxSt : List St → St
  | [] => St.z
  | a :: l => l.foldl maxStep a
theorem maxSt_take (l : List St) (k : Nat) (h1 : 1 ≤ k) (h : k < l.length) : maxSt (l.take (k + 1)) = maxStep (maxSt (l.take k)) l[k] := by
  cases l with
  | nil => simp at h
  | cons a l =>
    cases k with
    | zero => omega
    | succ k =>
      have hk : k < l.length := by simpa using h
      simp only [List.take_succ_cons, maxSt, List.getElem_cons_succ]
      rw [List.take_succ_eq_append_getElem hk, List.foldl_append]; rfl
set_option maxRecDepth 100000 in
theorem maxFunc_any (l : List St) (b o c : Nat) (w : World) (hl : 0 < l.length) (hm : l.length ≤ 70368744177664) (hc : ∀ k (hk : k < l.length), w.cell? ⟨b, o + k * 2, none⟩ = some (.int .i64 (l[k]).t) ∧ w.cell? ⟨b, o + k * 2 + 1, none⟩ = some (.int .i64 (l[k]).n)) (hb : b < w.heap.size) :
    Calls Try.prog 45 #[.slice (some ⟨b, o, none⟩) l.length c, .func (.func 17) #[] #[]] w fun e w' => e = .returned (.agg #[.int .i64 (maxSt l).t, .int .i64 (maxSt l).n]) ∧ Ext w w' := by
  have h00 := hc 0 hl
  have h0 : w.cell? ⟨b, o, none⟩ = some (.int .i64 (l[0]).t) := by simpa using h00.1
  have h1 : w.cell? ⟨b, o + 1, none⟩ = some (.int .i64 (l[0]).n) := by simpa using h00.2
  clear h00
  go_enter Try.func45, Try.ntmps45
  go_wp2
  go_loopw [6] (fun i wr => ∃ k : Nat, 1 ≤ k ∧ k ≤ l.length ∧ i = .int .i64 k ∧ Ext w wr ∧ Blk wr w.heap.size 23 #[.int .i64 0, .int .i64 0] ∧ Blk wr (w.heap.size + 1) 23 #[.int .i64 (maxSt (l.take k)).t, .int .i64 (maxSt (l.take k)).n]) (fun i _ => l.length - (intOf i).toNat)
  case atStart =>
    refine ⟨1, by omega, hl, rfl, ((Ext.refl _).alloc _).alloc _, (Blk.new _ _ _).alloc _, ?_⟩
    have e : l.take 1 = [l[0]] := by
      cases l with
      | nil => simp at hl
      | cons a l => rfl
    rw [e]
    have := Blk.new (w.alloc (.cells #[.int .i64 0, .int .i64 0] 23)) 23 #[.int .i64 (l[0]).t, .int .i64 (l[0]).n]
    simpa [maxSt] using this
  case round =>
    obtain ⟨k, hk1, hk, rfl, hx, hb0, hb1⟩ := hrel
    clear h0 h1
    by_cases hlt : k < l.length
    · have h1 := hx.cell hb (hc k hlt).1
      have h2 := hx.cell hb (hc k hlt).2
      have hs := hb1.lt
      have hbr := hx.lt hb
      have hM := Lib.hid (maxSt_take l k hk1 hlt)
      generalize hX : l[k] = X at *
      generalize maxSt (l.take k) = M at *
      have h3 : wr.cell? ⟨w.heap.size + 1, 0, none⟩ = some (.int .i64 M.t) := hb1.cell 0
      have h4 : wr.cell? ⟨w.heap.size + 1, 1, none⟩ = some (.int .i64 M.n) := hb1.cell 1
      clear hX hc
      by_cases hgt : 0 < St.cmp X M
      · go_wp2
        refine wp_region_still_tail 6 (by kernel_rfl) (by kernel_rfl) ?_
        simp only [List.take_succ_cons, List.take_zero, List.drop_succ_cons, List.drop_zero, World.drew_eq]
        repeat still_step
        try refine wpStill_nil ?_
        go_wp2_with (go_at_call 17; refine (compare_any X M _).mono ?_; rintro e w1 ⟨rfl, hx1⟩; replace hx1 := hx1.undrew; have e1 := hx1.cell hbr h1; have e2 := hx1.cell hbr h2; have e3 := hx1.cell hs h3; have e4 := hx1.cell hs h4; have e5 := (hb1.ext hx1).frozen 0; have e6 := (hb1.ext hx1).frozen 1)
        have hE : maxStep M X = X := by unfold maxStep; rw [if_pos hgt]
        have hb0' := hb0.ext hx1
        have hb1' := hb1.ext hx1
        go_roundw
        case rel =>
          refine ⟨k + 1, by omega, by omega, by go_num, ((hx.trans hx1).setCell (by simp) _).setCell (by simp) _, ?_, ?_⟩
          · exact (hb0'.far (by simp) _).far (by simp) _
          · rw [hM.out, hE]
            exact (hb1'.set_ 0 _).set_ 1 _
        case measure => simp [intOf]; omega
      · have hgt' : St.cmp X M ≤ 0 := by omega
        clear hgt
        go_wp2
        refine wp_region_still_tail 6 (by kernel_rfl) (by kernel_rfl) ?_
        simp only [List.take_succ_cons, List.take_zero, List.drop_succ_cons, List.drop_zero, World.drew_eq]
        repeat still_step
        try refine wpStill_nil ?_
        go_wp2_with (go_at_call 17; refine (compare_any X M _).mono ?_; rintro e w1 ⟨rfl, hx1⟩; replace hx1 := hx1.undrew; have e1 := hx1.cell hbr h1; have e2 := hx1.cell hbr h2; have e3 := hx1.cell hs h3; have e4 := hx1.cell hs h4; have e5 := (hb1.ext hx1).frozen 0; have e6 := (hb1.ext hx1).frozen 1)
        have hE : maxStep M X = M := by unfold maxStep; rw [if_neg (by omega)]
        have hb0' := hb0.ext hx1
        have hb1' := hb1.ext hx1
        go_roundw
        case rel =>
          refine ⟨k + 1, by omega, by omega, by go_num, hx.trans hx1, hb0', ?_⟩
          rw [hM.out, hE]
          exact hb1'
        case measure => simp [intOf]; omega
    · obtain rfl : k = l.length := by omega
      have hs := hb1.lt
      have he : l.take l.length = l := List.take_length
      rw [he] at hb1
      generalize hMx : maxSt l = M at *
      have hMy := Lib.hid hMx
      clear hMx
      have h3 : wr.cell? ⟨w.heap.size + 1, 0, none⟩ = some (.int .i64 M.t) := hb1.cell 0
      have h4 : wr.cell? ⟨w.heap.size + 1, 1, none⟩ = some (.int .i64 M.n) := hb1.cell 1
      have h5 : wr.cell? ⟨w.heap.size, 0, none⟩ = some (.int .i64 0) := hb0.cell 0
      have h6 : wr.cell? ⟨w.heap.size, 1, none⟩ = some (.int .i64 0) := hb0.cell 1
      have h7 := hb0.frozen 0
      have h8 := hb0.frozen 1
      clear hc
      go_wp2
      refine bodyPost_ret (v := .agg #[.int .i64 (M).t, .int .i64 (M).n]) (by simp [results, Try.results45, go_sem, h5, h6]) rfl ⟨by rw [hMy.out], (hx.setCell (by simp) _).setCell (by simp) _⟩
theorem Sts.holds {w : World} {b o : Nat} {l : List St} (h : ∀ k (hk : k < l.length), w.cell? ⟨b, o + k * 2, none⟩ = some (.int .i64 (l[k]).t) ∧ w.cell? ⟨b, o + k * 2 + 1, none⟩ = some (.int .i64 (l[k]).n)) :
    ∀ j u, (stCells l)[j]? = some u → w.cell? ((⟨b, o, none⟩ : Addr).add j) = some u := by
  intro j u hu
  have hj : j < (stCells l).length := (List.getElem?_eq_some_iff.1 hu).1
  rw [stCells_len] at hj
  have hk : j / 2 < l.length := by omega
  have hadd : (⟨b, o, none⟩ : Addr).add j = ⟨b, o + j, none⟩ := by
    unfold Addr.add; split
    · rename_i h0; subst h0; rfl
    · rfl
  rw [hadd]
  by_cases hp : j % 2 = 0
  · have e : j = j / 2 * 2 := by omega
    have h1 := (h (j / 2) hk).1
    have h2 := stCells_t l (j / 2) hk
    rw [← e] at h1 h2
    rw [h1, ← h2, hu]
  · have e : j = j / 2 * 2 + 1 := by omega
    have h1 := (h (j / 2) hk).2
    have h2 := stCells_n l (j / 2) hk
    rw [Nat.add_assoc, ← e] at h1
    rw [← e] at h2
    rw [h1, ← h2, hu]
theorem Sts.of_cells {w : World} {g : Nat} {l : List St} (hg : g < w.heap.size) (h : ∀ j u, (stCells l)[j]? = some u → w.cell? ((⟨g, 0, none⟩ : Addr).add j) = some u) : Sts w (some ⟨g, 0, none⟩) l := by
  intro _
  refine ⟨g, 0, rfl, hg, fun k hk => ?_⟩
  have hadd : ∀ j, (⟨g, 0, none⟩ : Addr).add j = ⟨g, 0 + j, none⟩ := by
    intro j; unfold Addr.add; split
    · rename_i h0; subst h0; rfl
    · rfl
  have h1 := h _ _ (stCells_t l k hk)
  have h2 := h _ _ (stCells_n l k hk)
  rw [hadd] at h1 h2
  exact ⟨h1, by rw [Nat.add_assoc]; exact h2⟩
theorem max_any (l : List St) (A : Option Addr) (c : Nat) (w : World) (hm : l.length ≤ 70368744177664) (hs : Sts w A l) :
    Calls Try.prog 22 #[.slice A l.length c] w fun e w' => e = .returned (.agg #[.int .i64 (maxSt l).t, .int .i64 (maxSt l).n]) ∧ Ext w w' := by
  by_cases hl : l = []
  · subst hl
    go_enter Try.func22, Try.ntmps22
    go_wp2
    refine bodyPost_ret (v := .agg #[.int .i64 (maxSt []).t, .int .i64 (maxSt []).n]) (by simp [results, Try.results22, go_sem, maxSt, St.z]) rfl ⟨rfl, (Ext.refl _).alloc _⟩
  · obtain ⟨b, o, rfl, hb, hc⟩ := hs hl
    have hn : 0 < l.length := by cases l with | nil => exact absurd rfl hl | cons a l => simp
    have hn' : ((l.length : Int) == 0) = false := by simp; exact hl
    have ct := maxFunc_any l b o c (w.alloc (.cells #[.int .i64 0, .int .i64 0] 23)) hn hm (fun k hk => ⟨((Ext.refl w).alloc _).cell hb (hc k hk).1, ((Ext.refl w).alloc _).cell hb (hc k hk).2⟩) (by simp; omega)
    have CT := Lib.hid ct
    clear ct hc hl
    go_enter Try.func22, Try.ntmps22
    go_wp2_with (go_at_call 45; refine CT.out.mono ?_; rintro e w1 ⟨rfl, hx⟩; have hb0 := (Blk.new w 23 #[.int .i64 0, .int .i64 0]).ext hx; have e1 : w1.cell? ⟨w.heap.size, 0, none⟩ = some (.int .i64 0) := hb0.cell 0; have e2 : w1.cell? ⟨w.heap.size, 1, none⟩ = some (.int .i64 0) := hb0.cell 1; have e3 := hb0.frozen 0; have e4 := hb0.frozen 1)
    refine bodyPost_ret (v := .agg #[.int .i64 (maxSt l).t, .int .i64 (maxSt l).n]) (by simp [results, Try.results22, go_sem, e1, e2]) rfl ⟨rfl, ((((Ext.refl _).alloc _).trans hx).setCell (by simp) _).setCell (by simp) _⟩
end Go.Proofs.Ytnhdjaegkccmaaa
namespace Go.Proofs.Ytnhdjaegkccmaaa
open Go.RowKit
theorem max_any_n (l : List St) (n : Nat) (hn : l.length = n) (A : Option Addr) (c : Nat) (w : World) (hm : n ≤ 70368744177664) (hs : Sts w A l) :
    Calls Try.prog 22 #[.slice A n c] w fun e w' => e = .returned (.agg #[.int .i64 (maxSt l).t, .int .i64 (maxSt l).n]) ∧ Ext w w' := by
  subst hn; exact max_any l A c w hm hs
theorem stCells_snoc (l : List St) (s : St) : stCells l ++ [.int .i64 s.t, .int .i64 s.n] = stCells (l ++ [s]) := by
  unfold stCells; rw [List.flatMap_append]; rfl
/-- a stamp that may stand among others: none, or one -/
def St.fine (s : St) : Bool := (s.t == 0 && s.n == 0) || s.ok
def topT (l : List St) : Int := (maxSt (l ++ [St.z])).t
def afterE (node : Int) (l : List St) : Int := if nodeOk node = false then 2 else if l.all St.fine = false then 10 else if 1099511627776 ≤ topT l then 11 else 0
def afterS (node : Int) (l : List St) : St := if afterE node l = 0 then ⟨topT l + 1, node⟩ else St.z
theorem st_info : (Try.prog.info? 23).map (fun i => (i.zero, i.size, i.bytes)) = some (some (.agg #[.int .i64 0, .int .i64 0]), 2, 16) := by kernel_rfl
theorem st_field0 (a b : Int) (w : World) : (Instr.field 23 (.agg #[.int .i64 a, .int .i64 b]) 0).run Try.prog w = .ok (.int .i64 a) w := by kernel_rfl
theorem after_node (node : Int) (l : List St) (A : Option Addr) (c : Nat) (w : World) (h : nodeOk node = false) :
    Calls Try.prog 19 #[.int .i64 node, .slice A l.length c] w fun e w' => e = .returned (.tuple #[.agg #[.int .i64 (St.z).t, .int .i64 (St.z).n], .int .i64 2]) ∧ Ext w w' := by
  go_enter Try.func19, Try.ntmps19
  go_wp2_with (go_at_call 41; refine (isNode_any _ _).mono ?_; rintro e w' ⟨rfl, rfl⟩)
  refine bodyPost_ret (v := .tuple #[.agg #[.int .i64 (St.z).t, .int .i64 (St.z).n], .int .i64 2]) (by simp [results, Try.results19, go_sem, St.z]) rfl ⟨rfl, (Ext.refl _).alloc _⟩
theorem foldl_max_mem (l : List St) (a : St) : l.foldl maxStep a = a ∨ l.foldl maxStep a ∈ l := by
  induction l generalizing a with
  | nil => exact .inl rfl
  | cons b l ih =>
    simp only [List.foldl_cons]
    rcases ih (maxStep a b) with h | h
    · rw [h]; unfold maxStep; split
      · right; exact List.mem_cons_self
      · exact .inl rfl
    · right; exact List.mem_cons_of_mem _ h
theorem maxSt_mem (l : List St) (h : l ≠ []) : maxSt l ∈ l := by
  cases l with
  | nil => exact absurd rfl h
  | cons a l =>
    show l.foldl maxStep a ∈ a :: l
    rcases foldl_max_mem l a with e | e
    · rw [e]; exact List.mem_cons_self
    · exact List.mem_cons_of_mem _ e
theorem fine_ge {s : St} (h : s.fine = true) : 0 ≤ s.t := by
  unfold St.fine St.ok at h
  simp only [Bool.or_eq_true, Bool.and_eq_true, beq_iff_eq, decide_eq_true_eq] at h
  omega
theorem topT_ge {l : List St} (h : l.all St.fine = true) : 0 ≤ (maxSt (l ++ [St.z])).t := by
  have hm := maxSt_mem (l ++ [St.z]) (by simp)
  rcases List.mem_append.1 hm with e | e
  · exact fine_ge (List.all_eq_true.1 h _ e)
  · rw [List.mem_singleton.1 e]; decide
set_option maxRecDepth 100000 in
theorem after_x (node : Int) (l : List St) (A : Option Addr) (c : Nat) (w : World) (h : nodeOk node = true) (hm : l.length ≤ 1000) (hlc : l.length ≤ c) (hA : A = none → c = 0) (hs0 : Sts w A l) :
    Calls Try.prog 19 #[.int .i64 node, .slice A l.length c] w fun e w' => e = .returned (.tuple #[.agg #[.int .i64 (afterS node l).t, .int .i64 (afterS node l).n], .int .i64 (afterE node l)]) ∧ Ext w w' := by
  go_enter Try.func19, Try.ntmps19
  go_wp2_with (go_at_call 41; refine (isNode_any _ _).mono ?_; rintro e w' ⟨rfl, rfl⟩)
  go_loopw [15] (fun i wr => ∃ k : Nat, k ≤ l.length ∧ i = .int .i64 k ∧ Ext w wr ∧ Blk wr w.heap.size 23 #[.int .i64 0, .int .i64 0] ∧ (l.take k).all St.fine = true) (fun i _ => l.length - (intOf i).toNat)
  case atStart => exact ⟨0, by omega, rfl, (Ext.refl _).alloc _, Blk.new _ _ _, rfl⟩
  case round =>
    obtain ⟨k, hk, rfl, hx, hb0, hall⟩ := hrel
    by_cases hlt : k < l.length
    · obtain ⟨b, o, rfl, hb, hc⟩ := hs0 (by rintro rfl; simp at hlt)
      have h1 := hx.cell hb (hc k hlt).1
      have h2 := hx.cell hb (hc k hlt).2
      have hs := hb0.lt
      have hbr := hx.lt hb
      have hT : (l.take (k + 1)).all St.fine = (l[k]).fine := by
        rw [List.take_succ_eq_append_getElem hlt, List.all_append, hall]; simp
      have hA : (l[k]).fine = false → l.all St.fine = false := by
        intro hf
        cases hh : l.all St.fine with
        | false => rfl
        | true =>
          have := List.all_eq_true.1 hh _ (List.getElem_mem hlt)
          rw [hf] at this; cases this
      have HT := Lib.hid hT
      have HA := Lib.hid hA
      have HC := Lib.hid hc
      clear hT hA hc
      generalize hX : l[k] = X at *
      clear hX
      cases e1 : (X.t == 0) <;> cases e2 : (X.n == 0)
      case true.true =>
        have hF : X.fine = true := by unfold St.fine; rw [e1, e2]; rfl
        have HF := Lib.hid hF
        clear hF
        go_wp2_with fail
        go_roundw
        case rel => exact ⟨k + 1, by omega, by go_num, hx.alloc _, hb0.alloc _, by rw [HT.out, HF.out]⟩
        case measure => simp [intOf]; omega
      all_goals
        cases ho : X.ok
        case true =>
          have hF : X.fine = true := by unfold St.fine; rw [ho]; simp
          have HF := Lib.hid hF
          have hk : X.chk = 0 := by unfold St.chk; rw [ho]; rfl
          clear hF ho
          go_wp2_with (go_at_call 15; refine (check_any X _).mono ?_; rintro e w1 ⟨rfl, hx1⟩)
          go_roundw
          case rel => exact ⟨k + 1, by omega, by go_num, (hx.alloc _).trans hx1, (hb0.alloc _).ext hx1, by rw [HT.out, HF.out]⟩
          case measure => simp [intOf]; omega
        case false =>
          have hF : X.fine = false := by unfold St.fine; rw [ho, e1, e2]; rfl
          have hA := HA.out hF
          have hE : afterE node l = 10 := by unfold afterE; rw [h, if_neg (by decide), if_pos hA]
          have hS : afterS node l = St.z := by unfold afterS; rw [hE]; rfl
          have HE := Lib.hid hE
          have HS := Lib.hid hS
          have hk : X.chk = 10 := by unfold St.chk; rw [ho]; rfl
          clear hF ho hA HA HT hE hS
          go_wp2_with (go_at_call 15; refine (check_any X _).mono ?_; rintro e w1 ⟨rfl, hx1⟩; have hb1 := (hb0.alloc _).ext hx1; have d1 : w1.cell? ⟨w.heap.size, 0, none⟩ = some (.int .i64 0) := hb1.cell 0; have d2 : w1.cell? ⟨w.heap.size, 1, none⟩ = some (.int .i64 0) := hb1.cell 1; have d3 := hb1.frozen 0; have d4 := hb1.frozen 1)
          refine bodyPost_ret (v := .tuple #[.agg #[.int .i64 (St.z).t, .int .i64 (St.z).n], .int .i64 10]) (by simp [results, Try.results19, go_sem, d1, d2, St.z]) rfl ⟨by rw [HE.out, HS.out], (((hx.alloc _).trans hx1).setCell (by simp) _).setCell (by simp) _⟩
    · obtain rfl : k = l.length := by omega
      rw [List.take_length] at hall
      have hs := hb0.lt
      have hlc' : A = none → l.length = 0 := fun h => by have := hA h; omega
      have ho1 : A = none → l.length = 0 ∧ l.length = 0 := fun h => ⟨hlc' h, hlc' h⟩
      have ho3 : ∀ b' : Addr, A = some b' → ∀ j u, (stCells l)[j]? = some u → (wr.alloc (.cells #[.int .i64 0, .int .i64 0] 23)).cell? (b'.add j) = some u := by
        intro b' hb' j u hu
        obtain ⟨b, o, hab, hb, hc⟩ := hs0 (by rintro rfl; simp [stCells] at hu)
        rw [hab] at hb'
        injection hb' with hb'
        subst hb'
        have ho := Sts.holds (w := wr) (b := b) (o := o) (l := l) (fun k hk => ⟨hx.cell hb (hc k hk).1, hx.cell hb (hc k hk).2⟩)
        exact ((Ext.refl wr).alloc _).cell (by rw [block_of_add]; exact hx.lt hb) (ho j u hu)
      have ho5 : ∀ u ∈ [Value.int .i64 0, .int .i64 0], u.oneCell' = true := by simp [Value.oneCell']
      have ho6 : l.length < l.length + 1 := by omega
      have ho7 : l.length + 1 ≤ maxLen := by unfold maxLen; omega
      have ho8 : (l.length + 1) * 16 ≤ 140737488355328 := by omega
      have HA := Lib.hid hA
      have HS0 := Lib.hid hs0
      clear hs0
      obtain ⟨i0, hi0, hz0, hz1, hz2⟩ := info_parts st_info
      go_wp2_with (at_builtin; (refine wpList_append_grows _ rfl (.tmp 34) (.tmp 36) _ rfl 23 i0 _ 2 16 Try.underlying31 hi0 hz0 hz1 hz2 rfl (by decide) A l.length l.length (stCells l) rfl ho1 (stCells_len l) ho3 ⟨wr.heap.size, 0, none⟩ 1 1 [.int .i64 0, .int .i64 0] rfl rfl (cell_two_new _ _ _ _) ho5 ho6 ho7 ho8 ?_); intro v1 w1 hown hgrow)
      obtain ⟨g, cap, hv, _, hlt2⟩ := hown.form (by omega)
      subst hv
      have hx2 : Ext wr w1 := ((Ext.refl wr).alloc _).trans (Ext.of ((Below.refl _ _).grown hgrow (Nat.le_refl _) (fun k h => by cases h)))
      have hs1 : Sts w1 (some ⟨g, 0, none⟩) (l ++ [St.z]) := by
        refine Sts.of_cells hlt2 ?_
        rw [← stCells_snoc]
        exact hown.cells (g := g) rfl
      have hmx := max_any_n (l ++ [St.z]) (l.length + 1) (by simp) (some ⟨g, 0, none⟩) cap w1 (by omega) hs1
      have HM := Lib.hid hmx
      have hb1 := hb0.ext hx2
      clear hmx hs1 hown hgrow ho1 ho3 hlc' ho5 ho6 ho7 ho8
      have hfd := st_field0
      by_cases hover : 1099511627776 ≤ topT l
      · have hE : afterE node l = 11 := by unfold afterE; rw [h, hall, if_neg (by decide), if_neg (by decide), if_pos hover]
        have hS : afterS node l = St.z := by unfold afterS; rw [hE]; rfl
        have HE := Lib.hid hE
        have HS := Lib.hid hS
        clear hE hS
        unfold topT at hover
        go_wp2_with (go_at_call 22; refine HM.out.mono ?_; rintro e w2 ⟨rfl, hx3⟩; have hb2 := hb1.ext hx3; have d1 : w2.cell? ⟨w.heap.size, 0, none⟩ = some (.int .i64 0) := hb2.cell 0; have d2 : w2.cell? ⟨w.heap.size, 1, none⟩ = some (.int .i64 0) := hb2.cell 1; have d3 := hb2.frozen 0; have d4 := hb2.frozen 1)
        refine bodyPost_ret (v := .tuple #[.agg #[.int .i64 (St.z).t, .int .i64 (St.z).n], .int .i64 11]) (by simp [results, Try.results19, go_sem, d1, d2, St.z]) rfl ⟨by rw [HE.out, HS.out], (((hx.trans hx2).trans hx3).setCell (by simp) _).setCell (by simp) _⟩
      · have hE : afterE node l = 0 := by unfold afterE; rw [h, hall, if_neg (by decide), if_neg (by decide), if_neg hover]
        have hS : afterS node l = ⟨topT l + 1, node⟩ := by unfold afterS; rw [hE]; rfl
        have HE := Lib.hid hE
        have HS := Lib.hid hS
        clear hE hS
        unfold topT at hover
        have hov : (maxSt (l ++ [St.z])).t < 1099511627776 := by omega
        clear hover
        have hlow := topT_ge hall
        go_wp2_with (go_at_call 22; refine HM.out.mono ?_; rintro e w2 ⟨rfl, hx3⟩; have hb2 := hb1.ext hx3; have d1 : w2.cell? ⟨w.heap.size, 0, none⟩ = some (.int .i64 0) := hb2.cell 0; have d2 : w2.cell? ⟨w.heap.size, 1, none⟩ = some (.int .i64 0) := hb2.cell 1; have d3 := hb2.frozen 0; have d4 := hb2.frozen 1)
        refine bodyPost_ret (v := .tuple #[.agg #[.int .i64 ((maxSt (l ++ [St.z])).t + 1), .int .i64 node], .int .i64 0]) (by simp [results, Try.results19, go_sem, d1, d2]) rfl ⟨by rw [HE.out, HS.out]; rfl, (((hx.trans hx2).trans hx3).setCell (by simp) _).setCell (by simp) _⟩
theorem after_any (node : Int) (l : List St) (A : Option Addr) (c : Nat) (w : World) (hm : l.length ≤ 1000) (hlc : l.length ≤ c) (hA : A = none → c = 0) (hs0 : Sts w A l) :
    Calls Try.prog 19 #[.int .i64 node, .slice A l.length c] w fun e w' => e = .returned (.tuple #[.agg #[.int .i64 (afterS node l).t, .int .i64 (afterS node l).n], .int .i64 (afterE node l)]) ∧ Ext w w' := by
  cases h : nodeOk node with
  | true => exact after_x node l A c w h hm hlc hA hs0
  | false =>
    have hE : afterE node l = 2 := by unfold afterE; rw [h]; rfl
    have hS : afterS node l = St.z := by unfold afterS; rw [hE]; rfl
    rw [hE, hS]
    exact after_node node l A c w h
end Go.Proofs.Ytnhdjaegkccmaaa
namespace Go.Proofs.Ytnhdjaegkccmaaa
open Go.RowKit
/-- only block g, and what is new, has turned -/
def Chg (g : Nat) (w w' : World) : Prop := w.grownBy w' (some g)
theorem Chg.refl (g : Nat) (w : World) : Chg g w w := World.grownBy.refl w _
theorem Chg.trans {g : Nat} {a b c : World} (h : Chg g a b) (k : Chg g b c) : Chg g a c :=
  ⟨k.os.trans h.os, k.tape.trans h.tape, k.output.trans h.output, Nat.le_trans h.size k.size, fun i hi hne => (k.block i (Nat.lt_of_lt_of_le hi h.size) hne).trans (h.block i hi hne)⟩
theorem Chg.drew {g : Nat} {a b : World} (h : Chg g a b) : Chg g a b.drew := only_drew h
theorem Chg.alloc {g : Nat} {a b : World} (h : Chg g a b) (o : Obj) : Chg g a (b.alloc o) := only_alloc h o
theorem Chg.setCell {g : Nat} {a b : World} (h : Chg g a b) {p : Addr} (hp : p.block = g ∨ a.heap.size ≤ p.block) (u : Value) : Chg g a (b.setCell p u) := only_setCell h hp u
theorem Chg.size {g : Nat} {a b : World} (h : Chg g a b) : a.heap.size ≤ b.heap.size := World.grownBy.size h
theorem Ext.chg {g : Nat} {a b c : World} (h : Ext a b) (k : Chg g b c) (hg : a.heap.size ≤ g) : Ext a c :=
  Ext.of ⟨k.os.trans h.os, k.tape.trans h.tape, k.output.trans h.output, Nat.le_trans h.size k.size, fun i hi => (k.block i (Nat.lt_of_lt_of_le hi h.size) (fun e => by injection e; omega)).trans (h.block i hi)⟩
theorem Chg.blk {g g' : Nat} {a b : World} {t : TypeId} {cs : Array Value} (h : Blk a g' t cs) (k : Chg g a b) (hne : g' ≠ g) : Blk b g' t cs := h.grown k (fun e => hne (by injection e))
theorem Chg.sts {g : Nat} {a b : World} {A : Option Addr} {l : List St} (h : Sts a A l) (k : Chg g a b) (hne : ∀ ad, A = some ad → ad.block ≠ g) : Sts b A l := by
  intro hl
  obtain ⟨bl, o, hA, hb, hc⟩ := h hl
  have hn := hne _ hA
  refine ⟨bl, o, hA, Nat.lt_of_lt_of_le hb k.size, fun j hj => ?_⟩
  have hk := k.block bl hb (fun e => hn (by injection e))
  have h1 : b.cell? ⟨bl, o + j * 2, none⟩ = a.cell? ⟨bl, o + j * 2, none⟩ := World.cell?_of_block hk
  have h2 : b.cell? ⟨bl, o + j * 2 + 1, none⟩ = a.cell? ⟨bl, o + j * 2 + 1, none⟩ := World.cell?_of_block hk
  rw [h1, h2]; exact hc j hj
/-- a clock: its node, its last time -/
abbrev Clk (w : World) (g : Nat) (node last : Int) : Prop := Blk w g 73 #[.int .i64 node, .int .i64 last]
def newOk (node last : Int) : Bool := nodeOk node && (decide (0 ≤ last) && decide (last ≤ 1099511627776))
theorem new_ok (node last : Int) (w : World) (h : newOk node last = true) :
    Calls Try.prog 25 #[.int .i64 node, .int .i64 last] w fun e w' => e = .returned (.tuple #[.pointer (some ⟨w.heap.size, 0, none⟩), .int .i64 0]) ∧ w' = w.alloc (.cells #[.int .i64 node, .int .i64 last] 73) := by
  unfold newOk at h
  simp only [Bool.and_eq_true, decide_eq_true_eq] at h
  obtain ⟨h1, h2, h3⟩ := h
  go_enter Try.func25, Try.ntmps25
  go_wp2_with (go_at_call 41; refine (isNode_any _ _).mono ?_; rintro e w' ⟨rfl, rfl⟩)
  go_ret2
  exact ⟨rfl, rfl⟩
set_option maxRecDepth 100000 in
theorem now_some (g : Nat) (node last : Int) (w : World) (hc : Clk w g node last) (h0 : 0 ≤ last) (hl : last < 1099511627776) :
    Calls Try.prog 26 #[.pointer (some ⟨g, 0, none⟩)] w fun e w' => e = .returned (.tuple #[.agg #[.int .i64 (last + 1), .int .i64 node], .int .i64 0]) ∧ Chg g w w' ∧ Clk w' g node (last + 1) := by
  have h1 : w.cell? ⟨g, 1, none⟩ = some (.int .i64 last) := hc.cell 1
  have h2 : w.cell? ⟨g, 0, none⟩ = some (.int .i64 node) := hc.cell 0
  have h3 := hc.frozen 1
  have hg := hc.lt
  have hne : (last == 1099511627776) = false := by simp; omega
  go_enter Try.func26, Try.ntmps26
  go_wp2
  obtain ⟨W, hW⟩ : ∃ W, W = (w.setCell ⟨g, 1, none⟩ (.int .i64 (last + 1))).alloc (.cells #[.int .i64 0, .int .i64 0] 23) := ⟨_, rfl⟩
  have hb0 : Clk W g node (last + 1) := by rw [hW]; exact (hc.set_ 1 _).alloc _
  have hb1 : Blk W w.heap.size 23 #[.int .i64 0, .int .i64 0] := by
    rw [hW]
    have := Blk.new (w.setCell ⟨g, 1, none⟩ (.int .i64 (last + 1))) 23 #[.int .i64 0, .int .i64 0]
    simpa [World.setCell] using this
  have hx : Chg g w W := by rw [hW]; exact ((Chg.refl g w).setCell (.inl rfl) _).alloc _
  rw [← hW]; clear hW h1 h2 h3
  have c1 : W.cell? ⟨g, 0, none⟩ = some (.int .i64 node) := hb0.cell 0
  have c2 : W.cell? ⟨g, 1, none⟩ = some (.int .i64 (last + 1)) := hb0.cell 1
  have c3 : W.cell? ⟨w.heap.size, 0, none⟩ = some (.int .i64 0) := hb1.cell 0
  have c4 : W.cell? ⟨w.heap.size, 1, none⟩ = some (.int .i64 0) := hb1.cell 1
  have c5 := hb1.frozen 0
  have c6 := hb1.frozen 1
  refine wp_region_still_tail 9 (by kernel_rfl) (by kernel_rfl) ?_
  simp only [List.take_succ_cons, List.take_zero, List.drop_succ_cons, List.drop_zero, World.drew_eq]
  repeat still_step
  try refine wpStill_nil ?_
  go_wp2
  refine bodyPost_ret (v := .tuple #[.agg #[.int .i64 (last + 1), .int .i64 node], .int .i64 0]) (by simp [results, Try.results26, go_sem, c3, c4]) rfl ⟨rfl, (hx.drew.setCell (.inr (by simp)) _).setCell (.inr (by simp)) _, (hb0.drew.far (by simp; omega) _).far (by simp; omega) _⟩
def tickV (last to : Int) : Int := if to ≤ 1099511627776 then max last to else last
theorem tick_nil (to : Int) (w : World) :
    Calls Try.prog 30 #[.pointer none, .int .i64 to] w fun e w' => e = .returned (.tuple #[]) ∧ w = w' := by
  go_enter Try.func30, Try.ntmps30
  go_wp2
  go_end0
  exact ⟨rfl, rfl⟩
theorem tick_some (g : Nat) (node last to : Int) (w : World) (hc : Clk w g node last) :
    Calls Try.prog 30 #[.pointer (some ⟨g, 0, none⟩), .int .i64 to] w fun e w' => e = .returned (.tuple #[]) ∧ Chg g w w' ∧ Clk w' g node (tickV last to) := by
  have h1 : w.cell? ⟨g, 1, none⟩ = some (.int .i64 last) := hc.cell 1
  have h3 := hc.frozen 1
  have hg := hc.lt
  unfold tickV
  by_cases h : to ≤ 1099511627776
  · rw [if_pos h]
    by_cases hlt : last < to
    · have e : max last to = to := by omega
      rw [e]; clear e
      go_enter Try.func30, Try.ntmps30
      go_wp2
      go_end0
      exact ⟨rfl, (Chg.refl _ _).setCell (.inl rfl) _, hc.set_ 1 _⟩
    · have e : max last to = last := by omega
      rw [e]; clear e
      have hge : to ≤ last := by omega
      clear hlt
      go_enter Try.func30, Try.ntmps30
      go_wp2
      go_end0
      exact ⟨rfl, (Chg.refl _ _).setCell (.inl rfl) _, hc.set_ 1 _⟩
  · rw [if_neg h]
    go_enter Try.func30, Try.ntmps30
    go_wp2
    go_end0
    exact ⟨rfl, Chg.refl _ _, hc⟩
def seeV (last : Int) (l : List St) : Int := l.foldl (fun a s => tickV a s.t) last
theorem seeV_take (last : Int) (l : List St) (k : Nat) (h : k < l.length) : seeV last (l.take (k + 1)) = tickV (seeV last (l.take k)) (l[k]).t := by
  unfold seeV
  rw [List.take_succ_eq_append_getElem h, List.foldl_append]; rfl
theorem see_nil (l : List St) (A : Option Addr) (c : Nat) (w : World) (hm : l.length ≤ 70368744177664) (hs : Sts w A l) :
    Calls Try.prog 28 #[.pointer none, .slice A l.length c] w fun e w' => e = .returned (.tuple #[]) ∧ Ext w w' := by
  go_enter Try.func28, Try.ntmps28
  go_wp2
  go_loopw [8] (fun i wr => ∃ k : Nat, k ≤ l.length ∧ i = .int .i64 k ∧ Ext w wr) (fun i _ => l.length - (intOf i).toNat)
  case atStart => exact ⟨0, by omega, rfl, Ext.refl _⟩
  case round =>
    obtain ⟨k, hk, rfl, hx⟩ := hrel
    by_cases hlt : k < l.length
    · obtain ⟨b, o, rfl, hb, hc⟩ := hs (by rintro rfl; simp at hlt)
      have h1 := hx.cell hb (hc k hlt).1
      have h2 := hx.cell hb (hc k hlt).2
      have hbr := hx.lt hb
      generalize l[k] = X at *
      clear hc
      go_wp2_with (go_at_call 30; refine (tick_nil _ _).mono ?_; rintro e w1 ⟨rfl, rfl⟩)
      go_roundw
      case rel => exact ⟨k + 1, by omega, by go_num, hx.alloc _⟩
      case measure => simp [intOf]; omega
    · go_wp2
      go_end0
      exact ⟨rfl, hx⟩
theorem see_some (g : Nat) (node last : Int) (l : List St) (A : Option Addr) (c : Nat) (w : World) (hm : l.length ≤ 70368744177664) (hs : Sts w A l) (hne : ∀ ad, A = some ad → ad.block ≠ g) (hc : Clk w g node last) :
    Calls Try.prog 28 #[.pointer (some ⟨g, 0, none⟩), .slice A l.length c] w fun e w' => e = .returned (.tuple #[]) ∧ Chg g w w' ∧ Clk w' g node (seeV last l) := by
  go_enter Try.func28, Try.ntmps28
  go_wp2
  go_loopw [8] (fun i wr => ∃ k : Nat, k ≤ l.length ∧ i = .int .i64 k ∧ Chg g w wr ∧ Clk wr g node (seeV last (l.take k))) (fun i _ => l.length - (intOf i).toNat)
  case atStart => exact ⟨0, by omega, rfl, Chg.refl _ _, hc⟩
  case round =>
    obtain ⟨k, hk, rfl, hx, hcl⟩ := hrel
    by_cases hlt : k < l.length
    · have hs1 := Chg.sts hs hx hne
      obtain ⟨b, o, rfl, hb, hc'⟩ := hs1 (by rintro rfl; simp at hlt)
      have h1 := (hc' k hlt).1
      have h2 := (hc' k hlt).2
      have hT := Lib.hid (seeV_take last l k hlt)
      have hgb : b ≠ g := hne ⟨b, o, none⟩ rfl
      generalize l[k] = X at *
      generalize seeV last (l.take k) = L at *
      have hg := hcl.lt
      have hc1 : Clk (wr.alloc (.cells #[.int .i64 X.t, .int .i64 X.n] 23)) g node L := hcl.alloc _
      clear hc' hs1
      go_wp2_with (go_at_call 30; refine (tick_some g node L _ _ hc1).mono ?_; rintro e w1 ⟨rfl, hx1, hc2⟩)
      go_roundw
      case rel => exact ⟨k + 1, by omega, by go_num, (hx.alloc _).trans hx1, by rw [hT.out]; exact hc2⟩
      case measure => simp [intOf]; omega
    · obtain rfl : k = l.length := by omega
      rw [List.take_length] at hcl
      go_wp2
      go_end0
      exact ⟨rfl, hx, hcl⟩
end Go.Proofs.Ytnhdjaegkccmaaa
