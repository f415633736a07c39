/- Lists of stamps in memory; the greatest one. -/
import Derived.Test.YtnhdjaegkccmaaaStA
import Derived.Test.YtnhdjaegkccmaaaWords
namespace Go.Proofs.Ytnhdjaegkccmaaa
open Go.RowKit

/-- the cells of a list of stamps -/
def stCells (l : List St) : List Value := l.flatMap fun s => [.int .i64 s.t, .int .i64 s.n]
theorem stCells_len (l : List St) : (stCells l).length = l.length * 2 := by
  unfold stCells
  induction l with
  | nil => rfl
  | cons a l ih => simp only [List.flatMap_cons, List.length_append, List.length_cons, List.length_nil, ih]; omega
theorem stCells_t (l : List St) (k : Nat) (h : k < l.length) : (stCells l)[k * 2]? = some (.int .i64 (l[k]).t) := by
  induction l generalizing k with
  | nil => simp at h
  | cons a l ih =>
    cases k with
    | zero => rfl
    | succ k =>
      have := ih k (by simpa using h)
      simp only [List.getElem_cons_succ]
      rw [← this]
      show ([Value.int .i64 a.t, .int .i64 a.n] ++ stCells l)[(k + 1) * 2]? = _
      rw [List.getElem?_append_right (by simp; omega)]
      congr 1; simp; omega
theorem stCells_n (l : List St) (k : Nat) (h : k < l.length) : (stCells l)[k * 2 + 1]? = some (.int .i64 (l[k]).n) := by
  induction l generalizing k with
  | nil => simp at h
  | cons a l ih =>
    cases k with
    | zero => rfl
    | succ k =>
      have := ih k (by simpa using h)
      simp only [List.getElem_cons_succ]
      rw [← this]
      show ([Value.int .i64 a.t, .int .i64 a.n] ++ stCells l)[(k + 1) * 2 + 1]? = _
      rw [List.getElem?_append_right (by simp; omega)]
      congr 1; simp; omega

/-- a slice that reads as a list of stamps: below the heap's end -/
def Sts (w : World) (A : Option Addr) (l : List St) : Prop :=
  l ≠ [] → ∃ b o, A = some ⟨b, o, none⟩ ∧ b < w.heap.size ∧ ∀ k (hk : k < l.length), w.cell? ⟨b, o + k * 2, none⟩ = some (.int .i64 (l[k]).t) ∧ w.cell? ⟨b, o + k * 2 + 1, none⟩ = some (.int .i64 (l[k]).n)
theorem Sts.nil (w : World) (A : Option Addr) : Sts w A [] := fun h => absurd rfl h
theorem Sts.ext {w w' : World} {A : Option Addr} {l : List St} (h : Sts w A l) (hx : Ext w w') : Sts w' A l := by
  intro hl
  obtain ⟨b, o, hA, hb, hc⟩ := h hl
  refine ⟨b, o, hA, Nat.lt_of_lt_of_le hb hx.size, fun k hk => ?_⟩
  have h1 : w'.cell? ⟨b, o + k * 2, none⟩ = w.cell? ⟨b, o + k * 2, none⟩ := Below.cell hx.below hb
  have h2 : w'.cell? ⟨b, o + k * 2 + 1, none⟩ = w.cell? ⟨b, o + k * 2 + 1, none⟩ := Below.cell hx.below hb
  rw [h1, h2]; exact hc k hk

def maxStep (m s : St) : St := if 0 < St.cmp s m then s else m
def St.z : St := ⟨0, 0⟩
def maxSt : List St → St
  | [] => St.z
  | a :: l => l.foldl maxStep a
theorem maxSt_take (l : List St) (k : Nat) (h1 : 1 ≤ k) (h : k < l.length) : maxSt (l.take (k + 1)) = maxStep (maxSt (l.take k)) l[k] := by
  cases l with
  | nil => simp at h
  | cons a l =>
    cases k with
    | zero => omega
    | succ k =>
      have hk : k < l.length := by simpa using h
      simp only [List.take_succ_cons, maxSt, List.getElem_cons_succ]
      rw [List.take_succ_eq_append_getElem hk, List.foldl_append]; rfl

set_option maxRecDepth 100000 in
theorem maxFunc_any (l : List St) (b o c : Nat) (w : World) (hl : 0 < l.length) (hm : l.length ≤ 70368744177664) (hc : ∀ k (hk : k < l.length), w.cell? ⟨b, o + k * 2, none⟩ = some (.int .i64 (l[k]).t) ∧ w.cell? ⟨b, o + k * 2 + 1, none⟩ = some (.int .i64 (l[k]).n)) (hb : b < w.heap.size) :
    Calls Try.prog 45 #[.slice (some ⟨b, o, none⟩) l.length c, .func (.func 17) #[] #[]] w fun e w' => e = .returned (.agg #[.int .i64 (maxSt l).t, .int .i64 (maxSt l).n]) ∧ Ext w w' := by
  have h00 := hc 0 hl
  have h0 : w.cell? ⟨b, o, none⟩ = some (.int .i64 (l[0]).t) := by simpa using h00.1
  have h1 : w.cell? ⟨b, o + 1, none⟩ = some (.int .i64 (l[0]).n) := by simpa using h00.2
  clear h00
  go_enter Try.func45, Try.ntmps45
  go_wp2
  go_loopw [6] (fun i wr => ∃ k : Nat, 1 ≤ k ∧ k ≤ l.length ∧ i = .int .i64 k ∧ Ext w wr ∧ Blk wr w.heap.size 23 #[.int .i64 0, .int .i64 0] ∧ Blk wr (w.heap.size + 1) 23 #[.int .i64 (maxSt (l.take k)).t, .int .i64 (maxSt (l.take k)).n]) (fun i _ => l.length - (intOf i).toNat)
  case atStart =>
    refine ⟨1, by omega, hl, rfl, ((Ext.refl _).alloc _).alloc _, (Blk.new _ _ _).alloc _, ?_⟩
    have e : l.take 1 = [l[0]] := by
      cases l with
      | nil => simp at hl
      | cons a l => rfl
    rw [e]
    have := Blk.new (w.alloc (.cells #[.int .i64 0, .int .i64 0] 23)) 23 #[.int .i64 (l[0]).t, .int .i64 (l[0]).n]
    simpa [maxSt] using this
  case round =>
    obtain ⟨k, hk1, hk, rfl, hx, hb0, hb1⟩ := hrel
    clear h0 h1
    by_cases hlt : k < l.length
    · have h1 := hx.cell hb (hc k hlt).1
      have h2 := hx.cell hb (hc k hlt).2
      have hs := hb1.lt
      have hbr := hx.lt hb
      have hM := Lib.hid (maxSt_take l k hk1 hlt)
      generalize hX : l[k] = X at *
      generalize maxSt (l.take k) = M at *
      have h3 : wr.cell? ⟨w.heap.size + 1, 0, none⟩ = some (.int .i64 M.t) := hb1.cell 0
      have h4 : wr.cell? ⟨w.heap.size + 1, 1, none⟩ = some (.int .i64 M.n) := hb1.cell 1
      clear hX hc
      by_cases hgt : 0 < St.cmp X M
      · go_wp2
        refine wp_region_still_tail 6 (by kernel_rfl) (by kernel_rfl) ?_
        simp only [List.take_succ_cons, List.take_zero, List.drop_succ_cons, List.drop_zero, World.drew_eq]
        repeat still_step
        try refine wpStill_nil ?_
        go_wp2_with (go_at_call 17; refine (compare_any X M _).mono ?_; rintro e w1 ⟨rfl, hx1⟩; replace hx1 := hx1.undrew; have e1 := hx1.cell hbr h1; have e2 := hx1.cell hbr h2; have e3 := hx1.cell hs h3; have e4 := hx1.cell hs h4; have e5 := (hb1.ext hx1).frozen 0; have e6 := (hb1.ext hx1).frozen 1)
        have hE : maxStep M X = X := by unfold maxStep; rw [if_pos hgt]
        have hb0' := hb0.ext hx1
        have hb1' := hb1.ext hx1
        go_roundw
        case rel =>
          refine ⟨k + 1, by omega, by omega, by go_num, ((hx.trans hx1).setCell (by simp) _).setCell (by simp) _, ?_, ?_⟩
          · exact (hb0'.far (by simp) _).far (by simp) _
          · rw [hM.out, hE]
            exact (hb1'.set_ 0 _).set_ 1 _
        case measure => simp [intOf]; omega
      · have hgt' : St.cmp X M ≤ 0 := by omega
        clear hgt
        go_wp2
        refine wp_region_still_tail 6 (by kernel_rfl) (by kernel_rfl) ?_
        simp only [List.take_succ_cons, List.take_zero, List.drop_succ_cons, List.drop_zero, World.drew_eq]
        repeat still_step
        try refine wpStill_nil ?_
        go_wp2_with (go_at_call 17; refine (compare_any X M _).mono ?_; rintro e w1 ⟨rfl, hx1⟩; replace hx1 := hx1.undrew; have e1 := hx1.cell hbr h1; have e2 := hx1.cell hbr h2; have e3 := hx1.cell hs h3; have e4 := hx1.cell hs h4; have e5 := (hb1.ext hx1).frozen 0; have e6 := (hb1.ext hx1).frozen 1)
        have hE : maxStep M X = M := by unfold maxStep; rw [if_neg (by omega)]
        have hb0' := hb0.ext hx1
        have hb1' := hb1.ext hx1
        go_roundw
        case rel =>
          refine ⟨k + 1, by omega, by omega, by go_num, hx.trans hx1, hb0', ?_⟩
          rw [hM.out, hE]
          exact hb1'
        case measure => simp [intOf]; omega
    · obtain rfl : k = l.length := by omega
      have hs := hb1.lt
      have he : l.take l.length = l := List.take_length
      rw [he] at hb1
      generalize hMx : maxSt l = M at *
      have hMy := Lib.hid hMx
      clear hMx
      have h3 : wr.cell? ⟨w.heap.size + 1, 0, none⟩ = some (.int .i64 M.t) := hb1.cell 0
      have h4 : wr.cell? ⟨w.heap.size + 1, 1, none⟩ = some (.int .i64 M.n) := hb1.cell 1
      have h5 : wr.cell? ⟨w.heap.size, 0, none⟩ = some (.int .i64 0) := hb0.cell 0
      have h6 : wr.cell? ⟨w.heap.size, 1, none⟩ = some (.int .i64 0) := hb0.cell 1
      have h7 := hb0.frozen 0
      have h8 := hb0.frozen 1
      clear hc
      go_wp2
      refine bodyPost_ret (v := .agg #[.int .i64 (M).t, .int .i64 (M).n]) (by simp [results, Try.results45, go_sem, h5, h6]) rfl ⟨by rw [hMy.out], (hx.setCell (by simp) _).setCell (by simp) _⟩

theorem Sts.holds {w : World} {b o : Nat} {l : List St} (h : ∀ k (hk : k < l.length), w.cell? ⟨b, o + k * 2, none⟩ = some (.int .i64 (l[k]).t) ∧ w.cell? ⟨b, o + k * 2 + 1, none⟩ = some (.int .i64 (l[k]).n)) :
    ∀ j u, (stCells l)[j]? = some u → w.cell? ((⟨b, o, none⟩ : Addr).add j) = some u := by
  intro j u hu
  have hj : j < (stCells l).length := (List.getElem?_eq_some_iff.1 hu).1
  rw [stCells_len] at hj
  have hk : j / 2 < l.length := by omega
  have hadd : (⟨b, o, none⟩ : Addr).add j = ⟨b, o + j, none⟩ := by
    unfold Addr.add; split
    · rename_i h0; subst h0; rfl
    · rfl
  rw [hadd]
  by_cases hp : j % 2 = 0
  · have e : j = j / 2 * 2 := by omega
    have h1 := (h (j / 2) hk).1
    have h2 := stCells_t l (j / 2) hk
    rw [← e] at h1 h2
    rw [h1, ← h2, hu]
  · have e : j = j / 2 * 2 + 1 := by omega
    have h1 := (h (j / 2) hk).2
    have h2 := stCells_n l (j / 2) hk
    rw [Nat.add_assoc, ← e] at h1
    rw [← e] at h2
    rw [h1, ← h2, hu]
theorem Sts.of_cells {w : World} {g : Nat} {l : List St} (hg : g < w.heap.size) (h : ∀ j u, (stCells l)[j]? = some u → w.cell? ((⟨g, 0, none⟩ : Addr).add j) = some u) : Sts w (some ⟨g, 0, none⟩) l := by
  intro _
  refine ⟨g, 0, rfl, hg, fun k hk => ?_⟩
  have hadd : ∀ j, (⟨g, 0, none⟩ : Addr).add j = ⟨g, 0 + j, none⟩ := by
    intro j; unfold Addr.add; split
    · rename_i h0; subst h0; rfl
    · rfl
  have h1 := h _ _ (stCells_t l k hk)
  have h2 := h _ _ (stCells_n l k hk)
  rw [hadd] at h1 h2
  exact ⟨h1, by rw [Nat.add_assoc]; exact h2⟩
theorem Sts.of_own {w : World} {base : Nat} {e : TypeId} {A : Option Addr} {c : Nat} {l : List St} (h : w.ownsRow base e 2 (.slice A l.length c) l.length (stCells l)) : Sts w A l := by
  intro hl
  have hn : 0 < l.length := by cases l with | nil => exact absurd rfl hl | cons a l => simp
  obtain ⟨g, cap, hv, _, hlt⟩ := h.form hn
  have hA : A = some ⟨g, 0, none⟩ := by injection hv
  subst hA
  exact Sts.of_cells hlt (h.cells (g := g) rfl) hl

theorem max_any (l : List St) (A : Option Addr) (c : Nat) (w : World) (hm : l.length ≤ 70368744177664) (hs : Sts w A l) :
    Calls Try.prog 22 #[.slice A l.length c] w fun e w' => e = .returned (.agg #[.int .i64 (maxSt l).t, .int .i64 (maxSt l).n]) ∧ Ext w w' := by
  by_cases hl : l = []
  · subst hl
    go_enter Try.func22, Try.ntmps22
    go_wp2
    refine bodyPost_ret (v := .agg #[.int .i64 (maxSt []).t, .int .i64 (maxSt []).n]) (by simp [results, Try.results22, go_sem, maxSt, St.z]) rfl ⟨rfl, (Ext.refl _).alloc _⟩
  · obtain ⟨b, o, rfl, hb, hc⟩ := hs hl
    have hn : 0 < l.length := by cases l with | nil => exact absurd rfl hl | cons a l => simp
    have hn' : ((l.length : Int) == 0) = false := by simp; exact hl
    have ct := maxFunc_any l b o c (w.alloc (.cells #[.int .i64 0, .int .i64 0] 23)) hn hm (fun k hk => ⟨((Ext.refl w).alloc _).cell hb (hc k hk).1, ((Ext.refl w).alloc _).cell hb (hc k hk).2⟩) (by simp; omega)
    have CT := Lib.hid ct
    clear ct hc hl
    go_enter Try.func22, Try.ntmps22
    go_wp2_with (go_at_call 45; refine CT.out.mono ?_; rintro e w1 ⟨rfl, hx⟩; have hb0 := (Blk.new w 23 #[.int .i64 0, .int .i64 0]).ext hx; have e1 : w1.cell? ⟨w.heap.size, 0, none⟩ = some (.int .i64 0) := hb0.cell 0; have e2 : w1.cell? ⟨w.heap.size, 1, none⟩ = some (.int .i64 0) := hb0.cell 1; have e3 := hb0.frozen 0; have e4 := hb0.frozen 1)
    refine bodyPost_ret (v := .agg #[.int .i64 (maxSt l).t, .int .i64 (maxSt l).n]) (by simp [results, Try.results22, go_sem, e1, e2]) rfl ⟨rfl, ((((Ext.refl _).alloc _).trans hx).setCell (by simp) _).setCell (by simp) _⟩
end Go.Proofs.Ytnhdjaegkccmaaa
