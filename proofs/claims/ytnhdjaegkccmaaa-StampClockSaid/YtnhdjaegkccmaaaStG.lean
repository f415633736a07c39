/- The reference's After; the walks of StampAfter, StampGreatest. -/
import Derived.Test.YtnhdjaegkccmaaaStF
import Derived.Test.YtnhdjaegkccmaaaOpenSt
namespace Go.Proofs.Ytnhdjaegkccmaaa
open Go.RowKit

theorem maxStep_t (m s : St) : (maxStep m s).t = max m.t s.t := by
  obtain ⟨t, n⟩ := m
  obtain ⟨u, k⟩ := s
  unfold maxStep St.cmp orV cmpI
  dsimp only
  by_cases h1 : u < t
  · simp [h1]; omega
  · by_cases h2 : t < u
    · simp [h1, h2]; omega
    · have e : t = u := by omega
      subst e
      have key : ∀ (p : Prop) [Decidable p], (if p then (⟨t, k⟩ : St) else ⟨t, n⟩).t = t := by
        intro p _; split <;> rfl
      rw [key]; show t = max t t; omega
def rT (l : List St) : Int := l.foldl (fun x s => max x s.t) 0
theorem foldl_maxStep_t (l : List St) (a : St) : (l.foldl maxStep a).t = l.foldl (fun x s => max x s.t) a.t := by
  induction l generalizing a with
  | nil => rfl
  | cons b l ih => simp only [List.foldl_cons]; rw [ih, maxStep_t]
theorem foldl_max_init (l : List St) (x y : Int) : l.foldl (fun x s => max x s.t) (max x y) = max (l.foldl (fun x s => max x s.t) x) y := by
  induction l generalizing x with
  | nil => rfl
  | cons b l ih =>
    simp only [List.foldl_cons]
    have e : max (max x y) b.t = max (max x b.t) y := by omega
    rw [e, ih]
theorem topT_eq (l : List St) : topT l = rT l := by
  unfold topT rT
  cases l with
  | nil => rfl
  | cons a l =>
    show ((l ++ [St.z]).foldl maxStep a).t = l.foldl (fun x s => max x s.t) (max 0 a.t)
    rw [List.foldl_append, foldl_maxStep_t]
    simp only [List.foldl_cons, List.foldl_nil]
    rw [foldl_maxStep_t]
    have e : max 0 a.t = max a.t 0 := by omega
    rw [e, foldl_max_init]; rfl
theorem rT_take (l : List St) (k : Nat) (h : k < l.length) : rT (l.take (k + 1)) = max (rT (l.take k)) (l[k]).t := by
  unfold rT
  rw [List.take_succ_eq_append_getElem h, List.foldl_append]; rfl
theorem fine_le {s : St} (h : s.fine = true) : s.t ≤ 1099511627776 := by
  unfold St.fine St.ok at h
  simp only [Bool.or_eq_true, Bool.and_eq_true, beq_iff_eq, decide_eq_true_eq] at h
  omega
theorem rT_le (l : List St) (x : Int) (hx : x ≤ 1099511627776) (h : l.all St.fine = true) : l.foldl (fun x s => max x s.t) x ≤ 1099511627776 := by
  induction l generalizing x with
  | nil => exact hx
  | cons a l ih =>
    simp only [List.all_cons, Bool.and_eq_true] at h
    simp only [List.foldl_cons]
    have := fine_le h.1
    exact ih (max x a.t) (by omega) h.2
theorem rT_ge (l : List St) : 0 ≤ rT l := by
  unfold rT
  suffices ∀ x : Int, 0 ≤ x → 0 ≤ l.foldl (fun x s => max x s.t) x from this 0 (by omega)
  induction l with
  | nil => exact fun x h => h
  | cons a l ih => intro x hx; exact ih (max x a.t) (by omega)

set_option maxHeartbeats 400000 in
set_option maxRecDepth 100000 in
theorem rafter_any (node : Int) (l : List St) (A : Option Addr) (c : Nat) (w : World) (hm : l.length ≤ 1000) (hs : Sts w A l) (hall' : ∀ s ∈ l, StIn s) :
    Calls Try.prog 21 #[.int .i64 node, .slice A l.length c] w fun e w' => e = .returned (.tuple #[.agg #[.int .i64 (afterS node l).t, .int .i64 (afterS node l).n], .int .i64 (afterE node l)]) ∧ Ext w w' := by
  by_cases hn1 : 1 ≤ node
  case neg =>
    have h : nodeOk node = false := by unfold nodeOk; simp [hn1]
    have hE : afterE node l = 2 := by unfold afterE; rw [h]; rfl
    have hS : afterS node l = St.z := by unfold afterS; rw [hE]; rfl
    rw [hE, hS]
    clear hE hS h hs hall'
    go_enter Try.func21, Try.ntmps21
    go_wp2
    refine bodyPost_ret (v := .tuple #[.agg #[.int .i64 (St.z).t, .int .i64 (St.z).n], .int .i64 2]) (by simp [results, Try.results21, go_sem, St.z]) rfl ⟨rfl, (Ext.refl _).alloc _⟩
  by_cases hn2 : node ≤ 7
  case neg =>
    have h : nodeOk node = false := by unfold nodeOk; simp [hn2]
    have hE : afterE node l = 2 := by unfold afterE; rw [h]; rfl
    have hS : afterS node l = St.z := by unfold afterS; rw [hE]; rfl
    rw [hE, hS]
    clear hE hS h hs hall'
    go_enter Try.func21, Try.ntmps21
    go_wp2
    refine bodyPost_ret (v := .tuple #[.agg #[.int .i64 (St.z).t, .int .i64 (St.z).n], .int .i64 2]) (by simp [results, Try.results21, go_sem, St.z]) rfl ⟨rfl, (Ext.refl _).alloc _⟩
  have h : nodeOk node = true := by unfold nodeOk; simp [hn1, hn2]
  have HH := Lib.hid h
  have HW := Lib.hid hall'
  clear h hall'
  go_enter Try.func21, Try.ntmps21
  go_wp2
  go_loopw [6, 7] (fun t i wr => ∃ k : Nat, k ≤ l.length ∧ i = .int .i64 k ∧ t = .int .i64 (rT (l.take k)) ∧ Ext w wr ∧ Blk wr w.heap.size 23 #[.int .i64 0, .int .i64 0] ∧ (l.take k).all St.fine = true) (fun _ i _ => l.length - (intOf i).toNat)
  case atStart => exact ⟨0, by omega, rfl, rfl, (Ext.refl _).alloc _, Blk.new _ _ _, rfl⟩
  case round =>
    obtain ⟨k, hk, rfl, rfl, hx, hb0, hall⟩ := hrel
    by_cases hlt : k < l.length
    · obtain ⟨b, o, rfl, hb, hc⟩ := hs (by rintro rfl; simp at hlt)
      have h1 := hx.cell hb (hc k hlt).1
      have h2 := hx.cell hb (hc k hlt).2
      have hsz := hb0.lt
      have hbr := hx.lt hb
      have hT : (l.take (k + 1)).all St.fine = (l[k]).fine := by
        rw [List.take_succ_eq_append_getElem hlt, List.all_append, hall]; simp
      have hA : (l[k]).fine = false → l.all St.fine = false := by
        intro hf
        cases hh : l.all St.fine with
        | false => rfl
        | true =>
          have := List.all_eq_true.1 hh _ (List.getElem_mem hlt)
          rw [hf] at this; cases this
      have HT := Lib.hid hT
      have HA := Lib.hid hA
      have HR := Lib.hid (rT_take l k hlt)
      clear hT hA hc
      generalize l[k] = X at *
      generalize rT (l.take k) = T at *
      cases e1 : (X.t == 0) <;> cases e2 : (X.n == 0)
      case true.true =>
        have hF : X.fine = true := by unfold St.fine; rw [e1, e2]; rfl
        have HF := Lib.hid hF
        clear hF
        by_cases hgt : T < X.t
        all_goals
          go_wp2_with fail
          go_roundw
          case measure => simp [intOf]; omega
        case rel => exact ⟨k + 1, by omega, by go_num, by rw [HR.out]; congr 1; omega, hx, hb0, by rw [HT.out, HF.out]⟩
        case rel => exact ⟨k + 1, by omega, by go_num, by rw [HR.out]; congr 1; omega, hx, hb0, by rw [HT.out, HF.out]⟩
      all_goals
        have c1 := fun w => ris_any X w
        cases ho : X.ok <;> rw [ho] at c1
        case true =>
          have hF : X.fine = true := by unfold St.fine; rw [ho]; simp
          have HF := Lib.hid hF
          clear hF ho
          by_cases hgt : T < X.t
          all_goals
            go_wp2_with (go_at_call 16; refine (c1 _).mono ?_; rintro e w1 ⟨rfl, hx1⟩; have f1 := hx1.cell hbr h1)
            go_roundw
            case measure => simp [intOf]; omega
          case rel => exact ⟨k + 1, by omega, by go_num, by rw [HR.out]; congr 1; omega, hx.trans hx1, hb0.ext hx1, by rw [HT.out, HF.out]⟩
          case rel => exact ⟨k + 1, by omega, by go_num, by rw [HR.out]; congr 1; omega, hx.trans hx1, hb0.ext hx1, by rw [HT.out, HF.out]⟩
        case false =>
          have hF : X.fine = false := by unfold St.fine; rw [ho, e1, e2]; rfl
          have hA := HA.out hF
          have hE : afterE node l = 10 := by unfold afterE; rw [HH.out, if_neg (by decide), if_pos hA]
          have hS : afterS node l = St.z := by unfold afterS; rw [hE]; rfl
          have HE := Lib.hid hE
          have HS := Lib.hid hS
          clear hF ho hA HA HT hE hS
          go_wp2_with (go_at_call 16; refine (c1 _).mono ?_; rintro e w1 ⟨rfl, hx1⟩; have hb1 := hb0.ext hx1; have d1 : w1.cell? ⟨w.heap.size, 0, none⟩ = some (.int .i64 0) := hb1.cell 0; have d2 : w1.cell? ⟨w.heap.size, 1, none⟩ = some (.int .i64 0) := hb1.cell 1; have d3 := hb1.frozen 0; have d4 := hb1.frozen 1)
          refine bodyPost_ret (v := .tuple #[.agg #[.int .i64 (St.z).t, .int .i64 (St.z).n], .int .i64 10]) (by simp [results, Try.results21, go_sem, d1, d2, St.z]) rfl ⟨by rw [HE.out, HS.out], ((hx.trans hx1).setCell (by simp) _).setCell (by simp) _⟩
    · obtain rfl : k = l.length := by omega
      rw [List.take_length] at hall
      have hsz := hb0.lt
      have d1 : wr.cell? ⟨w.heap.size, 0, none⟩ = some (.int .i64 0) := hb0.cell 0
      have d2 : wr.cell? ⟨w.heap.size, 1, none⟩ = some (.int .i64 0) := hb0.cell 1
      have d3 := hb0.frozen 0
      have d4 := hb0.frozen 1
      have hle : rT l ≤ 1099511627776 := rT_le l 0 (by omega) hall
      have hge := rT_ge l
      have hTE := topT_eq l
      rw [List.take_length]
      by_cases hov : rT l = 1099511627776
      · have hE : afterE node l = 11 := by unfold afterE; rw [HH.out, hall, if_neg (by decide), if_neg (by decide), hTE, if_pos (by omega)]
        have hS : afterS node l = St.z := by unfold afterS; rw [hE]; rfl
        have HE := Lib.hid hE
        have HS := Lib.hid hS
        clear hE hS hTE
        generalize rT l = T at *
        subst hov
        go_wp2
        refine bodyPost_ret (v := .tuple #[.agg #[.int .i64 (St.z).t, .int .i64 (St.z).n], .int .i64 11]) (by simp [results, Try.results21, go_sem, d1, d2, St.z]) rfl ⟨by rw [HE.out, HS.out], (hx.setCell (by simp) _).setCell (by simp) _⟩
      · have hE : afterE node l = 0 := by unfold afterE; rw [HH.out, hall, if_neg (by decide), if_neg (by decide), hTE, if_neg (by omega)]
        have hS : afterS node l = ⟨rT l + 1, node⟩ := by unfold afterS; rw [hE, hTE]; rfl
        have HE := Lib.hid hE
        have HS := Lib.hid hS
        clear hE hS hTE
        generalize rT l = T at *
        have hov' : (T == 1099511627776) = false := by simpa using hov
        clear hov
        go_wp2
        refine bodyPost_ret (v := .tuple #[.agg #[.int .i64 (T + 1), .int .i64 node], .int .i64 0]) (by simp [results, Try.results21, go_sem, d1, d2]) rfl ⟨by rw [HE.out, HS.out], (hx.setCell (by simp) _).setCell (by simp) _⟩

/-! ### StampAfter -/
theorem max_new (l : List St) (A : Option Addr) (c : Nat) (w : World) (hm : l.length ≤ 1000) (hs : Sts w A l) :
    Calls Try.prog 22 #[.slice A l.length c] w fun e w' => e = .returned (.agg #[.int .i64 (maxSt l).t, .int .i64 (maxSt l).n]) ∧ Ext w w' := max_any l A c w (by omega) hs

set_option maxHeartbeats 1000000 in
set_option maxRecDepth 100000 in
theorem stampAfter_walk (node : Int) (A : Option Addr) (n c : Nat) (l : List St) (w : World) (_wn : (Lit.int .i64 node).wf = true) (hl : StsIn w A n c l) :
    Calls Try.prog 4 #[.int .i64 node, .slice A n c] w fun e w' => e = .returned (.bool true) ∧ Ext w w' := by
  obtain ⟨rfl, hcap, hnone, hs, hwf⟩ := hl
  clear _wn
  by_cases hbig : 60 < l.length
  · clear hs hwf
    go_enter Try.func4, Try.ntmps4
    go_wp2_with (go_at_call 18; refine (live_any _).mono ?_; rintro e w1 ⟨rfl, hx1⟩)
    go_ret
    exact ⟨rfl, (by repeat (first | assumption | exact Ext.refl _ | (with_reducible refine Ext.alloc ?_ _) | (with_reducible refine Ext.drew ?_) | refine Ext.trans ?_ (by assumption)))⟩
  · have hm : l.length ≤ 1000 := by omega
    have HW := Lib.hid hwf
    have HB := Lib.hid hbig
    have HC := Lib.hid hcap
    have hle : l.length ≤ 60 := by omega
    clear hwf hbig hcap
    go_enter Try.func4, Try.ntmps4
    go_wp2_with fail
    refine (own_any l A c w hm hs).mono ?_
    rintro e w1 ⟨A1, c1, rfl, hN1, hx1⟩
    go_wp2_with fail
    refine (after_any node l A1 c1 w1 hm hN1.cap hN1.none_ hN1.sts).mono ?_
    rintro e w2 ⟨rfl, hx2⟩
    have hs2 : Sts (w2.alloc (.cells #[.int .i64 (afterS node l).t, .int .i64 (afterS node l).n] 23)) A l := ((hs.ext hx1).ext hx2).ext ((Ext.refl _).alloc _)
    have hb2 := Blk.new w2 23 #[.int .i64 (afterS node l).t, .int .i64 (afterS node l).n]
    have hxa : Ext w (w2.alloc (.cells #[.int .i64 (afterS node l).t, .int .i64 (afterS node l).n] 23)) := (hx1.trans hx2).alloc _
    go_wp2_with fail
    refine (rafter_any node l A c _ hm hs2 HW.out).mono ?_
    rintro e w3 ⟨rfl, hx3⟩
    have e1 := hx3.cell (p := ⟨w2.heap.size, 0, none⟩) hb2.lt (hb2.cell 0)
    have e2 := hx3.cell (p := ⟨w2.heap.size, 1, none⟩) hb2.lt (hb2.cell 1)
    have hsz := hx3.lt hb2.lt
    have hs3 := hs2.ext hx3
    have hxb := hxa.trans hx3
    clear hb2 hs2 hxa hN1 hx1 hx2 hx3 hs
    generalize afterS node l = X at *
    generalize afterE node l = E at *
    have hxc := hxb.alloc (.cells #[.int .i64 X.t, .int .i64 X.n] 23)
    have hs4 := hs3.ext ((Ext.refl w3).alloc (.cells #[.int .i64 X.t, .int .i64 X.n] 23))
    have H4 := Lib.hid hs4
    clear hs3 hs4 hxb
    go_wp2_with (go_at_call 14; refine (num_any _ _).mono ?_; rintro e w' ⟨rfl, rfl⟩)
    refine (own_any l A c _ hm H4.out).mono ?_
    rintro e w5 ⟨A5, c5, rfl, hN5, hx5⟩
    have hm5 := max_any l A5 c5 w5 (by omega) hN5.sts
    have hs5 := H4.out.ext hx5
    clear hN5
    go_wp2_with fail
    refine hm5.mono ?_
    rintro e w6 ⟨rfl, hx6⟩
    have hr6 := rmax_any l A c w6 hm (hs5.ext hx6)
    clear hm5 hs5
    go_wp2_with fail
    refine hr6.mono ?_
    rintro e w7 ⟨rfl, hx7⟩
    clear hr6
    go_wp2_with (go_at_call 18; refine (live_any _).mono ?_; rintro e w8 ⟨rfl, hx8⟩)
    go_ret
    exact ⟨rfl, (((hxc.trans hx5).trans hx6).trans hx7).trans hx8⟩
end Go.Proofs.Ytnhdjaegkccmaaa
