/- The walk of FlatWidths. -/
import Derived.Test.YtbmpecfhflkbeaaFlT
namespace Go.Proofs.Ytbmpecfhflkbeaa
open Go.RowKit

theorem bytes_n (p : Nat) (r : Option Nat) (xs : List UInt8) (n : Nat) (hn : xs.length = n) (w : World) (hp : PenAt w p r xs) (hm : n ≤ 1099511627776) :
    Calls Try.prog 17 #[.pointer (some ⟨p, 0, none⟩)] w fun e w' => ∃ A c, e = .returned (.slice A n c) ∧ Ext w w' := by
  subst hn
  exact (bytes_any p r xs w hp hm).mono fun e w' h => by
    obtain ⟨A, c, he, _, _⟩ := h.ex
    exact ⟨A, c, he, h.ext⟩
/-- another pen, while one is at its first work -/
theorem pen_far {a b : World} {p q : Nat} {r' rq : Option Nat} {ys qs : List UInt8} (h : PenTo a p none b r' ys) (hq : PenAt a q rq qs) (hne : q ≠ p) (h2 : rq ≠ some p) : PenAt b q rq qs :=
  hq.chs h.chs (fun e => by
    rcases e with e | e
    · exact hne e
    · cases e) (fun i hi e => by
    rcases e with e | e
    · exact h2 (by rw [hi, e])
    · cases e)
theorem PenTo.new {a b : World} {p : Nat} {r' : Option Nat} {ys : List UInt8} (h : PenTo a p none b r' ys) : ∀ i, r' = some i → a.heap.size ≤ i := fun i e => by
  rcases h.row i e with h | h
  · cases h
  · exact h

set_option maxHeartbeats 2000000 in
set_option maxRecDepth 100000 in
theorem flatWidths_walk (A0 : Option Addr) (n0 c0 : Nat) (n : List Int) (s : ByteArray) (A2 : Option Addr) (n2 c2 : Nat) (l : List St) (w : World) (h0 : I64sIn w A0 n0 c0 n) (_hs : s.size ≤ reachBytes) (h2 : StsIn w A2 n2 c2 l) :
    Calls Try.prog 7 #[.slice A0 n0 c0, .string s, .slice A2 n2 c2] w fun e w' => e = .returned (.bool true) ∧ Ext w w' := by
  obtain ⟨rfl, _, _, _, h0, _⟩ := h0
  obtain ⟨rfl, _, _, _, h2, _⟩ := h2
  clear _hs
  by_cases g0 : 60 < n.length
  · clear h0 h2
    go_enter Try.func7, Try.ntmps7
    go_wp2_with (go_at_call 12; refine (live_any _).mono ?_; rintro e w1 ⟨rfl, hx1⟩)
    go_ret
    exact ⟨rfl, (by repeat (first | assumption | exact Ext.refl _ | (with_reducible refine Ext.alloc ?_ _) | (with_reducible refine Ext.drew ?_) | refine Ext.trans ?_ (by assumption)))⟩
  by_cases g1 : 20000 < s.size
  · clear h0 h2
    go_enter Try.func7, Try.ntmps7
    go_wp2_with (go_at_call 12; refine (live_any _).mono ?_; rintro e w1 ⟨rfl, hx1⟩)
    go_ret
    exact ⟨rfl, (by repeat (first | assumption | exact Ext.refl _ | (with_reducible refine Ext.alloc ?_ _) | (with_reducible refine Ext.drew ?_) | refine Ext.trans ?_ (by assumption)))⟩
  by_cases g2 : 60 < l.length
  · clear h0 h2
    go_enter Try.func7, Try.ntmps7
    go_wp2_with (go_at_call 12; refine (live_any _).mono ?_; rintro e w1 ⟨rfl, hx1⟩)
    go_ret
    exact ⟨rfl, (by repeat (first | assumption | exact Ext.refl _ | (with_reducible refine Ext.alloc ?_ _) | (with_reducible refine Ext.drew ?_) | refine Ext.trans ?_ (by assumption)))⟩
  have l0 : (n.flatMap intB).length = 8 * n.length := flat_len8 n
  have l1 : ([s].flatMap textB).length = 4 + s.size := by simp only [List.flatMap_cons, List.flatMap_nil, List.append_nil]; rw [textB_len]; omega
  have l2 : (stampsB l).length = 8 + 16 * l.length := stampsB_len l
  have m0 : 8 * n.length ≤ 1099511627776 := by omega
  have m1 : 4 + s.size ≤ 1099511627776 := by omega
  have m2 : 8 + 16 * l.length ≤ 1099511627776 := by omega
  have M := Lib.hid (And.intro m0 (And.intro m1 m2))
  clear m0 m1 m2
  have hx3 := (((Ext.refl w).alloc (.cells #[.slice none 0 0] 33)).alloc (.cells #[.slice none 0 0] 33)).alloc (.cells #[.slice none 0 0] 33)
  have hp0 := (new_pen w).ext (((Ext.refl _).alloc (.cells #[.slice none 0 0] 33)).alloc (.cells #[.slice none 0 0] 33))
  have hq0 := (new_pen (w.alloc (.cells #[.slice none 0 0] 33))).ext ((Ext.refl _).alloc (.cells #[.slice none 0 0] 33))
  have hr0 := new_pen ((w.alloc (.cells #[.slice none 0 0] 33)).alloc (.cells #[.slice none 0 0] 33))
  rw [World.size_alloc] at hq0
  rw [World.size_alloc, World.size_alloc] at hr0
  have hf0 : n ≠ [] → ∀ ad, A0 = some ad → ad.block ≠ w.heap.size ∧ none ≠ some ad.block := by
    intro hl ad e
    have := h0.lt hl ad e
    exact ⟨by omega, fun e => by cases e⟩
  have hwp := Nat.le_refl w.heap.size
  have hsz3 : (((w.alloc (.cells #[.slice none 0 0] 33)).alloc (.cells #[.slice none 0 0] 33)).alloc (.cells #[.slice none 0 0] 33)).heap.size = w.heap.size + 1 + 1 + 1 := by simp
  have h2l : l ≠ [] → ∀ ad, A2 = some ad → ad.block < w.heap.size := h2.lt
  generalize hp : w.heap.size = p at hp0 hf0 hq0 hr0 hsz3
  generalize hq : p + 1 = q at hq0 hr0 hsz3
  generalize hr : q + 1 = r at hr0 hsz3
  have i0 := h0.ext hx3
  clear h0
  go_enter Try.func7, Try.ntmps7
  go_wp2_with fail
  refine (int_any p none [] n A0 c0 _ hp0 i0 hf0 (by simp only [List.length_nil]; omega)).mono ?_
  rintro e w1 ⟨rfl, r1, T1⟩
  rw [List.nil_append] at T1
  have hxa := (T1.to_ext hx3 (by omega) (fun i e => by cases e)).1
  have n1 := T1.new
  have hq1 := pen_far T1 hq0 (by omega) (fun e => by cases e)
  have hr1 := pen_far T1 hr0 (by omega) (fun e => by cases e)
  have hp1 := T1.at_
  have hs1 := T1.chs.size
  rw [hsz3] at n1 hs1
  clear T1 hq0 hr0 hp0 i0 hf0 hx3
  -- a text
  have ha := (Ext.refl w1).alloc (.cells #[.string s] 9)
  have hrow := Row.new (f := fStr) (size := 1) w1 #[.string s] 9 [s] (fun _ => rfl) rfl
  have hfr := pen_new hq1 (Nat.le_refl _)
  go_wp2_with fail
  refine (text_any q none [] [s] _ 1 _ (hq1.ext ha) hrow (fun _ => hfr) (by simp only [List.length_cons, List.length_nil]; omega)).mono ?_
  rintro e w2 ⟨rfl, r2, T2⟩
  rw [List.nil_append] at T2
  have hxb := (T2.to_ext (hxa.trans ha) (by omega) (fun i e => by cases e)).1
  have n2 := T2.new
  have hp2 := pen_far T2 (hp1.ext ha) (by omega) (fun e => by have := n1 _ e; omega)
  have hr2 := pen_far T2 (hr1.ext ha) (by omega) (fun e => by cases e)
  have hq2 := T2.at_
  have hs2 := T2.chs.size
  simp only [World.size_alloc] at n2 hs2
  clear T2 hp1 hr1 hq1 hrow hfr ha hxa
  -- a list of stamps
  have i2 := h2.ext hxb
  clear h2
  go_wp2_with fail
  refine (stamps_any r none [] l A2 c2 _ hr2 i2 (fun hl ad e => ⟨by have := h2l hl ad e; omega, fun e => by cases e⟩) (by simp only [List.length_nil]; omega)).mono ?_
  rintro e w3 ⟨rfl, r3, T3⟩
  rw [List.nil_append] at T3
  have hxc := (T3.to_ext hxb (by omega) (fun i e => by cases e)).1
  have n3 := T3.new
  have hp3 := pen_far T3 hp2 (by omega) (fun e => by have := n1 _ e; omega)
  have hq3 := pen_far T3 hq2 (by omega) (fun e => by have := n2 _ e; omega)
  have hr3 := T3.at_
  have hs3 := T3.chs.size
  clear T3 hp2 hq2 hr2 i2 h2l hxb
  -- a truth
  have ha := (Ext.refl w3).alloc (.cells #[.slice none 0 0] 33)
  have hx0 := new_pen w3
  go_wp2_with fail
  refine (bool_any w3.heap.size none [] _ _ hx0 (by simp)).mono ?_
  rintro e w4 ⟨rfl, r4, T4⟩
  rw [List.nil_append] at T4
  have hxd := (T4.to_ext (hxc.trans ha) (by have := hxc.size; omega) (fun i e => by cases e)).1
  have hp4 := pen_far T4 (hp3.ext ha) (by have := hp3.lt; omega) (fun e => by have := (hp3.row_lt _ e).1; omega)
  have hq4 := pen_far T4 (hq3.ext ha) (by have := hq3.lt; omega) (fun e => by have := (hq3.row_lt _ e).1; omega)
  have hr4 := pen_far T4 (hr3.ext ha) (by have := hr3.lt; omega) (fun e => by have := (hr3.row_lt _ e).1; omega)
  have hx4 := T4.at_
  generalize w3.heap.size = x at *
  clear T4 hp3 hq3 hr3 hx0 ha hxc n1 n2 n3 hs1 hs2 hs3
  have hw1 : wrap64 (8 * (n.length : Int)) = 8 * (n.length : Int) := by unfold wrap64; omega
  have hw2 : wrap64 (4 + (s.size : Int)) = 4 + (s.size : Int) := by unfold wrap64; omega
  have hw3 : wrap64 (16 * (l.length : Int)) = 16 * (l.length : Int) := by unfold wrap64; omega
  have hw4 : wrap64 (8 + 16 * (l.length : Int)) = 8 + 16 * (l.length : Int) := by unfold wrap64; omega
  clear hp hq hr hsz3
  have B1 := fun w' (h : Ext w4 w') => bytes_n p r1 _ _ l0 w' (hp4.ext h) M.out.1
  have B2 := fun w' (h : Ext w4 w') => bytes_n q r2 _ _ l1 w' (hq4.ext h) M.out.2.1
  have B3 := fun w' (h : Ext w4 w') => bytes_n r r3 _ _ l2 w' (hr4.ext h) M.out.2.2
  have B4 := fun w' (h : Ext w4 w') => bytes_n x r4 _ 1 rfl w' (hx4.ext h) (by decide)
  go_wp2_with fail
  refine (B1 _ (Ext.refl _)).mono ?_
  rintro e w5 ⟨A5, c5, rfl, hx5⟩
  go_wp2_with fail
  refine (B2 _ hx5).mono ?_
  rintro e w6 ⟨A6, c6, rfl, hx6⟩
  go_wp2_with fail
  refine (B3 _ (hx5.trans hx6)).mono ?_
  rintro e w7 ⟨A7, c7, rfl, hx7⟩
  go_wp2_with fail
  refine (B4 _ ((hx5.trans hx6).trans hx7)).mono ?_
  rintro e w8 ⟨A8, c8, rfl, hx8⟩
  go_wp2_with (go_at_call 12; refine (live_any _).mono ?_; rintro e w9 ⟨rfl, hx9⟩)
  go_ret
  exact ⟨rfl, ((((hxd.trans hx5).trans hx6).trans hx7).trans hx8).trans hx9⟩
end Go.Proofs.Ytbmpecfhflkbeaa
