/- The walk of FlatMany. -/
import Derived.Test.YtbmpecfhflkbeaaFlT
import Derived.Deep.RegionHeld
import Derived.Deep.Cut
namespace Go.Proofs.Ytbmpecfhflkbeaa
open Go.RowKit

def sumSz (l : List ByteArray) : Nat := (l.map ByteArray.size).sum
theorem sumSz_take (l : List ByteArray) (k : Nat) (hk : k < l.length) : sumSz (l.take (k + 1)) = sumSz (l.take k) + l[k].size := by
  unfold sumSz
  rw [List.take_succ_eq_append_getElem hk, List.map_append, List.sum_append]
  simp
theorem sumSz_le (l : List ByteArray) (B : Nat) (h : ∀ s ∈ l, s.size ≤ B) : sumSz l ≤ l.length * B := by
  unfold sumSz
  induction l with
  | nil => simp
  | cons a l ih =>
    have h1 := h a (List.mem_cons_self)
    have h2 := ih fun s hs => h s (List.mem_cons_of_mem _ hs)
    rw [List.map_cons, List.sum_cons, List.length_cons, Nat.add_mul]
    omega
theorem sumSz_bd (s : List ByteArray) (k B : Nat) (hl : s.length ≤ 60) (h : ∀ x ∈ s, x.size ≤ B) : sumSz (s.take k) ≤ 60 * B := by
  have h1 := sumSz_le (s.take k) B (fun x hx => h x (List.mem_of_mem_take hx))
  have h2 : (s.take k).length ≤ 60 := by rw [List.length_take]; omega
  exact Nat.le_trans h1 (Nat.mul_le_mul_right _ h2)
theorem reach_num : reachBytes = 140737488351232 := rfl
theorem flat_lenT2 (l : List ByteArray) : (l.flatMap textB).length ≤ 4 * l.length + sumSz l := by
  unfold sumSz
  induction l with
  | nil => simp
  | cons a l ih =>
    rw [List.flatMap_cons, List.length_append, textB_len, List.length_cons, List.map_cons, List.sum_cons]
    omega
/-- another pen, while one is at work -/
theorem pen_other {a b : World} {p q : Nat} {r r' rq : Option Nat} {ys qs : List UInt8} (h : PenTo a p r b r' ys) (hq : PenAt a q rq qs) (hne : q ≠ p) (h1 : ∀ i, r = some i → i ≠ q ∧ rq ≠ some i) (h2 : rq ≠ some p) : PenAt b q rq qs :=
  hq.chs h.chs (fun e => by
    rcases e with e | e
    · exact hne e
    · exact (h1 q e).1 rfl) (fun i hi e => by
    rcases e with e | e
    · exact h2 (by rw [hi, e])
    · exact (h1 i e).2 hi)
/-- two pens: p is done, q at work -/
structure Two (w W1 wr : World) (p q : Nat) (rp rq : Option Nat) (ps qs : List UInt8) : Prop where
  ext : Ext w wr
  size : W1.heap.size ≤ wr.heap.size
  hp : w.heap.size ≤ p
  hq : w.heap.size ≤ q
  ne : p ≠ q
  hrp : ∀ i, rp = some i → i < W1.heap.size ∧ i ≠ q ∧ w.heap.size ≤ i
  hpq : p < W1.heap.size
  pp : PenAt wr p rp ps
  pq : PenAt wr q rq qs
  hrq : ∀ i, rq = some i → W1.heap.size ≤ i
theorem Two.step {w W1 a b : World} {p q : Nat} {rp rq rq' : Option Nat} {ps qs qs' : List UInt8} (h : Two w W1 a p q rp rq ps qs) (k : PenTo a q rq b rq' qs') (hwW : w.heap.size ≤ W1.heap.size) : Two w W1 b p q rp rq' ps qs' :=
  ⟨(k.to_ext h.ext h.hq fun i e => Nat.le_trans hwW (h.hrq i e)).1, Nat.le_trans h.size k.chs.size, h.hp, h.hq, h.ne, h.hrp, h.hpq,
   pen_other k h.pp h.ne (fun i e => ⟨fun e' => by have := h.hrq i e; have := h.hpq; omega, fun e' => by have := (h.hrp i e').1; have := h.hrq i e; omega⟩) (fun e => (h.hrp q e).2.1 rfl), k.at_, fun i e => by
    rcases k.row i e with e | e
    · exact h.hrq i e
    · exact Nat.le_trans h.size e⟩
theorem Two.then_ext {w W1 a b : World} {p q : Nat} {rp rq : Option Nat} {ps qs : List UInt8} (h : Two w W1 a p q rp rq ps qs) (k : Ext a b) : Two w W1 b p q rp rq ps qs :=
  ⟨h.ext.trans k, Nat.le_trans h.size k.size, h.hp, h.hq, h.ne, h.hrp, h.hpq, h.pp.ext k, h.pq.ext k, h.hrq⟩

set_option maxHeartbeats 2000000 in
set_option maxRecDepth 100000 in
theorem flatMany_walk (A0 : Option Addr) (n0 c0 : Nat) (n : List Int) (A1 : Option Addr) (n1 c1 : Nat) (s : List ByteArray) (A2 : Option Addr) (n2 c2 : Nat) (l : List St) (w : World) (h0 : I64sIn w A0 n0 c0 n) (h1 : StrsIn w A1 n1 c1 s) (h2 : StsIn w A2 n2 c2 l) :
    Calls Try.prog 5 #[.slice A0 n0 c0, .slice A1 n1 c1, .slice A2 n2 c2] w fun e w' => e = .returned (.bool true) ∧ Ext w w' := by
  obtain ⟨rfl, _, _, _, h0, _⟩ := h0
  obtain ⟨rfl, _, _, _, h1, hsz⟩ := h1
  obtain ⟨rfl, _, _, _, h2, _⟩ := h2
  by_cases g0 : 60 < n.length
  · clear h0 h1 h2 hsz
    go_enter Try.func5, Try.ntmps5
    go_wp2_with (go_at_call 12; refine (live_any _).mono ?_; rintro e w1 ⟨rfl, hx1⟩)
    go_ret
    exact ⟨rfl, (by repeat (first | assumption | exact Ext.refl _ | (with_reducible refine Ext.alloc ?_ _) | (with_reducible refine Ext.drew ?_) | refine Ext.trans ?_ (by assumption)))⟩
  by_cases g1 : 60 < s.length
  · clear h0 h1 h2 hsz
    go_enter Try.func5, Try.ntmps5
    go_wp2_with (go_at_call 12; refine (live_any _).mono ?_; rintro e w1 ⟨rfl, hx1⟩)
    go_ret
    exact ⟨rfl, (by repeat (first | assumption | exact Ext.refl _ | (with_reducible refine Ext.alloc ?_ _) | (with_reducible refine Ext.drew ?_) | refine Ext.trans ?_ (by assumption)))⟩
  by_cases g2 : 60 < l.length
  · clear h0 h1 h2 hsz
    go_enter Try.func5, Try.ntmps5
    go_wp2_with (go_at_call 12; refine (live_any _).mono ?_; rintro e w1 ⟨rfl, hx1⟩)
    go_ret
    exact ⟨rfl, (by repeat (first | assumption | exact Ext.refl _ | (with_reducible refine Ext.alloc ?_ _) | (with_reducible refine Ext.drew ?_) | refine Ext.trans ?_ (by assumption)))⟩
  rw [reach_num] at hsz
  have HSZ := Lib.hid hsz
  have HBD : Hid (∀ k, sumSz (s.take k) ≤ 8444249301073920) := Lib.hid (fun k => Nat.le_trans (sumSz_bd s k 140737488351232 (by omega) hsz) (by decide))
  clear hsz
  go_enter Try.func5, Try.ntmps5
  go_wp2
  go_loopw [8, 7] (fun i v wr => ∃ k : Nat, k ≤ s.length ∧ i = .int .i64 k ∧ v = .int .i64 (sumSz (s.take k) : Nat) ∧ w = wr) (fun i _ _ => s.length - (intOf i).toNat)
  case atStart => exact ⟨0, by omega, rfl, by simp [sumSz], rfl⟩
  case round =>
    obtain ⟨k, hk, rfl, rfl, rfl⟩ := hrel
    by_cases hlt : k < s.length
    · obtain ⟨b, o, rfl, hb, hcell⟩ := h1.c1 k hlt _ rfl
      have hT := Lib.hid (sumSz_take s k hlt)
      have hbd := HBD.out k
      have hbk := HSZ.out s[k] (List.getElem_mem hlt)
      generalize s[k] = a at *
      generalize sumSz (s.take k) = N at *
      have hw64 : wrap64 ((N : Int) + (a.size : Int)) = (N : Int) + (a.size : Int) := by unfold wrap64; omega
      clear hbd hbk
      go_wp2
      go_roundw
      case rel => exact ⟨k + 1, by omega, by go_num, by rw [hT.out]; simp [hw64], by first | rfl | trivial⟩
      case measure => simp [intOf]; omega
    · obtain rfl : k = s.length := by omega
      rw [List.take_length]
      by_cases g3 : 20000 < sumSz s
      · go_wp2_with (go_at_call 12; refine (live_any _).mono ?_; rintro e w1 ⟨rfl, hx1⟩)
        go_ret
        exact ⟨rfl, (by repeat (first | assumption | exact Ext.refl _ | (with_reducible refine Ext.alloc ?_ _) | (with_reducible refine Ext.drew ?_) | refine Ext.trans ?_ (by assumption)))⟩
      have hx2 := ((Ext.refl w).alloc (.cells #[.slice none 0 0] 33)).alloc (.cells #[.slice none 0 0] 33)
      have hp0 := (new_pen w).ext ((Ext.refl _).alloc (.cells #[.slice none 0 0] 33))
      have hq0 := new_pen (w.alloc (.cells #[.slice none 0 0] 33))
      rw [World.size_alloc] at hq0
      have far : ∀ {T : Type} {f : T → List Value} {size : Nat} {A : Option Addr} {l : List T}, Row f size w A l → l ≠ [] → ∀ ad, A = some ad → ad.block ≠ w.heap.size ∧ none ≠ some ad.block := by
        intro T f size A l h hl ad e
        have := h.lt hl ad e
        exact ⟨by omega, fun e => by cases e⟩
      have hf0 := far h0
      have hf1 := far h1
      have hf2 := far h2
      clear far
      have hl0 : (n.flatMap intB).length ≤ 480 := by rw [flat_len8]; omega
      have hl1 : (s.flatMap textB).length ≤ 62914800 := by have := flat_lenT s; omega
      have hl2 : (l.flatMap stampB).length ≤ 960 := by rw [flat_len16]; omega
      have HL := Lib.hid (And.intro hl0 (And.intro hl1 hl2))
      have hwp := Nat.le_refl w.heap.size
      generalize hp : w.heap.size = p at hp0 hf0 hf1 hf2 hq0
      generalize hq : p + 1 = q at hq0
      have hsz2 : ((w.alloc (.cells #[.slice none 0 0] 33)).alloc (.cells #[.slice none 0 0] 33)).heap.size = q + 1 := by simp; omega
      have i0 := h0.ext hx2
      have i1 := h1.ext hx2
      have i2 := h2.ext hx2
      clear hl0 hl1 hl2 g0 g1 g2
      go_wp2_with fail
      refine (int_any p none [] n A0 c0 _ hp0 i0 hf0 (by have := HL.out.1; rw [flat_len8] at this; simp only [List.length_nil]; omega)).mono ?_
      rintro e w1 ⟨rfl, r1, T1⟩
      obtain ⟨j1, k1⟩ := T1.reads i1 hf1
      go_wp2_with fail
      refine (text_any p r1 _ s A1 c1 _ T1.at_ j1 k1 (by have := HL.out.1; simp only [List.length_append, List.length_nil]; omega)).mono ?_
      rintro e w2 ⟨rfl, r2, K2⟩
      have T2 := T1.trans K2
      obtain ⟨j2, k2⟩ := T2.reads i2 hf2
      clear K2 j1 k1
      go_wp2_with fail
      refine (stamp_any p r2 _ l A2 c2 _ T2.at_ j2 k2 (by have := HL.out; simp only [List.length_append, List.length_nil]; omega)).mono ?_
      rintro e w3 ⟨rfl, r3, K3⟩
      have T3 := T2.trans K3
      clear K3 T2 j2 k2 T1
      have hq3 := pen_other T3 hq0 (by omega) (fun i e => by cases e) (fun e => by cases e)
      have hx3 := (T3.to_ext hx2 (by omega) (fun i e => by cases e)).1
      have two0 : Two w w3 w3 p q r3 none (([] ++ n.flatMap intB ++ s.flatMap textB) ++ l.flatMap stampB) [] :=
        ⟨hx3, Nat.le_refl _, by omega, by omega, by omega, fun i e => ⟨(T3.at_.row_lt i e).1, by
          rcases T3.row i e with h | h
          · cases h
          · rw [hsz2] at h; omega, by
          rcases T3.row i e with h | h
          · cases h
          · rw [hsz2] at h; omega⟩, T3.at_.lt, T3.at_, hq3, fun i e => by cases e⟩
      have hww := hx3.size
      generalize hP : (([] ++ n.flatMap intB ++ s.flatMap textB) ++ l.flatMap stampB) = P at two0
      clear T3 hq3 hx3 i0 i1 i2 hp0 hq0 hf0 hf1 hf2 hsz2 hx2
      go_wp2_with fail
      go_loopw [11] (fun i wr => ∃ (k : Nat) (rq : Option Nat), k ≤ n.length ∧ i = .int .i64 k ∧ Two w w3 wr p q r3 rq P ((n.take k).flatMap intB)) (fun i _ => n.length - (intOf i).toNat)
      case atStart => exact ⟨0, none, by omega, rfl, by simpa using two0⟩
      case round =>
        clear two0
        obtain ⟨k, rq, hk, rfl, two⟩ := hrel
        by_cases hlt : k < n.length
        · obtain ⟨b, o, rfl, hb, hcell⟩ := (h0.ext two.ext).c1 k hlt _ rfl
          have hT := Lib.hid (take_flat intB n k hlt)
          have hL : ((n.take k).flatMap intB).length ≤ 480 := by rw [flat_len8, List.length_take]; omega
          have HLk := Lib.hid hL
          clear hL
          generalize n[k] = a at *
          have hx := (Ext.refl wr).alloc (.cells #[.int .i64 a] 2)
          have two1 := two.then_ext hx
          have hrow := Row.new (f := fI64) (size := 1) wr #[.int .i64 a] 2 [a] (fun _ => rfl) rfl
          have hfr := pen_new two.pq (Nat.le_refl _)
          go_wp2_with fail
          refine (int_any q rq _ [a] _ 1 _ two1.pq hrow (fun _ => hfr) (by have := HLk.out; simp only [List.length_cons, List.length_nil]; omega)).mono ?_
          rintro e w4 ⟨rfl, rq', K4⟩
          have two2 := two1.step K4 hww
          clear hx two1 hrow hfr K4 two
          go_wp2_with (go_at_call 17; refine (bytes_any q rq' _ _ two2.pq (by have := HLk.out; simp only [List.length_append, List.length_nil, List.flatMap_cons, List.flatMap_nil, intB_len]; omega)).mono ?_; rintro e w5 ⟨⟨A5, c5, rfl, ho5, hn5⟩, hx5⟩)
          go_roundw
          case rel =>
            refine ⟨k + 1, rq', by omega, by go_num, ?_⟩
            have := two2.then_ext hx5
            rw [hT.out]
            simpa using this
          case measure => simp [intOf]; omega
        · obtain rfl : k = n.length := by omega
          rw [List.take_length] at two
          clear h0 hk hlt
          go_wp2_with fail
          go_loopw [12] (fun i wr => ∃ (k : Nat) (rq : Option Nat), k ≤ s.length ∧ i = .int .i64 k ∧ Two w w3 wr p q r3 rq P (n.flatMap intB ++ (s.take k).flatMap textB)) (fun i _ => s.length - (intOf i).toNat)
          case atStart => exact ⟨0, _, by omega, rfl, by simpa using two⟩
          case round =>
            clear two
            obtain ⟨k, rq, hk, rfl, two⟩ := hrel
            by_cases hlt : k < s.length
            · obtain ⟨b, o, rfl, hb, hcell⟩ := (h1.ext two.ext).c1 k hlt _ rfl
              have hT := Lib.hid (take_flat textB s k hlt)
              have hL : (n.flatMap intB ++ (s.take k).flatMap textB).length ≤ 62915280 := by
                have h3 := HL.out.1
                have h4 := flat_lenT (s.take k)
                have h5 : (s.take k).length ≤ 60 := by rw [List.length_take]; omega
                rw [List.length_append]; omega
              have HLk := Lib.hid hL
              clear hL
              generalize s[k] = a at *
              have hx := (Ext.refl wr).alloc (.cells #[.string a] 9)
              have two1 := two.then_ext hx
              have hrow := Row.new (f := fStr) (size := 1) wr #[.string a] 9 [a] (fun _ => rfl) rfl
              have hfr := pen_new two.pq (Nat.le_refl _)
              go_wp2_with fail
              refine (text_any q rq _ [a] _ 1 _ two1.pq hrow (fun _ => hfr) (by have := HLk.out; simp only [List.length_cons, List.length_nil]; omega)).mono ?_
              rintro e w4 ⟨rfl, rq', K4⟩
              have two2 := two1.step K4 hww
              clear hx two1 hrow hfr K4 two
              go_wp2
              go_roundw
              case rel =>
                refine ⟨k + 1, rq', by omega, by go_num, ?_⟩
                rw [hT.out, ← List.append_assoc]
                simpa using two2
              case measure => simp [intOf]; omega
            · obtain rfl : k = s.length := by omega
              rw [List.take_length] at two
              clear h1 hk hlt
              go_wp2_with fail
              go_loopw [13] (fun i wr => ∃ (k : Nat) (rq : Option Nat), k ≤ l.length ∧ i = .int .i64 k ∧ Two w w3 wr p q r3 rq P (n.flatMap intB ++ s.flatMap textB ++ (l.take k).flatMap stampB)) (fun i _ => l.length - (intOf i).toNat)
              case atStart => exact ⟨0, _, by omega, rfl, by simpa using two⟩
              case round =>
                clear two
                obtain ⟨k, rq, hk, rfl, two⟩ := hrel
                by_cases hlt : k < l.length
                · obtain ⟨b, o, rfl, hb, hc0, hc1⟩ := (h2.ext two.ext).c2 k hlt _ _ rfl
                  have hT := Lib.hid (take_flat stampB l k hlt)
                  have hL : (n.flatMap intB ++ s.flatMap textB ++ (l.take k).flatMap stampB).length ≤ 62916300 := by
                    have h3 := HL.out
                    have h4 := flat_len16 (l.take k)
                    have h5 : (l.take k).length ≤ 60 := by rw [List.length_take]; omega
                    rw [List.length_append, List.length_append]; omega
                  have HLk := Lib.hid hL
                  clear hL
                  generalize l[k] = a at *
                  obtain ⟨at_, an⟩ := a
                  dsimp only at hc0 hc1
                  have hx := (Ext.refl wr).alloc (.cells #[.int .i64 at_, .int .i64 an] 39)
                  have two1 := two.then_ext hx
                  have hrow := Row.new (f := fSt) (size := 2) wr #[.int .i64 at_, .int .i64 an] 39 [⟨at_, an⟩] (fun _ => rfl) rfl
                  have hfr := pen_new two.pq (Nat.le_refl _)
                  go_wp2_with fail
                  refine (stamp_any q rq _ [⟨at_, an⟩] _ 1 _ two1.pq hrow (fun _ => hfr) (by have := HLk.out; simp only [List.length_cons, List.length_nil]; omega)).mono ?_
                  rintro e w4 ⟨rfl, rq', K4⟩
                  have two2 := two1.step K4 hww
                  clear hx two1 hrow hfr K4 two
                  go_wp2
                  go_roundw
                  case rel =>
                    refine ⟨k + 1, rq', by omega, by go_num, ?_⟩
                    rw [hT.out, ← List.append_assoc]
                    simpa using two2
                  case measure => simp [intOf]; omega
                · obtain rfl : k = l.length := by omega
                  rw [List.take_length] at two
                  have hPP : n.flatMap intB ++ s.flatMap textB ++ l.flatMap stampB = P := by rw [← hP]; simp
                  rw [hPP] at two
                  have hPl : P.length ≤ 1099511627776 := by
                    have h3 := HL.out
                    rw [← hPP, List.length_append, List.length_append]; omega
                  clear h2 hk hlt hPP hP
                  have hpp := two.pp
                  have hpq := two.pq
                  have hxw := two.ext
                  clear two
                  go_upto_region 27 with fail
                  go_region_held (fun w' => Ext wr w') (first | assumption | exact (Ext.refl _).drew | exact Ext.refl _ | exact Ext.undrew (by assumption) | (refine Ext.trans ?_ (by assumption); assumption))
                    (first
                      | (go_at_call 17; (try have HP := fun w' h => run_string_of (w := w') (c := cL) (U8s.rd ((OwnB.rd hoL).2.row.ext h))); with_reducible refine (bytes_any p r3 P _ (hpp.ext (by assumption)) hPl).mono ?_; rintro e wL ⟨⟨AL, cL, rfl, hoL, hnL⟩, hxL⟩; (try have hcvP := HP _ hxL); (try clear HP); have hcvL := run_string_of (c := cL) (OwnB.rd hoL).2)
                      | (go_at_call 17; (try have HP := fun w' h => run_string_of (w := w') (c := cL) (U8s.rd ((OwnB.rd hoL).2.row.ext h))); with_reducible refine (bytes_any q rq P _ (hpq.ext (by assumption)) hPl).mono ?_; rintro e wL ⟨⟨AL, cL, rfl, hoL, hnL⟩, hxL⟩; (try have hcvP := HP _ hxL); (try clear HP); have hcvL := run_string_of (c := cL) (OwnB.rd hoL).2)
                      | (go_at_call 12; refine (live_any _).mono ?_; rintro e w9 ⟨rfl, hx9⟩))
                  all_goals (go_wp2; go_ret; exact ⟨rfl, hxw.trans (by assumption)⟩)
end Go.Proofs.Ytbmpecfhflkbeaa
