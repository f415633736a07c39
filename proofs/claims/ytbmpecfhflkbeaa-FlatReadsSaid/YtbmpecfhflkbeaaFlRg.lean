/- The walk of FlatReads. -/
import Derived.Test.YtbmpecfhflkbeaaFlRf
import Derived.Test.YtbmpecfhflkbeaaFlSa
namespace Go.Proofs.Ytbmpecfhflkbeaa
open Go.RowKit
set_option linter.unusedVariables false

theorem stamps_short (bl : Bool) (xs : List UInt8) : (after bl xs (stampsR xs) []).1.length ≤ xs.length := by
  cases bl with
  | true => exact Nat.zero_le _
  | false =>
    unfold after stampsR
    by_cases h8 : 8 ≤ xs.length
    · rw [if_pos h8]
      generalize wrap64 (numV (xs.take 8) : Nat) = V
      by_cases h9 : 0 ≤ V ∧ V ≤ (((xs.drop 8).length / 16 : Nat) : Int)
      · rw [if_pos h9]
        show (stampL (xs.drop 8) V.toNat).length ≤ xs.length
        rw [stampL_len]
        rw [List.length_drop] at h9
        omega
      · rw [if_neg h9]
        exact Nat.zero_le _
    · rw [if_neg h8]
      exact Nat.zero_le _
theorem two_int (p : Nat) (g : Option Nat) (A : Option Addr) (c : Nat) (q : Nat) (B : Option Addr) (d : Nat) (l : List UInt8) (j : Nat) (bl : Bool) : ∃ (v : Int) (ys : List UInt8) (b : Bool),
    (∀ w, EyeAt w p g A c (l.drop j) bl → Calls Try.prog 27 #[.pointer (some ⟨p, 0, none⟩)] w fun e w' => e = .returned (.int .i64 v) ∧ Chs (isP p) w w' ∧ ∃ A' c', EyeAt w' p g A' c' ys b) ∧
    (∀ w, REye w q B d l j bl → Calls Try.prog 28 #[.pointer (some ⟨q, 0, none⟩)] w fun e w' => e = .returned (.int .i64 v) ∧ Chs (isP q) w w' ∧ ∃ j', REye w' q B d l j' b ∧ l.drop j' = ys) :=
  ⟨_, _, _, fun w he => eye_int p g A c _ bl w he, fun w he => rint_eye q B d l j bl w he⟩
theorem two_text (p : Nat) (g : Option Nat) (A : Option Addr) (c : Nat) (q : Nat) (B : Option Addr) (d : Nat) (l : List UInt8) (j : Nat) (bl : Bool) : ∃ (v : ByteArray) (ys : List UInt8) (b : Bool),
    (∀ w, EyeAt w p g A c (l.drop j) bl → Calls Try.prog 29 #[.pointer (some ⟨p, 0, none⟩)] w fun e w' => e = .returned (.string v) ∧ Chs (isP p) w w' ∧ ∃ A' c', EyeAt w' p g A' c' ys b) ∧
    (∀ w, REye w q B d l j bl → Calls Try.prog 30 #[.pointer (some ⟨q, 0, none⟩)] w fun e w' => e = .returned (.string v) ∧ Chs (isP q) w w' ∧ ∃ j', REye w' q B d l j' b ∧ l.drop j' = ys) :=
  ⟨_, _, _, fun w he => eye_text p g A c _ bl w he, fun w he => rtext_eye q B d l j bl w he⟩
theorem two_bool (p : Nat) (g : Option Nat) (A : Option Addr) (c : Nat) (q : Nat) (B : Option Addr) (d : Nat) (l : List UInt8) (j : Nat) (bl : Bool) : ∃ (v : Bool) (ys : List UInt8) (b : Bool),
    (∀ w, EyeAt w p g A c (l.drop j) bl → Calls Try.prog 31 #[.pointer (some ⟨p, 0, none⟩)] w fun e w' => e = .returned (.bool v) ∧ Chs (isP p) w w' ∧ ∃ A' c', EyeAt w' p g A' c' ys b) ∧
    (∀ w, REye w q B d l j bl → Calls Try.prog 32 #[.pointer (some ⟨q, 0, none⟩)] w fun e w' => e = .returned (.bool v) ∧ Chs (isP q) w w' ∧ ∃ j', REye w' q B d l j' b ∧ l.drop j' = ys) :=
  ⟨_, _, _, fun w he => eye_bool p g A c _ bl w he, fun w he => rbool_eye q B d l j bl w he⟩
theorem two_stamp (p : Nat) (g : Option Nat) (A : Option Addr) (c : Nat) (q : Nat) (B : Option Addr) (d : Nat) (l : List UInt8) (j : Nat) (bl : Bool) : ∃ (v : St) (ys : List UInt8) (b : Bool),
    (∀ w, EyeAt w p g A c (l.drop j) bl → Calls Try.prog 33 #[.pointer (some ⟨p, 0, none⟩)] w fun e w' => e = .returned (.agg #[.int .i64 (v).t, .int .i64 (v).n]) ∧ Chs (isP p) w w' ∧ ∃ A' c', EyeAt w' p g A' c' ys b) ∧
    (∀ w, REye w q B d l j bl → Calls Try.prog 34 #[.pointer (some ⟨q, 0, none⟩)] w fun e w' => e = .returned (.agg #[.int .i64 (v).t, .int .i64 (v).n]) ∧ Chs (isP q) w w' ∧ ∃ j', REye w' q B d l j' b ∧ l.drop j' = ys) :=
  ⟨_, _, _, fun w he => eye_stamp p g A c _ bl w he, fun w he => rstamp_eye q B d l j bl w he⟩
theorem two_stamps (p : Nat) (g : Option Nat) (A : Option Addr) (c : Nat) (q : Nat) (B : Option Addr) (d : Nat) (l : List UInt8) (j : Nat) (bl : Bool) : ∃ (v : List St) (ys : List UInt8) (b : Bool), v.length ≤ l.length ∧
    (∀ w, EyeAt w p g A c (l.drop j) bl → Calls Try.prog 36 #[.pointer (some ⟨p, 0, none⟩)] w fun e w' => ∃ B1 d1, e = .returned (.slice B1 v.length d1) ∧ (Sts w' B1 v ∧ ∀ ad, B1 = some ad → w.heap.size ≤ ad.block) ∧ Chs (isP p) w w' ∧ ∃ A' c', EyeAt w' p g A' c' ys b) ∧
    (∀ w, REye w q B d l j bl → Calls Try.prog 37 #[.pointer (some ⟨q, 0, none⟩)] w fun e w' => ∃ B1 d1, e = .returned (.slice B1 v.length d1) ∧ Sts w' B1 v ∧ Chs (isP q) w w' ∧ ∃ j', REye w' q B d l j' b ∧ l.drop j' = ys) :=
  ⟨_, _, _, Nat.le_trans (stamps_short bl (l.drop j)) (by rw [List.length_drop]; omega), fun w he => eye_stamps p g A c _ bl w he, fun w he => rstamps_eye q B d l j bl w he⟩

set_option maxHeartbeats 8000000 in
set_option maxRecDepth 100000 in
theorem flatReads_walk (A0 : Option Addr) (n0 c0 : Nat) (xs : List UInt8) (A1 : Option Addr) (n1 c1 : Nat) (ks : List Int) (w : World) (h0 : BytesIn w A0 n0 c0 xs) (h1 : I64sIn w A1 n1 c1 ks) :
    Calls Try.prog 8 #[.slice A0 n0 c0, .slice A1 n1 c1] w fun e w' => e = .returned (.bool true) ∧ Ext w w' := by
  obtain ⟨rfl, _, hn0, _, h0, _⟩ := h0
  obtain ⟨rfl, _, _, _, h1, _⟩ := h1
  by_cases g0 : 20000 < xs.length
  · clear h0 h1 hn0
    go_enter Try.func8, Try.ntmps8
    go_wp2_with (go_at_call 12; refine (live_any _).mono ?_; rintro e w1 ⟨rfl, hx1⟩)
    go_ret
    exact ⟨rfl, (by repeat (first | assumption | exact Ext.refl _ | (with_reducible refine Ext.alloc ?_ _) | (with_reducible refine Ext.drew ?_) | refine Ext.trans ?_ (by assumption)))⟩
  by_cases g1 : 60 < ks.length
  · clear h0 h1 hn0
    go_enter Try.func8, Try.ntmps8
    go_wp2_with (go_at_call 12; refine (live_any _).mono ?_; rintro e w1 ⟨rfl, hx1⟩)
    go_ret
    exact ⟨rfl, (by repeat (first | assumption | exact Ext.refl _ | (with_reducible refine Ext.alloc ?_ _) | (with_reducible refine Ext.drew ?_) | refine Ext.trans ?_ (by assumption)))⟩
  have hm : xs.length ≤ 20000 := by omega
  obtain ⟨i0, hi0, hz0, hz1, hz2⟩ := info_parts u8_info
  have hE := own_none w w.heap.size (Nat.le_refl _) 5 1
  have hR : Reads (w.alloc (.cells #[] 5)) w.heap.size 1 A0 xs.length (u8s xs) := Reads.alloc (U8s.rd h0) (Nat.le_refl _) (.cells #[] 5)
  have hu1 := u8s_one xs
  have S1 : Hid (∀ w', Ext w w' → Calls Try.prog 13 #[.slice A0 xs.length c0] w' fun e w2 => e = .returned (.int .u64 (sumV xs : Nat)) ∧ w' = w2) := Lib.hid (fun w' hw' => sum_any xs A0 c0 w' (by omega) (h0.ext hw'))
  have S2 : Hid (∀ w', Ext w w' → Calls Try.prog 26 #[.slice A0 xs.length c0] w' fun e w2 => e = .returned (.int .u64 (sumV xs : Nat)) ∧ w' = w2) := Lib.hid (fun w' hw' => rsum_any xs A0 c0 w' (by omega) (h0.ext hw'))
  generalize sumV xs = sv at *
  have hO : Hid (∀ w', Ext w w' → Calls Try.prog 25 #[.slice A0 xs.length c0] w' fun e w2 => Ext w' w2 ∧ ∃ q A' c', e = .returned (.pointer (some ⟨q, 0, none⟩)) ∧ w'.heap.size ≤ q ∧ (∀ ad, A' = some ad → w'.heap.size ≤ ad.block) ∧ REye w2 q A' c' xs 0 false) := Lib.hid (fun w' hw' => ropen_any xs A0 c0 w' hm (h0.ext hw'))
  clear h0 hn0
  go_enter Try.func8, Try.ntmps8
  go_wp2_with (first
    | (at_builtin; (refine wpList_append_any _ rfl (.tmp 20) (.tmp 21) _ rfl w.heap.size 5 i0 _ 1 1 Try.underlying22 hi0 hz0 hz1 hz2 rfl (by omega) _ 0 [] rfl hE w.heap.size A0 xs.length c0 (u8s xs) rfl hR hu1 (by simp only [maxLen]; omega) (by omega) (by simp) ?_); intro v1 w1 hown hg hat; have hown' : OwnB w1 w.heap.size v1 xs := (by simpa using hown); obtain ⟨Ag, cg, rfl, hN⟩ := own_form1 hown'; have hxa : Ext w w1 := Chs.to_ext (S := fun i => i = w.heap.size) (Chs.grown (.of_ext ((Ext.refl w).alloc _)) hg (fun i hi => .inl (by simpa [Value.ownBlock, Act.eval] using hi.symm))) (fun i hi e => by omega); have hop := open_any xs Ag cg w1 (by omega) (OwnB.rd hown').2.row hN)
    | (go_at_call 24; refine hop.mono ?_; rintro e w2 ⟨hx2, p, g, A2, c2, rfl, hp, hgg, he1⟩; have hop2 := hO.out w2 (hxa.trans hx2))
    | (go_at_call 25; refine hop2.mono ?_; rintro e w3 ⟨hx3, q, A3, c3, rfl, hq, hq2, hr1⟩; have s1 := S1.out w3 ((hxa.trans hx2).trans hx3); have s2 := S2.out w3 ((hxa.trans hx2).trans hx3))
    | (go_at_call 13; refine s1.mono ?_; rintro e w' ⟨rfl, rfl⟩)
    | (go_at_call 26; refine s2.mono ?_; rintro e w' ⟨rfl, rfl⟩))
  have hx13 := (hxa.trans hx2).trans hx3
  have he3 := he1.ext hx3
  have ho3 := own_ext hown' (hx2.trans hx3)
  have hgb := fun (i : Nat) (e : (Value.slice Ag xs.length cg).ownBlock = some i) => (hown'.lt i e).2
  have hlx : (u8s xs).length = xs.length := u8s_len xs
  have hz3 : ∀ u ∈ u8s xs, ∃ z : Int, u = .int .u8 z := by
    intro u hu
    obtain ⟨b, _, rfl⟩ := List.mem_map.1 hu
    exact ⟨_, rfl⟩
  have hsz := hx2.size
  have hsz0 := hxa.size
  have hs1 : w1.heap.size ≤ p := hp
  have hpl2 : p < w2.heap.size := he1.blk.lt
  have hpq : p < q := Nat.lt_of_lt_of_le he1.blk.lt hq
  have hg2 : ∀ i, g = some i → w1.heap.size ≤ i ∧ i < w2.heap.size := fun i e => ⟨hgg i e, he1.lt i e⟩
  clear hE hR hu1 S1 S2 hO hop hop2 s1 s2 hg hat hown hown' hi0 hz0 hz1 hz2 he1 hx2 hx3 hxa hN
  go_loopw [8] (fun i wr => ∃ (k : Nat) (zs : List Value), k ≤ xs.length ∧ i = .int .i64 k ∧ Ext w wr ∧ wr.ownsRow w.heap.size 5 1 (.slice Ag xs.length cg) xs.length zs ∧ zs.length = xs.length ∧ (∀ u ∈ zs, ∃ z : Int, u = .int .u8 z) ∧ EyeAt wr p g A2 c2 xs false ∧ REye wr q A3 c3 xs 0 false) (fun i _ => xs.length - (intOf i).toNat)
  case atStart => exact ⟨0, u8s xs, by omega, rfl, hx13, ho3, hlx, hz3, he3, hr1⟩
  case round =>
    clear hz3 he3 hr1 hx13 ho3 hlx
    obtain ⟨k, zs, hk, rfl, hx, ho, hl, hz, he, hr⟩ := hrel
    by_cases hlt : k < xs.length
    · obtain ⟨gb, cg', hv, hb1, hb2, hb3⟩ := own_some ho (by omega)
      injection hv with hv1 _ hv2
      subst hv1 hv2
      have hck := ho.cellAt k (by omega)
      have hfk := own_frozen ho k
      have hgbl := hgb gb rfl
      obtain ⟨z, hzk⟩ := hz _ (List.getElem_mem (show k < zs.length by omega))
      rw [List.getElem?_eq_getElem (by omega), hzk] at hck
      go_wp2
      have hset := own_set ho k (by omega) (.int .u8 (bits .xor .u8 z 85))
      have hc := Chs.set1 wr gb k (.int .u8 (bits .xor .u8 z 85))
      have he5 := he.chs hc (by show ¬ p = gb; omega) (fun i _ e e2 => by have := (hg2 i e).1; have e2 : i = gb := e2; omega)
      have hr5 := hr.chs hc (by show ¬ q = gb; omega) (fun ad e e2 => by have := hq2 ad e; have e2 : ad.block = gb := e2; omega)
      have hx5 : Ext w (wr.setCell ⟨gb, k, none⟩ (.int .u8 (bits .xor .u8 z 85))) := hx.setCell hb1 _
      go_roundw
      case rel => exact ⟨k + 1, _, by omega, by go_num, hx5, hset, by rw [List.length_set]; exact hl, (fun u hu => by rcases List.mem_or_eq_of_mem_set hu with h | h; exact hz u h; exact ⟨_, h⟩), he5, hr5⟩
      case measure => simp [intOf]; omega
    · obtain rfl : k = xs.length := by omega
      clear ho hl hz hgb hlt hk
      go_wp2
      go_loopw [9] (fun i wr => ∃ (k : Nat) (A : Option Addr) (c j : Nat) (bl : Bool), k ≤ ks.length ∧ i = .int .i64 k ∧ Ext w wr ∧ EyeAt wr p g A c (xs.drop j) bl ∧ REye wr q A3 c3 xs j bl) (fun i _ => ks.length - (intOf i).toNat)
      case atStart => exact ⟨0, A2, c2, 0, false, by omega, rfl, hx, by simpa using he, hr⟩
      case round =>
        clear he hr hx
        obtain ⟨k, A, c, j, bl, hk, rfl, hx, he, hr⟩ := hrel
        by_cases hlt : k < ks.length
        · obtain ⟨b, o, rfl, hb, hcell⟩ := (h1.ext hx).c1 k hlt _ rfl
          generalize ks[k] = K at *
          have hgq : ∀ i, g = some i → i ≠ q := fun i e => by have := (hg2 i e).2; omega
          have hwn : w1.heap.size ≤ w1.heap.size := Nat.le_refl _
          have hpw : w.heap.size ≤ p := by omega
          have hqw : w.heap.size ≤ q := by omega
          have hAp : ∀ ad, A3 = some ad → ad.block ≠ p := fun ad e => by have := hq2 ad e; omega
          by_cases k0 : K = 0
          · subst k0
            obtain ⟨v, ys, b', H1, H2⟩ := two_int p g A c q A3 c3 xs j bl
            have h1r := H1 wr he
            clear H1
            go_upto_region 27 with (first
              | (go_at_call 27; refine h1r.mono ?_; rintro e w5 ⟨rfl, hx5, A5, c5, he5⟩; have hr5 := hr.chs hx5 (by show ¬ q = p; omega) (fun ad e e2 => hAp ad e e2); have h2r := H2 _ hr5)
              | (go_at_call 28; refine h2r.mono ?_; rintro e w6 ⟨rfl, hx6', j', hr6, hj'⟩))
            clear h1r h2r
            obtain rfl := hj'
            have he6 := he5.chs hx6' (by show ¬ p = q; omega) (fun i _ e e2 => hgq i e e2)
            have hx6 : Ext w w6 := (hx.see hx5 hpw).see hx6' hqw
            clear hx6' hx5 hr5 he5 H2 hr he
            have hjl : IntKind.i64.wrap ((xs.length : Int) - (j' : Int)) = ((xs.drop j').length : Int) := by rw [List.length_drop, IntKind.wrap_i64]; have := hr6.hi; omega
            have HL : Hid (∀ w', Ext w6 w' → Calls Try.prog 38 #[.pointer (some ⟨p, 0, none⟩)] w' fun e w2 => e = .returned (.int .i64 ((xs.drop j').length : Int)) ∧ w' = w2) := Lib.hid (fun w' hw' => left_any p g A5 c5 _ b' w' (he6.ext hw'))
            have HD : Hid (∀ w', Ext w6 w' → Calls Try.prog 40 #[.pointer (some ⟨p, 0, none⟩)] w' fun e w2 => e = .returned (.int .i64 (doneV (xs.drop j') b')) ∧ Ext w' w2) := Lib.hid (fun w' hw' => done_any p g A5 c5 _ b' w' (he6.ext hw'))
            have HR : Hid (∀ w', Ext w6 w' → Calls Try.prog 41 #[.pointer (some ⟨q, 0, none⟩)] w' fun e w2 => e = .returned (.int .i64 (doneV (xs.drop j') b')) ∧ Ext w' w2) := Lib.hid (fun w' hw' => rdone_eye q A3 c3 xs j' b' w' (hr6.ext hw'))
            have y0 : w6.cell? ⟨q, 0, none⟩ = some (.slice A3 xs.length c3) := hr6.blk.cell 0
            have y1 : w6.cell? ⟨q, 1, none⟩ = some (.int .i64 (j' : Int)) := hr6.blk.cell 1
            have l6 := hr6.blk.lt
            generalize doneV (xs.drop j') b' = dv at *
            generalize hLL : (xs.drop j').length = LL at *
            clear hLL
            refine wp_region_in _ (by kernel_rfl) (by kernel_rfl) (Ext.refl _) ?_
            repeat (refine wpQuiet_step (fun K hK => ?_); go_simp; first | (refine hK _ ?_; clear hK K) | (apply Exists.intro; refine ⟨fun w' hw' => ?_, hK _ ?_⟩; (first | (go_at_call 38; with_reducible exact qcall_same hw' (HL.out _ hw')) | (go_at_call 40; with_reducible exact qcall hw' (HD.out _ hw')) | (go_at_call 41; with_reducible exact qcall hw' (HR.out _ hw')) | (go_at_call 39; with_reducible exact qcall_same hw' (num_any _ _)) |  (have g0 := hw'.cell l6 y0; have g1 := hw'.cell l6 y1; go_simp; rfl)); clear hK K))
            refine wpQuiet_nil ?_
            intro w7 hx7
            have he7 := he6.ext hx7
            have hr7 := hr6.ext hx7
            clear HL HD HR y0 y1 l6 hjl he6 hr6
            go_wp2
            go_roundw
            case rel => exact ⟨k + 1, A5, c5, j', b', by omega, by go_num, hx6.trans hx7, he7, hr7⟩
            case measure => simp [intOf]; omega
          by_cases k1 : K = 1
          · subst k1
            obtain ⟨v, ys, b', H1, H2⟩ := two_text p g A c q A3 c3 xs j bl
            have h1r := H1 wr he
            clear H1
            go_upto_region 27 with (first
              | (go_at_call 29; refine h1r.mono ?_; rintro e w5 ⟨rfl, hx5, A5, c5, he5⟩; have hr5 := hr.chs hx5 (by show ¬ q = p; omega) (fun ad e e2 => hAp ad e e2); have h2r := H2 _ hr5)
              | (go_at_call 30; refine h2r.mono ?_; rintro e w6 ⟨rfl, hx6', j', hr6, hj'⟩))
            clear h1r h2r
            obtain rfl := hj'
            have he6 := he5.chs hx6' (by show ¬ p = q; omega) (fun i _ e e2 => hgq i e e2)
            have hx6 : Ext w w6 := (hx.see hx5 hpw).see hx6' hqw
            clear hx6' hx5 hr5 he5 H2 hr he
            have hjl : IntKind.i64.wrap ((xs.length : Int) - (j' : Int)) = ((xs.drop j').length : Int) := by rw [List.length_drop, IntKind.wrap_i64]; have := hr6.hi; omega
            have HL : Hid (∀ w', Ext w6 w' → Calls Try.prog 38 #[.pointer (some ⟨p, 0, none⟩)] w' fun e w2 => e = .returned (.int .i64 ((xs.drop j').length : Int)) ∧ w' = w2) := Lib.hid (fun w' hw' => left_any p g A5 c5 _ b' w' (he6.ext hw'))
            have HD : Hid (∀ w', Ext w6 w' → Calls Try.prog 40 #[.pointer (some ⟨p, 0, none⟩)] w' fun e w2 => e = .returned (.int .i64 (doneV (xs.drop j') b')) ∧ Ext w' w2) := Lib.hid (fun w' hw' => done_any p g A5 c5 _ b' w' (he6.ext hw'))
            have HR : Hid (∀ w', Ext w6 w' → Calls Try.prog 41 #[.pointer (some ⟨q, 0, none⟩)] w' fun e w2 => e = .returned (.int .i64 (doneV (xs.drop j') b')) ∧ Ext w' w2) := Lib.hid (fun w' hw' => rdone_eye q A3 c3 xs j' b' w' (hr6.ext hw'))
            have y0 : w6.cell? ⟨q, 0, none⟩ = some (.slice A3 xs.length c3) := hr6.blk.cell 0
            have y1 : w6.cell? ⟨q, 1, none⟩ = some (.int .i64 (j' : Int)) := hr6.blk.cell 1
            have l6 := hr6.blk.lt
            generalize doneV (xs.drop j') b' = dv at *
            generalize hLL : (xs.drop j').length = LL at *
            clear hLL
            refine wp_region_in _ (by kernel_rfl) (by kernel_rfl) (Ext.refl _) ?_
            repeat (refine wpQuiet_step (fun K hK => ?_); go_simp; first | (refine hK _ ?_; clear hK K) | (apply Exists.intro; refine ⟨fun w' hw' => ?_, hK _ ?_⟩; (first | (go_at_call 38; with_reducible exact qcall_same hw' (HL.out _ hw')) | (go_at_call 40; with_reducible exact qcall hw' (HD.out _ hw')) | (go_at_call 41; with_reducible exact qcall hw' (HR.out _ hw')) | (go_at_call 39; with_reducible exact qcall_same hw' (num_any _ _)) |  (have g0 := hw'.cell l6 y0; have g1 := hw'.cell l6 y1; go_simp; rfl)); clear hK K))
            refine wpQuiet_nil ?_
            intro w7 hx7
            have he7 := he6.ext hx7
            have hr7 := hr6.ext hx7
            clear HL HD HR y0 y1 l6 hjl he6 hr6
            go_wp2
            go_roundw
            case rel => exact ⟨k + 1, A5, c5, j', b', by omega, by go_num, hx6.trans hx7, he7, hr7⟩
            case measure => simp [intOf]; omega
          by_cases k2 : K = 2
          · subst k2
            obtain ⟨v, ys, b', H1, H2⟩ := two_bool p g A c q A3 c3 xs j bl
            have h1r := H1 wr he
            clear H1
            go_upto_region 27 with (first
              | (go_at_call 31; refine h1r.mono ?_; rintro e w5 ⟨rfl, hx5, A5, c5, he5⟩; have hr5 := hr.chs hx5 (by show ¬ q = p; omega) (fun ad e e2 => hAp ad e e2); have h2r := H2 _ hr5)
              | (go_at_call 32; refine h2r.mono ?_; rintro e w6 ⟨rfl, hx6', j', hr6, hj'⟩))
            clear h1r h2r
            obtain rfl := hj'
            have he6 := he5.chs hx6' (by show ¬ p = q; omega) (fun i _ e e2 => hgq i e e2)
            have hx6 : Ext w w6 := (hx.see hx5 hpw).see hx6' hqw
            clear hx6' hx5 hr5 he5 H2 hr he
            have hjl : IntKind.i64.wrap ((xs.length : Int) - (j' : Int)) = ((xs.drop j').length : Int) := by rw [List.length_drop, IntKind.wrap_i64]; have := hr6.hi; omega
            have HL : Hid (∀ w', Ext w6 w' → Calls Try.prog 38 #[.pointer (some ⟨p, 0, none⟩)] w' fun e w2 => e = .returned (.int .i64 ((xs.drop j').length : Int)) ∧ w' = w2) := Lib.hid (fun w' hw' => left_any p g A5 c5 _ b' w' (he6.ext hw'))
            have HD : Hid (∀ w', Ext w6 w' → Calls Try.prog 40 #[.pointer (some ⟨p, 0, none⟩)] w' fun e w2 => e = .returned (.int .i64 (doneV (xs.drop j') b')) ∧ Ext w' w2) := Lib.hid (fun w' hw' => done_any p g A5 c5 _ b' w' (he6.ext hw'))
            have HR : Hid (∀ w', Ext w6 w' → Calls Try.prog 41 #[.pointer (some ⟨q, 0, none⟩)] w' fun e w2 => e = .returned (.int .i64 (doneV (xs.drop j') b')) ∧ Ext w' w2) := Lib.hid (fun w' hw' => rdone_eye q A3 c3 xs j' b' w' (hr6.ext hw'))
            have y0 : w6.cell? ⟨q, 0, none⟩ = some (.slice A3 xs.length c3) := hr6.blk.cell 0
            have y1 : w6.cell? ⟨q, 1, none⟩ = some (.int .i64 (j' : Int)) := hr6.blk.cell 1
            have l6 := hr6.blk.lt
            generalize doneV (xs.drop j') b' = dv at *
            generalize hLL : (xs.drop j').length = LL at *
            clear hLL
            refine wp_region_in _ (by kernel_rfl) (by kernel_rfl) (Ext.refl _) ?_
            repeat (refine wpQuiet_step (fun K hK => ?_); go_simp; first | (refine hK _ ?_; clear hK K) | (apply Exists.intro; refine ⟨fun w' hw' => ?_, hK _ ?_⟩; (first | (go_at_call 38; with_reducible exact qcall_same hw' (HL.out _ hw')) | (go_at_call 40; with_reducible exact qcall hw' (HD.out _ hw')) | (go_at_call 41; with_reducible exact qcall hw' (HR.out _ hw')) | (go_at_call 39; with_reducible exact qcall_same hw' (num_any _ _)) |  (have g0 := hw'.cell l6 y0; have g1 := hw'.cell l6 y1; go_simp; rfl)); clear hK K))
            refine wpQuiet_nil ?_
            intro w7 hx7
            have he7 := he6.ext hx7
            have hr7 := hr6.ext hx7
            clear HL HD HR y0 y1 l6 hjl he6 hr6
            go_wp2
            go_roundw
            case rel => exact ⟨k + 1, A5, c5, j', b', by omega, by go_num, hx6.trans hx7, he7, hr7⟩
            case measure => simp [intOf]; omega
          by_cases k3 : K = 3
          · subst k3
            obtain ⟨v, ys, b', H1, H2⟩ := two_stamp p g A c q A3 c3 xs j bl
            have h1r := H1 wr he
            clear H1
            go_upto_region 27 with (first
              | (go_at_call 33; refine h1r.mono ?_; rintro e w5 ⟨rfl, hx5, A5, c5, he5⟩; have hr5 := hr.chs hx5 (by show ¬ q = p; omega) (fun ad e e2 => hAp ad e e2); have h2r := H2 _ hr5)
              | (go_at_call 34; refine h2r.mono ?_; rintro e w6 ⟨rfl, hx6', j', hr6, hj'⟩))
            clear h1r h2r
            obtain rfl := hj'
            have he6 := he5.chs hx6' (by show ¬ p = q; omega) (fun i _ e e2 => hgq i e e2)
            have hx6 : Ext w w6 := (hx.see hx5 hpw).see hx6' hqw
            clear hx6' hx5 hr5 he5 H2 hr he
            have hjl : IntKind.i64.wrap ((xs.length : Int) - (j' : Int)) = ((xs.drop j').length : Int) := by rw [List.length_drop, IntKind.wrap_i64]; have := hr6.hi; omega
            have HL : Hid (∀ w', Ext w6 w' → Calls Try.prog 38 #[.pointer (some ⟨p, 0, none⟩)] w' fun e w2 => e = .returned (.int .i64 ((xs.drop j').length : Int)) ∧ w' = w2) := Lib.hid (fun w' hw' => left_any p g A5 c5 _ b' w' (he6.ext hw'))
            have HD : Hid (∀ w', Ext w6 w' → Calls Try.prog 40 #[.pointer (some ⟨p, 0, none⟩)] w' fun e w2 => e = .returned (.int .i64 (doneV (xs.drop j') b')) ∧ Ext w' w2) := Lib.hid (fun w' hw' => done_any p g A5 c5 _ b' w' (he6.ext hw'))
            have HR : Hid (∀ w', Ext w6 w' → Calls Try.prog 41 #[.pointer (some ⟨q, 0, none⟩)] w' fun e w2 => e = .returned (.int .i64 (doneV (xs.drop j') b')) ∧ Ext w' w2) := Lib.hid (fun w' hw' => rdone_eye q A3 c3 xs j' b' w' (hr6.ext hw'))
            have y0 : w6.cell? ⟨q, 0, none⟩ = some (.slice A3 xs.length c3) := hr6.blk.cell 0
            have y1 : w6.cell? ⟨q, 1, none⟩ = some (.int .i64 (j' : Int)) := hr6.blk.cell 1
            have l6 := hr6.blk.lt
            generalize doneV (xs.drop j') b' = dv at *
            generalize hLL : (xs.drop j').length = LL at *
            clear hLL
            refine wp_region_in _ (by kernel_rfl) (by kernel_rfl) (Ext.refl _) ?_
            repeat (refine wpQuiet_step (fun K hK => ?_); go_simp; first | (refine hK _ ?_; clear hK K) | (apply Exists.intro; refine ⟨fun w' hw' => ?_, hK _ ?_⟩; (first | (go_at_call 38; with_reducible exact qcall_same hw' (HL.out _ hw')) | (go_at_call 40; with_reducible exact qcall hw' (HD.out _ hw')) | (go_at_call 41; with_reducible exact qcall hw' (HR.out _ hw')) | (go_at_call 39; with_reducible exact qcall_same hw' (num_any _ _)) |  (have g0 := hw'.cell l6 y0; have g1 := hw'.cell l6 y1; go_simp; rfl)); clear hK K))
            refine wpQuiet_nil ?_
            intro w7 hx7
            have he7 := he6.ext hx7
            have hr7 := hr6.ext hx7
            clear HL HD HR y0 y1 l6 hjl he6 hr6
            go_wp2
            go_roundw
            case rel => exact ⟨k + 1, A5, c5, j', b', by omega, by go_num, hx6.trans hx7, he7, hr7⟩
            case measure => simp [intOf]; omega
          by_cases k4 : K = 4
          · subst k4
            obtain ⟨v, ys, b', hvl, H1, H2⟩ := two_stamps p g A c q A3 c3 xs j bl
            have HV : Hid (v.length ≤ 1099511627776) := Lib.hid (by omega)
            clear hvl
            have h1r := H1 wr he
            clear H1
            go_upto_region 27 with (first
              | (go_at_call 36; refine h1r.mono ?_; rintro e w5 ⟨B1, d1, rfl, ⟨hs1, hs1b⟩, hx5, A5, c5, he5⟩; have hr5 := hr.chs hx5 (by show ¬ q = p; omega) (fun ad e e2 => hAp ad e e2); have h2r := H2 _ hr5)
              | (go_at_call 37; refine h2r.mono ?_; rintro e w55 ⟨B2, d2, rfl, hs2, hx6', j', hr6, hj'⟩; have hs1' := hs1.chs hx6' (fun _ ad e e2 => by have e3 := (hs1b ad e); have e4 : ad.block = q := e2; have := hr.blk.lt; omega); have hsm := same_n v B1 B2 d1 d2 v.length w55 rfl HV.out hs1' hs2)
              | (go_at_call 35; refine hsm.mono ?_; rintro e w6 ⟨rfl, hx66⟩))
            clear hsm hs1' hs2 hs1 hs1b h1r h2r
            obtain rfl := hj'
            have he6 := (he5.chs hx6' (by show ¬ p = q; omega) (fun i _ e e2 => hgq i e e2)).ext hx66
            have hr6 := hr6.ext hx66
            have hx6 : Ext w w6 := ((hx.see hx5 hpw).see hx6' hqw).trans hx66
            clear hx66 hx6' hx5 hr5 he5 H2 hr he
            have hjl : IntKind.i64.wrap ((xs.length : Int) - (j' : Int)) = ((xs.drop j').length : Int) := by rw [List.length_drop, IntKind.wrap_i64]; have := hr6.hi; omega
            have HL : Hid (∀ w', Ext w6 w' → Calls Try.prog 38 #[.pointer (some ⟨p, 0, none⟩)] w' fun e w2 => e = .returned (.int .i64 ((xs.drop j').length : Int)) ∧ w' = w2) := Lib.hid (fun w' hw' => left_any p g A5 c5 _ b' w' (he6.ext hw'))
            have HD : Hid (∀ w', Ext w6 w' → Calls Try.prog 40 #[.pointer (some ⟨p, 0, none⟩)] w' fun e w2 => e = .returned (.int .i64 (doneV (xs.drop j') b')) ∧ Ext w' w2) := Lib.hid (fun w' hw' => done_any p g A5 c5 _ b' w' (he6.ext hw'))
            have HR : Hid (∀ w', Ext w6 w' → Calls Try.prog 41 #[.pointer (some ⟨q, 0, none⟩)] w' fun e w2 => e = .returned (.int .i64 (doneV (xs.drop j') b')) ∧ Ext w' w2) := Lib.hid (fun w' hw' => rdone_eye q A3 c3 xs j' b' w' (hr6.ext hw'))
            have y0 : w6.cell? ⟨q, 0, none⟩ = some (.slice A3 xs.length c3) := hr6.blk.cell 0
            have y1 : w6.cell? ⟨q, 1, none⟩ = some (.int .i64 (j' : Int)) := hr6.blk.cell 1
            have l6 := hr6.blk.lt
            generalize doneV (xs.drop j') b' = dv at *
            generalize hLL : (xs.drop j').length = LL at *
            clear hLL
            refine wp_region_in _ (by kernel_rfl) (by kernel_rfl) (Ext.refl _) ?_
            repeat (refine wpQuiet_step (fun K hK => ?_); go_simp; first | (refine hK _ ?_; clear hK K) | (apply Exists.intro; refine ⟨fun w' hw' => ?_, hK _ ?_⟩; (first | (go_at_call 38; with_reducible exact qcall_same hw' (HL.out _ hw')) | (go_at_call 40; with_reducible exact qcall hw' (HD.out _ hw')) | (go_at_call 41; with_reducible exact qcall hw' (HR.out _ hw')) | (go_at_call 39; with_reducible exact qcall_same hw' (num_any _ _)) |  (have g0 := hw'.cell l6 y0; have g1 := hw'.cell l6 y1; go_simp; rfl)); clear hK K))
            refine wpQuiet_nil ?_
            intro w7 hx7
            have he7 := he6.ext hx7
            have hr7 := hr6.ext hx7
            clear HL HD HR y0 y1 l6 hjl he6 hr6
            go_wp2
            go_roundw
            case rel => exact ⟨k + 1, A5, c5, j', b', by omega, by go_num, hx6.trans hx7, he7, hr7⟩
            case measure => simp [intOf]; omega
          have he6 := he
          have hr6 := hr
          go_upto_region 27 with fail
          have hjl : IntKind.i64.wrap ((xs.length : Int) - (j : Int)) = ((xs.drop j).length : Int) := by rw [List.length_drop, IntKind.wrap_i64]; have := hr6.hi; omega
          have HL : Hid (∀ w', Ext wr w' → Calls Try.prog 38 #[.pointer (some ⟨p, 0, none⟩)] w' fun e w2 => e = .returned (.int .i64 ((xs.drop j).length : Int)) ∧ w' = w2) := Lib.hid (fun w' hw' => left_any p g A c _ bl w' (he6.ext hw'))
          have HD : Hid (∀ w', Ext wr w' → Calls Try.prog 40 #[.pointer (some ⟨p, 0, none⟩)] w' fun e w2 => e = .returned (.int .i64 (doneV (xs.drop j) bl)) ∧ Ext w' w2) := Lib.hid (fun w' hw' => done_any p g A c _ bl w' (he6.ext hw'))
          have HR : Hid (∀ w', Ext wr w' → Calls Try.prog 41 #[.pointer (some ⟨q, 0, none⟩)] w' fun e w2 => e = .returned (.int .i64 (doneV (xs.drop j) bl)) ∧ Ext w' w2) := Lib.hid (fun w' hw' => rdone_eye q A3 c3 xs j bl w' (hr6.ext hw'))
          have y0 : wr.cell? ⟨q, 0, none⟩ = some (.slice A3 xs.length c3) := hr6.blk.cell 0
          have y1 : wr.cell? ⟨q, 1, none⟩ = some (.int .i64 (j : Int)) := hr6.blk.cell 1
          have l6 := hr6.blk.lt
          generalize doneV (xs.drop j) bl = dv at *
          generalize hLL : (xs.drop j).length = LL at *
          clear hLL
          refine wp_region_in _ (by kernel_rfl) (by kernel_rfl) (Ext.refl _) ?_
          repeat (refine wpQuiet_step (fun K hK => ?_); go_simp; first | (refine hK _ ?_; clear hK K) | (apply Exists.intro; refine ⟨fun w' hw' => ?_, hK _ ?_⟩; (first | (go_at_call 38; with_reducible exact qcall_same hw' (HL.out _ hw')) | (go_at_call 40; with_reducible exact qcall hw' (HD.out _ hw')) | (go_at_call 41; with_reducible exact qcall hw' (HR.out _ hw')) | (go_at_call 39; with_reducible exact qcall_same hw' (num_any _ _)) |  (have g0 := hw'.cell l6 y0; have g1 := hw'.cell l6 y1; go_simp; rfl)); clear hK K))
          refine wpQuiet_nil ?_
          intro w7 hx7
          have he7 := he6.ext hx7
          have hr7 := hr6.ext hx7
          clear HL HD HR y0 y1 l6 hjl he6 hr6
          go_wp2
          go_roundw
          case rel => exact ⟨k + 1, A, c, j, bl, by omega, by go_num, hx.trans hx7, he7, hr7⟩
          case measure => simp [intOf]; omega
        · obtain rfl : k = ks.length := by omega
          go_wp2_with (go_at_call 12; refine (live_any _).mono ?_; rintro e w9 ⟨rfl, hx9⟩)
          go_ret
          exact ⟨rfl, hx.trans hx9⟩
end Go.Proofs.Ytbmpecfhflkbeaa
