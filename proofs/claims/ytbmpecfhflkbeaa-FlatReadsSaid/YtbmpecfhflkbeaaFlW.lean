/- Contracts: the reference lays. -/
import Derived.Test.YtbmpecfhflkbeaaFlU
namespace Go.Proofs.Ytbmpecfhflkbeaa
open Go.RowKit
set_option linter.unusedVariables false

/-- a slice of bytes of its maker's, from v to v' -/
structure RowTo (w : World) (v : Value) (w' : World) (v' : Value) (ys : List UInt8) : Prop where
  chs : Chs (fun i => v.ownBlock = some i) w w'
  own : OwnB w' 0 v' ys
  row : ∀ i, v'.ownBlock = some i → v.ownBlock = some i ∨ w.heap.size ≤ i
theorem RowTo.refl {w : World} {v : Value} {xs : List UInt8} (h : OwnB w 0 v xs) : RowTo w v w v xs := ⟨Chs.refl _ _, h, fun _ e => .inl e⟩
theorem RowTo.trans {a b c : World} {v v' v'' : Value} {ys zs : List UInt8} (h : RowTo a v b v' ys) (k : RowTo b v' c v'' zs) : RowTo a v c v'' zs :=
  ⟨h.chs.trans' k.chs (fun i hi e => by
    rcases h.row i e with e | e
    · exact e
    · omega), k.own, fun i e => by
    rcases k.row i e with e | e
    · exact h.row i e
    · exact .inr (Nat.le_trans h.chs.size e)⟩
theorem RowTo.app {a b : World} {v v' : Value} {ys zs : List UInt8} (h : RowTo a v b v' ys) (e : ys = zs) : RowTo a v b v' zs := e ▸ h
theorem Ext.rowTo {a b c : World} {v v' : Value} {ys : List UInt8} (h : Ext a b) (k : RowTo b v c v' ys) : RowTo a v c v' ys :=
  ⟨(Chs.of_ext h).trans k.chs, k.own, fun i e => (k.row i e).imp (fun e => e) (Nat.le_trans h.size)⟩
theorem row_put {wr W0 w1 : World} {v v1 : Value} {zs : List UInt8} (hx : Ext wr W0) (hg : W0.grownBy w1 v.ownBlock) (hown : w1.ownsRow 0 5 1 v1 zs.length (u8s zs)) (hat : v1.ownBlock = v.ownBlock ∨ v1.ownBlock = some W0.heap.size) : RowTo wr v w1 v1 zs :=
  ⟨Chs.grown (.of_ext hx) hg (fun i e => .inl e), hown, fun i e => by
    rcases hat with h | h
    · exact .inl (h ▸ e)
    · rw [h] at e
      injection e with e
      exact .inr (by have := hx.size; omega)⟩
theorem shr_step (n k : Nat) : (n : Int) / 2 ^ (8 * k) = ((n / 256 ^ k : Nat) : Int) := by
  rw [show (256 : Nat) ^ k = 2 ^ (8 * k) by rw [Nat.pow_mul]]
  push_cast
  rfl

set_option maxRecDepth 100000 in
theorem rlow_any (v : Value) (xs : List UInt8) (n many : Nat) (w : World) (ho : OwnB w 0 v xs) (hn : n < 18446744073709551616) (hm : many ≤ 8) (hl : xs.length ≤ 1099511627776) :
    Calls Try.prog 47 #[v, .int .u64 (n : Int), .int .i64 (many : Int)] w fun e w' => ∃ v', e = .returned v' ∧ RowTo w v w' v' (xs ++ lowB n many) := by
  obtain ⟨A, c, rfl, hnn⟩ := own_form1 ho
  go_enter Try.func47, Try.ntmps47
  go_wp2
  go_loopw [7, 0] (fun i b wr => ∃ (k : Nat) (v' : Value), k ≤ many ∧ i = .int .i64 k ∧ b = v' ∧ RowTo w (.slice A xs.length c) wr v' (xs ++ lowB n k)) (fun i _ _ => many - (intOf i).toNat)
  case atStart => exact ⟨0, _, by omega, rfl, rfl, by simpa [lowB] using RowTo.refl ho⟩
  case round =>
    obtain ⟨k, v', hk, rfl, rfl, hpn⟩ := hrel
    by_cases hlt : k < many
    · obtain ⟨A', c', rfl, hnn'⟩ := own_form1 hpn.own
      have hT := Lib.hid (lowB_succ n k)
      have hlen : (xs ++ lowB n k).length + 1 ≤ 1099511627800 := by rw [List.length_append, lowB_len]; omega
      have hL := Lib.hid hlen
      clear hlen
      obtain ⟨i0, hi0, hz0, hz1, hz2⟩ := info_parts u8_info
      have hq := shr_step n k
      generalize n / 256 ^ k = q at *
      have hrd := reads_new1 wr (.int .u8 ((q : Int) % 256)) 5
      have ho' := hpn.own.alloc (.cells #[.int .u8 ((q : Int) % 256)] 5)
      go_wp2_with (at_builtin; (refine wpList_append_any _ rfl (.tmp 13) (.tmp 20) _ rfl 0 5 i0 _ 1 1 Try.underlying22 hi0 hz0 hz1 hz2 rfl (by decide) (.slice A' (xs ++ lowB n k).length c') _ (u8s (xs ++ lowB n k)) (by simp [Act.eval]) ho' (wr.heap.size + 1) (some ⟨wr.heap.size, 0, none⟩) 1 1 [.int .u8 ((q : Int) % 256)] rfl hrd (by intro u hu; simp at hu; subst hu; rfl) (by have := hL.out; simp only [maxLen]; omega) (by have := hL.out; omega) (by omega) ?_); intro v1 w1 hown hg hat; have hR := row_put ((Ext.refl wr).alloc _) hg (own_app hown rfl rfl (u8_lit q).symm) hat; clear hown hg hat; obtain ⟨A1, c1, rfl, hn1⟩ := own_form1 hR.own)
      go_roundw
      case rel =>
        refine ⟨k + 1, .slice A1 (xs ++ lowB n k ++ [UInt8.ofNat q]).length c1, by omega, by go_num, by simp, (hpn.trans hR).app ?_⟩
        rw [List.append_assoc, ← hT.out]
      case measure => simp [intOf]; omega
    · obtain rfl : k = many := by omega
      go_wp2
      go_ret
      exact ⟨_, rfl, hpn⟩

theorem rint_any (v : Value) (xs : List UInt8) (n : Int) (w : World) (ho : OwnB w 0 v xs) (hl : xs.length ≤ 1099511627776) :
    Calls Try.prog 20 #[v, .int .i64 n] w fun e w' => ∃ v', e = .returned v' ∧ RowTo w v w' v' (xs ++ intB n) := by
  have hi : IntKind.u64.wrap n = ((toU n : Nat) : Int) := by rw [IntKind.wrap_u64, toU_eq]
  have hi2 := toU_lt n
  obtain ⟨A, c, rfl, hnn⟩ := own_form1 ho
  have hlow := rlow_any (.slice A xs.length c) xs (toU n) 8 w ho hi2 (by omega) hl
  go_enter Try.func20, Try.ntmps20
  go_wp2_with (go_at_call 47; refine hlow.mono ?_; rintro e w1 ⟨v1, rfl, hR⟩; obtain ⟨A1, c1, rfl, hn1⟩ := own_form1 hR.own)
  go_ret
  exact ⟨.slice A1 (xs ++ lowB (toU n) 8).length c1, by simp, hR⟩
set_option maxRecDepth 100000 in
theorem rtext_any (v : Value) (xs : List UInt8) (a : ByteArray) (w : World) (ho : OwnB w 0 v xs) (hl : xs.length ≤ 1099511627776) :
    Calls Try.prog 21 #[v, .string a] w fun e w' => ∃ v', e = .returned v' ∧ RowTo w v w' v' (xs ++ textB a) := by
  obtain ⟨A, c, rfl, hnn⟩ := own_form1 ho
  have hC := Lib.hid (show textB a = lowB (cutS a).size 4 ++ bs (cutS a) from rfl)
  have hx := cutS_eq a
  have hsz := cutS_size a
  obtain ⟨m, hm⟩ : ∃ m, m = min a.size 1048576 := ⟨_, rfl⟩
  have hmin : (if (1048576 : Int) < (a.size : Int) then (1048576 : Int) else (a.size : Int)) = ((m : Nat) : Int) := by split <;> omega
  have hmn : min m a.size = m := by omega
  have hm2 : m ≤ 1048576 := by omega
  rw [← hm] at hx hsz
  clear hm
  generalize cutS a = ca at *
  obtain ⟨i0, hi0, hz0, hz1, hz2⟩ := info_parts u8_info
  have hl2 := Lib.hid ((@List.length_append _ xs (lowB m 4)).trans (by rw [lowB_len]))
  have hlow := rlow_any (.slice A xs.length c) xs m 4 w ho (by omega) (by omega) hl
  have HB := Lib.hid (And.intro hl hm2)
  clear hl hm2
  go_enter Try.func21, Try.ntmps21
  go_wp2_with (first
    | (go_at_call 47; refine hlow.mono ?_; rintro e w1 ⟨v1, rfl, hR⟩; obtain ⟨A1, c1, rfl, hn1⟩ := own_form1 hR.own)
    | (at_builtin; (refine wpList_append_str _ rfl (.tmp 14) (.tmp 15) _ _ rfl 0 5 i0 Try.underlying22 Try.underlying9 hi0 hz0 hz1 hz2 (.slice A1 (xs ++ lowB m 4).length c1) _ (u8s (xs ++ lowB m 4)) (by simp [Act.eval]) hR.own ca (by simp [Act.eval]) (by have := HB.out; have := hl2.out; simp only [maxLen]; omega) (by have := HB.out; have := hl2.out; omega) (by omega) ?_); intro v2 w2 hown hg hat; have hR2 := row_put (Ext.refl w1) hg (own_app (ys := bs ca) hown rfl (bs_len ca).symm rfl) hat; clear hown hg hat; obtain ⟨A2, c2, rfl, hn2⟩ := own_form1 hR2.own))
  go_ret
  exact ⟨.slice A2 (xs ++ lowB m 4 ++ bs ca).length c2, by simp, (hR.trans hR2).app (by rw [hC.out, hsz, List.append_assoc])⟩
set_option maxRecDepth 100000 in
theorem rbool_any (v : Value) (xs : List UInt8) (t : Bool) (w : World) (ho : OwnB w 0 v xs) (hl : xs.length ≤ 1099511627776) :
    Calls Try.prog 44 #[v, .bool t] w fun e w' => ∃ v', e = .returned v' ∧ RowTo w v w' v' (xs ++ boolB t) := by
  obtain ⟨A, c, rfl, hnn⟩ := own_form1 ho
  obtain ⟨i0, hi0, hz0, hz1, hz2⟩ := info_parts u8_info
  have HB := Lib.hid hl
  clear hl
  cases t with
  | true =>
    have hrd := reads_new1 w (.int .u8 1) 5
    have ho' := ho.alloc (.cells #[.int .u8 1] 5)
    go_enter Try.func44, Try.ntmps44
    go_wp2_with (at_builtin; (refine wpList_append_any _ rfl (.tmp 6) (.tmp 7) _ rfl 0 5 i0 _ 1 1 Try.underlying22 hi0 hz0 hz1 hz2 rfl (by decide) (.slice A xs.length c) _ (u8s xs) (by simp [Act.eval]) ho' (w.heap.size + 1) (some ⟨w.heap.size, 0, none⟩) 1 1 [.int .u8 1] rfl hrd (by intro u hu; simp at hu; subst hu; rfl) (by have := HB.out; simp only [maxLen]; omega) (by have := HB.out; omega) (by omega) ?_); intro v1 w1 hown hg hat; have hR := row_put ((Ext.refl w).alloc _) hg (own_app (ys := [1]) hown rfl rfl rfl) hat; clear hown hg hat; obtain ⟨A1, c1, rfl, hn1⟩ := own_form1 hR.own)
    go_ret
    exact ⟨.slice A1 (xs ++ [1]).length c1, by simp, hR⟩
  | false =>
    have hrd := reads_new1 w (.int .u8 0) 5
    have ho' := ho.alloc (.cells #[.int .u8 0] 5)
    go_enter Try.func44, Try.ntmps44
    go_wp2_with (at_builtin; (refine wpList_append_any _ rfl (.tmp 9) (.tmp 10) _ rfl 0 5 i0 _ 1 1 Try.underlying22 hi0 hz0 hz1 hz2 rfl (by decide) (.slice A xs.length c) _ (u8s xs) (by simp [Act.eval]) ho' (w.heap.size + 1) (some ⟨w.heap.size, 0, none⟩) 1 1 [.int .u8 0] rfl hrd (by intro u hu; simp at hu; subst hu; rfl) (by have := HB.out; simp only [maxLen]; omega) (by have := HB.out; omega) (by omega) ?_); intro v1 w1 hown hg hat; have hR := row_put ((Ext.refl w).alloc _) hg (own_app (ys := [0]) hown rfl rfl rfl) hat; clear hown hg hat; obtain ⟨A1, c1, rfl, hn1⟩ := own_form1 hR.own)
    go_ret
    exact ⟨.slice A1 (xs ++ [0]).length c1, by simp, hR⟩
end Go.Proofs.Ytbmpecfhflkbeaa
