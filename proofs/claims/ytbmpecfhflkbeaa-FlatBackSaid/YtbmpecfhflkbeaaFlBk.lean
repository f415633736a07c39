/- The walk of FlatBack. -/
import Derived.Test.YtbmpecfhflkbeaaFlSa
namespace Go.Proofs.Ytbmpecfhflkbeaa
open Go.RowKit
set_option linter.unusedVariables false

theorem part_inv {T : Type} (r : List UInt8 → Option (T × List UInt8)) (more : ∀ ys t zs v, r ys = some (v, zs) → r (ys ++ t) = some (v, zs ++ t)) (bl : Bool) (ys t E R : List UInt8) (x z : T) (hI : bl = true ∨ (bl = false ∧ ys ++ t = E ++ R)) (hb : r (E ++ R) = some (x, R)) :
    (after bl ys (r ys) z).2.2 = true ∨ ((after bl ys (r ys) z).2.2 = false ∧ (after bl ys (r ys) z).2.1 ++ t = R) := by
  rcases hI with rfl | ⟨rfl, h⟩
  · left; rfl
  · exact part_read r more ys t R x z (by rw [h]; exact hb)
theorem lay_drop (l : List Thing) (k : Nat) (hk : k < l.length) : (l.drop k).flatMap layB = layB l[k] ++ (l.drop (k + 1)).flatMap layB := by rw [List.drop_eq_getElem_cons hk, List.flatMap_cons]

set_option maxHeartbeats 8000000 in
set_option maxRecDepth 100000 in
theorem flatBack_walk (A0 : Option Addr) (n0 c0 : Nat) (l : List Thing) (cut : Int) (w : World) (h0 : ThingsIn w A0 n0 c0 l) (hcut : (Lit.int .i64 cut).wf = true) :
    Calls Try.prog 10 #[.slice A0 n0 c0, .int .i64 cut] w fun e w' => e = .returned (.bool true) ∧ Ext w w' := by
  have hS := small_any l A0 n0 c0 w h0
  cases hsm : smallV l with
  | false =>
    rw [hsm] at hS
    clear h0
    go_enter Try.func10, Try.ntmps10
    go_wp2_with (first | (go_at_call 18; refine hS.mono ?_; rintro e w0 ⟨rfl, hx0⟩) | (go_at_call 12; refine (live_any _).mono ?_; rintro e w1 ⟨rfl, hx1⟩))
    go_ret
    exact ⟨rfl, (by repeat (first | assumption | exact Ext.refl _ | (with_reducible refine Ext.alloc ?_ _) | (with_reducible refine Ext.drew ?_) | refine Ext.trans ?_ (by assumption)))⟩
  | true =>
    rw [hsm] at hS
    unfold smallV at hsm
    simp only [Bool.and_eq_true, decide_eq_true_eq] at hsm
    obtain ⟨hl60, hlT⟩ := hsm
    have HL : (l.flatMap layB).length ≤ 20960 := by
      have h1 := lay_len l (fun x hx => (h0.good x hx).sts.len)
      omega
    have HBK : Hid (∀ x ∈ l, bulkT x ≤ 20000) := Lib.hid (fun x hx => by
      obtain ⟨k, hk, rfl⟩ := List.mem_iff_getElem.1 hx
      have h1 := sumT_mono l (k + 1)
      rw [sumT_take l k hk] at h1
      omega)
    have hlay := fun w0 (hx : Ext w w0) => lay_any l A0 n0 c0 w0 (h0.ext hx) hl60 hlT
    clear hlT
    obtain ⟨rfl, _, _, _, hr, hg⟩ := h0
    have HG := Lib.hid hg
    clear hg hcut
    have hLL := Lib.hid HL
    generalize hLB : l.flatMap layB = LB at *
    have HLB := Lib.hid hLB
    clear hLB HL
    go_enter Try.func10, Try.ntmps10
    go_wp2_with (first
      | (go_at_call 18; refine hS.mono ?_; rintro e w0 ⟨rfl, hx0⟩)
      | (go_at_call 19; refine (hlay w0 hx0).mono ?_; rintro e w1 ⟨hx1, A3, c3, A4, c4, rfl, ha, hb, hna, hnb, hcap⟩; have hop := open_any LB A3 c3 w1 (by have := hLL.out; omega) ha hna)
      | (go_at_call 24; refine hop.mono ?_; rintro e w2 ⟨hx2, p, g, A2, c2, rfl, hp, hgg, he1⟩))
    have hxw0 := hx0.trans hx1
    have hpw : w.heap.size ≤ p := by have := hx0.size; have := hx1.size; omega
    clear hlay hS hop hx0 hb hnb
    go_loopw [8] (fun i wr => ∃ (k : Nat) (A : Option Addr) (c : Nat), k ≤ l.length ∧ i = .int .i64 k ∧ Ext w1 wr ∧ EyeAt wr p g A c ((l.drop k).flatMap layB) false) (fun i _ => l.length - (intOf i).toNat)
    case atStart => exact ⟨0, A2, c2, by omega, rfl, hx2, by rw [List.drop_zero, HLB.out]; exact he1⟩
    case round =>
      clear he1 hx2
      obtain ⟨k, A5, c5, hk, rfl, hx, he⟩ := hrel
      by_cases hlt : k < l.length
      · have hxwr : Ext w wr := hxw0.trans hx
        obtain ⟨b, o, rfl, hbl, hcell⟩ := (hr.ext hxwr).c7 k hlt
        have hT := Lib.hid (lay_drop l k hlt)
        have hBk := HBK.out l[k] (List.getElem_mem hlt)
        have hGk := Lib.hid (HG.out l[k] (List.getElem_mem hlt))
        have q0 : wr.cell? ⟨b, o + k * 7, none⟩ = some (.int .i64 l[k].k) := hcell 0 _ rfl
        have q1 := hcell 1 _ rfl
        have q2 := hcell 2 _ rfl
        have q3 := hcell 3 _ rfl
        have q4 := hcell 4 _ rfl
        have q5 := hcell 5 _ rfl
        have q6 := hcell 6 _ rfl
        clear hcell
        generalize l[k] = x at *
        obtain ⟨xk, xn, xs, xb, ⟨xt, xu⟩, xA, xm, xc, xl⟩ := x
        unfold bulkT at hBk
        dsimp only at q0 q1 q2 q3 q4 q5 q6 hBk
        have hBK := Lib.hid hBk
        clear hBk
        generalize hR : (l.drop (k + 1)).flatMap layB = R at *
        have HR := Lib.hid hR
        clear hR
        have hxc := (Ext.refl wr).alloc (.cells #[.int .i64 xk, .int .i64 xn, .string xs, .bool xb, .int .i64 xt, .int .i64 xu, .slice xA xm xc] 69)
        have hBc := (Blk.new wr 69 #[.int .i64 xk, .int .i64 xn, .string xs, .bool xb, .int .i64 xt, .int .i64 xu, .slice xA xm xc]).drew
        have hed := he.ext hxc.drew
        rw [hT.out] at hed
        have hgp : wr.heap.size ≠ p := by have := he.blk.lt; omega
        clear he
        by_cases k0 : xk = 0
        · subst k0
          have hed' : EyeAt ((wr.alloc (.cells #[.int .i64 0, .int .i64 xn, .string xs, .bool xb, .int .i64 xt, .int .i64 xu, .slice xA xm xc] 69)).drew) p g A5 c5 (intB xn ++ R) false := by simpa [layB] using hed
          clear hed
          have r0 : Calls Try.prog 27 #[.pointer (some ⟨p, 0, none⟩)] ((wr.alloc (.cells #[.int .i64 0, .int .i64 xn, .string xs, .bool xb, .int .i64 xt, .int .i64 xu, .slice xA xm xc] 69)).drew) fun e w1 => e = .returned (.int .i64 xn) ∧ (w1.cell? ⟨wr.heap.size, 1, none⟩ = some (.int .i64 xn)) ∧ Chs (isP p) ((wr.alloc (.cells #[.int .i64 0, .int .i64 xn, .string xs, .bool xb, .int .i64 xt, .int .i64 xu, .slice xA xm xc] 69)).drew) w1 ∧ ∃ A c, EyeAt w1 p g A c R false := by
            have h := eye_int p g A5 c5 (intB xn ++ R) false _ hed'
            unfold Seen at h
            rw [after_some (intB xn ++ R) R _ ((0 : Int)) _ (intR_back xn R hGk.out.n64)] at h
            refine h.mono ?_
            rintro e w1 ⟨he1, hch, hE⟩
            have hB1 := hBc.chs hch hgp
            exact ⟨he1, hB1.cell 1, hch, hE⟩
          clear hed'
          have S0 : (wr.alloc (.cells #[.int .i64 0, .int .i64 xn, .string xs, .bool xb, .int .i64 xt, .int .i64 xu, .slice xA xm xc] 69)).drew.cell? ⟨wr.heap.size, 1, none⟩ = some (.int .i64 xn) := hBc.cell 1
          go_upto_region 14 with fail
          generalize wr.heap.size = gb at *
          clear hT hBK hGk q0 q1 q2 q3 q4 q5 q6 hBc
          go_region_with
            (go_at_call 27; with_reducible refine r0.mono ?_; rintro e w4 ⟨rfl, hS4, hch4, A6, c6, he6⟩)
          all_goals
            have hx5 : Ext w1 w4 := ((hx.trans hxc).drew).see hch4 hp
            clear r0 S0 hxc
            go_wp2
            go_roundw
            case rel => exact ⟨k + 1, A6, c6, by omega, by go_num, hx5, by rw [HR.out]; exact he6⟩
            case measure => simp [intOf]; omega
        by_cases k1 : xk = 1
        · subst k1
          have hed' : EyeAt ((wr.alloc (.cells #[.int .i64 1, .int .i64 xn, .string xs, .bool xb, .int .i64 xt, .int .i64 xu, .slice xA xm xc] 69)).drew) p g A5 c5 (textB xs ++ R) false := by simpa [layB] using hed
          clear hed
          have r0 : Calls Try.prog 29 #[.pointer (some ⟨p, 0, none⟩)] ((wr.alloc (.cells #[.int .i64 1, .int .i64 xn, .string xs, .bool xb, .int .i64 xt, .int .i64 xu, .slice xA xm xc] 69)).drew) fun e w1 => e = .returned (.string xs) ∧ (w1.cell? ⟨wr.heap.size, 2, none⟩ = some (.string xs)) ∧ Chs (isP p) ((wr.alloc (.cells #[.int .i64 1, .int .i64 xn, .string xs, .bool xb, .int .i64 xt, .int .i64 xu, .slice xA xm xc] 69)).drew) w1 ∧ ∃ A c, EyeAt w1 p g A c R false := by
            have h := eye_text p g A5 c5 (textB xs ++ R) false _ hed'
            unfold Seen at h
            rw [after_some (textB xs ++ R) R _ (ByteArray.empty) _ (textR_back xs R (by have := hBK.out; omega))] at h
            refine h.mono ?_
            rintro e w1 ⟨he1, hch, hE⟩
            have hB1 := hBc.chs hch hgp
            exact ⟨he1, hB1.cell 2, hch, hE⟩
          clear hed'
          have S0 : (wr.alloc (.cells #[.int .i64 1, .int .i64 xn, .string xs, .bool xb, .int .i64 xt, .int .i64 xu, .slice xA xm xc] 69)).drew.cell? ⟨wr.heap.size, 2, none⟩ = some (.string xs) := hBc.cell 2
          go_upto_region 16 with fail
          generalize wr.heap.size = gb at *
          clear hT hBK hGk q0 q1 q2 q3 q4 q5 q6 hBc
          go_region_with
            (go_at_call 29; with_reducible refine r0.mono ?_; rintro e w4 ⟨rfl, hS4, hch4, A6, c6, he6⟩)
          all_goals
            have hx5 : Ext w1 w4 := ((hx.trans hxc).drew).see hch4 hp
            clear r0 S0 hxc
            go_wp2
            go_roundw
            case rel => exact ⟨k + 1, A6, c6, by omega, by go_num, hx5, by rw [HR.out]; exact he6⟩
            case measure => simp [intOf]; omega
        by_cases k2 : xk = 2
        · subst k2
          have hed' : EyeAt ((wr.alloc (.cells #[.int .i64 2, .int .i64 xn, .string xs, .bool xb, .int .i64 xt, .int .i64 xu, .slice xA xm xc] 69)).drew) p g A5 c5 (boolB xb ++ R) false := by simpa [layB] using hed
          clear hed
          have r0 : Calls Try.prog 31 #[.pointer (some ⟨p, 0, none⟩)] ((wr.alloc (.cells #[.int .i64 2, .int .i64 xn, .string xs, .bool xb, .int .i64 xt, .int .i64 xu, .slice xA xm xc] 69)).drew) fun e w1 => e = .returned (.bool xb) ∧ (w1.cell? ⟨wr.heap.size, 3, none⟩ = some (.bool xb)) ∧ Chs (isP p) ((wr.alloc (.cells #[.int .i64 2, .int .i64 xn, .string xs, .bool xb, .int .i64 xt, .int .i64 xu, .slice xA xm xc] 69)).drew) w1 ∧ ∃ A c, EyeAt w1 p g A c R false := by
            have h := eye_bool p g A5 c5 (boolB xb ++ R) false _ hed'
            unfold Seen at h
            rw [after_some (boolB xb ++ R) R _ (false) _ (boolR_back xb R)] at h
            refine h.mono ?_
            rintro e w1 ⟨he1, hch, hE⟩
            have hB1 := hBc.chs hch hgp
            exact ⟨he1, hB1.cell 3, hch, hE⟩
          clear hed'
          have S0 : (wr.alloc (.cells #[.int .i64 2, .int .i64 xn, .string xs, .bool xb, .int .i64 xt, .int .i64 xu, .slice xA xm xc] 69)).drew.cell? ⟨wr.heap.size, 3, none⟩ = some (.bool xb) := hBc.cell 3
          go_upto_region 18 with fail
          generalize wr.heap.size = gb at *
          clear hT hBK hGk q0 q1 q2 q3 q4 q5 q6 hBc
          go_region_with
            (go_at_call 31; with_reducible refine r0.mono ?_; rintro e w4 ⟨rfl, hS4, hch4, A6, c6, he6⟩)
          all_goals
            have hx5 : Ext w1 w4 := ((hx.trans hxc).drew).see hch4 hp
            clear r0 S0 hxc
            go_wp2
            go_roundw
            case rel => exact ⟨k + 1, A6, c6, by omega, by go_num, hx5, by rw [HR.out]; exact he6⟩
            case measure => simp [intOf]; omega
        by_cases k3 : xk = 3
        · subst k3
          have hed' : EyeAt ((wr.alloc (.cells #[.int .i64 3, .int .i64 xn, .string xs, .bool xb, .int .i64 xt, .int .i64 xu, .slice xA xm xc] 69)).drew) p g A5 c5 (stampB ⟨xt, xu⟩ ++ R) false := by simpa [layB] using hed
          clear hed
          have r0 : Calls Try.prog 33 #[.pointer (some ⟨p, 0, none⟩)] ((wr.alloc (.cells #[.int .i64 3, .int .i64 xn, .string xs, .bool xb, .int .i64 xt, .int .i64 xu, .slice xA xm xc] 69)).drew) fun e w1 => e = .returned (.agg #[.int .i64 xt, .int .i64 xu]) ∧ (w1.cell? ⟨wr.heap.size, 4, none⟩ = some (.int .i64 xt) ∧ w1.cell? ⟨wr.heap.size, 5, none⟩ = some (.int .i64 xu)) ∧ Chs (isP p) ((wr.alloc (.cells #[.int .i64 3, .int .i64 xn, .string xs, .bool xb, .int .i64 xt, .int .i64 xu, .slice xA xm xc] 69)).drew) w1 ∧ ∃ A c, EyeAt w1 p g A c R false := by
            have h := eye_stamp p g A5 c5 (stampB ⟨xt, xu⟩ ++ R) false _ hed'
            unfold Seen at h
            rw [after_some (stampB ⟨xt, xu⟩ ++ R) R _ (St.z) _ (stampR_back ⟨xt, xu⟩ R hGk.out.st)] at h
            refine h.mono ?_
            rintro e w1 ⟨he1, hch, hE⟩
            have hB1 := hBc.chs hch hgp
            exact ⟨he1, ⟨hB1.cell 4, hB1.cell 5⟩, hch, hE⟩
          clear hed'
          have S0 : (wr.alloc (.cells #[.int .i64 3, .int .i64 xn, .string xs, .bool xb, .int .i64 xt, .int .i64 xu, .slice xA xm xc] 69)).drew.cell? ⟨wr.heap.size, 4, none⟩ = some (.int .i64 xt) ∧ (wr.alloc (.cells #[.int .i64 3, .int .i64 xn, .string xs, .bool xb, .int .i64 xt, .int .i64 xu, .slice xA xm xc] 69)).drew.cell? ⟨wr.heap.size, 5, none⟩ = some (.int .i64 xu) := ⟨hBc.cell 4, hBc.cell 5⟩
          go_upto_region 20 with fail
          generalize wr.heap.size = gb at *
          clear hT hBK hGk q0 q1 q2 q3 q4 q5 q6 hBc
          go_region_with
            (go_at_call 33; with_reducible refine r0.mono ?_; rintro e w4 ⟨rfl, hS4, hch4, A6, c6, he6⟩)
          all_goals
            have hx5 : Ext w1 w4 := ((hx.trans hxc).drew).see hch4 hp
            clear r0 S0 hxc
            go_wp2
            go_roundw
            case rel => exact ⟨k + 1, A6, c6, by omega, by go_num, hx5, by rw [HR.out]; exact he6⟩
            case measure => simp [intOf]; omega
        by_cases k4 : xk = 4
        · subst k4
          obtain ⟨hsts, _, _, _⟩ := hGk.out
          dsimp only at hsts
          obtain ⟨rfl, _, _, _, hsr, hsin⟩ := hsts
          have hed' : EyeAt ((wr.alloc (.cells #[.int .i64 4, .int .i64 xn, .string xs, .bool xb, .int .i64 xt, .int .i64 xu, .slice xA xl.length xc] 69)).drew) p g A5 c5 (stampsB xl ++ R) false := by simpa [layB] using hed
          clear hed
          have hxl : xl.length ≤ 20000 := by have := hBK.out; omega
          have r0 : Calls Try.prog 36 #[.pointer (some ⟨p, 0, none⟩)] ((wr.alloc (.cells #[.int .i64 4, .int .i64 xn, .string xs, .bool xb, .int .i64 xt, .int .i64 xu, .slice xA xl.length xc] 69)).drew) fun e w1 => ∃ B d, e = .returned (.slice B xl.length d) ∧ w1.cell? ⟨wr.heap.size, 6, none⟩ = some (.slice xA xl.length xc) ∧ Chs (isP p) ((wr.alloc (.cells #[.int .i64 4, .int .i64 xn, .string xs, .bool xb, .int .i64 xt, .int .i64 xu, .slice xA xl.length xc] 69)).drew) w1 ∧ (∃ A c, EyeAt w1 p g A c R false) ∧
              Calls Try.prog 35 #[.slice B xl.length d, .slice xA xl.length xc] w1 fun e w2 => e = .returned (.bool true) ∧ w2.cell? ⟨wr.heap.size, 6, none⟩ = some (.slice xA xl.length xc) ∧ Ext w1 w2 := by
            have h := eye_stamps p g A5 c5 (stampsB xl ++ R) false _ hed'
            unfold Seen at h
            rw [after_some (stampsB xl ++ R) R _ ([] : List St) _ (stampsR_back xl R hsin (by omega))] at h
            refine h.mono ?_
            rintro e w1 ⟨B, d, he1, ⟨hst, _⟩, hch, hE⟩
            have hB1 := hBc.chs hch hgp
            have hx1' : Ext w w1 := (hxwr.trans hxc.drew).see hch hpw
            refine ⟨B, d, he1, hB1.cell 6, hch, hE, (same_n xl B xA d xc xl.length w1 rfl (by omega) hst (hsr.ext hx1')).mono ?_⟩
            rintro e w2 ⟨e2, hx2⟩
            exact ⟨e2, (hB1.ext hx2).cell 6, hx2⟩
          clear hed' hxl
          have S0 : ((wr.alloc (.cells #[.int .i64 4, .int .i64 xn, .string xs, .bool xb, .int .i64 xt, .int .i64 xu, .slice xA xl.length xc] 69)).drew).cell? ⟨wr.heap.size, 6, none⟩ = some (.slice xA xl.length xc) := hBc.cell 6
          go_upto_region 22 with fail
          generalize wr.heap.size = gb at *
          clear hT hBK q0 q1 q2 q3 q4 q5 q6 hBc
          go_region_with
            (first
              | (go_at_call 36; with_reducible refine r0.mono ?_; rintro e w4 ⟨B4, d4, rfl, hS4, hch4, ⟨A6, c6, he6⟩, rs⟩)
              | (go_at_call 35; with_reducible refine rs.mono ?_; rintro e w5 ⟨rfl, hS5, hx5'⟩))
          all_goals
            have hx5 : Ext w1 w5 := (((hx.trans hxc).drew).see hch4 hp).trans hx5'
            clear r0 rs S0 hxc
            go_wp2
            go_roundw
            case rel => exact ⟨k + 1, A6, c6, by omega, by go_num, hx5, by rw [HR.out]; exact he6.ext hx5'⟩
            case measure => simp [intOf]; omega
        · have hR0 : Hid (layB ⟨xk, xn, xs, xb, ⟨xt, xu⟩, xA, xm, xc, xl⟩ = []) := Lib.hid (by simp [layB, k0, k1, k2, k3, k4])
          rw [hR0.out, List.nil_append] at hed
          clear hBc
          have he7 : EyeAt (wr.alloc (.cells #[.int .i64 xk, .int .i64 xn, .string xs, .bool xb, .int .i64 xt, .int .i64 xu, .slice xA xm xc] 69)) p g A5 c5 R false := ⟨hed.blk, hed.row, hed.cap, hed.in_, hed.ne, hed.lt, hed.none_, hed.max_⟩
          go_wp2
          go_roundw
          case rel => exact ⟨k + 1, A5, c5, by omega, by go_num, hx.trans hxc, by rw [HR.out]; simpa using he7⟩
          case measure => simp [intOf]; omega
      · obtain rfl : k = l.length := by omega
        rw [List.drop_length, List.flatMap_nil] at he
        have hD := done_any p g A5 c5 [] false wr he
        have dV : doneV [] false = 0 := rfl
        have hLf : Calls Try.prog 38 #[.pointer (some ⟨p, 0, none⟩)] = Calls Try.prog 38 #[.pointer (some ⟨p, 0, none⟩)] := rfl
        have hLft := fun w' (h : Ext wr w') => left_any p g A5 c5 [] false w' (he.ext h)
        simp only [List.length_nil] at hLft
        clear hLf
        by_cases hc0 : cut < 0
        · go_wp2_with (first
            | (go_at_call 40; refine hD.mono ?_; rintro e w5 ⟨rfl, hx5⟩)
            | (go_at_call 38; refine (hLft _ hx5).mono ?_; rintro e w6 ⟨rfl, rfl⟩)
            | (go_at_call 39; refine (num_any _ _).mono ?_; rintro e w' ⟨rfl, rfl⟩)
            | (go_at_call 12; refine (live_any _).mono ?_; rintro e w9 ⟨rfl, hx9⟩))
          go_ret
          exact ⟨rfl, ((hxw0.trans hx).trans hx5).trans hx9⟩
        obtain ⟨cu, rfl⟩ : ∃ m : Nat, cut = (m : Int) := ⟨cut.toNat, by omega⟩
        by_cases hc1 : LB.length ≤ cu
        · clear hc0
          go_wp2_with (first
            | (go_at_call 40; refine hD.mono ?_; rintro e w5 ⟨rfl, hx5⟩)
            | (go_at_call 38; refine (hLft _ hx5).mono ?_; rintro e w6 ⟨rfl, rfl⟩)
            | (go_at_call 39; refine (num_any _ _).mono ?_; rintro e w' ⟨rfl, rfl⟩)
            | (go_at_call 12; refine (live_any _).mono ?_; rintro e w9 ⟨rfl, hx9⟩))
          go_ret
          exact ⟨rfl, ((hxw0.trans hx).trans hx5).trans hx9⟩
        clear hc0
        have hcl : cu ≤ c3 := by omega
        have htl : (LB.take cu).length = cu := by rw [List.length_take]; omega
        have hO := fun w' (h : Ext w1 w') => open_any (LB.take cu) A3 c3 w' (by have := hLL.out; omega) ((ha.ext h).take cu) hna
        rw [htl] at hO
        have htc : LB.take cu ++ LB.drop cu = LB := List.take_append_drop _ _
        have hdn : LB.drop cu ≠ [] := fun e => by rw [List.drop_eq_nil_iff] at e; omega
        generalize LB.take cu = YS at *
        generalize LB.drop cu = TS at *
        have HTC := Lib.hid htc
        have HDN := Lib.hid hdn
        clear htc hdn htl ha hna
        go_wp2_with (first
            | (go_at_call 40; refine hD.mono ?_; rintro e w5 ⟨rfl, hx5⟩)
            | (go_at_call 38; refine (hLft _ hx5).mono ?_; rintro e w6 ⟨rfl, rfl⟩)
            | (go_at_call 24; refine (hO _ (hx.trans hx5)).mono ?_; rintro e w7 ⟨hx7, pf, gf, A7, c7, rfl, hpf, hgf, hef⟩)
            | (go_at_call 39; refine (num_any _ _).mono ?_; rintro e w' ⟨rfl, rfl⟩))
        have hxf := ((hxw0.trans hx).trans hx5).trans hx7
        have hpfw : w.heap.size ≤ pf := by have := ((hxw0.trans hx).trans hx5).size; omega
        clear hD hLft hO hx5 hx7 hx he hk hlt hcl hc1
        go_loopw [12] (fun i wr => ∃ (k : Nat) (A : Option Addr) (c : Nat) (bl : Bool) (zs : List UInt8), k ≤ l.length ∧ i = .int .i64 k ∧ Ext w wr ∧ EyeAt wr pf gf A c zs bl ∧ (bl = true ∨ (bl = false ∧ zs ++ TS = (l.drop k).flatMap layB))) (fun i _ => l.length - (intOf i).toNat)
        case atStart => exact ⟨0, A7, c7, false, YS, by omega, rfl, hxf, hef, .inr ⟨rfl, by rw [HTC.out, List.drop_zero, HLB.out]⟩⟩
        case round =>
          clear hxf hef
          obtain ⟨k, A8, c8, bl, zs, hk, rfl, hx, he, hI⟩ := hrel
          by_cases hlt : k < l.length
          · obtain ⟨b, o, rfl, hbl, hcell⟩ := (hr.ext hx).c7 k hlt
            have q0 : wr.cell? ⟨b, o + k * 7, none⟩ = some (.int .i64 l[k].k) := hcell 0 _ rfl
            have hBk := Lib.hid (HBK.out l[k] (List.getElem_mem hlt))
            have hGk := Lib.hid (HG.out l[k] (List.getElem_mem hlt))
            have hI2 := Lib.hid hI
            rw [lay_drop l k hlt] at hI
            clear hcell
            generalize l[k] = x at *
            obtain ⟨xk, xn, xs, xb, ⟨xt, xu⟩, xA, xm, xc, xl⟩ := x
            dsimp only at q0
            generalize hR : (l.drop (k + 1)).flatMap layB = R at *
            have HR := Lib.hid hR
            clear hR hI2
            have HI := Lib.hid hI
            clear hI
            by_cases k0 : xk = 0
            · subst k0
              have hin := part_inv intR intR_more bl zs TS (intB xn) R xn (0 : Int) (by have := HI.out; simpa [layB] using this) (intR_back xn R hGk.out.n64)
              have h := eye_int pf gf A8 c8 zs bl wr he
              unfold Seen at h
              generalize hAF : after bl zs (intR zs) (0 : Int) = AF at *
              obtain ⟨av, az, ab⟩ := AF
              dsimp only at h hin
              clear hAF he
              have hin' := Lib.hid hin
              clear hin
              go_wp2_with (go_at_call 27; refine h.mono ?_; rintro e w5 ⟨rfl, hx5, A9, c9, he9⟩)
              go_roundw
              case rel => exact ⟨k + 1, A9, c9, ab, az, by omega, by go_num, hx.see hx5 hpfw, he9, by rw [HR.out]; exact hin'.out⟩
              case measure => simp [intOf]; omega
            by_cases k1 : xk = 1
            · subst k1
              have hin := part_inv textR textR_more bl zs TS (textB xs) R xs ByteArray.empty (by have := HI.out; simpa [layB] using this) (textR_back xs R (by have := hBk.out; unfold bulkT at this; dsimp only at this; omega))
              have h := eye_text pf gf A8 c8 zs bl wr he
              unfold Seen at h
              generalize hAF : after bl zs (textR zs) ByteArray.empty = AF at *
              obtain ⟨av, az, ab⟩ := AF
              dsimp only at h hin
              clear hAF he
              have hin' := Lib.hid hin
              clear hin
              go_wp2_with (go_at_call 29; refine h.mono ?_; rintro e w5 ⟨rfl, hx5, A9, c9, he9⟩)
              go_roundw
              case rel => exact ⟨k + 1, A9, c9, ab, az, by omega, by go_num, hx.see hx5 hpfw, he9, by rw [HR.out]; exact hin'.out⟩
              case measure => simp [intOf]; omega
            by_cases k2 : xk = 2
            · subst k2
              have hin := part_inv boolR boolR_more bl zs TS (boolB xb) R xb false (by have := HI.out; simpa [layB] using this) (boolR_back xb R)
              have h := eye_bool pf gf A8 c8 zs bl wr he
              unfold Seen at h
              generalize hAF : after bl zs (boolR zs) false = AF at *
              obtain ⟨av, az, ab⟩ := AF
              dsimp only at h hin
              clear hAF he
              have hin' := Lib.hid hin
              clear hin
              go_wp2_with (go_at_call 31; refine h.mono ?_; rintro e w5 ⟨rfl, hx5, A9, c9, he9⟩)
              go_roundw
              case rel => exact ⟨k + 1, A9, c9, ab, az, by omega, by go_num, hx.see hx5 hpfw, he9, by rw [HR.out]; exact hin'.out⟩
              case measure => simp [intOf]; omega
            by_cases k3 : xk = 3
            · subst k3
              have hin := part_inv stampR stampR_more bl zs TS (stampB ⟨xt, xu⟩) R ⟨xt, xu⟩ St.z (by have := HI.out; simpa [layB] using this) (stampR_back ⟨xt, xu⟩ R hGk.out.st)
              have h := eye_stamp pf gf A8 c8 zs bl wr he
              unfold Seen at h
              generalize hAF : after bl zs (stampR zs) St.z = AF at *
              obtain ⟨av, az, ab⟩ := AF
              dsimp only at h hin
              clear hAF he
              have hin' := Lib.hid hin
              clear hin
              go_wp2_with (go_at_call 33; refine h.mono ?_; rintro e w5 ⟨rfl, hx5, A9, c9, he9⟩)
              go_roundw
              case rel => exact ⟨k + 1, A9, c9, ab, az, by omega, by go_num, hx.see hx5 hpfw, he9, by rw [HR.out]; exact hin'.out⟩
              case measure => simp [intOf]; omega
            by_cases k4 : xk = 4
            · subst k4
              have hin := part_inv stampsR stampsR_more bl zs TS (stampsB xl) R xl ([] : List St) (by have := HI.out; simpa [layB] using this) (stampsR_back xl R hGk.out.sts.good (by have h1 := hBk.out; have h2 := hGk.out.sts.len; unfold bulkT at h1; dsimp only at h1 h2; omega))
              have h := eye_stamps pf gf A8 c8 zs bl wr he
              unfold Seen at h
              generalize hAF : after bl zs (stampsR zs) ([] : List St) = AF at *
              obtain ⟨av, az, ab⟩ := AF
              dsimp only at h hin
              clear hAF he
              have hin' := Lib.hid hin
              clear hin
              go_wp2_with (go_at_call 36; refine h.mono ?_; rintro e w5 ⟨B, d, rfl, hst, hx5, A9, c9, he9⟩)
              go_roundw
              case rel => exact ⟨k + 1, A9, c9, ab, az, by omega, by go_num, hx.see hx5 hpfw, he9, by rw [HR.out]; exact hin'.out⟩
              case measure => simp [intOf]; omega
            · have hR0 : Hid (layB ⟨xk, xn, xs, xb, ⟨xt, xu⟩, xA, xm, xc, xl⟩ = []) := Lib.hid (by simp [layB, k0, k1, k2, k3, k4])
              have hin' : Hid (bl = true ∨ (bl = false ∧ zs ++ TS = R)) := Lib.hid (by have := HI.out; rw [hR0.out, List.nil_append] at this; exact this)
              go_wp2
              go_roundw
              case rel => exact ⟨k + 1, A8, c8, bl, zs, by omega, by go_num, hx, he, by rw [HR.out]; exact hin'.out⟩
              case measure => simp [intOf]; omega
          · obtain rfl : k = l.length := by omega
            rw [List.drop_length, List.flatMap_nil] at hI
            have hbt : bl = true := by
              rcases hI with h | ⟨_, h⟩
              · exact h
              · exact absurd (List.append_eq_nil_iff.1 h).2 HDN.out
            subst hbt
            have hD2 := done_any pf gf A8 c8 zs true wr he
            have dV2 : doneV zs true = 20 := rfl
            clear hI he
            go_wp2_with (first
              | (go_at_call 40; refine hD2.mono ?_; rintro e w5 ⟨rfl, hx5⟩)
              | (go_at_call 39; refine (num_any _ _).mono ?_; rintro e w' ⟨rfl, rfl⟩)
              | (go_at_call 12; refine (live_any _).mono ?_; rintro e w9 ⟨rfl, hx9⟩))
            go_ret
            exact ⟨rfl, (hx.trans hx5).trans hx9⟩
end Go.Proofs.Ytbmpecfhflkbeaa
