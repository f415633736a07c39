/- Contracts: the reference's eye reads a stamp. -/
import Derived.Test.YtbmpecfhflkbeaaFlRa
import Derived.StillTailTactics
namespace Go.Proofs.Ytbmpecfhflkbeaa
open Go.RowKit
set_option linter.unusedVariables false

theorem flip_w {P : Program} {f : FuncId} {args : Array Value} {w : World} {v : Value} (h : Calls P f args w fun e w' => e = .returned v ∧ w = w') : Calls P f args w fun e w' => e = .returned v ∧ w' = w :=
  h.mono fun _ _ ⟨he, hw⟩ => ⟨he, hw.symm⟩
set_option maxHeartbeats 2000000 in
set_option maxRecDepth 100000 in
theorem rstamp_eye (q : Nat) (A : Option Addr) (c : Nat) (xs : List UInt8) (i : Nat) (bl : Bool) (w : World) (he : REye w q A c xs i bl) :
    Calls Try.prog 34 #[.pointer (some ⟨q, 0, none⟩)] w fun e w' => e = .returned (.agg #[.int .i64 ((after bl (xs.drop i) (stampR (xs.drop i)) St.z).1).t, .int .i64 ((after bl (xs.drop i) (stampR (xs.drop i)) St.z).1).n]) ∧ Chs (isP q) w w' ∧ RSeen w' q A c xs i bl (stampR (xs.drop i)) St.z := by
  unfold RSeen
  have hql := he.blk.lt
  have hx := (Ext.refl w).alloc (.cells #[.int .i64 0, .int .i64 0] 39)
  have hB := Blk.new w 39 #[.int .i64 0, .int .i64 0]
  have he0 := he.ext hx
  have hend : ∀ (t n : Int) (w1 : World), Chs (isP q) (w.alloc (.cells #[.int .i64 0, .int .i64 0] 39)) w1 →
      Blk w1 w.heap.size 39 #[.int .i64 0, .int .i64 0] ∧ (∀ (j : Nat) (b : Bool), REye w1 q A c xs j b → REye ((w1.setCell ⟨w.heap.size, 0, none⟩ (.int .i64 t)).setCell ⟨w.heap.size, 1, none⟩ (.int .i64 n)) q A c xs j b) ∧
      Chs (isP q) w ((w1.setCell ⟨w.heap.size, 0, none⟩ (.int .i64 t)).setCell ⟨w.heap.size, 1, none⟩ (.int .i64 n)) ∧ Blk ((w1.setCell ⟨w.heap.size, 0, none⟩ (.int .i64 t)).setCell ⟨w.heap.size, 1, none⟩ (.int .i64 n)) w.heap.size 39 #[.int .i64 t, .int .i64 n] := by
    intro t n w1 h
    have hx3 : Chs (fun i => i = w.heap.size) w1 ((w1.setCell ⟨w.heap.size, 0, none⟩ (.int .i64 t)).setCell ⟨w.heap.size, 1, none⟩ (.int .i64 n)) := (Chs.set1 _ _ _ _).trans (Chs.set1 _ _ _ _)
    have hb := hB.chs h (show w.heap.size ≠ q by omega)
    exact ⟨hb, fun j b he2 => he2.chs hx3 (by omega) (fun ad e1 e2 => by have := he.lt ad e1; omega), ((Chs.of_ext hx).trans h).trans' hx3 (fun i hi e => by omega), (hb.set_ 0 _).set_ 1 _⟩
  cases bl with
  | true =>
    rw [after_blind]
    have h := rtake_blind q A c xs i 16 _ he0
    go_enter Try.func34, Try.ntmps34
    go_wp2_with (go_at_call 51; refine h.mono ?_; rintro e w1 ⟨rfl, hx1, he1⟩; obtain ⟨hb1, hk, hch, hb3⟩ := hend 0 0 w1 hx1; have c1 : w1.cell? ⟨w.heap.size, 0, none⟩ = some (.int .i64 0) := hb1.cell 0; have c2 : w1.cell? ⟨w.heap.size, 1, none⟩ = some (.int .i64 0) := hb1.cell 1; have z1 := hb1.frozen 0; have z2 := hb1.frozen 1; have l1 := hb1.lt)
    have c3 := (hb3.cell 0).trans (show _ = some (Value.int .i64 0) from rfl)
    have c4 := (hb3.cell 1).trans (show _ = some (Value.int .i64 0) from rfl)
    refine bodyPost_ret (v := .agg #[.int .i64 0, .int .i64 0]) (by simp [results, Try.results34, go_sem, c3, c4]) rfl ⟨rfl, hch, i, hk _ _ he1, rfl⟩
  | false =>
    by_cases h8 : 16 ≤ xs.length - i
    · rw [after_some (xs.drop i) ((xs.drop i).drop 16) (⟨wrap64 (numV ((xs.drop i).take 8) : Nat), wrap64 (numV (((xs.drop i).drop 8).take 8) : Nat)⟩ : St) St.z _ (by unfold stampR; rw [if_pos (by rw [List.length_drop]; exact h8)])]
      have h := rtake_ok q A c xs i 16 _ he0 h8
      have t1 : ((xs.drop i).take 16).take 8 = (xs.drop i).take 8 := by rw [List.take_take]; rfl
      have t2 : ((xs.drop i).take 16).drop 8 = ((xs.drop i).drop 8).take 8 := by rw [List.drop_take]
      have tl : ((xs.drop i).take 16).length = 16 := by rw [List.length_take, List.length_drop]; omega
      rw [← t1, ← t2]
      have hdd : (xs.drop i).drop 16 = xs.drop (i + 16) := List.drop_drop
      rw [hdd]
      generalize (xs.drop i).take 16 = ys at *
      have hn1 := fun (w' : World) (A' : Option Addr) (c' : Nat) (hu : U8s w' A' (ys.take 8)) => rnumber_any _ A' c' w' (by rw [List.length_take]; omega) hu
      have hn2 := fun (w' : World) (A' : Option Addr) (c' : Nat) (hu : U8s w' A' (ys.drop 8)) => rnumber_any _ A' c' w' (by rw [List.length_drop]; omega) hu
      rw [show (ys.take 8).length = 8 by rw [List.length_take]; omega] at hn1
      rw [show (ys.drop 8).length = 8 by rw [List.length_drop]; omega] at hn2
      have hsp := fun (w' : World) (A' : Option Addr) (hu : U8s w' A' ys) => show ∃ b o, A' = some ⟨b, o, none⟩ ∧ U8s w' (some ⟨b, o, none⟩) (ys.take 8) ∧ U8s w' (some ⟨b, o + 8, none⟩) (ys.drop 8) by
        obtain ⟨b, o, rfl, _, _⟩ := hu.c1 0 (by omega) _ rfl
        exact ⟨b, o, rfl, hu.take 8, by have := hu.drop 8 (by omega); simpa [Addr.add] using this⟩
      generalize ys.take 8 = y1 at *
      generalize ys.drop 8 = y2 at *
      clear t1 t2 hdd tl
      generalize hN1 : numV y1 = N1 at *
      generalize hN2 : numV y2 = N2 at *
      clear hN1 hN2
      go_enter Try.func34, Try.ntmps34
      go_upto_region 4 with (go_at_call 51; refine h.mono ?_; rintro e w1 ⟨A1, c1, rfl, hu1, hx1, he1, hc1⟩; obtain ⟨b, o, rfl, hu2, hu3⟩ := hsp w1 A1 hu1)
      have hd2 := hu2.ext (Ext.refl w1).drew
      have hd3 := hu3.ext (Ext.refl w1).drew
      have hc8 : (8 : Int) ≤ (c1 : Int) := by omega
      have hc9 : ¬ c1 = 8 := by omega
      refine wp_region_still_tail 9 (by kernel_rfl) (by kernel_rfl) ?_
      simp only [List.take_succ_cons, List.take_zero, List.drop_succ_cons, List.drop_zero, World.drew_eq]
      repeat still_step
      still_call (flip_w (hn1 _ _ _ (by assumption)))
      repeat still_step
      still_call (flip_w (hn2 _ _ _ (by assumption)))
      repeat still_step
      try refine wpStill_nil ?_
      obtain ⟨hb1, hk, hch, hb3⟩ := hend (wrap64 (N1 : Int)) (wrap64 (N2 : Int)) w1.drew hx1.drew
      have he2 := hk _ _ (he1.ext (Ext.refl w1).drew)
      generalize w1.drew = W at *
      have c1 : W.cell? ⟨w.heap.size, 0, none⟩ = some (.int .i64 0) := hb1.cell 0
      have c2 : W.cell? ⟨w.heap.size, 1, none⟩ = some (.int .i64 0) := hb1.cell 1
      have z1 := hb1.frozen 0
      have z2 := hb1.frozen 1
      have l1 := hb1.lt
      go_wp2
      have c3 := (hb3.cell 0).trans (show _ = some (Value.int .i64 (wrap64 (N1 : Int))) from rfl)
      have c4 := (hb3.cell 1).trans (show _ = some (Value.int .i64 (wrap64 (N2 : Int))) from rfl)
      refine bodyPost_ret (v := .agg #[.int .i64 (wrap64 (N1 : Int)), .int .i64 (wrap64 (N2 : Int))]) (by simp [results, Try.results34, go_sem, c3, c4]) rfl ⟨rfl, hch, i + 16, he2, rfl⟩
    · rw [after_none (xs.drop i) St.z _ (by unfold stampR; rw [if_neg (by rw [List.length_drop]; exact h8)])]
      have h := rtake_not q A c xs i 16 _ he0 (by omega) (by omega)
      go_enter Try.func34, Try.ntmps34
      go_wp2_with (go_at_call 51; refine h.mono ?_; rintro e w1 ⟨rfl, hx1, he1⟩; obtain ⟨hb1, hk, hch, hb3⟩ := hend 0 0 w1 hx1; have c1 : w1.cell? ⟨w.heap.size, 0, none⟩ = some (.int .i64 0) := hb1.cell 0; have c2 : w1.cell? ⟨w.heap.size, 1, none⟩ = some (.int .i64 0) := hb1.cell 1; have z1 := hb1.frozen 0; have z2 := hb1.frozen 1; have l1 := hb1.lt)
      have c3 := (hb3.cell 0).trans (show _ = some (Value.int .i64 0) from rfl)
      have c4 := (hb3.cell 1).trans (show _ = some (Value.int .i64 0) from rfl)
      refine bodyPost_ret (v := .agg #[.int .i64 0, .int .i64 0]) (by simp [results, Try.results34, go_sem, c3, c4]) rfl ⟨rfl, hch, i, hk _ _ he1, rfl⟩
end Go.Proofs.Ytbmpecfhflkbeaa
