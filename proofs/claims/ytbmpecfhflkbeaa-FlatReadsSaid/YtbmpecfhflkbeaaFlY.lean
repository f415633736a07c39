/- Contracts: small; lay. -/
import Derived.Test.YtbmpecfhflkbeaaFlX
import Derived.Test.YtbmpecfhflkbeaaOpenTh
namespace Go.Proofs.Ytbmpecfhflkbeaa
open Go.RowKit
set_option linter.unusedVariables false

theorem ThingsIn.ext {w w' : World} {A : Option Addr} {n c : Nat} {l : List Thing} (h : ThingsIn w A n c l) (hx : Ext w w') : ThingsIn w' A n c l :=
  ⟨h.len, h.cap, h.none_, h.max_, h.row.ext hx, fun x hxl => ⟨⟨(h.good x hxl).sts.len, (h.good x hxl).sts.cap, (h.good x hxl).sts.none_, (h.good x hxl).sts.max_, (h.good x hxl).sts.row.ext hx, (h.good x hxl).sts.good⟩, (h.good x hxl).str, (h.good x hxl).n64, (h.good x hxl).st⟩⟩
def bulkT (x : Thing) : Nat := x.s.size + 16 * x.m
def sumT (l : List Thing) : Nat := (l.map bulkT).sum
theorem sumT_take (l : List Thing) (k : Nat) (hk : k < l.length) : sumT (l.take (k + 1)) = sumT (l.take k) + bulkT l[k] := by
  unfold sumT
  rw [List.take_succ_eq_append_getElem hk, List.map_append, List.sum_append]
  simp
theorem sumT_le (l : List Thing) (B : Nat) (h : ∀ s ∈ l, bulkT s ≤ B) : sumT l ≤ l.length * B := by
  unfold sumT
  induction l with
  | nil => simp
  | cons a l ih =>
    have h1 := h a (List.mem_cons_self)
    have h2 := ih fun s hs => h s (List.mem_cons_of_mem _ hs)
    rw [List.map_cons, List.sum_cons, List.length_cons, Nat.add_mul]
    omega
theorem sumT_bd (l : List Thing) (k B : Nat) (hk : k ≤ 61) (h : ∀ x ∈ l, bulkT x ≤ B) : sumT (l.take k) ≤ 61 * B := by
  have h1 := sumT_le (l.take k) B (fun x hx => h x (List.mem_of_mem_take hx))
  have h2 : (l.take k).length ≤ 61 := by rw [List.length_take]; omega
  exact Nat.le_trans h1 (Nat.mul_le_mul_right _ h2)
def smallV (l : List Thing) : Bool := decide (l.length ≤ 60) && decide (sumT l ≤ 20000)
theorem Row.c7 {w : World} {A : Option Addr} {l : List Thing} (h : Row fTh 7 w A l) (k : Nat) (hk : k < l.length) : ∃ b o, A = some ⟨b, o, none⟩ ∧ b < w.heap.size ∧ ∀ (j : Nat) (u : Value), (fTh l[k])[j]? = some u → w.cell? ⟨b, o + k * 7 + j, none⟩ = some u := by
  obtain ⟨b, o, hA, hb, hc⟩ := h (by rintro rfl; simp at hk)
  exact ⟨b, o, hA, hb, fun j u hu => by rw [Nat.add_assoc]; exact hc k hk j u hu⟩

set_option maxHeartbeats 1000000 in
set_option maxRecDepth 100000 in
theorem small_any (l : List Thing) (A : Option Addr) (n c : Nat) (w : World) (hin : ThingsIn w A n c l) :
    Calls Try.prog 18 #[.slice A n c] w fun e w' => e = .returned (.bool (smallV l)) ∧ Ext w w' := by
  obtain ⟨rfl, _, _, hmx, hr, hg⟩ := hin
  have hbk : ∀ x ∈ l, bulkT x ≤ 2392537302040576 := by
    intro x hx
    have h1 := (hg x hx).str
    have h2 := (hg x hx).sts.max_
    rw [reach_num] at h1 h2
    unfold bulkT
    omega
  have HB := Lib.hid hbk
  have HBD : Hid (∀ k, k ≤ 61 → sumT (l.take k) ≤ 145944775424475136) := Lib.hid (fun k hk => Nat.le_trans (sumT_bd l k 2392537302040576 hk hbk) (by decide))
  clear hbk hg hmx
  go_enter Try.func18, Try.ntmps18
  go_wp2
  go_loopw [4, 3] (fun i v wr => ∃ k : Nat, k ≤ l.length ∧ k ≤ 61 ∧ i = .int .i64 k ∧ v = .int .i64 (sumT (l.take k) : Nat) ∧ Ext w wr) (fun i _ _ => 61 - (intOf i).toNat)
  case atStart => exact ⟨0, by omega, by omega, rfl, by simp [sumT], Ext.refl _⟩
  case round =>
    obtain ⟨k, hk, hk61, rfl, rfl, hx⟩ := hrel
    by_cases hlt : k < l.length
    · by_cases h60 : k ≤ 60
      · obtain ⟨b, o, rfl, hb, hcell⟩ := (hr.ext hx).c7 k hlt
        have hT := Lib.hid (sumT_take l k hlt)
        have hbd := HBD.out k hk61
        have hbk := HB.out l[k] (List.getElem_mem hlt)
        have c2 := hcell 2 _ rfl
        have c6 := hcell 6 _ rfl
        clear hcell
        generalize l[k] = x at *
        obtain ⟨xk, xn, xs, xb, xt, xA, xm, xc, xl⟩ := x
        dsimp only at c2 c6
        unfold bulkT at hT hbk
        dsimp only at hT hbk
        generalize sumT (l.take k) = N at *
        have hw1 : IntKind.i64.wrap ((N : Int) + (xs.size : Int)) = (N : Int) + (xs.size : Int) := by rw [IntKind.wrap_i64]; omega
        have hw2 : IntKind.i64.wrap (16 * (xm : Int)) = 16 * (xm : Int) := by rw [IntKind.wrap_i64]; omega
        have hw3 : IntKind.i64.wrap ((N : Int) + (xs.size : Int) + 16 * (xm : Int)) = (N : Int) + (xs.size : Int) + 16 * (xm : Int) := by rw [IntKind.wrap_i64]; omega
        clear hbd hbk hr
        go_upto_region 5 with fail
        refine wp_region_in _ (by kernel_rfl) (by kernel_rfl) (Ext.refl _) ?_
        repeat (refine wpQuiet_step (fun K hK => ?_); go_simp; first | (refine hK _ ?_; clear hK K) | (apply Exists.intro; refine ⟨fun w' hw' => ?_, hK _ ?_⟩; (first |  (have f1 := hw'.cell hb c2; have f2 := hw'.cell hb c6; go_simp; rfl)); clear hK K))
        refine wpQuiet_nil ?_
        intro w5 hx5
        go_wp2
        go_roundw
        case rel => exact ⟨k + 1, by omega, by omega, by go_num, by rw [hT.out]; simp [← Int.add_assoc], hx.trans hx5⟩
        case measure => simp [intOf]; omega
      · have h61 : ¬ l.length ≤ 60 := by omega
        have e : Hid (smallV l = false) := Lib.hid (by unfold smallV; simp [h61])
        clear HB HBD hr
        go_wp2
        go_ret
        exact ⟨by rw [e.out]; rfl, hx⟩
    · obtain rfl : k = l.length := by omega
      rw [List.take_length]
      clear hr HB HBD
      by_cases h60 : l.length ≤ 60
      · have e : smallV l = decide (sumT l ≤ 20000) := by unfold smallV; simp [h60]
        have E := Lib.hid e
        clear e
        have hdd : Hid (decide (((sumT l : Nat) : Int) ≤ 20000) = decide (sumT l ≤ 20000)) := Lib.hid (by rw [decide_eq_decide]; omega)
        go_wp2
        go_ret
        exact ⟨by rw [E.out, ← hdd.out]; rfl, hx⟩
      · have e : Hid (smallV l = false) := Lib.hid (by unfold smallV; simp [h60])
        go_wp2
        go_ret
        exact ⟨by rw [e.out]; rfl, hx⟩
end Go.Proofs.Ytbmpecfhflkbeaa
