/- Contracts: the eye, more. -/
import Derived.Test.YtbmpecfhflkbeaaFlH
namespace Go.Proofs.Ytbmpecfhflkbeaa
open Go.RowKit

set_option maxRecDepth 100000 in
theorem eye_stamp (p : Nat) (g : Option Nat) (A : Option Addr) (c : Nat) (xs : List UInt8) (bl : Bool) (w : World) (he : EyeAt w p g A c xs bl) :
    Calls Try.prog 33 #[.pointer (some ⟨p, 0, none⟩)] w fun e w' => e = .returned (.agg #[.int .i64 ((after bl xs (stampR xs) St.z).1).t, .int .i64 ((after bl xs (stampR xs) St.z).1).n]) ∧ Seen w w' p g bl xs (stampR xs) St.z := by
  have hmf : ∀ (fn : Fn) (first cap : Array Value) (w : World), (Instr.makeFunc fn first cap).run Try.prog w = .ok (.func fn first cap) w := fun _ _ _ _ => rfl
  have hx := (Ext.refl w).alloc (.cells #[.int .i64 0, .int .i64 0] 39)
  have hB := Blk.new w 39 #[.int .i64 0, .int .i64 0]
  have he1 := he.ext hx
  have hpl := he.blk.lt
  -- behind the call
  have hend : ∀ (s : St) (w1 : World), Chs (isP p) (w.alloc (.cells #[.int .i64 0, .int .i64 0] 39)) w1 →
      Blk w1 w.heap.size 39 #[.int .i64 0, .int .i64 0] ∧ (∀ (A' : Option Addr) (c' : Nat) (ys : List UInt8) (b : Bool), EyeAt w1 p g A' c' ys b → EyeAt ((w1.setCell ⟨w.heap.size, 0, none⟩ (.int .i64 s.t)).setCell ⟨w.heap.size, 1, none⟩ (.int .i64 s.n)) p g A' c' ys b) ∧
      Chs (isP p) w ((w1.setCell ⟨w.heap.size, 0, none⟩ (.int .i64 s.t)).setCell ⟨w.heap.size, 1, none⟩ (.int .i64 s.n)) ∧ Blk ((w1.setCell ⟨w.heap.size, 0, none⟩ (.int .i64 s.t)).setCell ⟨w.heap.size, 1, none⟩ (.int .i64 s.n)) w.heap.size 39 #[.int .i64 s.t, .int .i64 s.n] := by
    intro s w1 h
    have hx3 : Chs (fun i => i = w.heap.size) w1 ((w1.setCell ⟨w.heap.size, 0, none⟩ (.int .i64 s.t)).setCell ⟨w.heap.size, 1, none⟩ (.int .i64 s.n)) := (Chs.set1 _ _ _ _).trans (Chs.set1 _ _ _ _)
    have hb := hB.chs h (show w.heap.size ≠ p by omega)
    exact ⟨hb, fun A' c' ys b he2 => he2.chs hx3 (by omega) (fun i _ e1 e2 => by have := he.lt i e1; omega), ((Chs.of_ext hx).trans h).trans' hx3 (fun i hi e => by omega), (hb.set_ 0 _).set_ 1 _⟩
  unfold Seen after
  cases bl with
  | true =>
    simp only [if_true]
    go_enter Try.func33, Try.ntmps33
    go_wp2_with (go_at_call 59; refine (see_blind_stamp _ p g A c xs _ he1).mono ?_; rintro e w1 ⟨rfl, hx1⟩; obtain ⟨hb1, hk, hch, hb3⟩ := hend ⟨0, 0⟩ w1 (.of_ext hx1); have c1 : w1.cell? ⟨w.heap.size, 0, none⟩ = some (.int .i64 0) := hb1.cell 0; have c2 : w1.cell? ⟨w.heap.size, 1, none⟩ = some (.int .i64 0) := hb1.cell 1; have z1 := hb1.frozen 0; have z2 := hb1.frozen 1; have l1 := hb1.lt)
    have c3 := (hb3.cell 0).trans (show _ = some (Value.int .i64 0) from rfl)
    have c4 := (hb3.cell 1).trans (show _ = some (Value.int .i64 0) from rfl)
    refine bodyPost_ret (v := .agg #[.int .i64 0, .int .i64 0]) (by simp [results, Try.results33, go_sem, c3, c4]) rfl ⟨rfl, hch, A, c, hk _ _ _ _ (he1.ext hx1)⟩
  | false =>
    simp only [Bool.false_eq_true, if_false]
    unfold stampR
    by_cases h8 : 16 ≤ xs.length
    · simp only [if_pos h8]
      have hC := fun w1 (h : Ext _ w1) => stampS_ok p g A c xs w1 (he1.ext h) h8
      generalize wrap64 (numV (xs.take 8) : Nat) = t at *
      generalize wrap64 (numV ((xs.drop 8).take 8) : Nat) = n at *
      go_enter Try.func33, Try.ntmps33
      go_wp2_with (go_at_call 59; refine (see_ok_stamp p g A c xs _ ⟨t, n⟩ _ he1 hC).mono ?_; rintro e w1 ⟨rfl, hx1, A1, d1, he2⟩; obtain ⟨hb1, hk, hch, hb3⟩ := hend ⟨t, n⟩ w1 hx1; have c1 : w1.cell? ⟨w.heap.size, 0, none⟩ = some (.int .i64 0) := hb1.cell 0; have c2 : w1.cell? ⟨w.heap.size, 1, none⟩ = some (.int .i64 0) := hb1.cell 1; have z1 := hb1.frozen 0; have z2 := hb1.frozen 1; have l1 := hb1.lt)
      have c3 := (hb3.cell 0).trans (show _ = some (Value.int .i64 t) from rfl)
      have c4 := (hb3.cell 1).trans (show _ = some (Value.int .i64 n) from rfl)
      refine bodyPost_ret (v := .agg #[.int .i64 t, .int .i64 n]) (by simp [results, Try.results33, go_sem, c3, c4]) rfl ⟨rfl, hch, A1, d1, hk _ _ _ _ he2⟩
    · simp only [if_neg h8]
      have hC := fun w1 (h : Ext _ w1) => stampS_not p g A c xs w1 (he1.ext h) (by omega)
      go_enter Try.func33, Try.ntmps33
      go_wp2_with (go_at_call 59; refine (see_not_stamp p g A c xs _ he1 hC).mono ?_; rintro e w1 ⟨rfl, hx1, he2⟩; obtain ⟨hb1, hk, hch, hb3⟩ := hend ⟨0, 0⟩ w1 hx1; have c1 : w1.cell? ⟨w.heap.size, 0, none⟩ = some (.int .i64 0) := hb1.cell 0; have c2 : w1.cell? ⟨w.heap.size, 1, none⟩ = some (.int .i64 0) := hb1.cell 1; have z1 := hb1.frozen 0; have z2 := hb1.frozen 1; have l1 := hb1.lt)
      have c3 := (hb3.cell 0).trans (show _ = some (Value.int .i64 0) from rfl)
      have c4 := (hb3.cell 1).trans (show _ = some (Value.int .i64 0) from rfl)
      refine bodyPost_ret (v := .agg #[.int .i64 0, .int .i64 0]) (by simp [results, Try.results33, go_sem, c3, c4]) rfl ⟨rfl, hch, A, c, hk _ _ _ _ he2⟩
theorem left_any (p : Nat) (g : Option Nat) (A : Option Addr) (c : Nat) (xs : List UInt8) (bl : Bool) (w : World) (he : EyeAt w p g A c xs bl) :
    Calls Try.prog 38 #[.pointer (some ⟨p, 0, none⟩)] w fun e w' => e = .returned (.int .i64 (xs.length : Int)) ∧ w = w' := by
  have h1 : w.cell? ⟨p, 0, none⟩ = some (.slice A xs.length c) := he.blk.cell 0
  have hpl := he.blk.lt
  go_enter Try.func38, Try.ntmps38
  go_wp2
  go_ret
  exact ⟨rfl, rfl⟩
theorem left_nil (w : World) : Calls Try.prog 38 #[.pointer none] w fun e w' => e = .returned (.int .i64 0) ∧ w = w' := by
  go_enter Try.func38, Try.ntmps38
  go_wp2
  go_ret
  exact ⟨rfl, rfl⟩
def doneV (xs : List UInt8) (bl : Bool) : Int := if bl || decide (0 < xs.length) then 20 else 0
theorem done_any (p : Nat) (g : Option Nat) (A : Option Addr) (c : Nat) (xs : List UInt8) (bl : Bool) (w : World) (he : EyeAt w p g A c xs bl) :
    Calls Try.prog 40 #[.pointer (some ⟨p, 0, none⟩)] w fun e w' => e = .returned (.int .i64 (doneV xs bl)) ∧ Ext w w' := by
  have h1 : w.cell? ⟨p, 0, none⟩ = some (.slice A xs.length c) := he.blk.cell 0
  have h2 : w.cell? ⟨p, 1, none⟩ = some (.bool bl) := he.blk.cell 1
  have hpl := he.blk.lt
  unfold doneV
  cases bl with
  | true =>
    simp only [Bool.true_or, if_true]
    go_enter Try.func40, Try.ntmps40
    go_wp2
    go_ret
    exact ⟨rfl, Ext.refl _⟩
  | false =>
    cases hd : decide (0 < xs.length) with
    | true =>
      have hlt : 0 < xs.length := of_decide_eq_true hd
      simp only [Bool.or_true, if_true]
      clear hd
      go_enter Try.func40, Try.ntmps40
      go_wp2
      go_ret
      exact ⟨rfl, Ext.refl _⟩
    | false =>
      have hlt : xs.length = 0 := by have := of_decide_eq_false hd; omega
      simp only [Bool.or_false, Bool.false_eq_true, if_false]
      clear hd
      go_enter Try.func40, Try.ntmps40
      go_wp2
      go_ret
      exact ⟨rfl, Ext.refl _⟩
theorem done_nil (w : World) : Calls Try.prog 40 #[.pointer none] w fun e w' => e = .returned (.int .i64 0) ∧ Ext w w' := by
  go_enter Try.func40, Try.ntmps40
  go_wp2
  go_ret
  exact ⟨rfl, Ext.refl _⟩
theorem open_any (l : List UInt8) (A : Option Addr) (c : Nat) (w : World) (hm : l.length ≤ 1099511627776) (hs : U8s w A l) (hn : A = none → c = 0) :
    Calls Try.prog 24 #[.slice A l.length c] w fun e w' => Ext w w' ∧ ∃ p g A' c', e = .returned (.pointer (some ⟨p, 0, none⟩)) ∧ w.heap.size ≤ p ∧ (∀ i, g = some i → w.heap.size ≤ i) ∧ EyeAt w' p g A' c' l false := by
  go_enter Try.func24, Try.ntmps24
  go_wp2_with (go_at_call 43; refine (clone_any l A c _ hm hs hn).mono ?_; rintro e w1 ⟨⟨A1, c1, rfl, ho1, hn1⟩, hx1⟩)
  go_ret
  have hr := (OwnB.rd ho1).2.row
  have hxa := (Ext.refl w1).alloc (.cells #[.slice A1 l.length c1, .bool false] 79)
  refine ⟨hx1.trans hxa, w1.heap.size, (Value.slice A1 l.length c1).ownBlock, A1, c1, rfl, hx1.size, fun i hi => (ho1.lt i hi).1, Blk.new _ _ _, hr.ext hxa, ?_, ?_, ?_, ?_, hn1, hm⟩
  · rcases ho1.2 with ⟨h, h'⟩ | ⟨_, cap, _, h, _, _, h', _⟩
    · omega
    · injection h with _ _ e; omega
  · intro ad e; subst e; rfl
  · intro e; have := (ho1.lt _ e).2; omega
  · intro i e; have := (ho1.lt _ e).2; simp; omega
end Go.Proofs.Ytbmpecfhflkbeaa
