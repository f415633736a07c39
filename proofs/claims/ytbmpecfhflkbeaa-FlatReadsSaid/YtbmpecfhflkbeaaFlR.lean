/- Contracts: the reference's eye. -/
import Derived.Test.YtbmpecfhflkbeaaFlP
namespace Go.Proofs.Ytbmpecfhflkbeaa
open Go.RowKit
set_option linter.unusedVariables false

/-- the reference's eye at q: its bytes, its place, is it blind -/
structure REye (w : World) (q : Nat) (A : Option Addr) (c : Nat) (xs : List UInt8) (i : Nat) (bl : Bool) : Prop where
  blk : Blk w q 63 #[.slice A xs.length c, .int .i64 (i : Int), .bool bl]
  row : U8s w A xs
  cap : xs.length ≤ c
  ne : ∀ ad, A = some ad → ad.block ≠ q
  lt : ∀ ad, A = some ad → ad.block < w.heap.size
  hi : i ≤ xs.length
  none_ : A = none → c = 0
  max_ : xs.length ≤ 20000
theorem REye.chs {S : Nat → Prop} {w w' : World} {q : Nat} {A : Option Addr} {c : Nat} {xs : List UInt8} {i : Nat} {bl : Bool} (h : REye w q A c xs i bl) (k : Chs S w w') (h1 : ¬ S q) (h2 : ∀ ad, A = some ad → ¬ S ad.block) : REye w' q A c xs i bl :=
  ⟨h.blk.chs k h1, h.row.chs k (fun _ => h2), h.cap, h.ne, fun ad e => Nat.lt_of_lt_of_le (h.lt ad e) k.size, h.hi, h.none_, h.max_⟩
theorem REye.ext {w w' : World} {q : Nat} {A : Option Addr} {c : Nat} {xs : List UInt8} {i : Nat} {bl : Bool} (h : REye w q A c xs i bl) (k : Ext w w') : REye w' q A c xs i bl := h.chs (S := fun _ => False) (.of_ext k) (fun e => e) (fun _ _ e => e)

set_option maxHeartbeats 1000000 in
set_option maxRecDepth 100000 in
theorem rtake_blind (q : Nat) (A : Option Addr) (c : Nat) (xs : List UInt8) (i : Nat) (n : Int) (w : World) (he : REye w q A c xs i true) :
    Calls Try.prog 51 #[.pointer (some ⟨q, 0, none⟩), .int .i64 n] w fun e w' => e = .returned (.tuple #[.slice none 0 0, .bool false]) ∧ Chs (isP q) w w' ∧ REye w' q A c xs i true := by
  have hql := he.blk.lt
  have f2 : w.cell? ⟨q, 2, none⟩ = some (.bool true) := he.blk.cell 2
  go_enter Try.func51, Try.ntmps51
  go_upto_region 1 with fail
  have f2d : w.drew.cell? ⟨q, 2, none⟩ = some (.bool true) := f2
  go_region
  have hx1 : Ext w w.drew := (Ext.refl _).drew
  generalize w.drew = w1 at *
  have he1 := he.ext hx1
  have f3 : w1.cell? ⟨q, 2, none⟩ = some (.bool true) := he1.blk.cell 2
  have z3 := he1.blk.frozen 2
  have l1 := he1.blk.lt
  go_wp2
  go_ret2
  exact ⟨rfl, (Chs.of_ext hx1).trans (Chs.set1 _ _ _ _), he1.blk.set_ 2 _, he1.row.chs (Chs.set1 w1 q 2 (.bool true)) (fun _ => he1.ne), he1.cap, he1.ne, (fun ad e => by have := he1.lt ad e; simpa [World.setCell] using this), he1.hi, he1.none_, he1.max_⟩
set_option maxHeartbeats 1000000 in
set_option maxRecDepth 100000 in
theorem rtake_not (q : Nat) (A : Option Addr) (c : Nat) (xs : List UInt8) (i n : Nat) (w : World) (he : REye w q A c xs i false) (hn : xs.length - i < n) (hnb : n ≤ 1099511627776) :
    Calls Try.prog 51 #[.pointer (some ⟨q, 0, none⟩), .int .i64 (n : Int)] w fun e w' => e = .returned (.tuple #[.slice none 0 0, .bool false]) ∧ Chs (isP q) w w' ∧ REye w' q A c xs i true := by
  have hql := he.blk.lt
  have f0 : w.cell? ⟨q, 0, none⟩ = some (.slice A xs.length c) := he.blk.cell 0
  have f1 : w.cell? ⟨q, 1, none⟩ = some (.int .i64 (i : Int)) := he.blk.cell 1
  have f2 : w.cell? ⟨q, 2, none⟩ = some (.bool false) := he.blk.cell 2
  have hm := he.max_
  have hi := he.hi
  have hw : IntKind.i64.wrap ((xs.length : Int) - (i : Int)) = ((xs.length - i : Nat) : Int) := by rw [IntKind.wrap_i64]; omega
  have hgt : xs.length - i < n := hn
  clear hm hi hnb hn
  generalize xs.length - i = rest at *
  go_enter Try.func51, Try.ntmps51
  go_upto_region 1 with fail
  refine wp_region_in _ (by kernel_rfl) (by kernel_rfl) (Ext.refl _) ?_
  repeat (refine wpQuiet_step (fun K hK => ?_); go_simp; first | (refine hK _ ?_; clear hK K) | (apply Exists.intro; refine ⟨fun w' hw' => ?_, hK _ ?_⟩; (first |  (have g0 := hw'.cell hql f0; have g1 := hw'.cell hql f1; have g2 := hw'.cell hql f2; go_simp; rfl)); clear hK K))
  refine wpQuiet_nil ?_
  intro w1 hx1
  have he1 := he.ext hx1
  have f3 : w1.cell? ⟨q, 2, none⟩ = some (.bool false) := he1.blk.cell 2
  have z3 := he1.blk.frozen 2
  have l1 := he1.blk.lt
  go_wp2
  go_ret2
  exact ⟨rfl, (Chs.of_ext hx1).trans (Chs.set1 _ _ _ _), he1.blk.set_ 2 _, he1.row.chs (Chs.set1 w1 q 2 (.bool true)) (fun _ => he1.ne), he1.cap, he1.ne, (fun ad e => by have := he1.lt ad e; simpa [World.setCell] using this), he1.hi, he1.none_, he1.max_⟩
set_option maxHeartbeats 1000000 in
set_option maxRecDepth 100000 in
theorem rtake_ok (q : Nat) (A : Option Addr) (c : Nat) (xs : List UInt8) (i n : Nat) (w : World) (he : REye w q A c xs i false) (hn : n ≤ xs.length - i) :
    Calls Try.prog 51 #[.pointer (some ⟨q, 0, none⟩), .int .i64 (n : Int)] w fun e w' => ∃ A' c', e = .returned (.tuple #[.slice A' n c', .bool true]) ∧ U8s w' A' ((xs.drop i).take n) ∧ Chs (isP q) w w' ∧ REye w' q A c xs (i + n) false ∧ n ≤ c' := by
  have hql := he.blk.lt
  have f0 : w.cell? ⟨q, 0, none⟩ = some (.slice A xs.length c) := he.blk.cell 0
  have f1 : w.cell? ⟨q, 1, none⟩ = some (.int .i64 (i : Int)) := he.blk.cell 1
  have f2 : w.cell? ⟨q, 2, none⟩ = some (.bool false) := he.blk.cell 2
  have hm := he.max_
  have hi := he.hi
  have hcp := he.cap
  have hw : IntKind.i64.wrap ((xs.length : Int) - (i : Int)) = ((xs.length - i : Nat) : Int) := by rw [IntKind.wrap_i64]; omega
  have hgt : ¬ xs.length - i < n := by omega
  have hw2 : wrap64 ((i : Int) + (n : Int)) = ((i + n : Nat) : Int) := by unfold wrap64; omega
  have hw3 : IntKind.i64.wrap (((i + n : Nat) : Int) - (n : Int)) = (i : Int) := by rw [IntKind.wrap_i64]; omega
  have hw4 : IntKind.i64.wrap ((i : Int) + (n : Int) - (n : Int)) = (i : Int) := by rw [IntKind.wrap_i64]; omega
  have hwc : IntKind.i64.wrap (i : Int) = (i : Int) := by rw [IntKind.wrap_i64]; omega
  have hb1 : i ≤ i + n := by omega
  have hb2 : i + n ≤ c := by omega
  have hb3 : i + n - i = n := by omega
  have HN := Lib.hid hn
  have HI := Lib.hid (And.intro hm hi)
  clear hm hi hn
  generalize xs.length - i = rest at hw hgt
  go_enter Try.func51, Try.ntmps51
  go_upto_region 1 with fail
  refine wp_region_in _ (by kernel_rfl) (by kernel_rfl) (Ext.refl _) ?_
  repeat (refine wpQuiet_step (fun K hK => ?_); go_simp; first | (refine hK _ ?_; clear hK K) | (apply Exists.intro; refine ⟨fun w' hw' => ?_, hK _ ?_⟩; (first |  (have g0 := hw'.cell hql f0; have g1 := hw'.cell hql f1; have g2 := hw'.cell hql f2; go_simp; rfl)); clear hK K))
  refine wpQuiet_nil ?_
  intro w1 hx1
  have he1 := he.ext hx1
  have f3 : w1.cell? ⟨q, 1, none⟩ = some (.int .i64 (i : Int)) := he1.blk.cell 1
  have z3 := he1.blk.frozen 1
  have l1 := he1.blk.lt
  have he2 : REye (w1.setCell ⟨q, 1, none⟩ (.int .i64 ((i : Int) + (n : Int)))) q A c xs (i + n) false :=
    ⟨by have := he1.blk.set_ 1 (.int .i64 ((i : Int) + (n : Int))); simpa using this, he1.row.chs (Chs.set1 w1 q 1 _) (fun _ => he1.ne), he1.cap, he1.ne, (fun ad e => by have := he1.lt ad e; simpa [World.setCell] using this), by have := HN.out; have := HI.out; omega, he1.none_, he1.max_⟩
  have hch := (Chs.of_ext (S := isP q) hx1).trans (Chs.set1 w1 q 1 (.int .i64 ((i : Int) + (n : Int))))
  go_upto_region 5 with fail
  generalize w1.setCell ⟨q, 1, none⟩ (.int .i64 ((i : Int) + (n : Int))) = W2 at *
  have l2 := he2.blk.lt
  have e0 : W2.cell? ⟨q, 0, none⟩ = some (.slice A xs.length c) := he2.blk.cell 0
  obtain ⟨m, hm⟩ : ∃ m : Nat, m = i + n := ⟨_, rfl⟩
  have e1 : W2.cell? ⟨q, 1, none⟩ = some (.int .i64 (m : Int)) := by rw [hm]; exact he2.blk.cell 1
  have hwm : IntKind.i64.wrap ((m : Int) - (n : Int)) = (i : Int) := by rw [hm]; exact hw3
  have hm1 : i ≤ m := by omega
  have hm2 : m ≤ c := by omega
  have hm3 : m - i = n := by omega
  have HM := Lib.hid hm
  clear hm hw4 hb1 hb2 hb3
  clear f0 f1 f2 f3 z3 l1 he he1 hx1 hw hgt hw2 hw3
  by_cases hci : c = i
  · have hn0 : n = 0 := by have := HM.out; omega
    subst hn0
    have hmc : m = c := by have := HM.out; omega
    subst hmc hci
    refine wp_region_in _ (by kernel_rfl) (by kernel_rfl) (Ext.refl _) ?_
    repeat (refine wpQuiet_step (fun K hK => ?_); go_simp; first | (refine hK _ ?_; clear hK K) | (apply Exists.intro; refine ⟨fun w' hw' => ?_, hK _ ?_⟩; (first |  (have g0 := hw'.cell l2 e0; have g1 := hw'.cell l2 e1; go_simp; rfl)); clear hK K))
    refine wpQuiet_nil ?_
    intro w3 hx3
    go_wp2
    go_ret2
    exact ⟨_, _, rfl, Row.nil _ _, hch.then_ext hx3, he2.ext hx3, by omega⟩
  · skip
    refine wp_region_in _ (by kernel_rfl) (by kernel_rfl) (Ext.refl _) ?_
    repeat (refine wpQuiet_step (fun K hK => ?_); go_simp; first | (refine hK _ ?_; clear hK K) | (apply Exists.intro; refine ⟨fun w' hw' => ?_, hK _ ?_⟩; (first |  (have g0 := hw'.cell l2 e0; have g1 := hw'.cell l2 e1; go_simp; rfl)); clear hK K))
    refine wpQuiet_nil ?_
    intro w3 hx3
    go_wp2
    go_ret2
    refine ⟨_, _, rfl, ?_, hch.then_ext hx3, he2.ext hx3, by omega⟩
    by_cases hil : i < xs.length
    · have := (Row.drop (he2.row.ext hx3) i hil).take n
      rwa [Nat.mul_one] at this
    · rw [List.drop_eq_nil_of_le (by omega), List.take_nil]
      exact Row.nil _ _
theorem numV_drop (l : List UInt8) (k : Nat) (hk : k < l.length) : numV (l.drop k) = l[k].toNat + 256 * numV (l.drop (k + 1)) := by
  rw [List.drop_eq_getElem_cons hk]
  rfl
theorem or_step2 (N a : Nat) (hN : N < 72057594037927936) (ha : a < 256) : bits BinOp.or IntKind.u64 (IntKind.u64.wrap ((N : Int) * 256)) (IntKind.u64.wrap (a : Int)) = ((a + 256 * N : Nat) : Int) := by
  have e1 : IntKind.u64.wrap (a : Int) = ((a : Nat) : Int) := by rw [IntKind.wrap_u64]; omega
  have e2 : IntKind.u64.wrap ((N : Int) * 256) = ((N * 2 ^ 8 : Nat) : Int) := by rw [IntKind.wrap_u64]; omega
  rw [e1, e2, bits_or_u64_nat _ _ (by omega) (by omega), ← Nat.shiftLeft_eq, ← Nat.shiftLeft_add_eq_or_of_lt (by omega), Nat.shiftLeft_eq]
  congr 1
  omega
theorem rnumber_any (l : List UInt8) (A : Option Addr) (c : Nat) (w : World) (h8 : l.length ≤ 8) (hs : U8s w A l) :
    Calls Try.prog 52 #[.slice A l.length c] w fun e w' => e = .returned (.int .u64 (numV l : Nat)) ∧ w = w' := by
  go_enter Try.func52, Try.ntmps52
  go_wp2
  go_loopw [4, 3] (fun i v wr => ∃ k : Nat, k ≤ l.length ∧ i = .int .i64 ((k : Int) - 1) ∧ v = .int .u64 (numV (l.drop k) : Nat) ∧ w = wr) (fun i _ _ => (intOf i + 1).toNat)
  case atStart => exact ⟨l.length, by omega, by go_num, by simp [numV], rfl⟩
  case round =>
    obtain ⟨k, hk, rfl, rfl, rfl⟩ := hrel
    cases k with
    | zero =>
      rw [List.drop_zero]
      go_wp2
      go_ret
      exact ⟨rfl, rfl⟩
    | succ k =>
      have hkl : k < l.length := by omega
      obtain ⟨b, o, rfl, hb, hcell⟩ := hs.c1 k hkl _ rfl
      have hT := Lib.hid (numV_drop l k hkl)
      have hN : numV (l.drop (k + 1)) < 72057594037927936 := by
        have h1 := numV_lt (l.drop (k + 1))
        rw [List.length_drop] at h1
        have h2 : (256 : Nat) ^ (l.length - (k + 1)) ≤ 256 ^ 7 := Nat.pow_le_pow_right (by omega) (by omega)
        have h3 : (256 : Nat) ^ 7 = 72057594037927936 := by decide
        omega
      have hor := or_step2 _ _ hN (l[k]).toNat_lt
      generalize l[k] = a at *
      generalize numV (l.drop (k + 1)) = N at *
      have hki : ((k + 1 : Nat) : Int) - 1 = (k : Int) := by omega
      rw [hki]
      clear hN hki
      go_wp2
      go_roundw
      case rel => exact ⟨k, by omega, by go_num, by rw [hT.out]; simp, by first | rfl | trivial⟩
      case measure => simp [intOf]
end Go.Proofs.Ytbmpecfhflkbeaa
