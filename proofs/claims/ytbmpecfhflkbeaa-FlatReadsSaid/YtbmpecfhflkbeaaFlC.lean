/- Contracts: the eye's inner functions. -/
import Derived.Test.YtbmpecfhflkbeaaFlB
namespace Go.Proofs.Ytbmpecfhflkbeaa
open Go.RowKit

/-- the eye at p: what is left, is it blind -/
structure EyeAt (w : World) (p : Nat) (g : Option Nat) (A : Option Addr) (c : Nat) (xs : List UInt8) (bl : Bool) : Prop where
  blk : Blk w p 79 #[.slice A xs.length c, .bool bl]
  row : U8s w A xs
  cap : xs.length ≤ c
  in_ : ∀ ad, A = some ad → g = some ad.block
  ne : g ≠ some p
  lt : ∀ i, g = some i → i < w.heap.size
  none_ : A = none → c = 0
  max_ : xs.length ≤ 1099511627776
abbrev isP (p : Nat) : Nat → Prop := fun i => i = p
theorem EyeAt.far {w : World} {p : Nat} {g : Option Nat} {A : Option Addr} {c : Nat} {xs : List UInt8} {bl : Bool} (h : EyeAt w p g A c xs bl) : xs ≠ [] → ∀ ad, A = some ad → ¬ isP p ad.block := fun _ ad e e' => h.ne ((h.in_ ad e).trans (congrArg some e'))
theorem EyeAt.chs {S : Nat → Prop} {w w' : World} {p : Nat} {g : Option Nat} {A : Option Addr} {c : Nat} {xs : List UInt8} {bl : Bool} (h : EyeAt w p g A c xs bl) (k : Chs S w w') (h1 : ¬ S p) (h2 : ∀ i, i < w.heap.size → g = some i → ¬ S i) : EyeAt w' p g A c xs bl :=
  ⟨h.blk.chs k h1, h.row.chs k (fun _ ad e => h2 _ (h.lt _ (h.in_ ad e)) (h.in_ ad e)), h.cap, h.in_, h.ne, fun i e => Nat.lt_of_lt_of_le (h.lt i e) k.size, h.none_, h.max_⟩
theorem EyeAt.ext {w w' : World} {p : Nat} {g : Option Nat} {A : Option Addr} {c : Nat} {xs : List UInt8} {bl : Bool} (h : EyeAt w p g A c xs bl) (k : Ext w w') : EyeAt w' p g A c xs bl := h.chs (S := fun _ => False) (.of_ext k) (fun e => e) (fun _ _ _ e => e)
theorem Chs.set1 (w : World) (p o : Nat) (u : Value) : Chs (isP p) w (w.setCell ⟨p, o, none⟩ u) := Chs.setCell (S := isP p) (p := ⟨p, o, none⟩) (Chs.refl _ _) (.inl rfl) u
/-- what 'must' throws -/
abbrev sight : Ending := .panicked [{ v := .iface 91 (.agg #[]), recovered := false }]

theorem must_true (w : World) : Calls Try.prog 55 #[.bool true] w fun e w' => e = .returned (.tuple #[]) ∧ w = w' := by
  go_enter Try.func55, Try.ntmps55
  go_wp2
  go_end0
  exact ⟨rfl, rfl⟩
theorem must_false (w : World) : Calls Try.prog 55 #[.bool false] w fun e w' => e = sight ∧ w = w' := by
  have hpa : ∀ (t : TypeId) (v : Value) (w : World), (Instr.panic (.iface t v)).run Try.prog w = .halt (.panic (.iface t v)) w := fun _ _ _ => rfl
  go_enter Try.func55, Try.ntmps55
  go_wp2
  exact ⟨rfl, rfl, rfl⟩
theorem must_ok (b : Bool) (h : b = true) (w : World) : Calls Try.prog 55 #[.bool b] w fun e w' => e = .returned (.tuple #[]) ∧ w = w' := h ▸ must_true w
theorem must_no (b : Bool) (h : b = false) (w : World) : Calls Try.prog 55 #[.bool b] w fun e w' => e = sight ∧ w = w' := h ▸ must_false w
theorem take_ok (p : Nat) (g : Option Nat) (n : Nat) (A : Option Addr) (c : Nat) (xs : List UInt8) (bl : Bool) (w : World) (he : EyeAt w p g A c xs bl) (hn : n ≤ xs.length) :
    Calls Try.prog 56 #[.pointer (some ⟨p, 0, none⟩), .int .i64 (n : Int)] w fun e w' => e = .returned (.slice A n c) ∧ Chs (isP p) w w' ∧ (∃ A', EyeAt w' p g A' (c - n) (xs.drop n) bl) ∧ U8s w' A (xs.take n) := by
  have h1 : w.cell? ⟨p, 0, none⟩ = some (.slice A xs.length c) := he.blk.cell 0
  have h2 := he.blk.frozen 0
  have hpl := he.blk.lt
  have hd : decide (n ≤ xs.length) = true := by simpa using hn
  have hcp := he.cap
  have hmx := he.max_
  go_enter Try.func56, Try.ntmps56
  go_wp2_with (go_at_call 55; refine (must_true _).mono ?_; rintro e w' ⟨rfl, rfl⟩)
  · subst h
    have hl : xs.length = c := by omega
    have hx : Chs (isP p) w (w.setCell ⟨p, 0, none⟩ (.slice A (xs.length - c) 0)) := Chs.set1 _ _ _ _
    go_ret
    refine ⟨rfl, hx, ⟨A, ⟨?_, ?_, ?_, he.in_, he.ne, (fun i e => Nat.lt_of_lt_of_le (he.lt i e) hx.size), ?_, ?_⟩⟩, (he.row.chs hx he.far).take _⟩
    · rw [List.length_drop]; exact he.blk.set_ 0 _
    · intro hd; exact absurd (by rw [List.drop_eq_nil_iff]; omega) hd
    · rw [List.length_drop]; omega
    · intro _; omega
    · rw [List.length_drop]; omega
  · have hx : Chs (isP p) w (w.setCell ⟨p, 0, none⟩ (.slice (A.map (·.add n)) (xs.length - n) (c - n))) := Chs.set1 _ _ _ _
    have hr := he.row.chs hx he.far
    go_ret
    refine ⟨rfl, hx, ⟨A.map (·.add n), ⟨?_, ?_, ?_, ?_, he.ne, (fun i e => Nat.lt_of_lt_of_le (he.lt i e) hx.size), ?_, ?_⟩⟩, hr.take _⟩
    · rw [List.length_drop]; exact he.blk.set_ 0 _
    · by_cases hnl : n < xs.length
      · have := Row.drop hr n hnl
        rwa [Nat.mul_one] at this
      · intro hd; exact absurd (by rw [List.drop_eq_nil_iff]; omega) hd
    · rw [List.length_drop]; omega
    · intro ad e
      cases A with
      | none => cases e
      | some a =>
        injection e with e
        subst e
        rw [block_of_add]
        exact he.in_ a rfl
    · intro e
      cases A with
      | none => have := he.none_ rfl; omega
      | some a => cases e
    · rw [List.length_drop]; omega
theorem take_not (p : Nat) (g : Option Nat) (n : Nat) (A : Option Addr) (c : Nat) (xs : List UInt8) (bl : Bool) (w : World) (he : EyeAt w p g A c xs bl) (hn : xs.length < n) :
    Calls Try.prog 56 #[.pointer (some ⟨p, 0, none⟩), .int .i64 (n : Int)] w fun e w' => e = sight ∧ w = w' := by
  have h1 : w.cell? ⟨p, 0, none⟩ = some (.slice A xs.length c) := he.blk.cell 0
  have h2 := he.blk.frozen 0
  have hpl := he.blk.lt
  have hd : decide (n ≤ xs.length) = false := by simpa using hn
  have hcp := he.cap
  have hmx := he.max_
  go_enter Try.func56, Try.ntmps56
  go_wp2_with (go_at_call 55; refine (must_false _).mono ?_; rintro e w' ⟨rfl, rfl⟩)
  exact ⟨rfl, rfl, rfl⟩

/-- a number of its bytes, the lowest first -/
def numV : List UInt8 → Nat
  | [] => 0
  | b :: l => b.toNat + 256 * numV l
theorem numV_lt (l : List UInt8) : numV l < 256 ^ l.length := by
  induction l with
  | nil => simp [numV]
  | cons b l ih =>
    have := b.toNat_lt
    unfold numV
    rw [List.length_cons, Nat.pow_succ]
    omega
theorem numV_snoc (l : List UInt8) (a : UInt8) : numV (l ++ [a]) = numV l + a.toNat * 256 ^ l.length := by
  induction l with
  | nil => simp [numV]
  | cons b l ih =>
    show b.toNat + 256 * numV (l ++ [a]) = b.toNat + 256 * numV l + a.toNat * 256 ^ (l.length + 1)
    rw [ih, Nat.pow_succ, Nat.mul_add, Nat.add_assoc]
    congr 2
    rw [Nat.mul_left_comm, Nat.mul_comm 256]
theorem numV_take (l : List UInt8) (k : Nat) (hk : k < l.length) : numV (l.take (k + 1)) = numV (l.take k) + l[k].toNat * 256 ^ k := by
  rw [List.take_succ_eq_append_getElem hk, numV_snoc, List.length_take, Nat.min_eq_left (by omega)]
theorem or_step (N a k : Nat) (hN : N < 256 ^ k) (ha : a < 256) (hk : k < 8) : bits BinOp.or IntKind.u64 (N : Int) (IntKind.u64.wrap (IntKind.u64.wrap (a : Int) * 2 ^ (8 * k))) = ((N + a * 256 ^ k : Nat) : Int) := by
  have hp : (256 : Nat) ^ k = 2 ^ (8 * k) := by rw [Nat.pow_mul]
  have hk2 : (256 : Nat) ^ (k + 1) ≤ 256 ^ 8 := Nat.pow_le_pow_right (by omega) (by omega)
  rw [Nat.pow_succ] at hk2
  have hpos : 0 < (256 : Nat) ^ k := Nat.pow_pos (by omega)
  have ha2 : a * 256 ^ k ≤ 255 * 256 ^ k := Nat.mul_le_mul_right _ (by omega)
  have e1 : IntKind.u64.wrap (a : Int) = (a : Int) := by rw [IntKind.wrap_u64]; omega
  have e2 : (a : Int) * 2 ^ (8 * k) = ((a * 2 ^ (8 * k) : Nat) : Int) := by push_cast; rfl
  have h64 : (256 : Nat) ^ 8 = 18446744073709551616 := by decide
  rw [e1, e2, ← hp, IntKind.wrap_u64, show ((a * 256 ^ k : Nat) : Int) % 18446744073709551616 = ((a * 256 ^ k : Nat) : Int) by omega, bits_or_u64_nat _ _ (by omega) (by omega)]
  congr 1
  rw [hp] at hN ⊢
  rw [Nat.or_comm, ← Nat.shiftLeft_eq, ← Nat.shiftLeft_add_eq_or_of_lt hN, Nat.shiftLeft_eq]
  omega
theorem number_ok (p : Nat) (g : Option Nat) (n : Nat) (A : Option Addr) (c : Nat) (xs : List UInt8) (bl : Bool) (w : World) (he : EyeAt w p g A c xs bl) (hn : n ≤ xs.length) (h8 : n ≤ 8) :
    Calls Try.prog 50 #[.pointer (some ⟨p, 0, none⟩), .int .i64 (n : Int)] w fun e w' => e = .returned (.int .u64 (numV (xs.take n) : Nat)) ∧ Chs (isP p) w w' ∧ ∃ A', EyeAt w' p g A' (c - n) (xs.drop n) bl := by
  go_enter Try.func50, Try.ntmps50
  go_wp2_with (go_at_call 56; refine (take_ok p g n A c xs bl _ he hn).mono ?_; rintro e w1 ⟨rfl, hx1, ⟨A1, he1⟩, hr1⟩)
  go_loopw [11, 4] (fun i v wr => ∃ k : Nat, k ≤ n ∧ i = .int .i64 k ∧ v = .int .u64 (numV ((xs.take n).take k) : Nat) ∧ w1 = wr) (fun i _ _ => n - (intOf i).toNat)
  case atStart => exact ⟨0, by omega, rfl, rfl, rfl⟩
  case round =>
    obtain ⟨k, hk, rfl, rfl, rfl⟩ := hrel
    by_cases hlt : k < n
    · have hlen : (xs.take n).length = n := by rw [List.length_take]; omega
      have hkl : k < (xs.take n).length := by omega
      obtain ⟨b, o, rfl, hb, hcell⟩ := hr1.c1 k hkl _ rfl
      have hN := numV_lt ((xs.take n).take k)
      rw [List.length_take, hlen, Nat.min_eq_left hk] at hN
      have hT := Lib.hid (numV_take (xs.take n) k hkl)
      have hor := or_step _ _ k hN ((xs.take n)[k]'hkl).toNat_lt (by omega)
      generalize (xs.take n)[k]'hkl = a at *
      generalize numV ((xs.take n).take k) = N at *
      clear hlen hkl hN
      go_wp2
      go_roundw
      case rel => exact ⟨k + 1, by omega, by go_num, by rw [hT.out]; simp, by first | rfl | trivial⟩
      case measure => simp [intOf]; omega
    · obtain rfl : k = n := by omega
      rw [List.take_take, Nat.min_self]
      go_wp2
      go_ret
      exact ⟨rfl, hx1, A1, he1⟩
theorem number_not (p : Nat) (g : Option Nat) (n : Nat) (A : Option Addr) (c : Nat) (xs : List UInt8) (bl : Bool) (w : World) (he : EyeAt w p g A c xs bl) (hn : xs.length < n) :
    Calls Try.prog 50 #[.pointer (some ⟨p, 0, none⟩), .int .i64 (n : Int)] w fun e w' => e = sight ∧ w = w' := by
  go_enter Try.func50, Try.ntmps50
  go_wp2_with (go_at_call 56; refine (take_not p g n A c xs bl _ he hn).mono ?_; rintro e w1 ⟨rfl, rfl⟩)
  exact ⟨rfl, rfl, rfl⟩
end Go.Proofs.Ytbmpecfhflkbeaa

