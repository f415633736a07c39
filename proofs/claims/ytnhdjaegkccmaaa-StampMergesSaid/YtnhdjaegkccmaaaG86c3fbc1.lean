/- Texts of the proofs of StampMerges, merged (StCmp, StCp, StBs, StSet, PStE, StMrg, PLists, StV). -/
import Derived.Shelf.SlSortCmp.NoneTotal
import Derived.Test.YtnhdjaegkccmaaaWWords
import Derived.Test.YtnhdjaegkccmaaaWLast
import Derived.Test.YtnhdjaegkccmaaaWTab
import Derived.Test.YtnhdjaegkccmaaaWQPut
import Derived.Test.YtnhdjaegkccmaaaWApart
import Derived.Test.YtnhdjaegkccmaaaWArr
import Derived.Test.YtnhdjaegkccmaaaWZeros
import Derived.Test.YtnhdjaegkccmaaaWFoot
import Derived.Test.YtnhdjaegkccmaaaWKept
import Derived.Test.YtnhdjaegkccmaaaWShare
import Derived.Test.YtnhdjaegkccmaaaWN
import Derived.Test.YtnhdjaegkccmaaaWEqStruct
import Derived.Test.YtnhdjaegkccmaaaWRepsOne
import Derived.Test.YtnhdjaegkccmaaaWGuard
import Derived.Test.YtnhdjaegkccmaaaWNEv
import Derived.Test.YtnhdjaegkccmaaaWMore
import Derived.Lib.SliceRun
import Derived.BigQuiet
import Derived.Test.YtnhdjaegkccmaaaGf8a1be9d
import Derived.Test.YtnhdjaegkccmaaaG6fd917f9
import Derived.Test.YtnhdjaegkccmaaaG5069bfb7
import Derived.Test.YtnhdjaegkccmaaaGd76a5295
import Derived.Test.YtnhdjaegkccmaaaG70b67bd7
import Derived.Test.YtnhdjaegkccmaaaG156e9106
import Derived.Test.YtnhdjaegkccmaaaG67187c64
import Derived.Test.YtnhdjaegkccmaaaG83aa1947
import Derived.Test.YtnhdjaegkccmaaaG7a1f7523
import Derived.Test.YtnhdjaegkccmaaaGe8422621
import Derived.Test.YtnhdjaegkccmaaaGb1360167
import Derived.Test.YtnhdjaegkccmaaaG3359b79f
import Derived.Test.YtnhdjaegkccmaaaG0a207337
namespace Go.Proofs.Ytnhdjaegkccmaaa.P
open Go.RowKit
open Go.Proofs.YtnhdjaegkccmaaaW.PrintWords (Kd Aside0)
set_option linter.unusedVariables false
def encSt (x : Stp) : List Value := [.int .i64 x.f0, .int .i64 x.f1]
theorem encSt_len (x : Stp) : (encSt x).length = 2 := rfl
theorem encSt_one (x : Stp) : ∀ v ∈ encSt x, v.oneCell' = true := by
  intro v hv
  simp [encSt] at hv
  rcases hv with rfl | rfl <;> rfl
theorem wideSt (l : List Stp) : Wide 2 (l.map encSt) := wide_map encSt_len encSt_one l
theorem C_rawSt {w : World} {A : Option Addr} {l : List Stp} (h : Kd.C k23 w A l.length l) : Reads w w.heap.size 2 A (l.map encSt).length (l.map encSt).flatten := by
  refine ⟨(wideSt l).len, fun hn => ?_⟩
  rw [List.length_map] at hn
  obtain ⟨ad, hA, hc⟩ := h.2.2 hn
  have hcell : ∀ j (hj : j < l.length) i u, (encSt l[j])[i]? = some u → w.cell? (ad.add (j * 2 + i)) = some u := by
    intro j hj i u hu
    obtain ⟨c, _, hK, hcc⟩ := hc j _ (List.getElem?_eq_getElem hj)
    obtain rfl := k23_open hK
    exact hcc i u hu
  refine ⟨ad, hA, ?_, fun j u hu => ?_⟩
  · have h0 := hcell 0 hn 0 _ rfl
    have := World.block_lt_of_cell? w _ h0
    rwa [block_of_add] at this
  · have hlt := (List.getElem?_eq_some_iff.1 hu).1
    rw [(wideSt l).len, List.length_map] at hlt
    have hj : j / 2 < l.length := by omega
    have e0 : j / 2 * 2 + j % 2 = j := by omega
    have := (wideSt l).at_ (j / 2) (by simpa using hj) (j % 2) (by omega) []
    rw [List.append_nil, e0, hu, List.getElem_map] at this
    have h1 := hcell (j / 2) hj (j % 2) u this.symm
    rwa [e0] at h1
theorem R_rawSt {w : World} {base : Nat} {v : Value} {l : List Stp} (h : w.ownsRow base 23 2 v l.length (l.map encSt).flatten) : Kd.R k23 23 w base (fun _ => True) v l := by
  refine ⟨fun _ _ => trivial, (l.map encSt).flatten, h, ?_, fun j x hx => ?_⟩
  · rw [(wideSt l).len, List.length_map]; rfl
  · obtain ⟨hj, rfl⟩ := List.getElem?_eq_some_iff.1 hx
    have : (((l.map encSt).flatten.drop (j * 2)).take 2) = [.int .i64 l[j].f0, .int .i64 l[j].f1] := by
      apply List.ext_getElem?
      intro i
      rw [List.getElem?_take]
      by_cases hi : i < 2
      · rw [if_pos hi, List.getElem?_drop]
        have := (wideSt l).at_ j (by simpa using hj) i hi []
        rw [List.append_nil, List.getElem_map] at this
        rw [this]
        rfl
      · rw [if_neg hi]
        match i, hi with
        | i + 2, _ => rfl
    show Kd.M _ w base _ _ (((l.map encSt).flatten.drop (j * 2)).take 2)
    rw [this]
    exact k23_mkM _ _ _ _
theorem cmpS_or (a b : Stp) : orV (cmpI a.f0 b.f0) (cmpI a.f1 b.f1) = cmpS a b := by
  unfold orV cmpI cmpS
  rcases Int.lt_trichotomy a.f0 b.f0 with h | h | h
  · have h1 : ltS a b = true := (ltS_iff a b).2 (.inl h)
    simp [h, h1]
  · rcases Int.lt_trichotomy a.f1 b.f1 with g | g | g
    · have h1 : ltS a b = true := (ltS_iff a b).2 (.inr ⟨h, g⟩)
      simp [h, g, h1]
    · have h1 : ltS a b = false := (ltS_false a b).2 (by omega)
      have h2 : ltS b a = false := (ltS_false b a).2 (by omega)
      simp [h, g, h1, h2]
    · have h1 : ltS a b = false := (ltS_false a b).2 (by omega)
      have h2 : ltS b a = true := (ltS_iff b a).2 (.inr ⟨h.symm, g⟩)
      have : ¬ a.f1 < b.f1 := by omega
      simp [h, g, h1, h2, this]
  · have h1 : ltS a b = false := (ltS_false a b).2 (by omega)
    have h2 : ltS b a = true := (ltS_iff b a).2 (.inl h)
    have : ¬ a.f0 < b.f0 := by omega
    simp [h, h1, h2, this]
theorem grow3 (w : World) (a b c : Obj) : ∃ q os', ((w.alloc a).alloc b).drew.alloc c = Sort.grow (w.drewN q) os' := by
  refine ⟨1, #[a] ++ #[b] ++ #[c], ?_⟩
  rw [Sort.alloc_eq_grow, Sort.alloc_eq_grow, Sort.alloc_eq_grow, Sort.grow_grow]
  show Sort.grow (Sort.grow w.drew _) _ = _
  rw [Sort.grow_grow]
  rfl
set_option maxRecDepth 100000 in
theorem cmp_st (a b : Stp) (w : World) :
    Calls Try.prog 17 #[.agg #[.int .i64 a.f0, .int .i64 a.f1], .agg #[.int .i64 b.f0, .int .i64 b.f1]] w fun e w' => e = .returned (.int .i64 (cmpS a b)) ∧ ∃ q os', w' = Sort.grow (w.drewN q) os' := by
  rw [← cmpS_or]
  obtain ⟨t, n⟩ := a
  obtain ⟨u, m⟩ := b
  go_enter Try.func17, Try.ntmps17
  go_wp2
  obtain ⟨W, hW⟩ : ∃ W, W = (w.alloc (.cells #[.int .i64 t, .int .i64 n] 23)).alloc (.cells #[.int .i64 u, .int .i64 m] 23) := ⟨_, rfl⟩
  have c1 : W.cell? ⟨w.heap.size, 0, none⟩ = some (.int .i64 t) := by rw [hW]; simp
  have c2 : W.cell? ⟨w.heap.size, 1, none⟩ = some (.int .i64 n) := by rw [hW]; simp
  have c3 : W.cell? ⟨w.heap.size + 1, 0, none⟩ = some (.int .i64 u) := by rw [hW]; simp
  have c4 : W.cell? ⟨w.heap.size + 1, 1, none⟩ = some (.int .i64 m) := by rw [hW]; simp
  have HX := Lib.hid hW
  rw [← hW]; clear hW
  refine wp_region_still_tail 10 (by kernel_rfl) (by kernel_rfl) ?_
  simp only [List.take_succ_cons, List.take_zero, List.drop_succ_cons, List.drop_zero, World.drew_eq]
  repeat still_step
  still_call (flip_w (cmpInt64_any _ _ _))
  repeat still_step
  still_call (flip_w (cmpInt_any _ _ _))
  repeat still_step
  try refine wpStill_nil ?_
  go_wp2_with (go_at_call 42; refine (or_any _ _ _ _ _ _ (two_drew0 _ _ _ _) (two_drew1 _ _ _ _)).mono ?_; rintro e w' ⟨rfl, rfl⟩)
  go_ret
  exact ⟨rfl, by rw [HX.out]; exact grow3 _ _ _ _⟩
theorem ltOf_cmpS (x y : Stp) : ltOf cmpS x y = ltS x y := by
  unfold ltOf
  exact cmpS_lt x y
theorem swoSt : Sort.SWO (ltOf cmpS) where
  irrefl x := by rw [ltOf_cmpS]; exact ltS_irrefl _
  trans x y z h1 h2 := by rw [ltOf_cmpS] at *; exact ltS_trans h1 h2
  ntrans x y z h1 h2 := by rw [ltOf_cmpS] at *; exact ltS_ntrans h1 h2
theorem enters_cmpS : ∀ args w, (callFunc 17 args).run Try.prog w = .ok (.enter 17 args) w := enters_fn Try.func17 (by kernel_rfl) rfl
theorem sortSt_any (blk cap : Nat) (l : List Stp) (rest : List Value) (w : World) (h : RowAt w blk 23 (l.map encSt) rest) (hsz : l.length < 4611686018427387904) :
    Calls Try.prog 47 #[.slice (some ⟨blk, 0, none⟩) l.length cap, .func (.func 17) #[] #[]] w fun e w' => e = .returned (.tuple #[]) ∧ ∃ l', l'.Perm l ∧ Rises ltS l' ∧ Chs (fun i => i = blk) w w' ∧ RowAt w' blk 23 (l'.map encSt) rest := by
  have hH := row_holds encSt_len encSt_one h
  have hcmp : CmpLays Try.prog 17 #[] encSt 2 cmpS blk 0 l.toArray.size w := fun _ _ _ _ x y => cmp_st x y _
  have hcon := AnyQ.slices_SortFunc laySortSt 2 Try.isAgg23 Try.sizeOf23 encSt encSt_len encSt_one cmpS swoSt 17 #[] blk 0 cap l.toArray w enters_cmpS hcmp hH h.lt (by simpa using hsz)
  refine Calls.mono (show Calls Try.prog 47 #[.slice (some ⟨blk, 0, none⟩) l.length cap, .func (.func 17) #[] #[]] w _ from hcon) ?_
  rintro e w' ⟨rfl, d', n, os, hp, hs, rfl⟩
  obtain ⟨hp1, hp2⟩ := perm_of _ _ hp
  have hs' := rises_of _ d' (by rw [hp2]; exact hs)
  refine ⟨rfl, d'.toList, by simpa using hp1, ?_, sort_chs _ _ _, sort_row encSt_len encSt_one h d' (by simpa using hp2) n os⟩
  unfold Rises at hs' ⊢
  exact hs'.imp fun {a b} hab => by rw [← ltOf_cmpS]; exact hab
theorem sortO_st (base : Nat) (v : Value) (l : List Stp) (w : World) (h : w.ownsRow base 23 2 v l.length (l.map encSt).flatten) (hsz : l.length < 4611686018427387904) :
    Calls Try.prog 47 #[v, .func (.func 17) #[] #[]] w fun e w' => e = .returned (.tuple #[]) ∧ ∃ l', l'.Perm l ∧ Rises ltS l' ∧ ChsV v w w' ∧ w'.ownsRow base 23 2 v l'.length (l'.map encSt).flatten := by
  have hl : (l.map encSt).length = l.length := List.length_map _
  rw [← hl] at h
  rcases own_rowAt h (wideSt l) with ⟨rfl, e0⟩ | ⟨blk, cap, rest, rfl, hb, hlt, hc, hm, hrow, hs⟩
  · obtain rfl : l = [] := by simpa using e0
    refine Calls.mono (show Calls Try.prog 47 _ w _ from AnyF.slices_SortFunc_none laySortSt none 0 (.func (.func 17) #[] #[]) w) ?_
    rintro e w' ⟨rfl, rfl⟩
    exact ⟨rfl, [], List.Perm.refl _, List.Pairwise.nil, Chs.refl _ _, World.ownsRow_nil _ _ _ _⟩
  · rw [hl]
    refine (sortSt_any blk cap l rest w hrow hsz).mono ?_
    rintro e w' ⟨rfl, l', hp, hr, hx, hrow'⟩
    refine ⟨rfl, l', hp, hr, hx.mono (fun i _ e => by subst e; rfl), ?_⟩
    have hll := hp.length_eq
    have := rowAt_own hrow' (wideSt l') hb (by rw [List.length_map, hll]; simpa using hc) hm (by rw [(wideSt l').len, List.length_map, hll]; rw [(wideSt l).len, List.length_map] at hs; exact hs)
    rw [List.length_map] at this
    rw [hll] at this ⊢
    exact this
end Go.Proofs.Ytnhdjaegkccmaaa.P
namespace Go.Proofs.Ytnhdjaegkccmaaa.P
open Go.RowKit
open Go.Proofs.YtnhdjaegkccmaaaW.PrintWords (Kd Aside0 eqA_of eqf_cons eqf_last)
set_option linter.unusedVariables false
theorem eqASt (d : Nat) (w : World) (x0 y0 : Int) (x1 y1 : Int) :
    (Op.equalIn (d + 2) 23 (.agg #[.int .i64 x0, .int .i64 x1]) (.agg #[.int .i64 y0, .int .i64 y1])).run Try.prog w = .ok (x0 == y0 && (x1 == y1)) w := by
  refine eqA_of Try.underlying23 (by kernel_rfl) ?_
  refine eqf_cons (by rfl) (by go_simp; rfl) (by go_simp; rfl) (by go_simp) ?_
  exact eqf_last (by rfl) (by go_simp; rfl) (by go_simp; rfl) (by go_simp)
theorem beq_stp (a b : Stp) : (a.f0 == b.f0 && (a.f1 == b.f1)) = decide (a = b) := by
  by_cases h : a = b
  · subst h; simp
  · rw [decide_eq_false h]
    cases e : (a.f0 == b.f0 && (a.f1 == b.f1)) with
    | false => rfl
    | true => rw [Bool.and_eq_true, beq_iff_eq, beq_iff_eq] at e; exact absurd (stp_eq e.1 e.2) h
attribute [local go_sem high] eqASt
theorem compL_short {l : List Stp} (h : l.length < 2) : compL l = l := by
  match l, h with
  | [], _ => rfl
  | [a], _ => rfl
theorem compL_one (l : List Stp) : compL (l.take 1) = l.take 1 := compL_short (by rw [List.length_take]; omega)
/-- where the second loop stands: i elements kept of the first j -/
structure CompIs (l : List Stp) (i j : Nat) (ys : List Stp) : Prop where
  len : ys.length = l.length
  lt : i < j
  le : j ≤ l.length
  pos : 0 < i
  kept : ys.take i = compL (l.take j)
  rest : ∀ m (h : m < ys.length), j - 1 ≤ m → ys[m] = l[m]'(by rw [← len]; exact h)
theorem compL_dup (l : List Stp) (k : Nat) (hk : k < l.length) (h0 : 0 < k) (he : l[k] = l[k - 1]) : compL (l.take (k + 1)) = compL (l.take k) := by
  rw [compL_take l k hk]
  unfold stepC
  have := compL_last_at l (k - 1) (by omega)
  rw [show k - 1 + 1 = k from by omega] at this
  rw [if_pos (by rw [this, he])]
theorem compL_new (l : List Stp) (k : Nat) (hk : k < l.length) (h0 : 0 < k) (he : ¬ l[k] = l[k - 1]) : compL (l.take (k + 1)) = compL (l.take k) ++ [l[k]] := by
  rw [compL_take l k hk]
  unfold stepC
  have := compL_last_at l (k - 1) (by omega)
  rw [show k - 1 + 1 = k from by omega] at this
  rw [if_neg (by rw [this]; exact fun e => he (Option.some.inj e).symm)]
theorem CompIs.start {l : List Stp} {k : Nat} (hk : k < l.length) (h0 : 0 < k) (he : l[k] = l[k - 1]) (hc : compL (l.take k) = l.take k) : CompIs l k (k + 1) l :=
  ⟨rfl, by omega, by omega, h0, by rw [compL_dup l k hk h0 he, hc], fun m h hm => rfl⟩
theorem CompIs.skip {l ys : List Stp} {i j : Nat} (h : CompIs l i j ys) (hj : j < l.length) (he : l[j] = l[j - 1]'(by omega)) : CompIs l i (j + 1) ys :=
  ⟨h.len, by have := h.lt; omega, hj, h.pos, by rw [compL_dup l j hj (by have := h.lt; omega) he]; exact h.kept, fun m hm h2 => h.rest m hm (by omega)⟩
theorem CompIs.keep {l ys : List Stp} {i j : Nat} {x : Stp} (h : CompIs l i j ys) (hj : j < l.length) (hx : l[j] = x) (he : ¬ l[j] = l[j - 1]'(by omega)) : CompIs l (i + 1) (j + 1) (ys.set i x) := by
  have h1 := h.lt
  refine ⟨by rw [List.length_set]; exact h.len, by omega, hj, by omega, ?_, fun m hm h2 => ?_⟩
  · rw [compL_new l j hj (by omega) he, ← h.kept, hx]
    have hi : i < ys.length := by rw [h.len]; omega
    rw [List.take_succ_eq_append_getElem (by rw [List.length_set]; exact hi), List.getElem_set_self, List.take_set_of_le (Nat.le_refl _)]
  · rw [List.getElem_set_ne (by omega)]
    exact h.rest m (by rw [List.length_set] at hm; exact hm) (by omega)
theorem CompIs.done {l ys : List Stp} {i : Nat} (h : CompIs l i l.length ys) : (compL l).length = i ∧ ys.take i = compL l := by
  have e := h.kept
  rw [List.take_of_length_le (Nat.le_refl _)] at e
  refine ⟨?_, e⟩
  rw [← e, List.length_take, h.len]
  have := h.lt
  omega
theorem row_cell {w : World} {blk : Nat} {l : List Stp} {rest : List Value} {T : TypeId} (h : RowAt w blk T (l.map encSt) rest) (j : Nat) (hj : j < l.length) (i : Nat) (u : Value) (hu : (encSt l[j])[i]? = some u) : w.cell? ⟨blk, j * 2 + i, none⟩ = some u :=
  h.cell (wideSt l) j (by simpa using hj) i u (by simpa using hu)
set_option maxHeartbeats 4000000 in
set_option maxRecDepth 100000 in
theorem compactR_st (blk cap : Nat) (l : List Stp) (rest : List Value) (w : World) (hrow : RowAt w blk 23 (l.map encSt) rest) (hcap : l.length ≤ cap) (hm : cap ≤ 9223372036854775807) :
    Calls Try.prog 48 #[.slice (some ⟨blk, 0, none⟩) l.length cap] w fun e w' => e = .returned (.slice (some ⟨blk, 0, none⟩) (compL l).length cap) ∧ Chs (fun i => i = blk) w w' ∧ RowAt w' blk 23 ((compL l ++ List.replicate (l.length - (compL l).length) z23).map encSt) rest := by
  have HR := Lib.hid hrow
  clear hrow
  by_cases h2 : l.length < 2
  · have hlt : (l.length : Int) < 2 := by omega
    go_enter Try.func48, Try.ntmps48
    go_wp2
    go_ret
    rw [compL_short h2]
    exact ⟨rfl, Chs.refl _ _, by rw [Nat.sub_self, List.replicate_zero, List.append_nil]; exact HR.out⟩
  · have hlt : ¬ (l.length : Int) < 2 := by omega
    go_enter Try.func48, Try.ntmps48
    go_wp2
    go_loopg [3] l.length (fun gg s3 wr => ∃ k : Nat, 1 ≤ k ∧ k ≤ l.length ∧ l.length - k ≤ gg ∧ s3 = .int .i64 k ∧ Hid (Ext w wr) ∧ Hid (compL (l.take k) = l.take k))
    case atStart => exact ⟨1, by omega, by omega, by omega, rfl, Lib.hid (Ext.refl _), Lib.hid (compL_one l)⟩
    case round =>
      clear hlt
      obtain ⟨k, hk1, hk, hg, rfl, HX, HC⟩ := hrel
      by_cases hlt : k < l.length
      · have hltz : (k : Int) < (l.length : Int) := by omega
        have hkw : IntKind.i64.wrap ((k : Int) - 1) = ((k - 1 : Nat) : Int) := by rw [IntKind.wrap_i64]; omega
        have hk1z : ((k - 1 : Nat) : Int) < (l.length : Int) := by omega
        have hro := HR.out.ext HX.out
        have f0 := row_cell hro k hlt 0 _ rfl
        have f1 := row_cell hro k hlt 1 _ rfl
        have g0 := row_cell hro (k - 1) (by omega) 0 _ rfl
        have g1 := row_cell hro (k - 1) (by omega) 1 _ rfl
        have HRo := Lib.hid hro
        rw [Nat.add_zero] at f0 g0
        have hx0 : l[k] = l[k] := rfl
        have hy0 : l[k - 1] = l[k - 1] := rfl
        generalize hx : l[k] = x at f0 f1 hx0
        generalize hy : l[k - 1] = y at g0 g1 hy0
        have HXk := Lib.hid hx
        have HYk := Lib.hid hy
        clear hx hy hx0 hy0 hro
        cases hq : (x.f0 == y.f0 && (x.f1 == y.f1)) with
        | false =>
          have HQ := Lib.hid hq
          go_wp2
          go_quiet (fail)
          go_wp2
          go_roundg (l.length - (k + 1))
          case measure => omega
          case rel =>
            refine ⟨k + 1, by omega, by omega, by omega, by go_num, Lib.hid ?_, Lib.hid ?_⟩
            · exact HX.out.drewN _
            · rw [compL_new l k hlt (by omega) (by rw [HXk.out, HYk.out]; intro e; have := HQ.out; rw [beq_stp, decide_eq_true e] at this; cases this), HC.out, List.take_succ_eq_append_getElem hlt]
        | true =>
          have HS := Lib.hid (CompIs.start hlt (by omega) (by rw [HXk.out, HYk.out]; have := hq; rw [beq_stp] at this; exact of_decide_eq_true this) HC.out)
          go_wp2
          go_quiet (fail)
          go_wp2
          have HX1 := Lib.hid (HX.out.drewN nq)
          clear f0 f1 g0 g1 hkw hk1z hq HX HC HRo HXk HYk
          go_loopg [3, 5] l.length (fun gg s3 s5 wq => ∃ (i m : Nat) (ys : List Stp), s3 = .int .i64 i ∧ s5 = .int .i64 m ∧ 1 ≤ m ∧ k + m ≤ l.length ∧ l.length - (k + m) ≤ gg ∧ Hid (Chs (fun i => i = blk) w wq) ∧ Hid (RowAt wq blk 23 (ys.map encSt) rest) ∧ Hid (CompIs l i (k + m) ys))
          case atStart => exact ⟨k, 1, l, rfl, rfl, by omega, by omega, by omega, Lib.hid (Chs.of_ext HX1.out), Lib.hid (HR.out.ext HX1.out), HS⟩
          case round =>
            clear HS HX1 hltz
            obtain ⟨i, m, ys, rfl, rfl, hm1, hmn, hgg, HC, HRr, HI⟩ := hrel
            have hij := HI.out.lt
            have hyl := HI.out.len
            have hi0 := HI.out.pos
            by_cases hlt2 : k + m < l.length
            · have hltz : (m : Int) < ((l.length - k : Nat) : Int) := by omega
              have hmw : IntKind.i64.wrap ((m : Int) - 1) = ((m - 1 : Nat) : Int) := by rw [IntKind.wrap_i64]; omega
              have hm1z : ((m - 1 : Nat) : Int) < ((l.length - k : Nat) : Int) := by omega
              have f0 := row_cell HRr.out (k + m) (by omega) 0 _ rfl
              have f1 := row_cell HRr.out (k + m) (by omega) 1 _ rfl
              have g0 := row_cell HRr.out (k + m - 1) (by omega) 0 _ rfl
              have g1 := row_cell HRr.out (k + m - 1) (by omega) 1 _ rfl
              rw [Nat.add_zero] at f0 g0
              rw [show (k + m) * 2 = k * 2 + m * 2 from Nat.add_mul _ _ _] at f0 f1
              rw [show (k + m - 1) * 2 = k * 2 + (m - 1) * 2 from by omega] at g0 g1
              rw [HI.out.rest (k + m) (by omega) (by omega)] at f0 f1
              rw [HI.out.rest (k + m - 1) (by omega) (Nat.le_refl _)] at g0 g1
              generalize hx : l[k + m] = x at f0 f1
              generalize hy : l[k + m - 1] = y at g0 g1
              have HXk := Lib.hid hx
              have HYk := Lib.hid hy
              clear hx hy
              cases hq : (x.f0 == y.f0 && (x.f1 == y.f1)) with
              | true =>
                have HQ := Lib.hid hq
                go_wp2
                go_quiet (fail)
                go_wp2
                go_roundg (l.length - (k + (m + 1)))
                case measure => omega
                case rel =>
                  exact ⟨i, m + 1, ys, rfl, by go_num, by omega, by omega, Nat.le_refl _, Lib.hid (HC.out.then_ext ((Ext.refl _).drewN _)), Lib.hid (HRr.out.ext ((Ext.refl _).drewN _)), Lib.hid (HI.out.skip hlt2 (by rw [HXk.out, HYk.out]; have := HQ.out; rw [beq_stp] at this; exact of_decide_eq_true this))⟩
              | false =>
                have HQ := Lib.hid hq
                have hiy : i < ys.length := by omega
                have d0 := row_cell HRr.out i hiy 0 _ rfl
                have d1 := row_cell HRr.out i hiy 1 _ rfl
                rw [Nat.add_zero] at d0
                have z0 := HRr.out.frozen (i * 2)
                have z1 := HRr.out.frozen (i * 2 + 1)
                go_wp2
                go_quiet (fail)
                go_wp2
                go_roundg (l.length - (k + (m + 1)))
                case measure => omega
                case rel =>
                  refine ⟨i + 1, m + 1, ys.set i x, by go_num, by go_num, by omega, by omega, Nat.le_refl _, Lib.hid (chs_run (HC.out.then_ext ((Ext.refl _).drewN _)) (i * 2) (encSt x)), Lib.hid ?_, Lib.hid (HI.out.keep hlt2 HXk.out (by rw [HXk.out, HYk.out]; intro e; have := HQ.out; rw [beq_stp, decide_eq_true e] at this; cases this))⟩
                  have := RowAt.put (HRr.out.ext ((Ext.refl _).drewN nq)) (wideSt ys) i (by simpa using hiy) (encSt x) rfl
                  rw [← List.map_set] at this
                  exact this
            · have hjn : k + m = l.length := by omega
              have hltz : ¬ (m : Int) < ((l.length - k : Nat) : Int) := by omega
              have hzv : ∀ w, (zeroValue 23).run Try.prog w = .ok (.agg (encSt z23).toArray) w := fun w => by kernel_rfl
              have hcc := run_clear (P := Try.prog) (t := 31) Try.underlying31 hzv (by simp [Value.cells, encSt]) (by simpa [Value.cells] using encSt_one z23) HRr.out (wideSt ys) i (cap - i) (by rw [List.length_map]; omega)
              have hne : ¬ cap = i := by omega
              rw [List.length_map, hyl] at hcc
              have hcl := fun ty => (hcc ty).1
              have HCC := Lib.hid (hcc 0).2
              clear hcc hzv
              go_wp2
              go_ret
              rw [hjn] at HI
              obtain ⟨el, et⟩ := HI.out.done
              refine ⟨by rw [el]; rfl, HC.out.trans (chs_setCells _ _ _), ?_⟩
              have hcz := HCC.out
              simp only [Value.cells] at hcz
              rw [el, ← et]
              simp only [List.map_append, List.map_take, List.map_replicate] at hcz ⊢
              exact hcz
      · obtain rfl : k = l.length := by omega
        have hltz : ¬ (l.length : Int) < (l.length : Int) := by omega
        have he := HC.out
        rw [List.take_of_length_le (Nat.le_refl _)] at he
        have HE := Lib.hid he
        clear he
        go_wp2
        go_ret
        rw [HE.out]
        exact ⟨rfl, Chs.of_ext HX.out, by rw [Nat.sub_self, List.replicate_zero, List.append_nil]; exact HR.out.ext HX.out⟩
end Go.Proofs.Ytnhdjaegkccmaaa.P
namespace Go.Proofs.Ytnhdjaegkccmaaa.P
open Go.RowKit
open Go.Proofs.YtnhdjaegkccmaaaW.PrintWords (Kd Aside0)
set_option linter.unusedVariables false
theorem cmp_ext (a b : Stp) (w : World) :
    Calls Try.prog 17 #[.agg #[.int .i64 a.f0, .int .i64 a.f1], .agg #[.int .i64 b.f0, .int .i64 b.f1]] w fun e w' => e = .returned (.int .i64 (cmpS a b)) ∧ Ext w w' :=
  (compare_any ⟨a.f0, a.f1⟩ ⟨b.f0, b.f1⟩ w).mono fun e w' ⟨he, hx⟩ => ⟨by rw [he]; unfold St.cmp; rw [← cmpS_or], hx⟩
theorem getD_at (l : List Stp) (h : Nat) (hh : h < l.length) : l.getD h default = l[h] := by simp [List.getD_eq_getElem?_getD, hh]
set_option maxHeartbeats 4000000 in
set_option maxRecDepth 100000 in
theorem bsearchR_st (A : Option Addr) (c : Nat) (l : List Stp) (s : Stp) (w : World) (hr : Reads w w.heap.size 2 A (l.map encSt).length (l.map encSt).flatten) (hm : l.length ≤ 4611686018427387903) :
    Calls Try.prog 49 #[.slice A l.length c, .agg #[.int .i64 s.f0, .int .i64 s.f1], .func (.func 17) #[] #[]] w fun e w' => e = .returned (.tuple #[.int .i64 (seekL l s), .bool (hasL l s)]) ∧ Ext w w' := by
  have HR := Lib.hid hr
  clear hr
  go_enter Try.func49, Try.ntmps49
  go_wp2
  go_loopg [9, 10] l.length (fun gg s9 s10 wr => ∃ i j : Nat, i ≤ j ∧ j ≤ l.length ∧ j - i ≤ gg ∧ s9 = .int .i64 i ∧ s10 = .int .i64 j ∧ Hid (Ext w wr) ∧ Hid (halv l s gg i j = seekL l s) ∧ Hid (wr.cell? ⟨w.heap.size, 0, none⟩ = some (.int .i64 s.f0)) ∧ Hid (wr.cell? ⟨w.heap.size, 1, none⟩ = some (.int .i64 s.f1)))
  case atStart => exact ⟨0, l.length, Nat.zero_le _, Nat.le_refl _, by omega, rfl, rfl, Lib.hid ((Ext.refl _).alloc _), Lib.hid rfl, Lib.hid (by simp), Lib.hid (by simp)⟩
  case round =>
    obtain ⟨i, j, hij, hj, hg, rfl, rfl, HX, HS, HB0, HB1⟩ := hrel
    by_cases hlt : i < j
    · have hltz : (i : Int) < (j : Int) := by omega
      have hmid : (i + j) / 2 < l.length := by omega
      have hadd : IntKind.i64.wrap ((i : Int) + (j : Int)) = ((i + j : Nat) : Int) := by rw [IntKind.wrap_i64]; omega
      go_wp2
      have hhz : ((i : Int) + (j : Int)) / 2 = (((i + j) / 2 : Nat) : Int) := by omega
      rw [hhz]
      clear hhz hadd
      obtain ⟨m, hme⟩ : ∃ m, m = (i + j) / 2 := ⟨_, rfl⟩
      rw [← hme] at hmid ⊢
      have hgd := getD_at l m hmid
      have hmz : (m : Int) < (l.length : Int) := by omega
      obtain ⟨ad, rfl, hbb, hcell⟩ := HR.out.2 (by rw [List.length_map]; omega)
      have hcl : ∀ i u, (encSt l[m])[i]? = some u → wr.cell? (ad.add (m * 2 + i)) = some u := fun i u hu => by
        have hi : i < 2 := (List.getElem?_eq_some_iff.1 hu).1
        have h0 := hcell (m * 2 + i) u (by have := (wideSt l).at_ m (by simpa using hmid) i hi []; rw [List.append_nil, List.getElem_map] at this; rw [this]; exact hu)
        rw [← h0]
        exact HX.out.below.cell (by rw [block_of_add]; exact hbb)
      have q0 := hcl 0 _ rfl
      have q1 := hcl 1 _ rfl
      rw [Nat.add_zero] at q0
      rw [add_plus _ _ 1 (by omega)] at q1
      have hb0 := World.block_lt_of_cell? wr _ q0
      have hb1 := World.block_lt_of_cell? wr _ q1
      have q2 := HB0.out
      have q3 := HB1.out
      have hb2 := World.block_lt_of_cell? wr _ q2
      have hb3 := World.block_lt_of_cell? wr _ q3
      generalize hx : l[m] = x at q0 q1 hgd
      clear hcl hcell hx
      have hgk : ∃ g, gk = g + 1 := ⟨gk - 1, by omega⟩
      obtain ⟨g, rfl⟩ := hgk
      have hS := HS.out
      rw [halv, if_pos hlt, ← hme, hgd] at hS
      have hcz : decide (cmpS x s < 0) = ltS x s := cmpS_lt x s
      have hcon := Lib.hid (fun W => cmp_ext x s W)
      have HME := Lib.hid hme
      have HS' := Lib.hid hS
      clear hS HS hme hgd
      generalize hcv : cmpS x s = cv at hcz hcon
      have eg := enters_cmpS
      cases hb : ltS x s with
      | true =>
        have hS := HS'.out
        rw [hb, if_pos rfl] at hS
        rw [hb] at hcz
        have HS := Lib.hid hS
        clear hS HS'
        refine wp_region_in wr (by kernel_rfl) (by kernel_rfl) (Ext.refl _) ?_
        repeat (refine wpQuiet_step (fun K hK => ?_); go_simp; first | (refine hK _ ?_; clear hK K) | (apply Exists.intro; refine ⟨fun w' hw' => ?_, hK _ ?_⟩; (first | (exact qcall hw' (hcon.out _)) |  (have f0 := hw'.cell hb0 q0; have f1 := hw'.cell hb1 q1; have f2 := hw'.cell hb2 q2; have f3 := hw'.cell hb3 q3; go_simp; rfl)); clear hK K))
        refine wpQuiet_nil ?_
        intro w' hw'
        have HC0 := Lib.hid (hw'.cell hb2 q2)
        have HC1 := Lib.hid (hw'.cell hb3 q3)
        have HX2 := Lib.hid (HX.out.trans hw')
        clear q0 q1 q2 q3 hb0 hb1 hb2 hb3 hcz hw'
        go_wp2
        go_roundg g
        case measure => omega
        case rel => have := HME.out; exact ⟨m + 1, j, by omega, hj, by omega, by go_num, rfl, HX2, HS, HC0, HC1⟩
      | false =>
        have hS := HS'.out
        rw [hb, if_neg (by simp)] at hS
        rw [hb] at hcz
        have HS := Lib.hid hS
        clear hS HS'
        refine wp_region_in wr (by kernel_rfl) (by kernel_rfl) (Ext.refl _) ?_
        repeat (refine wpQuiet_step (fun K hK => ?_); go_simp; first | (refine hK _ ?_; clear hK K) | (apply Exists.intro; refine ⟨fun w' hw' => ?_, hK _ ?_⟩; (first | (exact qcall hw' (hcon.out _)) |  (have f0 := hw'.cell hb0 q0; have f1 := hw'.cell hb1 q1; have f2 := hw'.cell hb2 q2; have f3 := hw'.cell hb3 q3; go_simp; rfl)); clear hK K))
        refine wpQuiet_nil ?_
        intro w' hw'
        have HC0 := Lib.hid (hw'.cell hb2 q2)
        have HC1 := Lib.hid (hw'.cell hb3 q3)
        have HX2 := Lib.hid (HX.out.trans hw')
        clear q0 q1 q2 q3 hb0 hb1 hb2 hb3 hcz hw'
        go_wp2
        go_roundg g
        case measure => omega
        case rel => have := HME.out; exact ⟨i, m, by omega, by omega, by omega, rfl, rfl, HX2, HS, HC0, HC1⟩
    · obtain rfl : i = j := by omega
      have hltz : ¬ (i : Int) < (i : Int) := by omega
      have hs : seekL l s = i := by
        rw [← HS.out]
        cases gk with
        | zero => rfl
        | succ g => rw [halv, if_neg hlt]
      have hh : hasL l s = (decide (i < l.length) && decide (l.getD i default = s)) := by unfold hasL; rw [hs]
      have HSK := Lib.hid hs
      have HH := Lib.hid hh
      clear HS hs hh
      by_cases hn : i < l.length
      · have hdn : decide ((i : Int) < (l.length : Int)) = true := by simpa using hn
        have hnz : (i : Int) < (l.length : Int) := by omega
        obtain ⟨ad, rfl, hbb, hcell⟩ := HR.out.2 (by rw [List.length_map]; omega)
        have hcl : ∀ k u, (encSt l[i])[k]? = some u → wr.cell? (ad.add (i * 2 + k)) = some u := fun k u hu => by
          have hi : k < 2 := (List.getElem?_eq_some_iff.1 hu).1
          have h0 := hcell (i * 2 + k) u (by have := (wideSt l).at_ i (by simpa using hn) k hi []; rw [List.append_nil, List.getElem_map] at this; rw [this]; exact hu)
          rw [← h0]
          exact HX.out.below.cell (by rw [block_of_add]; exact hbb)
        have q0 := hcl 0 _ rfl
        have q1 := hcl 1 _ rfl
        rw [Nat.add_zero] at q0
        rw [add_plus _ _ 1 (by omega)] at q1
        have q2 := HB0.out
        have q3 := HB1.out
        have hf := HH.out
        rw [getD_at l i hn, decide_eq_true hn, Bool.true_and] at hf
        generalize hx : l[i] = x at q0 q1 hf
        clear hcl hcell hx
        clear HH
        have hcz : (cmpS x s == 0) = decide (x = s) := by
          rw [Bool.eq_iff_iff, beq_iff_eq, decide_eq_true_iff]
          exact cmpS_zero x s
        have hcon := Lib.hid (fun W => cmp_ext x s W)
        rw [← hcz] at hf
        generalize cmpS x s = cv at hcz hcon hf
        have eg := enters_cmpS
        have HF := Lib.hid hf
        clear hn hf
        go_wp2
        refine wp_region_in wr (by kernel_rfl) (by kernel_rfl) (Ext.refl _) ?_
        repeat (refine wpQuiet_step (fun K hK => ?_); go_simp; first | (refine hK _ ?_; clear hK K) | (apply Exists.intro; refine ⟨fun w' hw' => ?_, hK _ ?_⟩; (first | (exact qcall hw' (hcon.out _)) |  (have f0 := Ext.cell hw' (World.block_lt_of_cell? wr _ q0) q0; have f1 := Ext.cell hw' (World.block_lt_of_cell? wr _ q1) q1; have f2 := Ext.cell hw' (World.block_lt_of_cell? wr _ q2) q2; have f3 := Ext.cell hw' (World.block_lt_of_cell? wr _ q3) q3; go_simp; rfl)); clear hK K))
        refine wpQuiet_nil ?_
        intro w' hw'
        go_wp2
        go_ret2
        exact ⟨by rw [HSK.out, HF.out, hcz]; rfl, HX.out.trans hw'⟩
      · have hdn : decide ((i : Int) < (l.length : Int)) = false := by simpa using hn
        have hf := HH.out
        rw [decide_eq_false hn, Bool.false_and] at hf
        have HF := Lib.hid hf
        clear HH hf
        go_wp2
        go_quiet (fail)
        go_wp2
        go_ret2
        exact ⟨by rw [HSK.out, HF.out]; rfl, HX.out.drewN _⟩
end Go.Proofs.Ytnhdjaegkccmaaa.P
namespace Go.Proofs.Ytnhdjaegkccmaaa.P
open Go.RowKit
open Go.Proofs.YtnhdjaegkccmaaaW.PrintWords (Kd Aside0)
set_option linter.unusedVariables false
theorem compactN_st (w : World) : Calls Try.prog 48 #[.slice none 0 0] w fun e w' => e = .returned (.slice none 0 0) ∧ w = w' := by
  go_enter Try.func48, Try.ntmps48
  go_wp2
  go_ret
  exact ⟨rfl, rfl⟩
theorem compactO_st (base : Nat) (v : Value) (l : List Stp) (w : World) (h : w.ownsRow base 23 2 v l.length (l.map encSt).flatten) :
    Calls Try.prog 48 #[v] w fun e w' => ∃ v', e = .returned v' ∧ w'.ownsRow base 23 2 v' (compL l).length ((compL l).map encSt).flatten ∧ ChsV v w w' := by
  have hl : (l.map encSt).length = l.length := List.length_map _
  rw [← hl] at h
  rcases own_rowAt h (wideSt l) with ⟨rfl, e0⟩ | ⟨blk, cap, rest, rfl, hb, hlt, hc, hm, hrow, hs⟩
  · obtain rfl : l = [] := by simpa using e0
    refine (compactN_st w).mono ?_
    rintro e w' ⟨rfl, rfl⟩
    exact ⟨_, rfl, World.ownsRow_nil _ _ _ _, Chs.refl _ _⟩
  · rw [hl] at hc ⊢
    refine (compactR_st blk cap l rest w hrow hc (by simpa only [maxLen] using hm)).mono ?_
    rintro e w' ⟨rfl, hx, hr⟩
    have hle := compL_len l
    refine ⟨_, rfl, ?_, hx.mono (fun i _ e => by subst e; rfl)⟩
    rw [List.map_append] at hr
    have hs2 : ((compL l).map encSt).flatten.length + ((List.map encSt (List.replicate (l.length - (compL l).length) z23)).flatten ++ rest).length = cap * 2 := by
      rw [List.length_append, (wideSt _).len, (wideSt _).len, List.length_map, List.length_map, List.length_replicate]
      rw [(wideSt l).len, hl] at hs
      omega
    have := rowAt_own hr.split (wideSt _) hb (by rw [List.length_map]; omega) hm hs2
    rw [List.length_map] at this
    exact this
/-- stamp.Sort -/
theorem sortS_walk (A0 : Option Addr) (c0 : Nat) (l0 : List Stp) (w : World) (hr0 : Kd.C k23 w A0 l0.length l0) (hc0 : l0.length ≤ c0) (hl : l0.length < 4398046511104) :
    Calls Try.prog 33 #[.slice A0 l0.length c0] w fun e w' => ∃ v0_ : Value, e = .returned (v0_) ∧ Kd.R k23 23 w' w.heap.size (fun _ => True) v0_ (sortL l0) ∧ Below w.heap.size w w' := by
  have hclone := cloneR_st A0 c0 w.heap.size (l0.map encSt) w (C_rawSt hr0) (Nat.le_refl _) (wideSt _) (by rw [List.length_map]; omega)
  rw [List.length_map] at hclone
  have HCl := Lib.hid hclone
  clear hclone hr0
  go_enter Try.func33, Try.ntmps33
  go_wp2_with fail
  refine HCl.out.mono ?_
  rintro e w1 ⟨v1, rfl, hown1, hx1⟩
  clear HCl
  have hsort := Lib.hid (sortO_st w.heap.size v1 l0 w1 hown1 (by omega))
  have HBB1 := Lib.hid (fun i (hi : v1.ownBlock = some i) => (hown1.lt i hi).1)
  have HX1 := Lib.hid hx1
  clear hown1 hx1
  go_wp2_with fail
  refine hsort.out.mono ?_
  rintro e w2 ⟨rfl, l', hperm, hrise, hx2, hown2⟩
  have HX2 := Lib.hid (HX1.out.chs hx2 (fun i hi e => by have := HBB1.out i e; omega))
  have HP := Lib.hid hperm
  have HRi := Lib.hid hrise
  have hcomp := Lib.hid (compactO_st w.heap.size v1 l' w2 hown2)
  clear hsort hx2 hown2 hperm hrise HX1
  go_wp2_with fail
  refine hcomp.out.mono ?_
  rintro e w3 ⟨v3, rfl, hown3, hx3⟩
  have HO := Lib.hid hown3
  have HX3 := Lib.hid (HX2.out.chs hx3 (fun i hi e => by have := HBB1.out i e; omega))
  clear hcomp hown3 hx3
  go_wp2
  go_ret
  refine ⟨v3, rfl, ?_, HX3.out.below⟩
  rw [← sort_any HP.out (HRi.out.imp fun {a b} h => h)]
  exact R_rawSt HO.out
def stamp_Sort.f (l0 : List Stp) : Option (List Stp) := if l0.length < 4398046511104 then some (sortL l0) else none
theorem stamp_Sort.calls (A0 : Option Addr) (c0 : Nat) (l0 : List Stp) (r : List Stp) (w : World) (hr0 : Kd.C k23 w A0 l0.length l0) (hc0 : l0.length ≤ c0) (h : stamp_Sort.f l0 = some r) :
    Calls Try.prog 33 #[.slice A0 l0.length c0] w fun e w' => ∃ v0_ : Value, e = .returned (v0_) ∧ Kd.R k23 23 w' w.heap.size (fun _ => True) v0_ r ∧ Below w.heap.size w w' := by
  unfold stamp_Sort.f at h
  by_cases hl : l0.length < 4398046511104
  · rw [if_pos hl] at h
    obtain rfl := Option.some.inj h
    exact sortS_walk A0 c0 l0 w hr0 hc0 hl
  · rw [if_neg hl] at h
    cases h
def stamp_Has.f (l0 : List Stp) (a1_0 a1_1 : Int) : Option Bool := if l0.length < 4398046511104 then some (hasL l0 ⟨a1_0, a1_1⟩) else none
theorem stamp_Has.calls (A0 : Option Addr) (c0 : Nat) (l0 : List Stp) (a1_0 : Int) (a1_1 : Int) (r : Bool) (w : World) (hr0 : Kd.C k23 w A0 l0.length l0) (hc0 : l0.length ≤ c0) (h : stamp_Has.f l0 a1_0 a1_1 = some r) :
    Calls Try.prog 34 #[.slice A0 l0.length c0, .agg #[.int .i64 a1_0, .int .i64 a1_1]] w fun e w' => e = .returned (.bool r) ∧ Below w.heap.size w w' := by
  unfold stamp_Has.f at h
  by_cases hl : l0.length < 4398046511104
  · rw [if_pos hl] at h
    obtain rfl := Option.some.inj h
    have hcon := Lib.hid (fun W (hW : Ext w W) => bsearchR_st A0 c0 l0 ⟨a1_0, a1_1⟩ W (C_rawSt (Kd.C_below hr0 hW.below)) (by omega))
    clear h hr0 hc0 hl
    generalize hasL l0 ⟨a1_0, a1_1⟩ = r at hcon ⊢
    generalize seekL l0 ⟨a1_0, a1_1⟩ = q at hcon
    go_enter Try.func34, Try.ntmps34
    go_wp2_with (go_at_call 49; refine (hcon.out _ (by repeat (first | assumption | exact Ext.refl _ | (with_reducible refine Ext.alloc ?_ _) | (with_reducible refine Ext.drew ?_) | refine Ext.trans ?_ (by assumption)))).mono ?_; rintro e w' ⟨rfl, hb'⟩)
    go_ret
    exact ⟨rfl, by first | exact hb'.below | exact (Ext.trans (by repeat (first | assumption | exact Ext.refl _ | (with_reducible refine Ext.alloc ?_ _) | (with_reducible refine Ext.drew ?_) | refine Ext.trans ?_ (by assumption))) hb').below⟩
  · rw [if_neg hl] at h
    cases h
end Go.Proofs.Ytnhdjaegkccmaaa.P
namespace Go.Proofs.Ytnhdjaegkccmaaa.P
open Go.RowKit Go.Proofs.YtnhdjaegkccmaaaW.PrintWords
set_option linter.unusedVariables false
set_option linter.unusedSimpArgs false
theorem rdS_at (l : List Stp) (i : Nat) (hi : i < l.length) : rd_T23 l (i : Int) = l[i] := by
  unfold rd_T23
  simp [List.getD_eq_getElem?_getD, hi]
theorem rless_f (a b : Stp) : folkmootref01_Less.f a.f0 a.f1 b.f0 b.f1 = some (ltS a b) := by
  unfold folkmootref01_Less.f ltS
  by_cases h : a.f0 < b.f0
  · simp [h]
  · by_cases h2 : a.f0 = b.f0
    · simp [h2]
    · simp [h, h2]
theorem rlist_l0 (l : List Stp) (hl : l.length ≤ 9223372036854775806) (hr : RisS l) : ∀ (d i : Nat), 1 ≤ i → l.length - i = d → Ev (fun k => folkmootref01_List.l0 k l (i : Int)) true := by
  intro d
  induction d with
  | zero =>
    intro i hi hd
    have h1 : ¬ (i : Int) < (l.length : Int) := by omega
    exact Ev.step (fun k => by simp only [folkmootref01_List.l0, if_neg h1] <;> rfl) (Ev.val _)
  | succ d ih =>
    intro i hi hd
    have h1 : (i : Int) < (l.length : Int) := by omega
    have h0 : (0 : Int) ≤ (i : Int) := by omega
    have hw : wrap64 ((i : Int) + 1) = ((i + 1 : Nat) : Int) := by rw [wrap_in] <;> omega
    have hm : wrap64 ((i : Int) - 1) = ((i - 1 : Nat) : Int) := by rw [wrap_in] <;> omega
    have h2 : (0 : Int) ≤ ((i - 1 : Nat) : Int) := by omega
    have h3 : ((i - 1 : Nat) : Int) < (l.length : Int) := by omega
    have e := rless_f (l[i - 1]'(by omega)) (l[i]'(by omega))
    rw [ris_at hr (show i - 1 < i by omega) (by omega)] at e
    rw [← rdS_at l (i - 1) (by omega), ← rdS_at l i (by omega)] at e
    exact Ev.step (fun k => by simp only [folkmootref01_List.l0, if_pos h1, hm, if_pos h2, if_pos h3, if_pos h0, e, Option.bind_some, if_true, hw] <;> rfl) (ih (i + 1) (by omega) (by omega))
theorem rlist_ev {l : List Stp} (hr : RisS l) (hl : l.length ≤ 9223372036854775806) : Ev (fun k => folkmootref01_List.f k l) true := rlist_l0 l hl hr (l.length - 1) 1 (Nat.le_refl _) rfl
theorem rsame_l0 (l : List Stp) (hl : l.length ≤ 9223372036854775806) : ∀ (d i : Nat), i ≤ l.length → l.length - i = d → Ev (fun k => folkmootref01_Same.l0 k l l (i : Int)) true := by
  intro d
  induction d with
  | zero =>
    intro i hi hd
    have h1 : ¬ (i : Int) < (l.length : Int) := by omega
    exact Ev.step (fun k => by simp only [folkmootref01_Same.l0, if_neg h1] <;> rfl) (Ev.val _)
  | succ d ih =>
    intro i hi hd
    have h1 : (i : Int) < (l.length : Int) := by omega
    have h0 : (0 : Int) ≤ (i : Int) := by omega
    have hw : wrap64 ((i : Int) + 1) = ((i + 1 : Nat) : Int) := by rw [wrap_in] <;> omega
    exact Ev.step (fun k => by simp only [folkmootref01_Same.l0, if_pos h1, if_pos h0, beq_self_eq_true, Bool.not_true, Bool.or_self, Bool.false_eq_true, if_false, hw] <;> rfl) (ih (i + 1) (by omega) (by omega))
theorem rsame_ev (l : List Stp) (hl : l.length ≤ 9223372036854775806) : Ev (fun k => folkmootref01_Same.f k l l) true :=
  Ev.congr (fun k => by simp only [folkmootref01_Same.f, if_true] <;> rfl) (rsame_l0 l hl l.length 0 (by omega) (by omega))
theorem slive_f : folkmootlaw01_live.f = some true := rfl
theorem ssort_f (l : List Stp) (h : l.length < 4398046511104) : stamp_Sort.f l = some (sortL l) := by unfold stamp_Sort.f; rw [if_pos h]
theorem shas_f (l : List Stp) (x : Stp) (h : l.length < 4398046511104) : stamp_Has.f l x.f0 x.f1 = some (hasL l x) := by unfold stamp_Has.f; rw [if_pos h]
end Go.Proofs.Ytnhdjaegkccmaaa.P
namespace Go.Proofs.Ytnhdjaegkccmaaa.P
open Go.RowKit
open Go.Proofs.YtnhdjaegkccmaaaW.PrintWords (Kd Aside0 run_append_zeros)
set_option linter.unusedVariables false
theorem wpList_app2 {P : Program} {ops : Array Oper} {rest : List Oper} {o : Oper} {a : Act} {w : World} {Q : Exit → Act → World → Prop} (hgd : o.guard = none) (s x : Operand) (t ti : TypeId)
    (ho : o.op = .call { callee := .builtin .append, args := #[s, x], argTypes := #[t, ti] }) (v xv v' : Value) (w' : World) (hs : a.eval s = v) (hx : a.eval x = xv)
    (hrun : (Builtin.append_ #[t, ti] o.type #[v, xv]).run P w = .ok v' w') (h : wpList P ops Q rest (a.put o.dst v') w') : wpList P ops Q (o :: rest) a w := by
  refine wpList_plain hgd fun _ hK => ?_
  unfold Oper.wp execOp
  simp only [ho, resolve, invoke, builtin, Sem.run_bind, Sem.run_pure, Result.andThen_ok, List.map_toArray, List.map_cons, List.map_nil, hs, hx, hrun]
  exact hK _ _ h
set_option maxRecDepth 100000 in
theorem growN_st (n : Nat) (w : World) (hn : n < 4398046511104) : Calls Try.prog 56 #[.slice none 0 0, .int .i64 n] w fun e w' => ∃ v, e = .returned v ∧ w'.ownsRow w.heap.size 23 2 v 0 [] ∧ Ext w w' := by
  rcases Nat.eq_zero_or_pos n with rfl | hp
  · go_enter Try.func56, Try.ntmps56
    go_wp2
    go_ret
    exact ⟨_, rfl, World.ownsRow_nil _ _ _ _, Ext.refl _⟩
  · have hz0 : ¬ (n : Int) < 0 := by omega
    have hz1 : (n : Int) > 0 := by omega
    obtain ⟨i0, hi0, hzz0, hzz1, hzz2⟩ := info_parts info_st
    have happ := run_append_zeros (P := Try.prog) w w.heap.size 31 3 31 23 i0 _ 2 16 Try.underlying31 Try.underlying3 hi0 hzz0 hzz1 hzz2 (by simp [Value.cells]) (by omega) (by omega) _ 0 [] (World.ownsRow_nil w w.heap.size 23 2) .i64 n (by
      intro u hu
      rw [zeroCells_list] at hu
      obtain ⟨y, hy, hu⟩ := List.mem_flatten.1 hu
      obtain rfl := List.eq_of_mem_replicate hy
      simp [Value.cells] at hu
      rcases hu with rfl | rfl <;> rfl) (by omega) (Nat.le_refl _)
    obtain ⟨v1, w1, hrun, hown, hg, hat⟩ := happ
    rw [zeroCells_list, List.nil_append, Nat.zero_add] at hown
    have hwz : Wide 2 (List.replicate n (Value.agg #[Value.int .i64 0, Value.int .i64 0]).cells.toList) := fun y hy => by
      obtain rfl := List.eq_of_mem_replicate hy
      refine ⟨by simp [Value.cells], fun u hu => ?_⟩
      simp [Value.cells] at hu
      rcases hu with rfl | rfl <;> rfl
    have hx : Ext w w1 := Chs.to_ext (S := fun _ => False) (Chs.grown (Chs.refl _ _) hg (fun i hi => by simp [Value.ownBlock] at hi)) (fun _ _ e => e)
    have hln : (List.replicate n (Value.agg #[Value.int .i64 0, Value.int .i64 0]).cells.toList).length = n := List.length_replicate
    have hown2 := hown
    conv at hown2 => arg 6; rw [← hln]
    rcases own_rowAt hown2 hwz with ⟨_, e0⟩ | ⟨g, cap, rest, hv, hb, hlt, hc, hm, hrow, hs⟩
    · have := congrArg List.length e0
      rw [hln] at this
      simp at this
      omega
    rw [hln] at hv hc
    subst hv
    have HRUN := Lib.hid hrun
    have HX := Lib.hid hx
    have HRow := Lib.hid (show w1.ownsRow w.heap.size 23 2 (.slice (some ⟨g, 0, none⟩) 0 cap) 0 [] from rowAt_own (xs := []) (rest := _) hrow (fun _ h => by cases h) hb (Nat.zero_le _) hm (by simpa using hs))
    clear hrun hown hown2 hg hat hx hwz hln hi0 hzz0 hzz1 hzz2 hrow hb hs hc
    go_enter Try.func56, Try.ntmps56
    go_wp2_with (at_builtin; go_loud (refine wpList_app2 rfl (.tmp 20) (.tmp 21) _ _ rfl _ _ _ _ rfl rfl HRUN.out ?_))
    go_ret
    exact ⟨_, rfl, HRow.out, HX.out⟩
theorem ownsRow_less {W : World} {b base n : Nat} {e : TypeId} {size : Nat} {v : Value} {xs : List Value} (h : W.ownsRow b e size v n xs) (hle : base ≤ b) : W.ownsRow base e size v n xs := by
  obtain ⟨h1, h2⟩ := h
  refine ⟨h1, ?_⟩
  rcases h2 with h2 | ⟨g, cap, cur, rfl, hg, r⟩
  · exact .inl h2
  · exact .inr ⟨g, cap, cur, rfl, Nat.le_trans hle hg, r⟩
theorem below_then_ {w W w2 : World} (h : Below w.heap.size w W) (k : Below W.heap.size W w2) : Below w.heap.size w w2 := h.trans (k.mono h.size)
theorem lists_at {w : World} {A : Option Addr} {ls : List (List Stp)} (h : Kd.C (Kd.slice 23 k23) w A ls.length ls) (j : Nat) (hj : j < ls.length) :
    ∃ ad A0 c0, A = some ad ∧ w.cell? (ad.add j) = some (.slice A0 ls[j].length c0) ∧ ls[j].length ≤ c0 ∧ Kd.C k23 w A0 ls[j].length ls[j] := by
  obtain ⟨ad, c, e, _, hK, hc⟩ := Kd.C_get h ([] : List Stp) (j : Int) (by omega) (by omega)
  have e2 : ls.getD (j : Int).toNat [] = ls[j] := by simp [List.getD_eq_getElem?_getD, hj]
  rw [e2] at hK
  obtain ⟨A0, c0, rfl, l0, g0⟩ := hK
  have hq := hc 0 _ rfl
  exact ⟨ad, A0, c0, e, by simpa [Kd.slice] using hq, l0, g0⟩
theorem flat_take_len (ls : List (List Stp)) (k : Nat) (hk : k < ls.length) : (ls.take (k + 1)).flatten = (ls.take k).flatten ++ ls[k] := by
  rw [List.take_succ_eq_append_getElem hk, List.flatten_append]
  simp
theorem flat_take_le (ls : List (List Stp)) (k : Nat) : (ls.take k).flatten.length ≤ ls.flatten.length := by
  conv => rhs; rw [← List.take_append_drop k ls, List.flatten_append, List.length_append]
  omega
set_option maxHeartbeats 4000000 in
set_option maxRecDepth 100000 in
theorem concatR_st (A : Option Addr) (c : Nat) (ls : List (List Stp)) (fl : List Stp) (hfl : ls.flatten = fl) (w : World) (hr : Kd.C (Kd.slice 23 k23) w A ls.length ls) (hl : fl.length < 4398046511104) :
    Calls Try.prog 50 #[.slice A ls.length c] w fun e w' => ∃ v, e = .returned v ∧ w'.ownsRow w.heap.size 23 2 v fl.length (fl.map encSt).flatten ∧ Ext w w' := by
  have hn63 := hr.2.1
  have HFL := Lib.hid hfl
  clear hfl
  have HR := Lib.hid hr
  clear hr
  go_enter Try.func50, Try.ntmps50
  go_wp2
  go_loopg [3, 11] ls.length (fun gg s3 s11 wr => ∃ k : Nat, k ≤ ls.length ∧ ls.length - k ≤ gg ∧ s3 = .int .i64 (ls.take k).flatten.length ∧ s11 = .int .i64 k ∧ Hid (Ext w wr))
  case atStart => exact ⟨0, Nat.zero_le _, by omega, rfl, rfl, Lib.hid (Ext.refl _)⟩
  case round =>
    obtain ⟨k, hk, hg, rfl, rfl, HX⟩ := hrel
    by_cases hlt : k < ls.length
    · have hltz : (k : Int) < (ls.length : Int) := by omega
      obtain ⟨ad, A0, c0, rfl, q0, _, _⟩ := lists_at HR.out k hlt
      have q1 := HX.out.below.cell (World.block_lt_of_cell? w _ q0) |>.trans q0
      have hs1 := flat_take_len ls k hlt
      have hs2 := flat_take_le ls (k + 1)
      rw [hs1, List.length_append, HFL.out] at hs2
      have HS := Lib.hid hs1
      clear q0 hs1
      generalize hA : (ls.take k).flatten = out at hs2 HS
      generalize ls[k] = x at q1 hs2 HS
      have hnn : ¬ ((out.length : Int) + (x.length : Int)) < 0 := by omega
      have hww : IntKind.i64.wrap ((out.length : Int) + (x.length : Int)) = (out.length : Int) + (x.length : Int) := by rw [IntKind.wrap_i64]; omega
      clear hA
      go_wp2
      go_roundg (ls.length - (k + 1))
      case measure => omega
      case rel => exact ⟨k + 1, by omega, by omega, by rw [HS.out, List.length_append]; go_num, by go_num, HX⟩
    · obtain rfl : k = ls.length := by omega
      have hltz : ¬ (ls.length : Int) < (ls.length : Int) := by omega
      rw [List.take_length, HFL.out]
      have hgrow := Lib.hid (growN_st fl.length wr hl)
      go_wp2_with fail
      refine hgrow.out.mono ?_
      rintro e w1 ⟨v1, rfl, hown1, hx1⟩
      have HO1 := Lib.hid hown1
      have hxx := HX.out.trans hx1
      have HX1 := Lib.hid hxx
      obtain ⟨B, hB⟩ : ∃ B, B = wr.heap.size := ⟨_, rfl⟩
      have hbase : B ≤ w1.heap.size := hB ▸ hx1.below.size
      have hlow : w.heap.size ≤ B := hB ▸ HX.out.below.size
      rw [← hB] at HO1
      clear hB
      obtain ⟨i0, hi0, hz0, hz1, hz2⟩ := info_parts info_st
      have HI0 := Lib.hid hi0
      have HZ0 := Lib.hid hz0
      have HZ1 := Lib.hid hz1
      have HZ2 := Lib.hid hz2
      clear hown1 hx1 hgrow hi0 hz0 hz1 hz2 hxx
      go_wp2
      go_loopg [6, 27] ls.length (fun gg s6 s27 wq => ∃ k : Nat, k ≤ ls.length ∧ ls.length - k ≤ gg ∧ s27 = .int .i64 k ∧ Hid (wq.ownsRow B 23 2 s6 (ls.take k).flatten.length ((ls.take k).flatten.map encSt).flatten) ∧ Hid (Ext w wq) ∧ Hid (B ≤ wq.heap.size))
      case atStart => exact ⟨0, Nat.zero_le _, by omega, rfl, HO1, HX1, Lib.hid hbase⟩
      case round =>
        clear HO1 HX1 hbase hltz hg hk
        obtain ⟨k, hk, hg, rfl, HO, HXq, HBs⟩ := hrel
        by_cases hlt : k < ls.length
        · have hltz : (k : Int) < (ls.length : Int) := by omega
          obtain ⟨ad, A0, c0, rfl, q0, hc0, hC⟩ := lists_at HR.out k hlt
          have q1 := HXq.out.below.cell (World.block_lt_of_cell? w _ q0) |>.trans q0
          have hs1 := flat_take_len ls k hlt
          have hs2 := flat_take_le ls (k + 1)
          rw [hs1, List.length_append, HFL.out] at hs2
          have HS := Lib.hid hs1
          have hrd := C_rawSt (Kd.C_below hC HXq.out.below)
          rw [List.length_map] at hrd
          have HRD := Lib.hid hrd
          have h1 : ∀ u ∈ (ls[k].map encSt).flatten, u.oneCell' = true := fun u hu => by obtain ⟨y, hy, hu⟩ := List.mem_flatten.1 hu; exact (wideSt _ y hy).2 u hu
          have H1 := Lib.hid h1
          clear q0 hs1 hC hrd h1
          generalize hA : (ls.take k).flatten = out at hs2 HS HO
          generalize ls[k] = x at q1 hs2 HS hc0 HRD H1
          clear hA
          go_wp2_with (at_builtin; go_loud (refine wpList_append_any _ rfl (.tmp 31) (.tmp 32) _ rfl B 23 i0 _ 2 16 Try.underlying31 HI0.out HZ0.out HZ1.out HZ2.out (by simp [Value.cells]) (by omega) _ _ _ rfl HO.out _ A0 x.length c0 _ rfl HRD.out H1.out (by simp only [maxLen]; omega) (by omega) HBs.out ?_); intro v2 w2 hown2 hg2 hat2)
          have HO2 := Lib.hid hown2
          have HX2 := Lib.hid (Chs.to_ext (S := fun i => i ≥ w.heap.size) (Chs.grown (.of_ext HXq.out) hg2 (fun i hi => .inr (by have := (HO.out.lt i hi).1; show i ≥ w.heap.size; omega))) (fun i hi e => by omega))
          have HB2 := Lib.hid (Nat.le_trans HBs.out hg2.size)
          clear hown2 hg2 hat2 HRD H1
          go_wp2
          go_roundg (ls.length - (k + 1))
          case measure => omega
          case rel =>
            refine ⟨k + 1, by omega, by omega, by go_num, ?_, HX2, HB2⟩
            rw [HS.out, List.length_append, List.map_append, List.flatten_append]
            exact HO2
        · obtain rfl : k = ls.length := by omega
          have hltz : ¬ (ls.length : Int) < (ls.length : Int) := by omega
          rw [List.take_length, HFL.out] at HO
          go_wp2
          go_ret
          exact ⟨_, rfl, ownsRow_less HO.out hlow, HXq.out⟩
/-- stamp.Merge -/
def stamp_Merge.f (l0 : List (List Stp)) : Option (List Stp) := if l0.flatten.length < 4398046511104 then some (sortL l0.flatten) else none
theorem stamp_Merge.calls (A0 : Option Addr) (c0 : Nat) (l0 : List (List Stp)) (r : List Stp) (w : World) (hr0 : Kd.C (Kd.slice 23 k23) w A0 l0.length l0) (hc0 : l0.length ≤ c0) (h : stamp_Merge.f l0 = some r) :
    Calls Try.prog 38 #[.slice A0 l0.length c0] w fun e w' => ∃ v0_ : Value, e = .returned (v0_) ∧ Kd.R k23 23 w' w.heap.size (fun _ => True) v0_ r ∧ Below w.heap.size w w' := by
  unfold stamp_Merge.f at h
  by_cases hl : l0.flatten.length < 4398046511104
  · rw [if_pos hl] at h
    obtain rfl := Option.some.inj h
    have hcon := Lib.hid (concatR_st A0 c0 l0 _ rfl w hr0 hl)
    clear h hr0
    generalize l0.flatten = fl at hcon hl ⊢
    go_enter Try.func38, Try.ntmps38
    go_wp2_with fail
    refine hcon.out.mono ?_
    rintro e w1 ⟨v1, rfl, hown1, hx1⟩
    have hR1 := R_rawSt hown1
    obtain ⟨A1, c1, rfl⟩ := Kd.R_slice hR1
    have hrd := Kd.R_reads' hR1
    have hs := Lib.hid (sortS_walk A1 c1 fl w1 hrd.2.2 hrd.2.1 hl)
    have HX1 := Lib.hid hx1
    clear hcon hown1 hR1 hrd hx1
    go_wp2_with fail
    refine hs.out.mono ?_
    rintro e w2 ⟨v2, rfl, hR2, hb2⟩
    have HR2 := Lib.hid hR2
    have HB2 := Lib.hid hb2
    clear hR2 hb2
    go_wp2
    go_ret
    exact ⟨v2, rfl, Kd.R_lower HR2.out HX1.out.below.size, below_then_ HX1.out.below HB2.out⟩
  · rw [if_neg hl] at h
    cases h
end Go.Proofs.Ytnhdjaegkccmaaa.P
namespace Go.Proofs.Ytnhdjaegkccmaaa.P
open Go.RowKit Go.Proofs.YtnhdjaegkccmaaaW.PrintWords
set_option linter.unusedVariables false
set_option linter.unusedSimpArgs false
theorem smerge_f (l : List (List Stp)) (h : l.flatten.length < 4398046511104) : stamp_Merge.f l = some (sortL l.flatten) := by unfold stamp_Merge.f; rw [if_pos h]
end Go.Proofs.Ytnhdjaegkccmaaa.P
namespace Go.Proofs.Ytnhdjaegkccmaaa.P
open Go.RowKit
open Go.Proofs.YtnhdjaegkccmaaaW.PrintWords (Kd Aside0)
set_option linter.unusedVariables false
theorem V_of_R {α : Type} {d : Kd α} {e : Nat} {w : World} {base : Nat} {v : Value} {xs : List α} (h : Kd.R d e w base (fun _ => True) v xs) : Kd.V d e w base (fun k => base ≤ k) v xs := by
  have h1 := Kd.R_mono (Kd.R_bound h) (fun k hk => hk.2.1)
  obtain ⟨A, c, rfl⟩ := Kd.R_slice h
  have h2 := Kd.R_reads' h
  exact Kd.V_mk h2.2.1 (Kd.R_F h1)
theorem stamp_Sort.callsV (A0 : Option Addr) (c0 : Nat) (l0 : List Stp) (r : List Stp) (w : World) (hr0 : Kd.C k23 w A0 l0.length l0) (hc0 : l0.length ≤ c0) (h : stamp_Sort.f l0 = some r) :
    Calls Try.prog 33 #[.slice A0 l0.length c0] w fun e w' => ∃ v0_ : Value, e = .returned (v0_) ∧ Kd.V k23 23 w' w.heap.size (fun k_ => w.heap.size ≤ k_) v0_ r ∧ Below w.heap.size w w' :=
  (stamp_Sort.calls A0 c0 l0 r w hr0 hc0 h).mono fun e w' ⟨v, he, hR, hb⟩ => ⟨v, he, V_of_R hR, hb⟩
theorem stamp_Merge.callsV (A0 : Option Addr) (c0 : Nat) (l0 : List (List Stp)) (r : List Stp) (w : World) (hr0 : Kd.C (Kd.slice 23 k23) w A0 l0.length l0) (hc0 : l0.length ≤ c0) (h : stamp_Merge.f l0 = some r) :
    Calls Try.prog 38 #[.slice A0 l0.length c0] w fun e w' => ∃ v0_ : Value, e = .returned (v0_) ∧ Kd.V k23 23 w' w.heap.size (fun k_ => w.heap.size ≤ k_) v0_ r ∧ Below w.heap.size w w' :=
  (stamp_Merge.calls A0 c0 l0 r w hr0 hc0 h).mono fun e w' ⟨v, he, hR, hb⟩ => ⟨v, he, V_of_R hR, hb⟩
end Go.Proofs.Ytnhdjaegkccmaaa.P
