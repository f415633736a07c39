/- Contracts: lay. -/
import Derived.Test.YtbmpecfhflkbeaaFlY
namespace Go.Proofs.Ytbmpecfhflkbeaa
open Go.RowKit
set_option linter.unusedVariables false

def layB (x : Thing) : List UInt8 :=
  if x.k = 0 then intB x.n else if x.k = 1 then textB x.s else if x.k = 2 then boolB x.b else if x.k = 3 then stampB x.t else if x.k = 4 then stampsB x.l else []
theorem layB_len (x : Thing) (h : x.l.length = x.m) : (layB x).length ≤ 16 + bulkT x := by
  unfold layB bulkT
  have h1 := intB_len x.n
  have h2 := textB_len x.s
  have h3 := stampB_len x.t
  have h4 := stampsB_len x.l
  have h5 : (boolB x.b).length = 1 := rfl
  split
  · omega
  split
  · omega
  split
  · omega
  split
  · omega
  split
  · omega
  · simp
theorem lay_len (l : List Thing) (h : ∀ x ∈ l, x.l.length = x.m) : (l.flatMap layB).length ≤ 16 * l.length + sumT l := by
  unfold sumT
  induction l with
  | nil => simp
  | cons a l ih =>
    have h1 := layB_len a (h a List.mem_cons_self)
    have h2 := ih fun x hx => h x (List.mem_cons_of_mem _ hx)
    rw [List.flatMap_cons, List.length_append, List.length_cons, List.map_cons, List.sum_cons]
    omega
theorem sumT_mono (l : List Thing) (k : Nat) : sumT (l.take k) ≤ sumT l := by
  conv => rhs; rw [← List.take_append_drop k l]
  unfold sumT
  rw [List.map_append, List.sum_append]
  omega
/-- a pen and a slice of one's own -/
structure Lay (w wr : World) (p : Nat) (rp : Option Nat) (b : Value) (ps ys : List UInt8) : Prop where
  ext : Ext w wr
  hp : w.heap.size ≤ p
  pen : PenAt wr p rp ps
  own : OwnB wr 0 b ys
  hrp : ∀ i, rp = some i → w.heap.size ≤ i
  hrb : ∀ i, b.ownBlock = some i → w.heap.size ≤ i ∧ i ≠ p ∧ rp ≠ some i
theorem Lay.pen_ {w a c : World} {p : Nat} {rp rp' : Option Nat} {b : Value} {ps ys zs : List UInt8} (h : Lay w a p rp b ps ys) (k : PenTo a p rp c rp' zs) : Lay w c p rp' b zs ys :=
  ⟨(k.to_ext h.ext h.hp h.hrp).1, h.hp, k.at_, own_chs h.own k.chs (fun i e e' => by
    obtain ⟨_, h2, h3⟩ := h.hrb i e
    rcases e' with e' | e'
    · exact h2 e'
    · exact h3 e'), (k.to_ext h.ext h.hp h.hrp).2, fun i e => by
    obtain ⟨h1, h2, h3⟩ := h.hrb i e
    refine ⟨h1, h2, fun e' => ?_⟩
    rcases k.row i e' with e2 | e2
    · exact h3 e2
    · have := own_lt h.own i e; omega⟩
theorem Lay.row_ {w a c : World} {p : Nat} {rp : Option Nat} {b b' : Value} {ps ys zs : List UInt8} (h : Lay w a p rp b ps ys) (k : RowTo a b c b' zs) : Lay w c p rp b' ps zs :=
  ⟨h.ext.chs k.chs (fun i hi e => by have := (h.hrb i e).1; omega), h.hp, h.pen.chs k.chs (fun e => (h.hrb _ e).2.1 rfl) (fun i e e' => (h.hrb i e').2.2 e), k.own, h.hrp, fun i e => by
    rcases k.row i e with e2 | e2
    · exact h.hrb i e2
    · refine ⟨Nat.le_trans h.ext.size e2, fun e3 => ?_, fun e3 => ?_⟩
      · have := h.pen.lt; omega
      · have := (h.pen.row_lt i e3).1; omega⟩
theorem Lay.then_ext {w a c : World} {p : Nat} {rp : Option Nat} {b : Value} {ps ys : List UInt8} (h : Lay w a p rp b ps ys) (k : Ext a c) : Lay w c p rp b ps ys :=
  ⟨h.ext.trans k, h.hp, h.pen.ext k, own_ext h.own k, h.hrp, h.hrb⟩
theorem Lay.congr {w a : World} {p : Nat} {rp : Option Nat} {b : Value} {ps ys zs : List UInt8} (h : Lay w a p rp b ps ys) (e1 : ps = zs) (e2 : ys = zs) : Lay w a p rp b zs zs := by
  have h' := e1 ▸ h
  exact e2 ▸ h'
theorem own_cap {w : World} {base : Nat} {e : TypeId} {size n c : Nat} {A : Option Addr} {xs : List Value} (h : w.ownsRow base e size (.slice A n c) n xs) : n ≤ c := by
  rcases h.2 with ⟨_, h'⟩ | ⟨_, cap, _, h, _, _, h', _⟩
  · omega
  · injection h with _ _ e
    omega
theorem st_info : (Try.prog.info? 39).map (fun i => (i.zero, i.size, i.bytes)) = some (some (.agg #[.int .i64 0, .int .i64 0]), 2, 16) := by kernel_rfl
theorem fSt_one (l : List St) : ∀ u ∈ l.flatMap fSt, u.oneCell' = true := by
  intro u hu
  obtain ⟨s, _, hs⟩ := List.mem_flatMap.1 hu
  simp at hs
  rcases hs with rfl | rfl <;> rfl

set_option maxHeartbeats 4000000 in
set_option maxRecDepth 100000 in
theorem lay_any (l : List Thing) (A : Option Addr) (n c : Nat) (w : World) (hin : ThingsIn w A n c l) (h60 : l.length ≤ 60) (hsm : sumT l ≤ 20000) :
    Calls Try.prog 19 #[.slice A n c] w fun e w' => Ext w w' ∧ ∃ A1 c1 A2 c2, e = .returned (.tuple #[.slice A1 (l.flatMap layB).length c1, .slice A2 (l.flatMap layB).length c2]) ∧ U8s w' A1 (l.flatMap layB) ∧ U8s w' A2 (l.flatMap layB) ∧ (A1 = none → c1 = 0) ∧ (A2 = none → c2 = 0) ∧ (l.flatMap layB).length ≤ c1 := by
  obtain ⟨rfl, _, _, hmx, hr, hg⟩ := hin
  have HL : Hid (∀ k, ((l.take k).flatMap layB).length ≤ 20960) := Lib.hid (fun k => by
    have h1 := lay_len (l.take k) (fun x hx => (hg x (List.mem_of_mem_take hx)).sts.len)
    have h2 := sumT_mono l k
    have h3 : (l.take k).length ≤ 60 := by rw [List.length_take]; omega
    omega)
  have HBK : Hid (∀ x ∈ l, bulkT x ≤ 20000) := Lib.hid (fun x hx => by
    obtain ⟨k, hk, rfl⟩ := List.mem_iff_getElem.1 hx
    have h1 := sumT_mono l (k + 1)
    rw [sumT_take l k hk] at h1
    omega)
  have HG := Lib.hid hg
  clear hg hmx
  have lay0 : Lay w (w.alloc (.cells #[.slice none 0 0] 33)) w.heap.size none (.slice none 0 0) [] [] :=
    ⟨(Ext.refl w).alloc _, Nat.le_refl _, new_pen w, World.ownsRow_nil _ _ _ _, (fun i e => by cases e), (fun i e => by cases e)⟩
  generalize hp : w.heap.size = p at lay0
  go_enter Try.func19, Try.ntmps19
  go_wp2
  go_loopw [6, 5] (fun i b wr => ∃ (k : Nat) (rp : Option Nat), k ≤ l.length ∧ i = .int .i64 k ∧ Lay w wr p rp b ((l.take k).flatMap layB) ((l.take k).flatMap layB)) (fun i _ _ => l.length - (intOf i).toNat)
  case atStart => exact ⟨0, none, by omega, rfl, by simpa using lay0⟩
  case round =>
    clear lay0
    obtain ⟨k, rp, hk, rfl, L⟩ := hrel
    by_cases hlt : k < l.length
    · obtain ⟨b, o, rfl, hb, hcell⟩ := (hr.ext L.ext).c7 k hlt
      have hT := Lib.hid (take_flat layB l k hlt)
      have hLk := Lib.hid (HL.out k)
      have hBk := HBK.out l[k] (List.getElem_mem hlt)
      have hGk := Lib.hid (HG.out l[k] (List.getElem_mem hlt))
      have q0 : wr.cell? ⟨b, o + k * 7, none⟩ = some (.int .i64 l[k].k) := hcell 0 _ rfl
      have q1 := hcell 1 _ rfl
      have q2 := hcell 2 _ rfl
      have q3 := hcell 3 _ rfl
      have q4 := hcell 4 _ rfl
      have q5 := hcell 5 _ rfl
      have q6 := hcell 6 _ rfl
      clear hcell
      generalize l[k] = x at *
      obtain ⟨xk, xn, xs, xb, ⟨xt, xu⟩, xA, xm, xc, xl⟩ := x
      unfold bulkT at hBk
      dsimp only at q0 q1 q2 q3 q4 q5 q6 hBk
      have hBK := Lib.hid hBk
      clear hBk
      generalize hm : ((l.take k).flatMap layB) = ys at *
      obtain ⟨Ab, cb, rfl, hnb⟩ := own_form1 L.own
      have hxc := (Ext.refl wr).alloc (.cells #[.int .i64 xk, .int .i64 xn, .string xs, .bool xb, .int .i64 xt, .int .i64 xu, .slice xA xm xc] 69)
      have hBc := Blk.new wr 69 #[.int .i64 xk, .int .i64 xn, .string xs, .bool xb, .int .i64 xt, .int .i64 xu, .slice xA xm xc]
      have L1 := L.then_ext hxc
      have hgc : ¬ penS p rp wr.heap.size := by
        rintro (e | e)
        · have := L.pen.lt; omega
        · have := (L.pen.row_lt _ e).1; omega
      have hgb : (Value.slice Ab ys.length cb).ownBlock ≠ some wr.heap.size := fun e => by have := own_lt L.own _ e; omega
      by_cases k0 : xk = 0
      · subst k0
        have hT' : Hid ((l.take (k + 1)).flatMap layB = ys ++ intB xn) := Lib.hid (by rw [hT.out]; simp [layB])
        clear hT
        have hrow := Row.new (f := fI64) (size := 1) (wr.alloc (.cells #[.int .i64 0, .int .i64 xn, .string xs, .bool xb, .int .i64 xt, .int .i64 xu, .slice xA xm xc] 69)) #[.int .i64 xn] 2 [xn] (fun _ => rfl) rfl
        have hfr := pen_new L1.pen (Nat.le_refl _)
        rw [World.size_alloc] at hrow hfr
        have hx2 := (Ext.refl (wr.alloc (.cells #[.int .i64 0, .int .i64 xn, .string xs, .bool xb, .int .i64 xt, .int .i64 xu, .slice xA xm xc] 69))).alloc (.cells #[.int .i64 xn] 2)
        go_wp2_with fail
        refine (int_any p rp _ [xn] _ 1 _ (L1.then_ext hx2).pen hrow (fun _ => hfr) (by have := hLk.out; simp only [List.length_cons, List.length_nil]; omega)).mono ?_
        rintro e w1 ⟨rfl, rp', K1⟩
        have L2 := (L1.then_ext hx2).pen_ K1
        have hB2 := (hBc.ext hx2).chs K1.chs hgc
        have C0 : w1.cell? ⟨wr.heap.size, 0, none⟩ = some (.int .i64 0) := hB2.cell 0
        have C1 : w1.cell? ⟨wr.heap.size, 1, none⟩ = some (.int .i64 xn) := hB2.cell 1
        have C2 : w1.cell? ⟨wr.heap.size, 2, none⟩ = some (.string xs) := hB2.cell 2
        have C3 : w1.cell? ⟨wr.heap.size, 3, none⟩ = some (.bool xb) := hB2.cell 3
        have C4 : w1.cell? ⟨wr.heap.size, 4, none⟩ = some (.int .i64 xt) := hB2.cell 4
        have C5 : w1.cell? ⟨wr.heap.size, 5, none⟩ = some (.int .i64 xu) := hB2.cell 5
        have C6 : w1.cell? ⟨wr.heap.size, 6, none⟩ = some (.slice xA xm xc) := hB2.cell 6
        have lB := hB2.lt
        have R1 := rint_any (.slice Ab ys.length cb) ys xn w1 L2.own (by have := hLk.out; omega)
        generalize hmm : ys.length = mm at *
        go_wp2_with fail
        refine R1.mono ?_
        rintro e w2 ⟨v2, rfl, K2⟩
        have L3 := L2.row_ K2
        obtain ⟨A3, c3, rfl, hn3⟩ := own_form1 L3.own
        go_wp2
        go_roundw
        case rel =>
          refine ⟨k + 1, rp', by omega, by go_num, ?_⟩
          have h9 := L3.congr (zs := (l.take (k + 1)).flatMap layB) (by rw [hT'.out]; simp) (by rw [hT'.out])
          simpa [hmm] using h9
        case measure => simp [intOf]; omega
      by_cases k1 : xk = 1
      · subst k1
        have hT' : Hid ((l.take (k + 1)).flatMap layB = ys ++ textB xs) := Lib.hid (by rw [hT.out]; simp [layB])
        clear hT
        have hrow := Row.new (f := fStr) (size := 1) (wr.alloc (.cells #[.int .i64 1, .int .i64 xn, .string xs, .bool xb, .int .i64 xt, .int .i64 xu, .slice xA xm xc] 69)) #[.string xs] 9 [xs] (fun _ => rfl) rfl
        have hfr := pen_new L1.pen (Nat.le_refl _)
        rw [World.size_alloc] at hrow hfr
        have hx2 := (Ext.refl (wr.alloc (.cells #[.int .i64 1, .int .i64 xn, .string xs, .bool xb, .int .i64 xt, .int .i64 xu, .slice xA xm xc] 69))).alloc (.cells #[.string xs] 9)
        go_wp2_with fail
        refine (text_any p rp _ [xs] _ 1 _ (L1.then_ext hx2).pen hrow (fun _ => hfr) (by have := hLk.out; simp only [List.length_cons, List.length_nil]; omega)).mono ?_
        rintro e w1 ⟨rfl, rp', K1⟩
        have L2 := (L1.then_ext hx2).pen_ K1
        have hB2 := (hBc.ext hx2).chs K1.chs hgc
        have C0 : w1.cell? ⟨wr.heap.size, 0, none⟩ = some (.int .i64 1) := hB2.cell 0
        have C1 : w1.cell? ⟨wr.heap.size, 1, none⟩ = some (.int .i64 xn) := hB2.cell 1
        have C2 : w1.cell? ⟨wr.heap.size, 2, none⟩ = some (.string xs) := hB2.cell 2
        have C3 : w1.cell? ⟨wr.heap.size, 3, none⟩ = some (.bool xb) := hB2.cell 3
        have C4 : w1.cell? ⟨wr.heap.size, 4, none⟩ = some (.int .i64 xt) := hB2.cell 4
        have C5 : w1.cell? ⟨wr.heap.size, 5, none⟩ = some (.int .i64 xu) := hB2.cell 5
        have C6 : w1.cell? ⟨wr.heap.size, 6, none⟩ = some (.slice xA xm xc) := hB2.cell 6
        have lB := hB2.lt
        have R1 := rtext_any (.slice Ab ys.length cb) ys xs w1 L2.own (by have := hLk.out; omega)
        generalize hmm : ys.length = mm at *
        go_wp2_with fail
        refine R1.mono ?_
        rintro e w2 ⟨v2, rfl, K2⟩
        have L3 := L2.row_ K2
        obtain ⟨A3, c3, rfl, hn3⟩ := own_form1 L3.own
        go_wp2
        go_roundw
        case rel =>
          refine ⟨k + 1, rp', by omega, by go_num, ?_⟩
          have h9 := L3.congr (zs := (l.take (k + 1)).flatMap layB) (by rw [hT'.out]; simp) (by rw [hT'.out])
          simpa [hmm] using h9
        case measure => simp [intOf]; omega
      by_cases k2 : xk = 2
      · subst k2
        have hT' : Hid ((l.take (k + 1)).flatMap layB = ys ++ boolB xb) := Lib.hid (by rw [hT.out]; simp [layB])
        clear hT
        go_wp2_with fail
        refine (bool_any p rp _ xb _ L1.pen (by have := hLk.out; omega)).mono ?_
        rintro e w1 ⟨rfl, rp', K1⟩
        have L2 := L1.pen_ K1
        have hB2 := hBc.chs K1.chs hgc
        have C0 : w1.cell? ⟨wr.heap.size, 0, none⟩ = some (.int .i64 2) := hB2.cell 0
        have C1 : w1.cell? ⟨wr.heap.size, 1, none⟩ = some (.int .i64 xn) := hB2.cell 1
        have C2 : w1.cell? ⟨wr.heap.size, 2, none⟩ = some (.string xs) := hB2.cell 2
        have C3 : w1.cell? ⟨wr.heap.size, 3, none⟩ = some (.bool xb) := hB2.cell 3
        have C4 : w1.cell? ⟨wr.heap.size, 4, none⟩ = some (.int .i64 xt) := hB2.cell 4
        have C5 : w1.cell? ⟨wr.heap.size, 5, none⟩ = some (.int .i64 xu) := hB2.cell 5
        have C6 : w1.cell? ⟨wr.heap.size, 6, none⟩ = some (.slice xA xm xc) := hB2.cell 6
        have lB := hB2.lt
        have R1 := rbool_any (.slice Ab ys.length cb) ys xb w1 L2.own (by have := hLk.out; omega)
        generalize hmm : ys.length = mm at *
        go_wp2_with fail
        refine R1.mono ?_
        rintro e w2 ⟨v2, rfl, K2⟩
        have L3 := L2.row_ K2
        obtain ⟨A3, c3, rfl, hn3⟩ := own_form1 L3.own
        go_wp2
        go_roundw
        case rel =>
          refine ⟨k + 1, rp', by omega, by go_num, ?_⟩
          have h9 := L3.congr (zs := (l.take (k + 1)).flatMap layB) (by rw [hT'.out]) (by rw [hT'.out])
          simpa [hmm] using h9
        case measure => simp [intOf]; omega
      by_cases k3 : xk = 3
      · subst k3
        have hT' : Hid ((l.take (k + 1)).flatMap layB = ys ++ stampB ⟨xt, xu⟩) := Lib.hid (by rw [hT.out]; simp [layB])
        clear hT
        have hrow := Row.new (f := fSt) (size := 2) (wr.alloc (.cells #[.int .i64 3, .int .i64 xn, .string xs, .bool xb, .int .i64 xt, .int .i64 xu, .slice xA xm xc] 69)) #[.int .i64 xt, .int .i64 xu] 39 [⟨xt, xu⟩] (fun _ => rfl) rfl
        have hfr := pen_new L1.pen (Nat.le_refl _)
        rw [World.size_alloc] at hrow hfr
        have hx2 := (Ext.refl (wr.alloc (.cells #[.int .i64 3, .int .i64 xn, .string xs, .bool xb, .int .i64 xt, .int .i64 xu, .slice xA xm xc] 69))).alloc (.cells #[.int .i64 xt, .int .i64 xu] 39)
        go_wp2_with fail
        refine (stamp_any p rp _ [⟨xt, xu⟩] _ 1 _ (L1.then_ext hx2).pen hrow (fun _ => hfr) (by have := hLk.out; simp only [List.length_cons, List.length_nil]; omega)).mono ?_
        rintro e w1 ⟨rfl, rp', K1⟩
        have L2 := (L1.then_ext hx2).pen_ K1
        have hB2 := (hBc.ext hx2).chs K1.chs hgc
        have C0 : w1.cell? ⟨wr.heap.size, 0, none⟩ = some (.int .i64 3) := hB2.cell 0
        have C1 : w1.cell? ⟨wr.heap.size, 1, none⟩ = some (.int .i64 xn) := hB2.cell 1
        have C2 : w1.cell? ⟨wr.heap.size, 2, none⟩ = some (.string xs) := hB2.cell 2
        have C3 : w1.cell? ⟨wr.heap.size, 3, none⟩ = some (.bool xb) := hB2.cell 3
        have C4 : w1.cell? ⟨wr.heap.size, 4, none⟩ = some (.int .i64 xt) := hB2.cell 4
        have C5 : w1.cell? ⟨wr.heap.size, 5, none⟩ = some (.int .i64 xu) := hB2.cell 5
        have C6 : w1.cell? ⟨wr.heap.size, 6, none⟩ = some (.slice xA xm xc) := hB2.cell 6
        have lB := hB2.lt
        have R1 := rstamp_any (.slice Ab ys.length cb) ys ⟨xt, xu⟩ w1 L2.own (by have := hLk.out; omega)
        generalize hmm : ys.length = mm at *
        go_wp2_with fail
        refine R1.mono ?_
        rintro e w2 ⟨v2, rfl, K2⟩
        have L3 := L2.row_ K2
        obtain ⟨A3, c3, rfl, hn3⟩ := own_form1 L3.own
        go_wp2
        go_roundw
        case rel =>
          refine ⟨k + 1, rp', by omega, by go_num, ?_⟩
          have h9 := L3.congr (zs := (l.take (k + 1)).flatMap layB) (by rw [hT'.out]; simp) (by rw [hT'.out])
          simpa [hmm] using h9
        case measure => simp [intOf]; omega
      by_cases k4 : xk = 4
      · subst k4
        have hT' : Hid ((l.take (k + 1)).flatMap layB = ys ++ stampsB xl) := Lib.hid (by rw [hT.out]; simp [layB])
        clear hT
        obtain ⟨hsts, _, _, _⟩ := hGk.out
        dsimp only at hsts
        obtain ⟨rfl, _, _, _, hsr, _⟩ := hsts
        have hbx : 16 * xl.length ≤ 20000 := by have := hBK.out; omega
        have hblt : xl ≠ [] → ∀ ad, xA = some ad → ad.block < w.heap.size := hsr.lt
        have hRS := Row.reads (hsr.ext (L.ext.trans hxc)) (fun _ => rfl) (by omega)
        have hRS2 := Reads.alloc hRS (Nat.le_refl _) (.cells #[] 39)
        have hE := own_none (wr.alloc (.cells #[.int .i64 4, .int .i64 xn, .string xs, .bool xb, .int .i64 xt, .int .i64 xu, .slice xA xl.length xc] 69)) (wr.heap.size + 1) (by simp) 39 2
        rw [World.size_alloc] at hE hRS2
        obtain ⟨i0, hi0, hz0, hz1, hz2⟩ := info_parts st_info
        have hone := fSt_one xl
        go_wp2_with (at_builtin; (refine wpList_append_any _ rfl (.tmp 68) (.tmp 70) _ rfl (wr.heap.size + 1) 39 i0 _ 2 16 Try.underlying30 hi0 hz0 hz1 hz2 rfl (by omega) _ 0 [] rfl hE _ xA xl.length xc (xl.flatMap fSt) rfl hRS2 hone (by simp only [maxLen]; omega) (by omega) (by simp) ?_); intro v1 w0 hown hg hat; obtain ⟨A1, c1, rfl⟩ := own_slice hown)
        rw [List.nil_append] at hown
        have hown' : w0.ownsRow (wr.heap.size + 1) 39 2 (.slice A1 xl.length c1) xl.length (xl.flatMap fSt) := by simpa using hown
        have hg' : ((wr.alloc (.cells #[.int .i64 4, .int .i64 xn, .string xs, .bool xb, .int .i64 xt, .int .i64 xu, .slice xA xl.length xc] 69)).alloc (.cells #[] 39)).grownBy w0 (some (wr.heap.size + 1)) := hg
        have hx0 : Ext (wr.alloc (.cells #[.int .i64 4, .int .i64 xn, .string xs, .bool xb, .int .i64 xt, .int .i64 xu, .slice xA xl.length xc] 69)) w0 := ((Ext.refl _).alloc _).grown hg' (fun i e => by injection e with e; subst e; simp)
        have L0 := L1.then_ext hx0
        have hs0 : Sts w0 A1 xl := Row.of_own hown' (fun _ => rfl) (by omega)
        have hb0 := hBc.ext hx0
        have hfr0 : xl ≠ [] → ∀ ad, A1 = some ad → ad.block ≠ p ∧ rp ≠ some ad.block := fun hl ad e => by
          subst e
          have h1 := (hown'.lt ad.block rfl).1
          refine ⟨fun e => ?_, fun e => ?_⟩
          · have := L.pen.lt; omega
          · have := (L.pen.row_lt _ e).1; omega
        clear hown hg hat hg' hE hRS hRS2 hi0 hz0 hz1 hz2 hone hx0 hown' L1 hBc hxc
        go_wp2_with fail
        refine (stamps_any p rp _ xl A1 c1 _ L0.pen hs0 hfr0 (by have := hLk.out; omega)).mono ?_
        rintro e w1 ⟨rfl, rp', K1⟩
        have L2 := L0.pen_ K1
        have hB2 := hb0.chs K1.chs hgc
        have C6 : w1.cell? ⟨wr.heap.size, 6, none⟩ = some (.slice xA xl.length xc) := hB2.cell 6
        have lB := hB2.lt
        have R1 := rstamps_any (.slice Ab ys.length cb) ys xl xA xc w1 L2.own (hsr.ext L2.ext) (fun hl ad e e' => by have := hblt hl ad e; have := (L2.hrb _ e').1; omega) (by have := hLk.out; omega)
        generalize hmm : ys.length = mm at *
        go_wp2_with fail
        refine R1.mono ?_
        rintro e w2 ⟨v2, rfl, K2⟩
        have L3 := L2.row_ K2
        obtain ⟨A3, c3, rfl, hn3⟩ := own_form1 L3.own
        go_wp2
        go_roundw
        case rel =>
          refine ⟨k + 1, rp', by omega, by go_num, ?_⟩
          have h9 := L3.congr (zs := (l.take (k + 1)).flatMap layB) (by rw [hT'.out]) (by rw [hT'.out])
          simpa [hmm] using h9
        case measure => simp [intOf]; omega
      · have hT' : Hid ((l.take (k + 1)).flatMap layB = ys) := Lib.hid (by rw [hT.out]; simp [layB, k0, k1, k2, k3, k4])
        clear hT
        go_wp2
        go_roundw
        case rel =>
          refine ⟨k + 1, rp, by omega, by go_num, ?_⟩
          rw [hT'.out]
          simpa using L1
        case measure => simp [intOf]; omega
    · obtain rfl : k = l.length := by omega
      rw [List.take_length] at L
      have hlen := HL.out l.length
      rw [List.take_length] at hlen
      have hby := bytes_any p rp _ _ L.pen (by omega)
      generalize hys : l.flatMap layB = ys at *
      obtain ⟨Ab, cb, rfl, hnb⟩ := own_form1 L.own
      have Hys := Lib.hid hys
      clear hys
      go_wp2_with (go_at_call 17; refine hby.mono ?_; rintro e w1 ⟨⟨A1, c1, rfl, ho1, hn1⟩, hx1⟩)
      have hob := own_ext L.own hx1
      go_ret2
      rw [Hys.out]
      exact ⟨L.ext.trans hx1, A1, c1, Ab, cb, rfl, RdB.row (OwnB.rd ho1).2, RdB.row (OwnB.rd hob).2, hn1, hnb, own_cap ho1⟩
end Go.Proofs.Ytbmpecfhflkbeaa
