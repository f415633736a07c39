/- Texts of the proofs of TopoTells, merged (SpM, Pxfmref03set, Pxfmref03Union, PRefS, Pxfmref03Cut, Pxfmref04Touch, Pxfmref04Owned). -/
import Derived.Deep.RegionHeld3
import Derived.Deep.LoopGhost
import Derived.Test.YtaedgbkeiankcaaWWords
import Derived.Test.YtaedgbkeiankcaaWLast
import Derived.Test.YtaedgbkeiankcaaWTab
import Derived.Test.YtaedgbkeiankcaaWQPut
import Derived.Test.YtaedgbkeiankcaaWApart
import Derived.Test.YtaedgbkeiankcaaWArr
import Derived.Test.YtaedgbkeiankcaaWZeros
import Derived.Test.YtaedgbkeiankcaaWFoot
import Derived.Test.YtaedgbkeiankcaaWKept
import Derived.Test.YtaedgbkeiankcaaWShare
import Derived.Test.YtaedgbkeiankcaaWN
import Derived.Test.YtaedgbkeiankcaaWEqStruct
import Derived.Test.YtaedgbkeiankcaaWRepsOne
import Derived.Test.YtaedgbkeiankcaaWGuard
import Derived.Test.YtaedgbkeiankcaaWNEv
import Derived.Test.YtaedgbkeiankcaaWMore
import Derived.Test.YtaedgbkeiankcaaG64eb9ef8
import Derived.Test.YtaedgbkeiankcaaGca2bd920
import Derived.Test.YtaedgbkeiankcaaGe5ba3929
import Derived.Test.YtaedgbkeiankcaaGff33e446
import Derived.Test.YtaedgbkeiankcaaG5fc94eef
import Derived.Test.YtaedgbkeiankcaaG65f7974d
import Derived.Test.YtaedgbkeiankcaaG4bcd870f
import Derived.Test.YtaedgbkeiankcaaG132b0fe3
import Derived.Test.YtaedgbkeiankcaaG0dc59620
import Derived.Test.YtaedgbkeiankcaaGc773388e
import Derived.Test.YtaedgbkeiankcaaG8ef4219a
import Derived.Test.YtaedgbkeiankcaaGae6c6a1e
import Derived.Test.YtaedgbkeiankcaaG9a577d31
import Derived.Test.YtaedgbkeiankcaaG41c11834
import Derived.Test.YtaedgbkeiankcaaG9f496484
import Derived.Test.YtaedgbkeiankcaaG366182de
import Derived.Test.YtaedgbkeiankcaaG76e5816a
import Derived.Test.YtaedgbkeiankcaaG59149f34
namespace Go.Proofs.Ytaedgbkeiankcaa.P
open Go.RowKit
open Go.Proofs.YtaedgbkeiankcaaW.PrintWords (Kd)
set_option linter.unusedVariables false
def strs (l : List ByteArray) : List Value := l.map Value.string
theorem strs_one (l : List ByteArray) : ∀ u ∈ strs l, u.oneCell' = true := by
  intro u hu
  obtain ⟨_, _, rfl⟩ := List.mem_map.1 hu
  rfl
theorem strs_len (l : List ByteArray) : (strs l).length = l.length := List.length_map _
/-- a text laid at its place, once -/
def insM (t : ByteArray) : List ByteArray → List ByteArray
  | [] => [t]
  | x :: l => if Op.bytesLess x.toList t.toList = true then x :: insM t l else if x.toList = t.toList then x :: l else t :: x :: l
/-- how many lie ahead of it -/
def placeM (t : ByteArray) : List ByteArray → Nat
  | [] => 0
  | x :: l => if Op.bytesLess x.toList t.toList = true then placeM t l + 1 else 0
theorem place_le (t : ByteArray) (l : List ByteArray) : placeM t l ≤ l.length := by
  induction l with
  | nil => exact Nat.le_refl _
  | cons x l ih => unfold placeM; split <;> simp <;> omega
theorem place_at (t : ByteArray) (l : List ByteArray) (k : Nat) (hk : k < l.length) (h : k ≤ placeM t l) : (Op.bytesLess l[k].toList t.toList = true ↔ k < placeM t l) := by
  induction l generalizing k with
  | nil => simp at hk
  | cons x l ih =>
    unfold placeM at h ⊢
    by_cases c : Op.bytesLess x.toList t.toList = true
    · rw [if_pos c] at h ⊢
      cases k with
      | zero => simp [c]
      | succ k => simpa using ih k (by simpa using hk) (by omega)
    · rw [if_neg c] at h ⊢
      obtain rfl : k = 0 := by omega
      simp [c]
theorem insM_there (t : ByteArray) (l : List ByteArray) (h : placeM t l < l.length) (he : (l[placeM t l]'h).toList = t.toList) : insM t l = l := by
  induction l with
  | nil => simp at h
  | cons x l ih =>
    by_cases c : Op.bytesLess x.toList t.toList = true
    · have e : placeM t (x :: l) = placeM t l + 1 := by rw [placeM, if_pos c]
      have hl : placeM t l < l.length := by rw [e] at h; simpa using h
      have he' : (l[placeM t l]'hl).toList = t.toList := by
        have : (x :: l)[placeM t (x :: l)]'h = l[placeM t l]'hl := by simp only [e, List.getElem_cons_succ]
        rw [← this]; exact he
      unfold insM
      rw [if_pos c, ih hl he']
    · have e : placeM t (x :: l) = 0 := by rw [placeM, if_neg c]
      have he' : x.toList = t.toList := by
        have : (x :: l)[placeM t (x :: l)]'h = x := by simp only [e, List.getElem_cons_zero]
        rw [← this]; exact he
      unfold insM
      rw [if_neg c, if_pos he']
theorem insM_new (t : ByteArray) (l : List ByteArray) (h : placeM t l = l.length ∨ ∃ hl : placeM t l < l.length, (l[placeM t l]'hl).toList ≠ t.toList) : insM t l = l.take (placeM t l) ++ [t] ++ l.drop (placeM t l) := by
  induction l with
  | nil => rfl
  | cons x l ih =>
    by_cases c : Op.bytesLess x.toList t.toList = true
    · have e : placeM t (x :: l) = placeM t l + 1 := by rw [placeM, if_pos c]
      unfold insM
      rw [if_pos c, e, ih (by
        rcases h with h | ⟨hl, h⟩
        · rw [e] at h; exact .inl (by simpa using h)
        · right
          have hl' : placeM t l < l.length := by rw [e] at hl; simpa using hl
          refine ⟨hl', ?_⟩
          have : (x :: l)[placeM t (x :: l)]'hl = l[placeM t l]'hl' := by simp only [e, List.getElem_cons_succ]
          rw [← this]; exact h)]
      simp
    · have e : placeM t (x :: l) = 0 := by rw [placeM, if_neg c]
      unfold insM
      rw [if_neg c, e]
      rcases h with h | ⟨hl, h⟩
      · rw [e] at h; simp at h
      · have : (x :: l)[placeM t (x :: l)]'hl = x := by simp only [e, List.getElem_cons_zero]
        rw [this] at h
        rw [if_neg h]
        rfl
theorem insM_len (t : ByteArray) (l : List ByteArray) : (insM t l).length ≤ l.length + 1 := by
  induction l with
  | nil => simp [insM]
  | cons x l ih => unfold insM; split <;> (try split) <;> simp <;> omega
/-- the texts of one span, after j of the two -/
def midM (out : List ByteArray) (x : S35) : Nat → List ByteArray
  | 0 => out
  | 1 => insM x.f0 out
  | _ => if x.f1.toList = [] then insM x.f0 out else insM x.f1 (insM x.f0 out)
def marksL (l : List S35) : List ByteArray := l.foldl (fun out x => midM out x 2) []
theorem marksL_take (l : List S35) (k : Nat) (hk : k < l.length) : marksL (l.take (k + 1)) = midM (marksL (l.take k)) l[k] 2 := by
  unfold marksL
  rw [List.take_succ_eq_append_getElem hk, List.foldl_append, List.foldl_cons, List.foldl_nil]
theorem midM_len (out : List ByteArray) (x : S35) (j : Nat) : (midM out x j).length ≤ out.length + 2 := by
  have h1 := insM_len x.f0 out
  have h2 := insM_len x.f1 (insM x.f0 out)
  match j with
  | 0 => simp [midM]
  | 1 => simp only [midM]; omega
  | j + 2 => simp only [midM]; split <;> omega
theorem marksL_len (l : List S35) (k : Nat) : (marksL (l.take k)).length ≤ 2 * k := by
  induction k with
  | zero => simp [marksL]
  | succ k ih =>
    by_cases h : k < l.length
    · rw [marksL_take l k h]
      have := midM_len (marksL (l.take k)) l[k] 2
      omega
    · rw [List.take_of_length_le (by omega)] at ih ⊢
      omega
theorem strs_at (l : List ByteArray) (k : Nat) (hk : k < l.length) : (strs l)[k]? = some (.string l[k]) := by simp [strs, hk]
theorem str_info : (Try.prog.info? 9).map (fun i => (i.zero, i.size, i.bytes)) = some (some (.string ⟨#[]⟩), 1, 16) := by kernel_rfl
theorem R_rawStr {w : World} {base : Nat} {v : Value} {l : List ByteArray} (h : w.ownsRow base 9 1 v l.length (strs l)) : Kd.R Kd.string 9 w base (fun _ => True) v l :=
  Kd.R_of_own h (fun _ _ => trivial)
theorem own_none' {w : World} {base p : Nat} {t : TypeId} {k : Nat} (hp : w.heap.size = p) (hb : base ≤ w.heap.size) : (w.alloc (.cells #[] t)).ownsRow base t k (.slice (some ⟨p, 0, none⟩) 0 0) 0 [] := by
  subst hp
  exact own_none w base hb t k
theorem str_cut (A : Option Addr) (n c q : Nat) (hq : q ≤ n) (W : World) : (Instr.slice 73 (.slice A n c) (some (.int .i64 (q : Int))) none none).run Try.prog W = .ok (.slice (if c = q then A else A.map (·.add (q * 1))) (n - q) (c - q)) W := by
  obtain ⟨i0, hi0, hz0, hz1, hz2⟩ := info_parts str_info
  have := Go.Proofs.YtaedgbkeiankcaaW.PrintWords.cut_from (P := Try.prog) 73 9 .i64 Try.underlying73 hi0 1 hz1 A n c q (by omega) (by omega) W
  rw [this]
  simp
theorem grown_ext {wr W W' : World} {row : Option Nat} (hE : Ext wr W) (hg : W.grownBy W' row) (hr : ∀ i, row = some i → wr.heap.size ≤ i) : Ext wr W' :=
  ⟨hg.os.trans hE.os, hg.tape.trans hE.tape, hg.output.trans hE.output, Nat.le_trans hE.size hg.size, fun i hi => (hg.block i (Nat.lt_of_lt_of_le hi hE.size) (fun e => by have := hr i e.symm; omega)).trans (hE.block i hi)⟩
theorem own_cap {w : World} {base : Nat} {e : TypeId} {size n : Nat} {v : Value} {xs : List Value} (h : w.ownsRow base e size v n xs) : ∃ A c, v = .slice A n c ∧ n ≤ c := by
  obtain ⟨_, ⟨rfl, rfl⟩ | ⟨g, cap, cur, rfl, _, _, h, _⟩⟩ := h
  · exact ⟨_, _, rfl, Nat.le_refl _⟩
  · exact ⟨_, _, rfl, h⟩
theorem str_upto (A : Option Addr) (n c q : Nat) (hq : q ≤ n) (hc : n ≤ c) (W : World) : (Instr.slice 73 (.slice A n c) none (some (.int .i64 (q : Int))) none).run Try.prog W = .ok (.slice A q c) W := by
  obtain ⟨i0, hi0, hz0, hz1, hz2⟩ := info_parts str_info
  have := Go.Proofs.YtaedgbkeiankcaaW.PrintWords.cut_to (P := Try.prog) 73 9 .i64 Try.underlying73 hi0 A n c q (by omega) (by omega) hc W
  rw [this]
  simp
theorem blk_new' {W : World} {p : Nat} {t : TypeId} {cs : Array Value} (hp : W.heap.size = p) : Blk (W.alloc (.cells cs t)) p t cs := by
  subst hp
  exact Blk.new _ _ _
theorem blk_reads {w : World} {g : Nat} {cs : List Value} {t : TypeId} (h : Blk w g t cs.toArray) : Reads w (g + 1) 1 (some ⟨g, 0, none⟩) cs.length cs :=
  ⟨by simp, fun _ => ⟨_, rfl, Nat.lt_succ_self _, fun j v hv => by
    have : (⟨g, 0, none⟩ : Addr).add j = ⟨g, j, none⟩ := by unfold Addr.add; split <;> simp_all
    rw [this, h.cell, List.getElem?_toArray, hv]⟩⟩
theorem reads_kept {W w' : World} {v : Value} (h : ∀ g t cs, Blk W g t cs → v.ownBlock ≠ some g → Blk w' g t cs) {p : Nat} {t : TypeId} {x : ByteArray} (hb : Blk W p t #[.string x]) (hn : v.ownBlock ≠ some p) : Reads w' (p + 1) 1 (some ⟨p, 0, none⟩) 1 (strs [x]) :=
  blk_reads (cs := [.string x]) (h _ _ _ hb hn)
theorem step_strs {ops : Array Oper} {o : Oper} {a : Act} {K : Act → World → Prop} {Q : Exit → Act → World → Prop} {E : Prop} (hgd : o.guard = none) (s x : Operand)
    (ho : o.op = .call { callee := .builtin .append, args := #[s, x], argTypes := #[73, 73] }) {wr W : World} (hE : Ext wr W)
    (v : Value) (n : Nat) (xs : List ByteArray) (hs : a.eval s = v) (hown : W.ownsRow wr.heap.size 9 1 v n (strs xs))
    (B : Nat) (A : Option Addr) (m c : Nat) (news : List ByteArray) (hx : a.eval x = .slice A m c) (hr : Reads W B 1 A m (strs news)) (h63 : n + m ≤ 4398046511104)
    (h : ∀ v' w', Ext wr w' → w'.ownsRow wr.heap.size 9 1 v' (n + m) (strs (xs ++ news)) → (∀ g t cs, Blk W g t cs → v.ownBlock ≠ some g → Blk w' g t cs) → K (a.put o.dst v') w') :
    if Region.wanted o (yielded ops a.tmps) = true then Oper.wp Try.prog o a W K Q else E := by
  obtain ⟨i0, hi0, hz0, hz1, hz2⟩ := info_parts str_info
  refine step_append_any W hgd s x 73 ho wr.heap.size 9 i0 _ 1 16 Try.underlying73 hi0 hz0 hz1 hz2 rfl (by omega) v n (strs xs) hs hown B A m c (strs news) hx hr (strs_one _) (by unfold maxLen; omega) (by omega) hE.size ?_
  intro v' w' h1 h2 h3
  refine h v' w' (grown_ext hE h2 (fun i hi => (hown.lt i hi).1)) (by rw [strs, List.map_append]; exact h1) (fun g t cs hb hne => (h2.block g hb.lt (fun e => hne e.symm)).trans hb)
theorem reads_take {w : World} {B : Nat} {A : Option Addr} {l : List ByteArray} {q : Nat} (h : Reads w B 1 A l.length (strs l)) (hq : q ≤ l.length) : Reads w B 1 A q (strs (l.take q)) :=
  ⟨by rw [strs_len, List.length_take]; omega, fun hn => by
    obtain ⟨ad, e, hb, hc⟩ := h.2 (by omega)
    refine ⟨ad, e, hb, fun j u hu => hc j u ?_⟩
    rw [strs, List.map_take, List.getElem?_take] at hu
    split at hu
    · exact hu
    · cases hu⟩
theorem reads_drop {w : World} {B : Nat} {A : Option Addr} {l : List ByteArray} {q c : Nat} (h : Reads w B 1 A l.length (strs l)) (hq : q ≤ l.length) (hc : l.length ≤ c) : Reads w B 1 (if c = q then A else A.map (·.add (q * 1))) (l.length - q) (strs (l.drop q)) := by
  have := h.cut (k := q) (cap := c) hq hc
  simp only [Nat.mul_one, strs, List.map_drop] at this ⊢
  exact this
theorem midM_step (out : List ByteArray) (xf xt : ByteArray) (m : Nat) (hm : m < 2) (h : ¬ (m = 1 ∧ xt.toList = [])) : midM out ⟨xf, xt⟩ (m + 1) = insM (if m = 0 then xf else xt) (midM out ⟨xf, xt⟩ m) := by
  match m, hm with
  | 0, _ => rfl
  | 1, _ => simp only [midM]; rw [if_neg (fun e => h ⟨rfl, e⟩)]; rfl
def MarksPost (r : List ByteArray) (w : World) (e : Ending) (w' : World) : Prop := ∃ v0, e = .returned v0 ∧ Kd.R Kd.string 9 w' w.heap.size (fun _ => True) v0 r ∧ Ext w w'
abbrev OwnT (w : World) (base : Nat) (v : Value) (l : List ByteArray) : Prop := w.ownsRow base 9 1 v l.length (strs l)
theorem own_mono {w : World} {base base' : Nat} {e : TypeId} {size : Nat} {v : Value} {n : Nat} {xs : List Value} (h : w.ownsRow base e size v n xs) (hb : base' ≤ base) : w.ownsRow base' e size v n xs := by
  obtain ⟨h0, h1 | ⟨g, cap, cur, h2, h3, h4⟩⟩ := h
  · exact ⟨h0, .inl h1⟩
  · exact ⟨h0, .inr ⟨g, cap, cur, h2, Nat.le_trans hb h3, h4⟩⟩
theorem own_ins {w : World} {base n q : Nat} {v : Value} {t : ByteArray} {cur : List ByteArray} (h : w.ownsRow base 9 1 v n (strs ([] ++ cur.take q ++ [t] ++ cur.drop q))) : OwnT w base v (cur.take q ++ [t] ++ cur.drop q) := by
  have hl := h.1
  rw [strs_len, Nat.mul_one] at hl
  subst hl
  exact h
theorem own_ins' {w : World} {base n : Nat} {v : Value} {t : ByteArray} {cur : List ByteArray} (h : w.ownsRow base 9 1 v n (strs ([] ++ cur.take cur.length ++ [t] ++ []))) : OwnT w base v (cur.take cur.length ++ [t] ++ cur.drop cur.length) :=
  own_ins (by rw [List.drop_length]; exact h)
set_option maxHeartbeats 16000000 in
set_option maxRecDepth 100000 in
theorem marks_walk (A0 : Option Addr) (c0 : Nat) (l : List S35) (w : World) (hr0 : Kd.C k35 w A0 l.length l) (hc0 : l.length ≤ c0) (hl : l.length < 1099511627776) :
    Calls Try.prog 55 #[.slice A0 l.length c0] w (MarksPost (marksL l) w) := by
  have HR0 := Lib.hid (C_rawSp hr0)
  clear hr0
  obtain ⟨i0, hi0, hz0, hz1, hz2⟩ := info_parts str_info
  have HI0 := Lib.hid hi0
  have HZ0 := Lib.hid hz0
  have HZ1 := Lib.hid hz1
  have HZ2 := Lib.hid hz2
  clear hi0 hz0 hz1 hz2
  go_enter Try.func55, Try.ntmps55
  go_wp2
  go_loopw [3, 4] (fun o i wr => ∃ k : Nat, k ≤ l.length ∧ i = .int .i64 k ∧ Hid (OwnT wr w.heap.size o (marksL (l.take k))) ∧ Hid (Ext w wr)) (fun _ i _ => l.length - (intOf i).toNat)
  case atStart => exact ⟨0, by omega, rfl, Lib.hid (World.ownsRow_nil _ _ _ _), Lib.hid (Ext.refl _)⟩
  case round =>
    obtain ⟨k, hk, rfl, HO, HX⟩ := hrel
    by_cases hlt : k < l.length
    · have hltz : (k : Int) < (l.length : Int) := by omega
      have hml := marksL_len l k
      have HT := Lib.hid (marksL_take l k hlt)
      obtain ⟨ad, rfl, had, hcell⟩ := HR0.out.2 (by rw [List.length_map]; omega)
      have hcl : ∀ i u, (encSp l[k])[i]? = some u → wr.cell? (ad.add (k * 2 + i)) = some u := fun i u hu => by
        have hi : i < 2 := (List.getElem?_eq_some_iff.1 hu).1
        have h0 := hcell (k * 2 + i) u (by have := (wideSp l).at_ k (by simpa using hlt) i hi []; rw [List.append_nil, List.getElem_map] at this; rw [this]; exact hu)
        rw [← h0]
        exact HX.out.below.cell (by rw [block_of_add]; exact had)
      have f0 := hcl 0 _ rfl
      have f1 := hcl 1 _ rfl
      rw [Nat.add_zero] at f0
      rw [add_plus _ _ 1 (by omega)] at f1
      generalize hx : l[k] = x at *
      generalize marksL (l.take k) = out at *
      obtain ⟨xf, xt⟩ := x
      clear hx hcl hcell
      dsimp only at f0 f1
      have hbl := HX.out.below.size
      go_wp2
      refine wp_region_still_tail 10 (by kernel_rfl) (by kernel_rfl) ?_
      simp only [List.take_succ_cons, List.take_zero, List.drop_succ_cons, List.drop_zero, World.drew_eq]
      repeat still_step
      try refine wpStill_nil ?_
      go_wp2
      have HB0 : Hid (Blk ((wr.alloc (.cells #[.string xf, .string xt] 9)).drew) wr.heap.size 9 #[.string xf, .string xt]) := Lib.hid (Blk.new _ _ _)
      have HX0 := Lib.hid ((HX.out.alloc (.cells #[.string xf, .string xt] 9)).drew)
      have HO0 := Lib.hid (own_ext HO.out (((Ext.refl wr).alloc (.cells #[.string xf, .string xt] 9)).drew))
      have HN0 := Lib.hid (fun i (hi : u3.ownBlock = some i) => (show i ≠ wr.heap.size from by have := (HO.out.lt i hi).2; omega))
      generalize hgb : wr.heap.size = gb at *
      generalize hW0 : (wr.alloc (.cells #[.string xf, .string xt] 9)).drew = W0 at *
      have hcl : out.length < 4398046511104 - 4 := by omega
      clear hW0 hgb
      go_loopw [3, 6] (fun o j w2 => ∃ m : Nat, m ≤ 2 ∧ j = .int .i64 m ∧ Hid (OwnT w2 w.heap.size o (midM out ⟨xf, xt⟩ m)) ∧ Hid (Ext w w2) ∧ Hid (Blk w2 gb 9 #[.string xf, .string xt]) ∧ Hid (∀ i, o.ownBlock = some i → i ≠ gb)) (fun _ j _ => 2 - (intOf j).toNat)
      case atStart => exact ⟨0, by omega, rfl, HO0, HX0, HB0, HN0⟩
      case round =>
        obtain ⟨m, hm, rfl, HO2, HX2, HB2, HN2⟩ := hrel
        clear HO0 HX0 HB0 HN0
        rename World => wz
        by_cases hm2 : m < 2
        · have hm2z : (m : Int) < 2 := by omega
          have hcl2 := midM_len out ⟨xf, xt⟩ m
          have c1 : wz.cell? ⟨gb, 1, none⟩ = some (.string xt) := HB2.out.cell 1
          have hgl := HB2.out.lt
          by_cases hc : m = 1 ∧ xt.toList = []
          · have b1 : ((m : Int) == 1) = true := by rw [hc.1]; rfl
            have b2 : (xt.toList == ([] : List UInt8)) = true := by rw [hc.2]; rfl
            have hstep : midM out ⟨xf, xt⟩ (m + 1) = midM out ⟨xf, xt⟩ m := by rw [hc.1]; simp only [midM]; rw [if_pos hc.2]
            have HS := Lib.hid hstep
            clear hc hstep
            go_wp2
            go_roundw
            case rel => exact ⟨m + 1, by omega, by go_num, by rw [HS.out]; exact HO2, HX2, HB2, HN2⟩
            case measure => simp [intOf]; omega
          · have HS := Lib.hid (midM_step out xf xt m hm2 hc)
            have hcm : wz.cell? ⟨gb, m, none⟩ = some (.string (if m = 0 then xf else xt)) := by
              match m, hm2 with
              | 0, _ => exact HB2.out.cell 0
              | 1, _ => exact HB2.out.cell 1
            have hbt : (((m : Int) == 1) = true ∧ (xt.toList == ([] : List UInt8)) = false) ∨ ((m : Int) == 1) = false := by
              by_cases e : m = 1
              · left
                refine ⟨by rw [e]; rfl, beq_eq_false_iff_ne.2 (fun h => hc ⟨e, h⟩)⟩
              · right
                exact beq_eq_false_iff_ne.2 (by omega)
            generalize (if m = 0 then xf else xt) = t at *
            generalize hcur : midM out ⟨xf, xt⟩ m = cur at *
            have HC := Lib.hid hcur
            clear hcur hc
            obtain ⟨A3, c3, rfl, hcc⟩ := own_cap HO2.out
            have hple := place_le t cur
            have HPA := Lib.hid (place_at t cur)
            have HF : Hid (∀ W, Ext wz W → OwnT W w.heap.size (.slice A3 cur.length c3) cur ∧ Ext w W ∧ Blk W gb 9 #[.string xf, .string xt] ∧ W.cell? ⟨gb, m, none⟩ = some (.string t)) :=
              Lib.hid fun W hW => ⟨own_ext HO2.out hW, HX2.out.trans hW, HB2.out.chs (S := fun _ => False) (.of_ext hW) (fun e => e), hW.below.cell (p := ⟨gb, m, none⟩) hgl |>.trans hcm⟩
            have HC3 : Hid (∀ (q : Nat) (hq : q < cur.length) (W : World), Ext wz W → ∃ g, A3 = some ⟨g, 0, none⟩ ∧ g ≠ gb ∧ W.cell? ⟨g, q, none⟩ = some (.string cur[q])) := Lib.hid fun q hq W hW => by
              obtain ⟨g, c4, e, _, _, _⟩ := own_some HO2.out (by omega)
              injection e with e _ _
              refine ⟨g, e, HN2.out g (by rw [e]; rfl), ?_⟩
              subst e
              obtain ⟨ad3, e3, _, hc3⟩ := (Reads.of_own (own_ext HO2.out hW)).2 (by omega)
              injection e3 with e3
              subst e3
              have := hc3 q _ (strs_at cur q hq)
              have e4 : (⟨g, 0, none⟩ : Addr).add q = ⟨g, q, none⟩ := by unfold Addr.add; split <;> simp_all
              rwa [e4] at this
            have HR3 : Hid (∀ W, Ext wz W → Reads W wz.heap.size 1 A3 cur.length (strs cur)) := Lib.hid fun W hW => (Reads.of_own HO2.out).below hW.below
            clear hcm
            have hcl3 : cur.length < 4398046511104 - 1 := by omega
            clear hcl2
            rcases hbt with ⟨b1, b2⟩ | b1
            all_goals
              go_wp2
              go_loopw [7] (fun kk w3 => ∃ q : Nat, q ≤ placeM t cur ∧ kk = .int .i64 q ∧ Hid (Ext wz w3)) (fun kk _ => cur.length + 1 - (intOf kk).toNat)
              case atStart => exact ⟨0, by omega, rfl, Lib.hid (Ext.refl _)⟩
              case round =>
                obtain ⟨q, hq, rfl, HE⟩ := hrel
                obtain ⟨_, _, hB4, hct⟩ := HF.out _ HE.out
                have hn0 : (0 : Int) ≤ (m : Int) := by omega
                have hn2 : (m : Int) < 2 := by omega
                by_cases hql : q < cur.length
                · have hqlz : (q : Int) < (cur.length : Int) := by omega
                  have hdq : decide ((q : Int) < (cur.length : Int)) = true := decide_eq_true hqlz
                  have heq : ((q : Int) == (cur.length : Int)) = false := beq_eq_false_iff_ne.2 (by omega)
                  obtain ⟨g, rfl, hgne, hcq⟩ := HC3.out q hql _ HE.out
                  have HPq := Lib.hid (HPA.out q hql hq)
                  by_cases hls : Op.bytesLess cur[q].toList t.toList = true
                  · have hq1 : q < placeM t cur := HPq.out.1 hls
                    generalize cur[q] = y at *
                    go_wp2
                    go_quiet (fail)
                    go_wp2
                    go_roundw
                    case rel => exact ⟨q + 1, by omega, by go_num, Lib.hid (HE.out.drewN _)⟩
                    case measure => simp [intOf]; omega
                  · have hq1 : ¬ q < placeM t cur := fun h => hls (HPq.out.2 h)
                    obtain rfl : q = placeM t cur := by omega
                    generalize hp : placeM t cur = q at *
                    have hlf : Op.bytesLess cur[q].toList t.toList = false := by simpa using hls
                    by_cases he : cur[q].toList = t.toList
                    · have heb : (cur[q].toList == t.toList) = true := beq_iff_eq.2 he
                      have HI := Lib.hid (insM_there t cur (by rw [hp]; exact hql) (by simp only [hp]; exact he))
                      generalize cur[q] = y at *
                      clear he hls
                      go_wp2
                      go_quiet (fail)
                      go_wp2
                      go_quiet (fail)
                      go_wp2
                      go_roundw
                      case rel => exact ⟨m + 1, by omega, by go_num, by rw [HS.out, HI.out]; exact own_ext HO2.out (HE.out.drewN _), HX2.out.trans (HE.out.drewN _) |> Lib.hid, HB2.out.ext (HE.out.drewN _) |> Lib.hid, HN2⟩
                      case measure => simp [intOf]; omega
                    · have heb : (cur[q].toList == t.toList) = false := beq_eq_false_iff_ne.2 he
                      have HI := Lib.hid (insM_new t cur (.inr ⟨by rw [hp]; exact hql, by simp only [hp]; exact he⟩))
                      generalize cur[q] = y at *
                      clear he hls
                      go_wp2
                      go_quiet (fail)
                      go_wp2
                      go_quiet (fail)
                      go_wp2
                      have cutA := fun W => str_upto (some ⟨g, 0, none⟩) cur.length c3 q (by omega) hcc W
                      obtain ⟨AD, cutB, HRd⟩ : ∃ AD, (∀ W, (Instr.slice 73 (.slice (some ⟨g, 0, none⟩) cur.length c3) (some (.int .i64 (q : Int))) none none).run Try.prog W = .ok (.slice AD (cur.length - q) (c3 - q)) W) ∧ Hid (∀ W, Ext wz W → Reads W wz.heap.size 1 AD (cur.length - q) (strs (cur.drop q))) :=
                        ⟨_, fun W => str_cut _ cur.length c3 q (by omega) W, Lib.hid fun W hW => reads_drop (HR3.out W hW) (by omega) hcc⟩
                      have HRt := Lib.hid (fun W (hW : Ext wz W) => reads_take (q := q) (HR3.out W hW) (by omega))
                      have hq4 : (q : Int) ≤ (cur.length : Int) := by omega
                      have hq0 : (0 : Int) ≤ (q : Int) := by omega
                      go_region_held3 (fun W => W.cell? ⟨gb, m, none⟩ = some (.string t)) (exact (HF.out _ (by repeat first | assumption | exact Lib.Hid.out (by assumption) | apply Ext.drew | apply Ext.drewN | apply Ext.alloc)).2.2.2) ((first
                        | (have _h := ho5; clear _h; refine step_strs (by rfl) _ _ (by rfl) (wr := wz) (by repeat first | assumption | exact Lib.Hid.out (by assumption) | apply Ext.drew | apply Ext.drewN | apply Ext.alloc) v5 _ _ (by rfl) ho5 _ _ _ _ _ (by rfl) (HRd.out _ (by repeat first | assumption | exact Lib.Hid.out (by assumption) | apply Ext.drew | apply Ext.drewN | apply Ext.alloc)) (by omega) ?_; intro v6 w6 hE6 ho6 hk6)
                        | (have _h := ho4; clear _h; refine step_strs (by rfl) _ _ (by rfl) (wr := wz) (by repeat first | assumption | exact Lib.Hid.out (by assumption) | apply Ext.drew | apply Ext.drewN | apply Ext.alloc) v4 _ _ (by rfl) (by first | exact ho4 | exact own_ext ho4 ((Ext.refl _).alloc _)) _ _ 1 1 [t] (by rfl) (by first | exact new_reads [.string t] rfl (by first | rfl | simp) | exact reads_kept hk4 (blk_new' (by first | rfl | simp)) (by simp [Value.ownBlock]) | exact reads_kept hk4 (Blk.ext (blk_new' (by first | rfl | simp)) ((Ext.refl _).alloc _)) (by simp [Value.ownBlock])) (by omega) ?_; intro v5 w5 hE5 ho5 hk5)
                        | (refine step_strs (by rfl) _ _ (by rfl) (wr := wz) (by repeat first | assumption | exact Lib.Hid.out (by assumption) | apply Ext.drew | apply Ext.drewN | apply Ext.alloc) (.slice (some ⟨_, 0, none⟩) 0 0) 0 [] (by rfl) (by first | exact own_none' (by first | rfl | simp) (Ext.size (by repeat first | assumption | exact Lib.Hid.out (by assumption) | apply Ext.drew | apply Ext.drewN | apply Ext.alloc)) | exact own_ext (own_none' (by first | rfl | simp) (Ext.size (by repeat first | assumption | exact Lib.Hid.out (by assumption) | apply Ext.drew | apply Ext.drewN | apply Ext.alloc))) ((Ext.refl _).alloc _)) _ _ _ _ _ (by rfl) (HRt.out _ (by repeat first | assumption | exact Lib.Hid.out (by assumption) | apply Ext.drew | apply Ext.drewN | apply Ext.alloc)) (by omega) ?_; intro v4 w4 hE4 ho4 hk4)))
                      all_goals
                        go_wp2
                        go_roundw
                        case rel =>
                          refine ⟨m + 1, by omega, by go_num, ?_, Lib.hid (HX2.out.trans hE6), Lib.hid (HB2.out.ext hE6), Lib.hid fun i hi => by have := (ho6.lt i hi).1; omega⟩
                          rw [HS.out]
                          rw [HI.out, hp]
                          exact Lib.hid (own_ins (own_mono ho6 HX2.out.size))
                        case measure => simp [intOf]; omega
                · obtain rfl : q = cur.length := by omega
                  have hqlz : ¬ (cur.length : Int) < (cur.length : Int) := by omega
                  have hp : placeM t cur = cur.length := by omega
                  have HI := Lib.hid (insM_new t cur (.inl hp))
                  have hpp := Lib.hid hp
                  clear hql hp
                  go_wp2
                  go_quiet (fail)
                  go_wp2
                  go_quiet (fail)
                  go_wp2
                  have cutA := fun W => str_upto A3 cur.length c3 cur.length (by omega) hcc W
                  obtain ⟨AD, cutB, HRd⟩ : ∃ AD, (∀ W, (Instr.slice 73 (.slice A3 cur.length c3) (some (.int .i64 (cur.length : Int))) none none).run Try.prog W = .ok (.slice AD 0 (c3 - cur.length)) W) ∧ Hid (∀ W : World, Reads W wz.heap.size 1 AD 0 (strs [])) :=
                    ⟨_, fun W => by rw [str_cut A3 cur.length c3 cur.length (by omega) W, Nat.sub_self], Lib.hid fun W => Reads.none_⟩
                  have HRt := Lib.hid (fun W (hW : Ext wz W) => reads_take (q := cur.length) (HR3.out W hW) (by omega))
                  have hq4 : (cur.length : Int) ≤ (cur.length : Int) := by omega
                  have hq0 : (0 : Int) ≤ (cur.length : Int) := by omega
                  go_region_held3 (fun W => W.cell? ⟨gb, m, none⟩ = some (.string t)) (exact (HF.out _ (by repeat first | assumption | exact Lib.Hid.out (by assumption) | apply Ext.drew | apply Ext.drewN | apply Ext.alloc)).2.2.2) ((first
                    | (have _h := ho5; clear _h; refine step_strs (by rfl) _ _ (by rfl) (wr := wz) (by repeat first | assumption | exact Lib.Hid.out (by assumption) | apply Ext.drew | apply Ext.drewN | apply Ext.alloc) v5 _ _ (by rfl) ho5 _ _ _ _ _ (by rfl) (HRd.out _) (by omega) ?_; intro v6 w6 hE6 ho6 hk6)
                    | (have _h := ho4; clear _h; refine step_strs (by rfl) _ _ (by rfl) (wr := wz) (by repeat first | assumption | exact Lib.Hid.out (by assumption) | apply Ext.drew | apply Ext.drewN | apply Ext.alloc) v4 _ _ (by rfl) (by first | exact ho4 | exact own_ext ho4 ((Ext.refl _).alloc _)) _ _ 1 1 [t] (by rfl) (by first | exact new_reads [.string t] rfl (by first | rfl | simp) | exact reads_kept hk4 (blk_new' (by first | rfl | simp)) (by simp [Value.ownBlock]) | exact reads_kept hk4 (Blk.ext (blk_new' (by first | rfl | simp)) ((Ext.refl _).alloc _)) (by simp [Value.ownBlock])) (by omega) ?_; intro v5 w5 hE5 ho5 hk5)
                    | (refine step_strs (by rfl) _ _ (by rfl) (wr := wz) (by repeat first | assumption | exact Lib.Hid.out (by assumption) | apply Ext.drew | apply Ext.drewN | apply Ext.alloc) (.slice (some ⟨_, 0, none⟩) 0 0) 0 [] (by rfl) (by first | exact own_none' (by first | rfl | simp) (Ext.size (by repeat first | assumption | exact Lib.Hid.out (by assumption) | apply Ext.drew | apply Ext.drewN | apply Ext.alloc)) | exact own_ext (own_none' (by first | rfl | simp) (Ext.size (by repeat first | assumption | exact Lib.Hid.out (by assumption) | apply Ext.drew | apply Ext.drewN | apply Ext.alloc))) ((Ext.refl _).alloc _)) _ _ _ _ _ (by rfl) (HRt.out _ (by repeat first | assumption | exact Lib.Hid.out (by assumption) | apply Ext.drew | apply Ext.drewN | apply Ext.alloc)) (by omega) ?_; intro v4 w4 hE4 ho4 hk4)))
                  all_goals
                    go_wp2
                    go_roundw
                    case rel =>
                      refine ⟨m + 1, by omega, by go_num, ?_, Lib.hid (HX2.out.trans hE6), Lib.hid (HB2.out.ext hE6), Lib.hid fun i hi => by have := (ho6.lt i hi).1; omega⟩
                      rw [HS.out]
                      rw [HI.out, hpp.out]
                      exact Lib.hid (own_ins' (own_mono ho6 HX2.out.size))
                    case measure => simp [intOf]; omega
        · obtain rfl : m = 2 := by omega
          go_wp2
          go_roundw
          case rel => exact ⟨k + 1, by omega, by go_num, by rw [HT.out]; exact HO2, HX2⟩
          case measure => simp [intOf]; omega
    · obtain rfl : k = l.length := by omega
      rw [List.take_length] at HO
      have hltz : ¬ (l.length : Int) < (l.length : Int) := by omega
      go_wp2
      go_ret
      exact ⟨_, rfl, R_rawStr HO.out, HX.out⟩
def folkmootref03_marks.f (l0 : List S35) : Option (List ByteArray) := if l0.length < 1099511627776 then some (marksL l0) else none
theorem folkmootref03_marks.calls (A0 : Option Addr) (c0 : Nat) (l0 : List S35) (r : List ByteArray) (w : World) (hr0 : Kd.C k35 w A0 l0.length l0) (hc0 : l0.length ≤ c0) (h : folkmootref03_marks.f l0 = some r) :
    Calls Try.prog 55 #[.slice A0 l0.length c0] w fun e w' => ∃ v0_ : Value, e = .returned (v0_) ∧ Kd.R Kd.string 9 w' w.heap.size (fun _ => True) v0_ r ∧ Below w.heap.size w w' := by
  unfold folkmootref03_marks.f at h
  by_cases hl : l0.length < 1099511627776
  · rw [if_pos hl] at h
    obtain rfl := Option.some.inj h
    exact (marks_walk A0 c0 l0 w hr0 hc0 hl).mono fun e w' ⟨v0, he, hR, hx⟩ => ⟨v0, he, hR, hx⟩
  · rw [if_neg hl] at h
    cases h
end Go.Proofs.Ytaedgbkeiankcaa.P
namespace Go.Proofs.Ytaedgbkeiankcaa.P
open Go.RowKit Go.Proofs.YtaedgbkeiankcaaW.PrintWords Go.Proofs.YtaedgbkeiankcaaW.PrintLast Go.Proofs.YtaedgbkeiankcaaW.PrintMore
attribute [local go_sem] str_leq str_geq max2_str max2_int min2_int max_two min_two max_three min_three max_four min_four
set_option linter.unusedVariables false
set_option linter.unusedSimpArgs false
mutual
def folkmootref03_set.l0 : Nat → List (S35) → List (S35) → Int → List ByteArray → List (S35) → Bool → Int → Option ((List (S35)))
  | 0, _, _, _, _, _, _, _ => none
  | k + 1, x0, x1, x2, x7, x8, x9, x10 => if x10 < (x7.length : Int) then (if 0 ≤ x10 then ((folkmootref03_Has.f k x0 (rdOf ByteArray.empty x7 x10)).bind fun t210 => ((folkmootref03_Has.f k x1 (rdOf ByteArray.empty x7 x10)).bind fun t212 => (if t210 = true then (folkmootref03_set.j1 k x0 x1 x2 x7 x8 x9 x10 t210 t212 true) else (folkmootref03_set.j1 k x0 x1 x2 x7 x8 x9 x10 t210 t212 t212)))) else (none)) else (some x8)
def folkmootref03_set.j1 : Nat → List (S35) → List (S35) → Int → List ByteArray → List (S35) → Bool → Int → Bool → Bool → Bool → Option ((List (S35)))
  | 0, _, _, _, _, _, _, _, _, _, _ => none
  | k + 1, x0, x1, x2, x7, x8, x9, x10, x11, x12, x13 => if x2 = 1 then (if x11 = true then (folkmootref03_set.j2 k x0 x1 x2 x7 x8 x9 x10 x11 x12 x12) else (folkmootref03_set.j2 k x0 x1 x2 x7 x8 x9 x10 x11 x12 false)) else (folkmootref03_set.j2 k x0 x1 x2 x7 x8 x9 x10 x11 x12 x13)
def folkmootref03_set.j2 : Nat → List (S35) → List (S35) → Int → List ByteArray → List (S35) → Bool → Int → Bool → Bool → Bool → Option ((List (S35)))
  | 0, _, _, _, _, _, _, _, _, _, _ => none
  | k + 1, x0, x1, x2, x7, x8, x9, x10, x11, x12, x13 => if x2 = 2 then (if x11 = true then (folkmootref03_set.j3 k x0 x1 x2 x7 x8 x9 x10 (!x12)) else (folkmootref03_set.j3 k x0 x1 x2 x7 x8 x9 x10 false)) else (folkmootref03_set.j3 k x0 x1 x2 x7 x8 x9 x10 x13)
def folkmootref03_set.j3 : Nat → List (S35) → List (S35) → Int → List ByteArray → List (S35) → Bool → Int → Bool → Option ((List (S35)))
  | 0, _, _, _, _, _, _, _, _ => none
  | k + 1, x0, x1, x2, x7, x8, x9, x10, x13 => if x13 = true then (folkmootref03_set.j4 k x0 x1 x2 x7 x8 x9 x10 x13 (!x9)) else (folkmootref03_set.j4 k x0 x1 x2 x7 x8 x9 x10 x13 false)
def folkmootref03_set.j4 : Nat → List (S35) → List (S35) → Int → List ByteArray → List (S35) → Bool → Int → Bool → Bool → Option ((List (S35)))
  | 0, _, _, _, _, _, _, _, _, _ => none
  | k + 1, x0, x1, x2, x7, x8, x9, x10, x13, x59 => if x59 = true then (if 0 ≤ x10 then (if x10 < (x7.length : Int) then (if x8.length < 4398046511104 then ((some (x8 ++ [(⟨rdOf ByteArray.empty x7 x10, (⟨#[]⟩ : ByteArray)⟩ : S35)] : List (S35))).bind fun y214 => (if x13 = true then (folkmootref03_set.l0 k x0 x1 x2 x7 y214 x13 (wrap64 (x10 + 1))) else (if x9 = true then (if 0 ≤ (wrap64 ((y214.length : Int) - 1)) then (if (wrap64 ((y214.length : Int) - 1)) < (y214.length : Int) then (folkmootref03_set.l0 k x0 x1 x2 x7 (y214.set ((wrap64 ((y214.length : Int) - 1)) : Int).toNat (⟨(rd_T35 y214 (wrap64 ((y214.length : Int) - 1))).f0, rdOf ByteArray.empty x7 x10⟩ : S35)) x13 (wrap64 (x10 + 1))) else (none)) else (none)) else (folkmootref03_set.l0 k x0 x1 x2 x7 y214 x13 (wrap64 (x10 + 1)))))) else (none)) else (none)) else (none)) else (if x13 = true then (folkmootref03_set.l0 k x0 x1 x2 x7 x8 x13 (wrap64 (x10 + 1))) else (if x9 = true then (if 0 ≤ x10 then (if x10 < (x7.length : Int) then (if 0 ≤ (wrap64 ((x8.length : Int) - 1)) then (if (wrap64 ((x8.length : Int) - 1)) < (x8.length : Int) then (folkmootref03_set.l0 k x0 x1 x2 x7 (x8.set ((wrap64 ((x8.length : Int) - 1)) : Int).toNat (⟨(rd_T35 x8 (wrap64 ((x8.length : Int) - 1))).f0, rdOf ByteArray.empty x7 x10⟩ : S35)) x13 (wrap64 (x10 + 1))) else (none)) else (none)) else (none)) else (none)) else (folkmootref03_set.l0 k x0 x1 x2 x7 x8 x13 (wrap64 (x10 + 1)))))
end
def folkmootref03_set.f (k : Nat) (l0 : List (S35)) (l1 : List (S35)) (a2 : Int) : Option ((List (S35))) := (some (([] : List (S35)) : List (S35))).bind fun y197 => (if y197.length + l0.length < 4398046511104 then ((some (y197 ++ l0 : List (S35))).bind fun y200 => (if y200.length + l1.length < 4398046511104 then ((folkmootref03_marks.f (y200 ++ l1)).bind fun t206 => (folkmootref03_set.l0 k l0 l1 a2 t206 ([] : List (S35)) false 0)) else (none))) else (none))
def folkmootref03_set.T7 : Bool × List (List Nat × List Nat) := (true, [([], []), ([], []), ([], []), ([1, 2], [1, 2]), ([3], [3]), ([0, 4], [0, 4]), ([], []), ([], []), ([], []), ([7, 8], [7, 8]), ([9], [9]), ([6, 10, 5], [6, 10]), ([5, 11, 0, 1, 2, 3, 4, 5], [5]), ([11, 12, 0, 1, 2, 3, 4, 5, 6, 7, 8, 9, 10, 11, 12], [11])])
def folkmootref03_set.B7 : List Nat := [0, 0, 0, 6, 14, 31, 0, 0, 0, 384, 896, 2047, 4095, 8191]
theorem folkmootref03_set.tab7 : rtab .any (opsOf Try.f39 7) = folkmootref03_set.T7 := by kernel_rfl
theorem folkmootref03_set.bits7 : waitsOk folkmootref03_set.T7.2 folkmootref03_set.B7 = true := by kernel_rfl
set_option maxHeartbeats 8000000 in
set_option maxRecDepth 100000 in
theorem folkmootref03_set.calls (k : Nat) (A0 : Option Addr) (c0 : Nat) (l0 : List (S35)) (A1 : Option Addr) (c1 : Nat) (l1 : List (S35)) (a2 : Int) (r : List (S35)) (w : World) (hr0 : Kd.C k35 w A0 l0.length l0) (hc0 : l0.length ≤ c0) (hr1 : Kd.C k35 w A1 l1.length l1) (hc1 : l1.length ≤ c1) (h : folkmootref03_set.f k l0 l1 a2 = some r) :
    Calls Try.prog 39 #[.slice A0 l0.length c0, .slice A1 l1.length c1, .int .i64 a2] w fun e w' => ∃ v0_ : Value, e = .returned (v0_) ∧ Kd.R k35 35 w' w.heap.size (fun _ => True) v0_ r ∧ Below w.heap.size w w' := by
  have hu35 := Try.underlying35
  have HR0 := Aside0.mk hr0
  have HC0 := Aside0.mk hc0
  clear hr0 hc0
  have HR1 := Aside0.mk hr1
  have HC1 := Aside0.mk hc1
  clear hr1 hc1
  have HB := Aside0.mk (Below.refl w.heap.size w)
  have H : ((some (([] : List (S35)) : List (S35))).bind fun y197 => (if y197.length + l0.length < 4398046511104 then ((some (y197 ++ l0 : List (S35))).bind fun y200 => (if y200.length + l1.length < 4398046511104 then ((folkmootref03_marks.f (y200 ++ l1)).bind fun t206 => (folkmootref03_set.l0 k l0 l1 a2 t206 ([] : List (S35)) false 0)) else (none))) else (none))) = some r := h
  clear h
  obtain ⟨y197, hy197⟩ : ∃ y_ : List (S35), y_ = (([] : List (S35))) := ⟨_, rfl⟩
  replace H : (if y197.length + l0.length < 4398046511104 then ((some (y197 ++ l0 : List (S35))).bind fun y200 => (if y200.length + l1.length < 4398046511104 then ((folkmootref03_marks.f (y200 ++ l1)).bind fun t206 => (folkmootref03_set.l0 k l0 l1 a2 t206 ([] : List (S35)) false 0)) else (none))) else (none)) = some r := by first | (rw [hy197]; with_reducible exact H) | (have H2_ := (Option.bind_some _ _).symm.trans H; rw [hy197]; with_reducible exact H2_) | (have H2_ := (Option.bind_some _ _).symm.trans H; with_reducible exact H2_) | with_reducible exact H | (rw [hy197]; exact H) | exact H
  have Ny197 := Aside0.mk hy197
  clear hy197
  by_cases c4 : y197.length + l0.length < 4398046511104
  · rw [if_pos c4] at H
    have LMc4 := Aside0.mk c4
    clear c4
    obtain ⟨y200, hy200⟩ : ∃ y_ : List (S35), y_ = (y197 ++ l0) := ⟨_, rfl⟩
    replace H : (if y200.length + l1.length < 4398046511104 then ((folkmootref03_marks.f (y200 ++ l1)).bind fun t206 => (folkmootref03_set.l0 k l0 l1 a2 t206 ([] : List (S35)) false 0)) else (none)) = some r := by first | (rw [hy200]; with_reducible exact H) | (have H2_ := (Option.bind_some _ _).symm.trans H; rw [hy200]; with_reducible exact H2_) | (have H2_ := (Option.bind_some _ _).symm.trans H; with_reducible exact H2_) | with_reducible exact H | (rw [hy200]; exact H) | exact H
    have Ny200 := Aside0.mk hy200
    clear hy200
    by_cases c5 : y200.length + l1.length < 4398046511104
    · rw [if_pos c5] at H
      have LMc5 := Aside0.mk c5
      clear c5
      obtain ⟨y203, hy203⟩ : ∃ y_ : List (S35), y_ = (y200 ++ l1) := ⟨_, rfl⟩
      replace H : ((folkmootref03_marks.f y203).bind fun t206 => (folkmootref03_set.l0 k l0 l1 a2 t206 ([] : List (S35)) false 0)) = some r := by first | (rw [hy203]; with_reducible exact H) | (have H2_ := (Option.bind_some _ _).symm.trans H; rw [hy203]; with_reducible exact H2_) | (have H2_ := (Option.bind_some _ _).symm.trans H; with_reducible exact H2_) | with_reducible exact H | (rw [hy203]; exact H) | exact H
      have Ny203 := Aside0.mk hy203
      clear hy203
      replace H := Option.bind_eq_some_iff.mp H
      obtain ⟨t206, A60, H⟩ := H
      replace H : (folkmootref03_set.l0 k l0 l1 a2 t206 ([] : List (S35)) false 0) = some r := H
      have A6 := Aside0.mk A60
      clear A60
      have H' := Aside0.mk H
      clear H
      go_enter Try.func39, Try.ntmps39
      go_wp2_with (first | ((with_reducible refine gate_dst (N := 14) rfl ?_); refine Kd.R_lit k35 _ 35 ?hg (N := 14) ?hd (xs := ([] : List (S35))) (inner := []) (ok := fun _ => True) (okp := fun _ => True) ?hr ?hp (fun _ hk => hk) trivial (Below.refl _ _) (Nat.le_refl _) (by simp) ?_; (case hd => rfl); (case hg => rfl); (case hr => first | (go_simp; done) | (go_simp; rfl)); (case hp => exact (Reps.none _ _)); intro v198 w7 ho8 hb hg_ hnew_; clear hg_ hnew_; (first | rw [← Ny197.out] at ho8 | (simp only [Int.reduceToNat] at ho8; rw [← Ny197.out] at ho8)); have HO199 := lR ho8 HB; replace HB := sB HB hb; clear hb ho8) | ((with_reducible refine gate_builtin (b := .append) (xs := #[.tmp 14, .tmp 15]) rfl ?_); at_builtin; refine Kd.R_append_rows k35 (w0 := w) w.heap.size rfl (.tmp 14) (.tmp 15) 30 35 (.agg #[(.string ⟨#[]⟩), (.string ⟨#[]⟩)]) 32 rfl Try.underlying30 info35 rfl (by decide) (by omega) v198 y197 l0 _ _ _ (fun _ => True) (fun _ => False) rfl rfl ?aO ?aR (fun _ _ h => h) (fun _ h => h.elim) ?aF ?aB ?aS ?aL ?_; (case aR => exact uC (Kd.C_below HR0.out HB.out)); (case aB => exact (uB HB)); (case aF => exact (fun _ _ => trivial)); (case aO => exact (uR HO199)); (case aS => exact (below_size (uB HB))); (case aL => have := LMc4.out; omega); intro v201 w9 ho hb hg hat; rw [← Ny200.out] at ho; have n0_ := Aside0.mk (hb); have n1_ := Aside0.mk (ho); clear HB; clear HO199; have HB := n0_; have HO202 := n1_; clear n0_ n1_; clear ho hb hg hat) | ((with_reducible refine gate_builtin (b := .append) (xs := #[.tmp 16, .tmp 17]) rfl ?_); at_builtin; refine Kd.R_append_rows k35 (w0 := w) w.heap.size rfl (.tmp 16) (.tmp 17) 30 35 (.agg #[(.string ⟨#[]⟩), (.string ⟨#[]⟩)]) 32 rfl Try.underlying30 info35 rfl (by decide) (by omega) v201 y200 l1 _ _ _ (fun _ => True) (fun _ => False) rfl rfl ?aO ?aR (fun _ _ h => h) (fun _ h => h.elim) ?aF ?aB ?aS ?aL ?_; (case aR => exact uC (Kd.C_below HR1.out HB.out)); (case aB => exact (uB HB)); (case aF => exact (fun _ _ => trivial)); (case aO => exact (uR HO202)); (case aS => exact (below_size (uB HB))); (case aL => have := LMc5.out; omega); intro v204 w10 ho hb hg hat; rw [← Ny203.out] at ho; have n0_ := Aside0.mk (hb); have n1_ := Aside0.mk (ho); clear HB; clear HO202; have HB := n0_; have HO205 := n1_; clear n0_ n1_; clear ho hb hg hat; obtain ⟨Ao11, co11, eo11⟩ := Kd.R_slice HO205.out; subst eo11) | ((with_reducible refine gate_callee (f := 55) rfl ?_); refine goesL_ (some 19) rfl rfl Try.func55 (by kernel_rfl) rfl #[.slice Ao11 y203.length co11] rfl (by (try simp only [List.map_toArray, List.map_cons, List.map_nil]); first | done | rfl | (simp only [List.length_drop, List.length_take]; rfl)) ?_; (with_reducible refine (folkmootref03_marks.calls _ _ y203 t206 _ ?side1 ?side2 A6.out).mono ?_); (case side1 => exact uC (Kd.R_reads' HO205.out).2.2); (case side2 => exact (Kd.R_reads' HO205.out).2.1); rintro e w12 ⟨v207, rfl, ho0, hb⟩; refine ⟨_, rfl, ?_⟩; replace HO205 := bR HO205 hb; have HO208 := lR ho0 HB; replace HB := sB HB hb; (try clear hb); (try clear hb2); (try clear hk); (try clear hi); (try clear ho0)))
      go_loopg [8, 9, 10] k (fun kq v8 v9 v10 w' => ∃ (x8_1 : List (S35)) (x9_1 : Bool) (x10_1 : Int), v9 = .bool x9_1 ∧ v10 = .int .i64 x10_1 ∧ Aside0 (folkmootref03_set.l0 kq l0 l1 a2 t206 x8_1 x9_1 x10_1 = some r) ∧ Aside0 (kq ≤ k) ∧ Aside0 (Kd.R Kd.string 9 w' w.heap.size (fun _ => True) v207 t206) ∧ Aside0 (Kd.R k35 35 w' w.heap.size (fun _ => True) v8 x8_1) ∧ Aside0 (Below w.heap.size w w'))
      case atStart => exact ⟨(([] : List (S35))), (false), (0), (by first | rfl | (simp; done) | (simp [*]; done)), (by first | rfl | (simp; done) | (simp [*]; done)), H', ⟨Nat.le_refl _⟩, ⟨by (with_reducible repeat (first | apply Kd.R_alloc | apply Kd.R_drewN | apply Kd.R_drew)); exact HO208.out⟩, ⟨by first | exact Kd.R_nil _ _ _ _ _ | exact Kd.N_nil _ _ _ _ _ | exact Kd.V_nil _ _ _ _ _ | exact Kd.Q_nil _ _ _ _ _ | exact Kd.S_nil _ _ _ _ _⟩, ⟨by repeat (first | (with_reducible first | exact HB.out | apply below_alloc | apply pw_below_drewN | apply below_drew1) | exact HB.out)⟩⟩
      case round =>
        clear H'
        try clear c1
        try clear p2
        try clear c3
        try clear c4
        try clear c5
        obtain ⟨x8_1, x9_1, x10_1, rfl, rfl, HA, HK1, HO_7, HO_8, HB⟩ := hrel
        cases gk with
        | zero => exact absurd HA.out (by simp [folkmootref03_set.l0])
        | succ k1 =>
          have H := HA.out
          clear HA
          simp only [folkmootref03_set.l0] at H
          by_cases c13 : x10_1 < (t206.length : Int)
          · rw [if_pos c13] at H
            have c13b0 : decide (x10_1 < (t206.length : Int)) = true := decide_eq_true c13
            clear c13
            by_cases c14 : 0 ≤ x10_1
            · rw [if_pos c14] at H
              have c14b0 : decide (0 ≤ x10_1) = true := decide_eq_true c14
              clear c14
              replace H := Option.bind_eq_some_iff.mp H
              obtain ⟨t210, A150, H⟩ := H
              replace H : ((folkmootref03_Has.f k1 l1 (rdOf ByteArray.empty t206 x10_1)).bind fun t212 => (if t210 = true then (folkmootref03_set.j1 k1 l0 l1 a2 t206 x8_1 x9_1 x10_1 t210 t212 true) else (folkmootref03_set.j1 k1 l0 l1 a2 t206 x8_1 x9_1 x10_1 t210 t212 t212))) = some r := H
              have A15 := Aside0.mk A150
              clear A150
              replace H := Option.bind_eq_some_iff.mp H
              obtain ⟨t212, A160, H⟩ := H
              replace H : (if t210 = true then (folkmootref03_set.j1 k1 l0 l1 a2 t206 x8_1 x9_1 x10_1 t210 t212 true) else (folkmootref03_set.j1 k1 l0 l1 a2 t206 x8_1 x9_1 x10_1 t210 t212 t212)) = some r := H
              have A16 := Aside0.mk A160
              clear A160
              have HC17 := Aside0.mk H
              clear H
              obtain ⟨Ao18, co18, eo18⟩ := Kd.R_slice HO_7.out
              subst eo18
              try go_wp2
              replace HO_7 := Aside0.mk (Kd.R_drew HO_7.out)
              replace HO_8 := Aside0.mk (Kd.R_drew HO_8.out)
              replace HB := Aside0.mk (below_drew1 HB.out)
              have p209 : 0 ≤ (x10_1 : Int) := of_decide_eq_true (by first | (with_reducible assumption) | assumption)
              have q209 : x10_1 < (t206.length : Int) := of_decide_eq_true (by first | (with_reducible assumption) | assumption)
              obtain ⟨ad209, e209, hx209_0⟩ := Kd.at_string (Kd.R_reads' HO_7.out).2.2 x10_1 p209 q209
              cases e209
              replace p209 := eq_true p209
              replace q209 := eq_true q209
              have p211 : 0 ≤ (x10_1 : Int) := of_decide_eq_true (by first | (with_reducible assumption) | assumption)
              have q211 : x10_1 < (t206.length : Int) := of_decide_eq_true (by first | (with_reducible assumption) | assumption)
              obtain ⟨ad211, e211, hx211_0⟩ := Kd.at_string (Kd.R_reads' HO_7.out).2.2 x10_1 p211 q211
              obtain rfl : ad209 = ad211 := (by injection e211)
              replace p211 := eq_true p211
              replace q211 := eq_true q211
              refine start_ (n := 14) (S := fun w' => w'.cell? (ad209.add (x10_1).toNat) = some (.string (rdOf ByteArray.empty t206 x10_1)) ∧ w'.cell? (ad209.add (x10_1).toNat) = some (.string (rdOf ByteArray.empty t206 x10_1))) (ds := []) #[false, false, false, false, false, false, false, false, false, false, false, false, false, false] (by kernel_rfl) rfl rfl ⟨hx209_0, hx211_0⟩ (fun hHeld => ?_); refine with_tabW folkmootref03_set.tab7 folkmootref03_set.bits7 (fun HT_ HW_ => ?_)
              generalize wr.drew = w19 at HO_7 HO_8 HB hx209_0 hx211_0 hHeld ⊢
              refine pure_ (i := 0) (N := some 26) (v := ?_) (a' := ?_) #[true, false, false, false, false, false, false, false, false, false, false, false, false, false] rfl rfl (any_of HT_.out (by kernel_rfl)) (fun _ _ _ h => h) (Or.inl ⟨by rfl, ?_⟩) ?_ ?_
              rotate_left
              · intro w'
                go_simp
                with_reducible rfl
              rotate_left
              · simp only [Act.put, List.setIfInBounds_toArray, List.set_cons_zero, List.set_cons_succ, i64_w, i32_w]
                rfl
              refine pure_ (i := 1) (N := some 27) (v := ?_) (a' := ?_) #[true, true, false, false, false, false, false, false, false, false, false, false, false, false] rfl rfl (any_of HT_.out (by kernel_rfl)) (fun _ _ _ h => h) (Or.inl ⟨by rfl, ?_⟩) ?_ ?_
              rotate_left
              · intro w'
                go_simp
                with_reducible rfl
              rotate_left
              · simp only [Act.put, List.setIfInBounds_toArray, List.set_cons_zero, List.set_cons_succ, i64_w, i32_w]
                rfl
              refine pure_ (i := 2) (N := some 28) (v := ?_) (a' := ?_) #[true, true, true, false, false, false, false, false, false, false, false, false, false, false] rfl rfl (any_of HT_.out (by kernel_rfl)) (fun _ _ _ h => h) (Or.inl ⟨by rfl, ?_⟩) ?_ ?_
              rotate_left
              · intro w'
                go_simp
                with_reducible rfl
              rotate_left
              · simp only [Act.put, List.setIfInBounds_toArray, List.set_cons_zero, List.set_cons_succ, i64_w, i32_w]
                rfl
              refine pure_ (i := 3) (N := some 29) (v := ?_) (a' := ?_) #[true, true, true, true, false, false, false, false, false, false, false, false, false, false] rfl rfl (any_of HT_.out (by kernel_rfl)) (fun _ _ _ h => h) (Or.inl ⟨by rfl, ?_⟩) ?_ ?_
              rotate_left
              · intro w'
                go_simp
                with_reducible rfl
              rotate_left
              · simp only [Act.put, List.setIfInBounds_toArray, List.set_cons_zero, List.set_cons_succ, i64_w, i32_w]
                rfl
              refine pure_ (i := 6) (N := some 32) (v := ?_) (a' := ?_) #[true, true, true, true, false, false, true, false, false, false, false, false, false, false] rfl rfl (any_of HT_.out (by kernel_rfl)) (fun _ _ _ h => h) (Or.inl ⟨by rfl, ?_⟩) ?_ ?_
              rotate_left
              · intro w'
                go_simp
                with_reducible rfl
              rotate_left
              · simp only [Act.put, List.setIfInBounds_toArray, List.set_cons_zero, List.set_cons_succ, i64_w, i32_w]
                rfl
              refine pure_ (i := 7) (N := some 33) (v := ?_) (a' := ?_) #[true, true, true, true, false, false, true, true, false, false, false, false, false, false] rfl rfl (any_of HT_.out (by kernel_rfl)) (fun _ _ _ h => h) (Or.inl ⟨by rfl, ?_⟩) ?_ ?_
              rotate_left
              · intro w'
                go_simp
                with_reducible rfl
              rotate_left
              · simp only [Act.put, List.setIfInBounds_toArray, List.set_cons_zero, List.set_cons_succ, i64_w, i32_w]
                rfl
              refine pure_ (i := 8) (N := some 34) (v := ?_) (a' := ?_) #[true, true, true, true, false, false, true, true, true, false, false, false, false, false] rfl rfl (any_of HT_.out (by kernel_rfl)) (fun _ _ _ h => h) (Or.inl ⟨by rfl, ?_⟩) ?_ ?_
              rotate_left
              · intro w'
                go_simp
                with_reducible rfl
              rotate_left
              · simp only [Act.put, List.setIfInBounds_toArray, List.set_cons_zero, List.set_cons_succ, i64_w, i32_w]
                rfl
              refine pure_ (i := 9) (N := some 35) (v := ?_) (a' := ?_) #[true, true, true, true, false, false, true, true, true, true, false, false, false, false] rfl rfl (any_of HT_.out (by kernel_rfl)) (fun _ _ _ h => h) (Or.inl ⟨by rfl, ?_⟩) ?_ ?_
              rotate_left
              · intro w'
                go_simp
                with_reducible rfl
              rotate_left
              · simp only [Act.put, List.setIfInBounds_toArray, List.set_cons_zero, List.set_cons_succ, i64_w, i32_w]
                rfl
              refine take_ (i := 4) (N := some 30) (v := ?_) (a' := ?_) #[true, true, true, true, true, false, true, true, true, true, false, false, false, false] rfl rfl (take_ofW HT_.out HW_.out (by kernel_rfl)) (fun _ _ _ h => h) (Or.inl ⟨by rfl, ?_⟩) hHeld ?_ ?_
              rotate_left
              · rintro w' ⟨s0, s1⟩
                go_simp
                with_reducible rfl
              rotate_left
              · simp only [Act.put, List.setIfInBounds_toArray, List.set_cons_zero, List.set_cons_succ, i64_w, i32_w]
                rfl
              refine take_ (i := 10) (N := some 36) (v := ?_) (a' := ?_) #[true, true, true, true, true, false, true, true, true, true, true, false, false, false] rfl rfl (take_ofW HT_.out HW_.out (by kernel_rfl)) (fun _ _ _ h => h) (Or.inl ⟨by rfl, ?_⟩) hHeld ?_ ?_
              rotate_left
              · rintro w' ⟨s0, s1⟩
                go_simp
                with_reducible rfl
              rotate_left
              · simp only [Act.put, List.setIfInBounds_toArray, List.set_cons_zero, List.set_cons_succ, i64_w, i32_w]
                rfl
              refine one_ (i := 5) (N := some 31) #[true, true, true, true, true, true, true, true, true, true, true, false, false, false] rfl rfl (one_of HT_.out (by kernel_rfl)) (by decide) (fun K hK => ?_)
              refine goes_ Try.func30 (by kernel_rfl) rfl #[.slice A0 l0.length c0, .string (rdOf ByteArray.empty t206 x10_1)] (by rfl) rfl rfl (by (try simp only [List.map_toArray, List.map_cons, List.map_nil]); first | done | rfl | (simp only [List.length_drop, List.length_take]; rfl)) ?_
              with_reducible refine (folkmootref03_Has.calls k1 _ _ l0 (rdOf ByteArray.empty t206 x10_1) t210 _ ?side1 ?side2 A15.out).mono ?_
              (case side1 => exact uC (Kd.C_below HR0.out HB.out))
              (case side2 => exact HC0.out)
              rintro e w20 ⟨rfl, hb⟩
              have HS0_ := (hb.cell (World.block_lt_of_cell? _ _ (hHeld.1))).trans (hHeld.1)
              have HS1_ := (hb.cell (World.block_lt_of_cell? _ _ (hHeld.2))).trans (hHeld.2)
              refine ⟨_, rfl, ?_⟩
              replace HO_7 := bR HO_7 hb
              replace HO_8 := bR HO_8 hb
              replace HB := sB HB hb
              (try clear hb)
              (try clear hb2)
              (try clear hk)
              (try clear hi)
              refine hK.out _ _ ⟨HS0_, HS1_⟩ (fun hHeld => ?_)
              clear hK K
              refine norm_ (a' := ?_) ?_ ?_
              rotate_left
              · show Act.put _ (some 31) _ = _
                simp only [Act.put, List.setIfInBounds_toArray, List.set_cons_zero, List.set_cons_succ, i64_w, i32_w]
                rfl
              refine one_ (i := 11) (N := some 37) #[true, true, true, true, true, true, true, true, true, true, true, true, false, false] rfl rfl (one_of HT_.out (by kernel_rfl)) (by decide) (fun K hK => ?_)
              refine goes_ Try.func30 (by kernel_rfl) rfl #[.slice A1 l1.length c1, .string (rdOf ByteArray.empty t206 x10_1)] (by rfl) rfl rfl (by (try simp only [List.map_toArray, List.map_cons, List.map_nil]); first | done | rfl | (simp only [List.length_drop, List.length_take]; rfl)) ?_
              with_reducible refine (folkmootref03_Has.calls k1 _ _ l1 (rdOf ByteArray.empty t206 x10_1) t212 _ ?side1 ?side2 A16.out).mono ?_
              (case side1 => exact uC (Kd.C_below HR1.out HB.out))
              (case side2 => exact HC1.out)
              rintro e w21 ⟨rfl, hb⟩
              have HS0_ := (hb.cell (World.block_lt_of_cell? _ _ (hHeld.1))).trans (hHeld.1)
              have HS1_ := (hb.cell (World.block_lt_of_cell? _ _ (hHeld.2))).trans (hHeld.2)
              refine ⟨_, rfl, ?_⟩
              replace HO_7 := bR HO_7 hb
              replace HO_8 := bR HO_8 hb
              replace HB := sB HB hb
              (try clear hb)
              (try clear hb2)
              (try clear hk)
              (try clear hi)
              refine hK.out _ _ ⟨HS0_, HS1_⟩ (fun hHeld => ?_)
              clear hK K
              refine norm_ (a' := ?_) ?_ ?_
              rotate_left
              · show Act.put _ (some 37) _ = _
                simp only [Act.put, List.setIfInBounds_toArray, List.set_cons_zero, List.set_cons_succ, i64_w, i32_w]
                rfl
              refine pure_ (i := 12) (N := some 11) (v := ?_) (a' := ?_) #[true, true, true, true, true, true, true, true, true, true, true, true, true, false] rfl rfl (any_of HT_.out (by kernel_rfl)) (fun _ _ _ h => h) (Or.inl ⟨by rfl, ?_⟩) ?_ ?_
              rotate_left
              · intro w'
                go_simp
                with_reducible rfl
              rotate_left
              · simp only [Act.put, List.setIfInBounds_toArray, List.set_cons_zero, List.set_cons_succ, i64_w, i32_w]
                rfl
              refine pure_ (i := 13) (N := some 12) (v := ?_) (a' := ?_) #[true, true, true, true, true, true, true, true, true, true, true, true, true, true] rfl rfl (any_of HT_.out (by kernel_rfl)) (fun _ _ _ h => h) (Or.inl ⟨by rfl, ?_⟩) ?_ ?_
              rotate_left
              · intro w'
                go_simp
                with_reducible rfl
              rotate_left
              · simp only [Act.put, List.setIfInBounds_toArray, List.set_cons_zero, List.set_cons_succ, i64_w, i32_w]
                rfl
              refine done_ (done_of HT_.out (by kernel_rfl)) ?_
              go_upto_region 8 with (fail)
              go_cut [13] (fun v13 wc => ∃ (kq : Nat) (x13_16 : Bool), v13 = .bool x13_16 ∧ Aside0 (folkmootref03_set.j1 kq l0 l1 a2 t206 x8_1 x9_1 x10_1 t210 t212 x13_16 = some r) ∧ Aside0 (kq ≤ k1) ∧ Aside0 (Kd.R Kd.string 9 wc w.heap.size (fun _ => True) (.slice (some ad209) t206.length co18) t206) ∧ Aside0 (Kd.R k35 35 wc w.heap.size (fun _ => True) u8 x8_1) ∧ Aside0 (Below w.heap.size w wc))
              case first =>
                have H := HC17.out
                clear HC17
                by_cases c22 : t210 = true
                · subst c22
                  have H1 : (folkmootref03_set.j1 k1 l0 l1 a2 t206 x8_1 x9_1 x10_1 true t212 true) = some r := by rw [if_pos rfl] at H; exact H
                  clear H
                  have H := H1
                  clear H1
                  have H' := Aside0.mk H
                  clear H
                  go_wp2
                  go_meet
                  case rel => exact ⟨_, (true), (by first | rfl | (simp; done) | (simp [*]; done)), H', ⟨by have := HK1.out; first | omega | exact Nat.le_refl _⟩, ⟨by (with_reducible repeat (first | apply Kd.R_alloc | apply Kd.R_drewN | apply Kd.R_drew)); exact HO_7.out⟩, ⟨by (with_reducible repeat (first | apply Kd.R_alloc | apply Kd.R_drewN | apply Kd.R_drew)); exact HO_8.out⟩, ⟨by repeat (first | (with_reducible first | exact HB.out | apply below_alloc | apply pw_below_drewN | apply below_drew1) | exact HB.out)⟩⟩
                · replace c22 := Bool.eq_false_iff.mpr c22
                  subst c22
                  have H1 : (folkmootref03_set.j1 k1 l0 l1 a2 t206 x8_1 x9_1 x10_1 false t212 t212) = some r := by rw [if_neg (show ¬ (false = true) by decide)] at H; exact H
                  clear H
                  have H := H1
                  clear H1
                  have H' := Aside0.mk H
                  clear H
                  go_wp2
                  go_meet
                  case rel => exact ⟨_, (t212), (by first | rfl | (simp; done) | (simp [*]; done)), H', ⟨by have := HK1.out; first | omega | exact Nat.le_refl _⟩, ⟨by (with_reducible repeat (first | apply Kd.R_alloc | apply Kd.R_drewN | apply Kd.R_drew)); exact HO_7.out⟩, ⟨by (with_reducible repeat (first | apply Kd.R_alloc | apply Kd.R_drewN | apply Kd.R_drew)); exact HO_8.out⟩, ⟨by repeat (first | (with_reducible first | exact HB.out | apply below_alloc | apply pw_below_drewN | apply below_drew1) | exact HB.out)⟩⟩
              case rest =>
                clear HC17
                try clear c1
                try clear c2
                try clear p2
                try clear q2
                try clear hx2
                try clear c3
                try clear c4
                try clear c5
                try clear c13
                try clear c13b0
                try clear c14
                try clear c14b0
                try clear p20
                try clear q20
                try clear hx20
                try clear p21
                try clear q21
                try clear hx21
                try clear c22
                try clear hx209_0
                try clear hx211_0
                try clear p2
                try clear p209
                try clear p211
                try clear q209
                try clear q211
                obtain ⟨kq, x13_16, rfl, HA, HJ16, HO_7, HO_8, HB⟩ := hcut
                cases kq with
                | zero => exact absurd HA.out (by simp [folkmootref03_set.j1])
                | succ kj16 =>
                  have H := HA.out
                  clear HA
                  simp only [folkmootref03_set.j1] at H
                  have HC23 := Aside0.mk H
                  clear H
                  go_upto_if 43 with (fail)
                  go_cut [13] (fun v13 wc => ∃ (kq : Nat) (x13_22 : Bool), v13 = .bool x13_22 ∧ Aside0 (folkmootref03_set.j2 kq l0 l1 a2 t206 x8_1 x9_1 x10_1 t210 t212 x13_22 = some r) ∧ Aside0 (kq ≤ kj16) ∧ Aside0 (Kd.R Kd.string 9 wc w.heap.size (fun _ => True) (.slice (some ad209) t206.length co18) t206) ∧ Aside0 (Kd.R k35 35 wc w.heap.size (fun _ => True) u8 x8_1) ∧ Aside0 (Below w.heap.size w wc))
                  case first =>
                    have H := HC23.out
                    clear HC23
                    by_cases c24 : a2 = 1
                    · rw [if_pos c24] at H
                      have c24b0 : (a2 == 1) = true := beq_iff_eq.mpr c24
                      have c24b1 : (a2 != 1) = false := bne_eq_false_iff_eq.mpr c24
                      clear c24
                      (first | rw [c24b0] | (simp only [i64_w, i32_w]; rw [c24b0]) | skip)
                      by_cases c25 : t210 = true
                      · subst c25
                        have H1 : (folkmootref03_set.j2 kj16 l0 l1 a2 t206 x8_1 x9_1 x10_1 true t212 t212) = some r := by rw [if_pos rfl] at H; exact H
                        clear H
                        have H := H1
                        clear H1
                        have H' := Aside0.mk H
                        clear H
                        go_wp2
                        go_meet
                        case rel => exact ⟨_, (t212), (by first | rfl | (simp; done) | (simp [*]; done)), H', ⟨by have := HK1.out; have := HJ16.out; first | omega | exact Nat.le_refl _⟩, ⟨by (with_reducible repeat (first | apply Kd.R_alloc | apply Kd.R_drewN | apply Kd.R_drew)); exact HO_7.out⟩, ⟨by (with_reducible repeat (first | apply Kd.R_alloc | apply Kd.R_drewN | apply Kd.R_drew)); exact HO_8.out⟩, ⟨by repeat (first | (with_reducible first | exact HB.out | apply below_alloc | apply pw_below_drewN | apply below_drew1) | exact HB.out)⟩⟩
                      · replace c25 := Bool.eq_false_iff.mpr c25
                        subst c25
                        have H1 : (folkmootref03_set.j2 kj16 l0 l1 a2 t206 x8_1 x9_1 x10_1 false t212 false) = some r := by rw [if_neg (show ¬ (false = true) by decide)] at H; exact H
                        clear H
                        have H := H1
                        clear H1
                        have H' := Aside0.mk H
                        clear H
                        go_wp2
                        go_meet
                        case rel => exact ⟨_, (false), (by first | rfl | (simp; done) | (simp [*]; done)), H', ⟨by have := HK1.out; have := HJ16.out; first | omega | exact Nat.le_refl _⟩, ⟨by (with_reducible repeat (first | apply Kd.R_alloc | apply Kd.R_drewN | apply Kd.R_drew)); exact HO_7.out⟩, ⟨by (with_reducible repeat (first | apply Kd.R_alloc | apply Kd.R_drewN | apply Kd.R_drew)); exact HO_8.out⟩, ⟨by repeat (first | (with_reducible first | exact HB.out | apply below_alloc | apply pw_below_drewN | apply below_drew1) | exact HB.out)⟩⟩
                    · rw [if_neg c24] at H
                      have c24b0 : (a2 == 1) = false := beq_eq_false_iff_ne.mpr c24
                      have c24b1 : (a2 != 1) = true := bne_iff_ne.mpr c24
                      (first | rw [c24b0] | (simp only [i64_w, i32_w]; rw [c24b0]) | skip)
                      have H' := Aside0.mk H
                      clear H
                      go_wp2
                      go_meet
                      case rel => exact ⟨_, (x13_16), (by first | rfl | (simp; done) | (simp [*]; done)), H', ⟨by have := HK1.out; have := HJ16.out; first | omega | exact Nat.le_refl _⟩, ⟨by (with_reducible repeat (first | apply Kd.R_alloc | apply Kd.R_drewN | apply Kd.R_drew)); exact HO_7.out⟩, ⟨by (with_reducible repeat (first | apply Kd.R_alloc | apply Kd.R_drewN | apply Kd.R_drew)); exact HO_8.out⟩, ⟨by repeat (first | (with_reducible first | exact HB.out | apply below_alloc | apply pw_below_drewN | apply below_drew1) | exact HB.out)⟩⟩
                  case rest =>
                    clear HC23
                    try clear c1
                    try clear c2
                    try clear p2
                    try clear q2
                    try clear hx2
                    try clear c3
                    try clear c4
                    try clear c5
                    try clear c13
                    try clear c13b0
                    try clear c14
                    try clear c14b0
                    try clear p20
                    try clear q20
                    try clear hx20
                    try clear p21
                    try clear q21
                    try clear hx21
                    try clear c22
                    try clear c24
                    try clear c24b0
                    try clear c24b1
                    try clear c25
                    try clear hx209_0
                    try clear hx211_0
                    try clear p2
                    try clear p20
                    try clear p209
                    try clear p21
                    try clear p211
                    try clear q2
                    try clear q20
                    try clear q209
                    try clear q21
                    try clear q211
                    obtain ⟨kq, x13_22, rfl, HA, HJ22, HO_7, HO_8, HB⟩ := hcut
                    cases kq with
                    | zero => exact absurd HA.out (by simp [folkmootref03_set.j2])
                    | succ kj22 =>
                      have H := HA.out
                      clear HA
                      simp only [folkmootref03_set.j2] at H
                      have HC26 := Aside0.mk H
                      clear H
                      go_upto_if 49 with (fail)
                      go_cut [13] (fun v13 wc => ∃ (kq : Nat) (x13_25 : Bool), v13 = .bool x13_25 ∧ Aside0 (folkmootref03_set.j3 kq l0 l1 a2 t206 x8_1 x9_1 x10_1 x13_25 = some r) ∧ Aside0 (kq ≤ kj22) ∧ Aside0 (Kd.R Kd.string 9 wc w.heap.size (fun _ => True) (.slice (some ad209) t206.length co18) t206) ∧ Aside0 (Kd.R k35 35 wc w.heap.size (fun _ => True) u8 x8_1) ∧ Aside0 (Below w.heap.size w wc))
                      case first =>
                        have H := HC26.out
                        clear HC26
                        by_cases c27 : a2 = 2
                        · rw [if_pos c27] at H
                          have c27b0 : (a2 == 2) = true := beq_iff_eq.mpr c27
                          have c27b1 : (a2 != 2) = false := bne_eq_false_iff_eq.mpr c27
                          clear c27
                          (first | rw [c27b0] | (simp only [i64_w, i32_w]; rw [c27b0]) | skip)
                          by_cases c28 : t210 = true
                          · subst c28
                            have H1 : (folkmootref03_set.j3 kj22 l0 l1 a2 t206 x8_1 x9_1 x10_1 (!t212)) = some r := by rw [if_pos rfl] at H; exact H
                            clear H
                            have H := H1
                            clear H1
                            have H' := Aside0.mk H
                            clear H
                            go_wp2
                            go_meet
                            case rel => exact ⟨_, (!t212), (by first | rfl | (simp; done) | (simp [*]; done)), H', ⟨by have := HK1.out; have := HJ16.out; have := HJ22.out; first | omega | exact Nat.le_refl _⟩, ⟨by (with_reducible repeat (first | apply Kd.R_alloc | apply Kd.R_drewN | apply Kd.R_drew)); exact HO_7.out⟩, ⟨by (with_reducible repeat (first | apply Kd.R_alloc | apply Kd.R_drewN | apply Kd.R_drew)); exact HO_8.out⟩, ⟨by repeat (first | (with_reducible first | exact HB.out | apply below_alloc | apply pw_below_drewN | apply below_drew1) | exact HB.out)⟩⟩
                          · replace c28 := Bool.eq_false_iff.mpr c28
                            subst c28
                            have H1 : (folkmootref03_set.j3 kj22 l0 l1 a2 t206 x8_1 x9_1 x10_1 false) = some r := by rw [if_neg (show ¬ (false = true) by decide)] at H; exact H
                            clear H
                            have H := H1
                            clear H1
                            have H' := Aside0.mk H
                            clear H
                            go_wp2
                            go_meet
                            case rel => exact ⟨_, (false), (by first | rfl | (simp; done) | (simp [*]; done)), H', ⟨by have := HK1.out; have := HJ16.out; have := HJ22.out; first | omega | exact Nat.le_refl _⟩, ⟨by (with_reducible repeat (first | apply Kd.R_alloc | apply Kd.R_drewN | apply Kd.R_drew)); exact HO_7.out⟩, ⟨by (with_reducible repeat (first | apply Kd.R_alloc | apply Kd.R_drewN | apply Kd.R_drew)); exact HO_8.out⟩, ⟨by repeat (first | (with_reducible first | exact HB.out | apply below_alloc | apply pw_below_drewN | apply below_drew1) | exact HB.out)⟩⟩
                        · rw [if_neg c27] at H
                          have c27b0 : (a2 == 2) = false := beq_eq_false_iff_ne.mpr c27
                          have c27b1 : (a2 != 2) = true := bne_iff_ne.mpr c27
                          (first | rw [c27b0] | (simp only [i64_w, i32_w]; rw [c27b0]) | skip)
                          have H' := Aside0.mk H
                          clear H
                          go_wp2
                          go_meet
                          case rel => exact ⟨_, (x13_22), (by first | rfl | (simp; done) | (simp [*]; done)), H', ⟨by have := HK1.out; have := HJ16.out; have := HJ22.out; first | omega | exact Nat.le_refl _⟩, ⟨by (with_reducible repeat (first | apply Kd.R_alloc | apply Kd.R_drewN | apply Kd.R_drew)); exact HO_7.out⟩, ⟨by (with_reducible repeat (first | apply Kd.R_alloc | apply Kd.R_drewN | apply Kd.R_drew)); exact HO_8.out⟩, ⟨by repeat (first | (with_reducible first | exact HB.out | apply below_alloc | apply pw_below_drewN | apply below_drew1) | exact HB.out)⟩⟩
                      case rest =>
                        clear HC26
                        try clear c1
                        try clear c2
                        try clear p2
                        try clear q2
                        try clear hx2
                        try clear c3
                        try clear c4
                        try clear c5
                        try clear c13
                        try clear c13b0
                        try clear c14
                        try clear c14b0
                        try clear p20
                        try clear q20
                        try clear hx20
                        try clear p21
                        try clear q21
                        try clear hx21
                        try clear c22
                        try clear c24
                        try clear c24b0
                        try clear c24b1
                        try clear c25
                        try clear c27
                        try clear c27b0
                        try clear c27b1
                        try clear c28
                        try clear hx209_0
                        try clear hx211_0
                        try clear p2
                        try clear p20
                        try clear p209
                        try clear p21
                        try clear p211
                        try clear q2
                        try clear q20
                        try clear q209
                        try clear q21
                        try clear q211
                        obtain ⟨kq, x13_25, rfl, HA, HJ25, HO_7, HO_8, HB⟩ := hcut
                        cases kq with
                        | zero => exact absurd HA.out (by simp [folkmootref03_set.j3])
                        | succ kj25 =>
                          have H := HA.out
                          clear HA
                          simp only [folkmootref03_set.j3] at H
                          have HC29 := Aside0.mk H
                          clear H
                          go_upto_region 13 with (fail)
                          go_cut [59] (fun v59 wc => ∃ (kq : Nat) (x59_28 : Bool), v59 = .bool x59_28 ∧ Aside0 (folkmootref03_set.j4 kq l0 l1 a2 t206 x8_1 x9_1 x10_1 x13_25 x59_28 = some r) ∧ Aside0 (kq ≤ kj25) ∧ Aside0 (Kd.R Kd.string 9 wc w.heap.size (fun _ => True) (.slice (some ad209) t206.length co18) t206) ∧ Aside0 (Kd.R k35 35 wc w.heap.size (fun _ => True) u8 x8_1) ∧ Aside0 (Below w.heap.size w wc))
                          case first =>
                            have H := HC29.out
                            clear HC29
                            by_cases c30 : x13_25 = true
                            · subst c30
                              have H1 : (folkmootref03_set.j4 kj25 l0 l1 a2 t206 x8_1 x9_1 x10_1 true (!x9_1)) = some r := by rw [if_pos rfl] at H; exact H
                              clear H
                              have H := H1
                              clear H1
                              have H' := Aside0.mk H
                              clear H
                              go_wp2
                              go_meet
                              case rel => exact ⟨_, (!x9_1), (by first | rfl | (simp; done) | (simp [*]; done)), H', ⟨by have := HK1.out; have := HJ16.out; have := HJ22.out; have := HJ25.out; first | omega | exact Nat.le_refl _⟩, ⟨by (with_reducible repeat (first | apply Kd.R_alloc | apply Kd.R_drewN | apply Kd.R_drew)); exact HO_7.out⟩, ⟨by (with_reducible repeat (first | apply Kd.R_alloc | apply Kd.R_drewN | apply Kd.R_drew)); exact HO_8.out⟩, ⟨by repeat (first | (with_reducible first | exact HB.out | apply below_alloc | apply pw_below_drewN | apply below_drew1) | exact HB.out)⟩⟩
                            · replace c30 := Bool.eq_false_iff.mpr c30
                              subst c30
                              have H1 : (folkmootref03_set.j4 kj25 l0 l1 a2 t206 x8_1 x9_1 x10_1 false false) = some r := by rw [if_neg (show ¬ (false = true) by decide)] at H; exact H
                              clear H
                              have H := H1
                              clear H1
                              have H' := Aside0.mk H
                              clear H
                              go_wp2
                              go_meet
                              case rel => exact ⟨_, (false), (by first | rfl | (simp; done) | (simp [*]; done)), H', ⟨by have := HK1.out; have := HJ16.out; have := HJ22.out; have := HJ25.out; first | omega | exact Nat.le_refl _⟩, ⟨by (with_reducible repeat (first | apply Kd.R_alloc | apply Kd.R_drewN | apply Kd.R_drew)); exact HO_7.out⟩, ⟨by (with_reducible repeat (first | apply Kd.R_alloc | apply Kd.R_drewN | apply Kd.R_drew)); exact HO_8.out⟩, ⟨by repeat (first | (with_reducible first | exact HB.out | apply below_alloc | apply pw_below_drewN | apply below_drew1) | exact HB.out)⟩⟩
                          case rest =>
                            clear HC29
                            try clear c1
                            try clear c2
                            try clear p2
                            try clear q2
                            try clear hx2
                            try clear c3
                            try clear c4
                            try clear c5
                            try clear c13
                            try clear c13b0
                            try clear c14
                            try clear c14b0
                            try clear p20
                            try clear q20
                            try clear hx20
                            try clear p21
                            try clear q21
                            try clear hx21
                            try clear c22
                            try clear c24
                            try clear c24b0
                            try clear c24b1
                            try clear c25
                            try clear c27
                            try clear c27b0
                            try clear c27b1
                            try clear c28
                            try clear c30
                            try clear hx209_0
                            try clear hx211_0
                            try clear p2
                            try clear p20
                            try clear p209
                            try clear p21
                            try clear p211
                            try clear q2
                            try clear q20
                            try clear q209
                            try clear q21
                            try clear q211
                            obtain ⟨kq, x59_28, rfl, HA, HJ28, HO_7, HO_8, HB⟩ := hcut
                            cases kq with
                            | zero => exact absurd HA.out (by simp [folkmootref03_set.j4])
                            | succ kj28 =>
                              have H := HA.out
                              clear HA
                              simp only [folkmootref03_set.j4] at H
                              by_cases c31 : x59_28 = true
                              · subst c31
                                have H1 : (if 0 ≤ x10_1 then (if x10_1 < (t206.length : Int) then (if x8_1.length < 4398046511104 then ((some (x8_1 ++ [(⟨rdOf ByteArray.empty t206 x10_1, (⟨#[]⟩ : ByteArray)⟩ : S35)] : List (S35))).bind fun y214 => (if x13_25 = true then (folkmootref03_set.l0 kj28 l0 l1 a2 t206 y214 x13_25 (wrap64 (x10_1 + 1))) else (if x9_1 = true then (if 0 ≤ (wrap64 ((y214.length : Int) - 1)) then (if (wrap64 ((y214.length : Int) - 1)) < (y214.length : Int) then (folkmootref03_set.l0 kj28 l0 l1 a2 t206 (y214.set ((wrap64 ((y214.length : Int) - 1)) : Int).toNat (⟨(rd_T35 y214 (wrap64 ((y214.length : Int) - 1))).f0, rdOf ByteArray.empty t206 x10_1⟩ : S35)) x13_25 (wrap64 (x10_1 + 1))) else (none)) else (none)) else (folkmootref03_set.l0 kj28 l0 l1 a2 t206 y214 x13_25 (wrap64 (x10_1 + 1)))))) else (none)) else (none)) else (none)) = some r := by rw [if_pos rfl] at H; exact H
                                clear H
                                have H := H1
                                clear H1
                                by_cases c32 : 0 ≤ x10_1
                                · rw [if_pos c32] at H
                                  have c32b0 : decide (0 ≤ x10_1) = true := decide_eq_true c32
                                  clear c32
                                  by_cases c33 : x10_1 < (t206.length : Int)
                                  · rw [if_pos c33] at H
                                    have c33b0 : decide (x10_1 < (t206.length : Int)) = true := decide_eq_true c33
                                    clear c33
                                    by_cases c34 : x8_1.length < 4398046511104
                                    · rw [if_pos c34] at H
                                      have LMc34 := Aside0.mk c34
                                      clear c34
                                      obtain ⟨y214, hy214⟩ : ∃ y_ : List (S35), y_ = (x8_1 ++ [(⟨rdOf ByteArray.empty t206 x10_1, (⟨#[]⟩ : ByteArray)⟩ : S35)]) := ⟨_, rfl⟩
                                      replace H : (if x13_25 = true then (folkmootref03_set.l0 kj28 l0 l1 a2 t206 y214 x13_25 (wrap64 (x10_1 + 1))) else (if x9_1 = true then (if 0 ≤ (wrap64 ((y214.length : Int) - 1)) then (if (wrap64 ((y214.length : Int) - 1)) < (y214.length : Int) then (folkmootref03_set.l0 kj28 l0 l1 a2 t206 (y214.set ((wrap64 ((y214.length : Int) - 1)) : Int).toNat (⟨(rd_T35 y214 (wrap64 ((y214.length : Int) - 1))).f0, rdOf ByteArray.empty t206 x10_1⟩ : S35)) x13_25 (wrap64 (x10_1 + 1))) else (none)) else (none)) else (folkmootref03_set.l0 kj28 l0 l1 a2 t206 y214 x13_25 (wrap64 (x10_1 + 1))))) = some r := by first | (rw [hy214]; with_reducible exact H) | (have H2_ := (Option.bind_some _ _).symm.trans H; rw [hy214]; with_reducible exact H2_) | (have H2_ := (Option.bind_some _ _).symm.trans H; with_reducible exact H2_) | with_reducible exact H | (rw [hy214]; exact H) | exact H
                                      have Ny214 := Aside0.mk hy214
                                      clear hy214
                                      by_cases c35 : x13_25 = true
                                      · subst c35
                                        have H1 : (folkmootref03_set.l0 kj28 l0 l1 a2 t206 y214 true (wrap64 (x10_1 + 1))) = some r := by rw [if_pos rfl] at H; exact H
                                        clear H
                                        have H := H1
                                        clear H1
                                        have H' := Aside0.mk H
                                        clear H
                                        have p213 : 0 ≤ (x10_1 : Int) := of_decide_eq_true (by first | (with_reducible assumption) | assumption)
                                        have q213 : x10_1 < (t206.length : Int) := of_decide_eq_true (by first | (with_reducible assumption) | assumption)
                                        obtain ⟨ad213, e213, hx213_0⟩ := Kd.at_string (Kd.R_reads' HO_7.out).2.2 x10_1 p213 q213
                                        obtain rfl : ad209 = ad213 := (by injection e213)
                                        replace p213 := eq_true p213
                                        replace q213 := eq_true q213
                                        go_wp2_with (first | ((with_reducible refine gate_builtin (b := .append) (xs := #[.tmp 60, .tmp 66]) rfl ?_); at_builtin; refine Kd.R_append k35 (w0 := w) w.heap.size rfl (.tmp 60) (.tmp 66) 30 35 (.agg #[(.string ⟨#[]⟩), (.string ⟨#[]⟩)]) 32 rfl Try.underlying30 info35 rfl (by decide) (by omega) u8 x8_1 (⟨rdOf ByteArray.empty t206 x10_1, (⟨#[]⟩ : ByteArray)⟩ : S35) [.string (rdOf ByteArray.empty t206 x10_1), .string (⟨#[]⟩ : ByteArray)] (fun _ => True) (fun _ => False) rfl rfl ?aP (fun _ hk => hk.elim) ?aF ?aO ?aB ?aS ?aL ?_; (case aP => exact k35_mkM _ _ _ (⟨rdOf ByteArray.empty t206 x10_1, (⟨#[]⟩ : ByteArray)⟩ : S35)); (case aB => exact (uB HB)); (case aF => exact (fun _ _ => trivial)); (case aO => exact (uR HO_8)); (case aS => exact (below_size (uB HB))); (case aL => have := LMc34.out; omega); intro v215 w36 ho hb hg hat; rw [← Ny214.out] at ho; have n0_ := Aside0.mk (Kd.R_over' (uR HO_7) (Kd.R_typed (uR HO_8)) (by decide) hg); have n1_ := Aside0.mk (hb); have n2_ := Aside0.mk (ho); clear HO_7; clear HB; clear HO_8; have HO_7 := n0_; have HB := n1_; have HO216 := n2_; clear n0_ n1_ n2_; clear ho hb hg hat))
                                        go_roundg kj28
                                        case measure => have := HK1.out; have := HJ16.out; have := HJ22.out; have := HJ25.out; have := HJ28.out; omega
                                        case rel => exact ⟨(y214), (true), (wrap64 (x10_1 + 1)), (by first | rfl | (simp; done) | (simp [*]; done)), (by first | rfl | (simp; done) | (simp [*]; done)), H', ⟨by have := HK1.out; have := HJ16.out; have := HJ22.out; have := HJ25.out; have := HJ28.out; omega⟩, ⟨by (with_reducible repeat (first | apply Kd.R_alloc | apply Kd.R_drewN | apply Kd.R_drew)); exact HO_7.out⟩, ⟨by (with_reducible repeat (first | apply Kd.R_alloc | apply Kd.R_drewN | apply Kd.R_drew)); exact HO216.out⟩, ⟨by repeat (first | (with_reducible first | exact HB.out | apply below_alloc | apply pw_below_drewN | apply below_drew1) | exact HB.out)⟩⟩
                                      · replace c35 := Bool.eq_false_iff.mpr c35
                                        subst c35
                                        have H1 : (if x9_1 = true then (if 0 ≤ (wrap64 ((y214.length : Int) - 1)) then (if (wrap64 ((y214.length : Int) - 1)) < (y214.length : Int) then (folkmootref03_set.l0 kj28 l0 l1 a2 t206 (y214.set ((wrap64 ((y214.length : Int) - 1)) : Int).toNat (⟨(rd_T35 y214 (wrap64 ((y214.length : Int) - 1))).f0, rdOf ByteArray.empty t206 x10_1⟩ : S35)) false (wrap64 (x10_1 + 1))) else (none)) else (none)) else (folkmootref03_set.l0 kj28 l0 l1 a2 t206 y214 false (wrap64 (x10_1 + 1)))) = some r := by rw [if_neg (show ¬ (false = true) by decide)] at H; exact H
                                        clear H
                                        have H := H1
                                        clear H1
                                        by_cases c37 : x9_1 = true
                                        · subst c37
                                          have H1 : (if 0 ≤ (wrap64 ((y214.length : Int) - 1)) then (if (wrap64 ((y214.length : Int) - 1)) < (y214.length : Int) then (folkmootref03_set.l0 kj28 l0 l1 a2 t206 (y214.set ((wrap64 ((y214.length : Int) - 1)) : Int).toNat (⟨(rd_T35 y214 (wrap64 ((y214.length : Int) - 1))).f0, rdOf ByteArray.empty t206 x10_1⟩ : S35)) false (wrap64 (x10_1 + 1))) else (none)) else (none)) = some r := by rw [if_pos rfl] at H; exact H
                                          clear H
                                          have H := H1
                                          clear H1
                                          obtain ⟨ji38, hji38⟩ : ∃ j_ : Int, (wrap64 ((y214.length : Int) - 1)) = j_ := ⟨_, rfl⟩
                                          replace H : (if 0 ≤ (ji38) then (if (ji38) < (y214.length : Int) then (folkmootref03_set.l0 kj28 l0 l1 a2 t206 (y214.set ((ji38) : Int).toNat (⟨(rd_T35 y214 (ji38)).f0, rdOf ByteArray.empty t206 x10_1⟩ : S35)) false (wrap64 (x10_1 + 1))) else (none)) else (none)) = some r := by first | (rw [hji38] at H; exact H) | (simp only [hji38] at H ⊢; exact H)
                                          have hji38w : (IntKind.i64.wrap ((y214.length : Int) - 1)) = ji38 := (i64_w _).trans hji38
                                          by_cases c39 : 0 ≤ (ji38)
                                          · rw [if_pos c39] at H
                                            have c39b0 : decide (0 ≤ (ji38)) = true := decide_eq_true c39
                                            clear c39
                                            by_cases c40 : (ji38) < (y214.length : Int)
                                            · rw [if_pos c40] at H
                                              have c40b0 : decide ((ji38) < (y214.length : Int)) = true := decide_eq_true c40
                                              clear c40
                                              obtain ⟨y218, hy218⟩ : ∃ y_ : List (S35), y_ = (y214.set ((ji38) : Int).toNat (⟨(rd_T35 y214 (ji38)).f0, rdOf ByteArray.empty t206 x10_1⟩ : S35)) := ⟨_, rfl⟩
                                              replace H : (folkmootref03_set.l0 kj28 l0 l1 a2 t206 y218 false (wrap64 (x10_1 + 1))) = some r := by first | (rw [hy218]; with_reducible exact H) | (have H2_ := (Option.bind_some _ _).symm.trans H; rw [hy218]; with_reducible exact H2_) | (have H2_ := (Option.bind_some _ _).symm.trans H; with_reducible exact H2_) | with_reducible exact H | (rw [hy218]; exact H) | exact H
                                              have Ny218 := Aside0.mk hy218
                                              clear hy218
                                              have H' := Aside0.mk H
                                              clear H
                                              have p213 : 0 ≤ (x10_1 : Int) := of_decide_eq_true (by first | (with_reducible assumption) | assumption)
                                              have q213 : x10_1 < (t206.length : Int) := of_decide_eq_true (by first | (with_reducible assumption) | assumption)
                                              obtain ⟨ad213, e213, hx213_0⟩ := Kd.at_string (Kd.R_reads' HO_7.out).2.2 x10_1 p213 q213
                                              obtain rfl : ad209 = ad213 := (by injection e213)
                                              replace p213 := eq_true p213
                                              replace q213 := eq_true q213
                                              go_wp2_with (first | ((with_reducible refine gate_builtin (b := .append) (xs := #[.tmp 60, .tmp 66]) rfl ?_); at_builtin; refine Kd.R_append k35 (w0 := w) w.heap.size rfl (.tmp 60) (.tmp 66) 30 35 (.agg #[(.string ⟨#[]⟩), (.string ⟨#[]⟩)]) 32 rfl Try.underlying30 info35 rfl (by decide) (by omega) u8 x8_1 (⟨rdOf ByteArray.empty t206 x10_1, (⟨#[]⟩ : ByteArray)⟩ : S35) [.string (rdOf ByteArray.empty t206 x10_1), .string (⟨#[]⟩ : ByteArray)] (fun _ => True) (fun _ => False) rfl rfl ?aP (fun _ hk => hk.elim) ?aF ?aO ?aB ?aS ?aL ?_; (case aP => exact k35_mkM _ _ _ (⟨rdOf ByteArray.empty t206 x10_1, (⟨#[]⟩ : ByteArray)⟩ : S35)); (case aB => exact (uB HB)); (case aF => exact (fun _ _ => trivial)); (case aO => exact (uR HO_8)); (case aS => exact (below_size (uB HB))); (case aL => have := LMc34.out; omega); intro v215 w42 ho hb hg hat; rw [← Ny214.out] at ho; have n0_ := Aside0.mk (Kd.R_over' (uR HO_7) (Kd.R_typed (uR HO_8)) (by decide) hg); have n1_ := Aside0.mk (hb); have n2_ := Aside0.mk (ho); clear HO_7; clear HB; clear HO_8; have HO_7 := n0_; have HB := n1_; have HO216 := n2_; clear n0_ n1_ n2_; clear ho hb hg hat; obtain ⟨Ao43, co43, eo43⟩ := Kd.R_slice HO216.out; subst eo43; have p217 : 0 ≤ (x10_1 : Int) := of_decide_eq_true (by first | (with_reducible assumption) | assumption); have q217 : x10_1 < (t206.length : Int) := of_decide_eq_true (by first | (with_reducible assumption) | assumption); obtain ⟨ad217, e217, hx217_0⟩ := Kd.at_string (Kd.R_reads' HO_7.out).2.2 x10_1 p217 q217; obtain rfl : ad209 = ad217 := (by injection e217); replace p217 := eq_true p217; replace q217 := eq_true q217; have p41 : 0 ≤ ((ji38) : Int) := of_decide_eq_true (by first | (with_reducible assumption) | assumption); have q41 : ((ji38) : Int) < ((y214.length : Int) : Int) := of_decide_eq_true (by first | (with_reducible assumption) | assumption); obtain ⟨go41, co41, eo41, gb41, gl41, cl41, HG41⟩ := Kd.R_form HO216.out (by omega); (first | cases eo41 | (injection eo41 with ea_ en_ ec_; (first | subst ea_ | (injection ea_ with ea_; subst ea_)); subst ec_; clear en_)); have GB41 := Aside0.mk gb41; have GG41 := Aside0.mk HG41; clear gb41 gl41 HG41; obtain ⟨ce41, hcl41, hM41, hcc41, hfr41⟩ := Kd.R_elem HO216.out z35 ((ji38) : Int) p41 q41; obtain rfl := k35_openM hM41; have hx41_0 : w42.cell? ⟨go41, ((ji38) : Int).toNat * 2, none⟩ = some (.string ((rd_T35 y214 (ji38)).f0)) := hcc41 0 _ rfl; have hx41_1 : w42.cell? ⟨go41, ((ji38) : Int).toNat * 2 + 1, none⟩ = some (.string ((rd_T35 y214 (ji38)).f1)) := hcc41 1 _ rfl; have hf41_0 : w42.frozen? ⟨go41, ((ji38) : Int).toNat * 2, none⟩ = false := hfr41 0; have hf41_1 : w42.frozen? ⟨go41, ((ji38) : Int).toNat * 2 + 1, none⟩ = false := hfr41 1; clear hcl41 hcc41 hfr41 hM41; replace p41 := eq_true p41; replace q41 := eq_true q41; have HX44 := Aside0.mk (show Kd.R k35 35 w42 w.heap.size (fun _ => True) (.slice (some ⟨go41, 0, none⟩) y214.length co43) y214 from (uR HO216)); obtain ⟨ce44, hcl44, hM44, hcc44, hfr44⟩ := Kd.R_elem HX44.out z35 ((ji38) : Int) (of_decide_eq_true (by first | (with_reducible assumption) | assumption)) (by have h_ : ((ji38) : Int) < ((y214.length : Int) : Int) := of_decide_eq_true (by first | (with_reducible assumption) | assumption); first | exact h_ | (have e_ := (Kd.R_reads' HO216.out).1; omega) | simpa using h_); obtain rfl := k35_openM hM44; have HP44 := Kd.R_seg HX44.out ((ji38) : Int) (of_decide_eq_true (by first | (with_reducible assumption) | assumption)) (by have h_ : ((ji38) : Int) < ((y214.length : Int) : Int) := of_decide_eq_true (by first | (with_reducible assumption) | assumption); first | exact h_ | (have e_ := (Kd.R_reads' HO216.out).1; omega) | simpa using h_) (seg := [.string (rdOf ByteArray.empty t206 x10_1)]) (j := 1) hcl44 hcc44 (show 2 ≤ 2 from by decide) (x' := (⟨(rd_T35 y214 (ji38)).f0, rdOf ByteArray.empty t206 x10_1⟩ : S35)) (k35_mkM _ _ _ (⟨(rd_T35 y214 (ji38)).f0, rdOf ByteArray.empty t206 x10_1⟩ : S35) ) (fun _ hk => hk); have hx44_1 := hcc44 1 _ rfl; (try simp only [show (k35).sz = 2 from rfl, Nat.mul_one, Nat.add_zero] at hx44_1); have hf44_1 := hfr44 1; (try simp only [show (k35).sz = 2 from rfl, Nat.mul_one, Nat.add_zero] at hf44_1); clear hcl44 hcc44 hfr44 hM44) | ((with_reducible refine gate_store (t := 9) (p := 82) rfl ?_); refine store_event (t := 9) (p := 82) (v := ?vo_w45) (w1 := (w42.setCell ⟨go41, ((ji38) : Int).toNat * 2 + 1, none⟩ (.string (rdOf ByteArray.empty t206 x10_1)))) ?hg ?ho ?hn ?hr ?_; (case ho => rfl); (case hg => rfl); (case hn => rfl); (case hr => first | (go_simp; done) | (go_simp; rfl)); intro w45 hw; have hg : w42.grownBy w45 (some go41) := (by rw [hw]; exact HP44.2); have hp_ : Kd.R k35 35 w45 w.heap.size (fun _ => True) (.slice (some ⟨go41, 0, none⟩) y214.length co43) y218 := (by rw [hw, Ny218.out]; exact HP44.1); clear HP44; replace HO_7 := Aside0.mk (Kd.R_over' (v := (.slice (some ⟨go41, 0, none⟩) y214.length co43)) (uR HO_7) (Kd.R_typed HO216.out) (by decide) hg); replace HO216 := Aside0.mk (hp_); replace HB := Aside0.mk ((by rw [hw]; exact below_set (HB.out) GB41.out : Below w.heap.size w w45)); clear hg hw hp_))
                                              go_roundg kj28
                                              case measure => have := HK1.out; have := HJ16.out; have := HJ22.out; have := HJ25.out; have := HJ28.out; omega
                                              case rel => exact ⟨(y218), (false), (wrap64 (x10_1 + 1)), (by first | rfl | (simp; done) | (simp [*]; done)), (by first | rfl | (simp; done) | (simp [*]; done)), H', ⟨by have := HK1.out; have := HJ16.out; have := HJ22.out; have := HJ25.out; have := HJ28.out; omega⟩, ⟨by (with_reducible repeat (first | apply Kd.R_alloc | apply Kd.R_drewN | apply Kd.R_drew)); exact HO_7.out⟩, ⟨by (with_reducible repeat (first | apply Kd.R_alloc | apply Kd.R_drewN | apply Kd.R_drew)); exact HO216.out⟩, ⟨by repeat (first | (with_reducible first | exact HB.out | apply below_alloc | apply pw_below_drewN | apply below_drew1) | exact HB.out)⟩⟩
                                            · rw [if_neg c40] at H
                                              exact absurd H (by simp)
                                          · rw [if_neg c39] at H
                                            exact absurd H (by simp)
                                        · replace c37 := Bool.eq_false_iff.mpr c37
                                          subst c37
                                          have H1 : (folkmootref03_set.l0 kj28 l0 l1 a2 t206 y214 false (wrap64 (x10_1 + 1))) = some r := by rw [if_neg (show ¬ (false = true) by decide)] at H; exact H
                                          clear H
                                          have H := H1
                                          clear H1
                                          have H' := Aside0.mk H
                                          clear H
                                          have p213 : 0 ≤ (x10_1 : Int) := of_decide_eq_true (by first | (with_reducible assumption) | assumption)
                                          have q213 : x10_1 < (t206.length : Int) := of_decide_eq_true (by first | (with_reducible assumption) | assumption)
                                          obtain ⟨ad213, e213, hx213_0⟩ := Kd.at_string (Kd.R_reads' HO_7.out).2.2 x10_1 p213 q213
                                          obtain rfl : ad209 = ad213 := (by injection e213)
                                          replace p213 := eq_true p213
                                          replace q213 := eq_true q213
                                          go_wp2_with (first | ((with_reducible refine gate_builtin (b := .append) (xs := #[.tmp 60, .tmp 66]) rfl ?_); at_builtin; refine Kd.R_append k35 (w0 := w) w.heap.size rfl (.tmp 60) (.tmp 66) 30 35 (.agg #[(.string ⟨#[]⟩), (.string ⟨#[]⟩)]) 32 rfl Try.underlying30 info35 rfl (by decide) (by omega) u8 x8_1 (⟨rdOf ByteArray.empty t206 x10_1, (⟨#[]⟩ : ByteArray)⟩ : S35) [.string (rdOf ByteArray.empty t206 x10_1), .string (⟨#[]⟩ : ByteArray)] (fun _ => True) (fun _ => False) rfl rfl ?aP (fun _ hk => hk.elim) ?aF ?aO ?aB ?aS ?aL ?_; (case aP => exact k35_mkM _ _ _ (⟨rdOf ByteArray.empty t206 x10_1, (⟨#[]⟩ : ByteArray)⟩ : S35)); (case aB => exact (uB HB)); (case aF => exact (fun _ _ => trivial)); (case aO => exact (uR HO_8)); (case aS => exact (below_size (uB HB))); (case aL => have := LMc34.out; omega); intro v215 w46 ho hb hg hat; rw [← Ny214.out] at ho; have n0_ := Aside0.mk (Kd.R_over' (uR HO_7) (Kd.R_typed (uR HO_8)) (by decide) hg); have n1_ := Aside0.mk (hb); have n2_ := Aside0.mk (ho); clear HO_7; clear HB; clear HO_8; have HO_7 := n0_; have HB := n1_; have HO216 := n2_; clear n0_ n1_ n2_; clear ho hb hg hat))
                                          go_roundg kj28
                                          case measure => have := HK1.out; have := HJ16.out; have := HJ22.out; have := HJ25.out; have := HJ28.out; omega
                                          case rel => exact ⟨(y214), (false), (wrap64 (x10_1 + 1)), (by first | rfl | (simp; done) | (simp [*]; done)), (by first | rfl | (simp; done) | (simp [*]; done)), H', ⟨by have := HK1.out; have := HJ16.out; have := HJ22.out; have := HJ25.out; have := HJ28.out; omega⟩, ⟨by (with_reducible repeat (first | apply Kd.R_alloc | apply Kd.R_drewN | apply Kd.R_drew)); exact HO_7.out⟩, ⟨by (with_reducible repeat (first | apply Kd.R_alloc | apply Kd.R_drewN | apply Kd.R_drew)); exact HO216.out⟩, ⟨by repeat (first | (with_reducible first | exact HB.out | apply below_alloc | apply pw_below_drewN | apply below_drew1) | exact HB.out)⟩⟩
                                    · rw [if_neg c34] at H
                                      exact absurd H (by simp)
                                  · rw [if_neg c33] at H
                                    exact absurd H (by simp)
                                · rw [if_neg c32] at H
                                  exact absurd H (by simp)
                              · replace c31 := Bool.eq_false_iff.mpr c31
                                subst c31
                                have H1 : (if x13_25 = true then (folkmootref03_set.l0 kj28 l0 l1 a2 t206 x8_1 x13_25 (wrap64 (x10_1 + 1))) else (if x9_1 = true then (if 0 ≤ x10_1 then (if x10_1 < (t206.length : Int) then (if 0 ≤ (wrap64 ((x8_1.length : Int) - 1)) then (if (wrap64 ((x8_1.length : Int) - 1)) < (x8_1.length : Int) then (folkmootref03_set.l0 kj28 l0 l1 a2 t206 (x8_1.set ((wrap64 ((x8_1.length : Int) - 1)) : Int).toNat (⟨(rd_T35 x8_1 (wrap64 ((x8_1.length : Int) - 1))).f0, rdOf ByteArray.empty t206 x10_1⟩ : S35)) x13_25 (wrap64 (x10_1 + 1))) else (none)) else (none)) else (none)) else (none)) else (folkmootref03_set.l0 kj28 l0 l1 a2 t206 x8_1 x13_25 (wrap64 (x10_1 + 1))))) = some r := by rw [if_neg (show ¬ (false = true) by decide)] at H; exact H
                                clear H
                                have H := H1
                                clear H1
                                by_cases c47 : x13_25 = true
                                · subst c47
                                  have H1 : (folkmootref03_set.l0 kj28 l0 l1 a2 t206 x8_1 true (wrap64 (x10_1 + 1))) = some r := by rw [if_pos rfl] at H; exact H
                                  clear H
                                  have H := H1
                                  clear H1
                                  have H' := Aside0.mk H
                                  clear H
                                  go_wp2
                                  go_roundg kj28
                                  case measure => have := HK1.out; have := HJ16.out; have := HJ22.out; have := HJ25.out; have := HJ28.out; omega
                                  case rel => exact ⟨(x8_1), (true), (wrap64 (x10_1 + 1)), (by first | rfl | (simp; done) | (simp [*]; done)), (by first | rfl | (simp; done) | (simp [*]; done)), H', ⟨by have := HK1.out; have := HJ16.out; have := HJ22.out; have := HJ25.out; have := HJ28.out; omega⟩, ⟨by (with_reducible repeat (first | apply Kd.R_alloc | apply Kd.R_drewN | apply Kd.R_drew)); exact HO_7.out⟩, ⟨by (with_reducible repeat (first | apply Kd.R_alloc | apply Kd.R_drewN | apply Kd.R_drew)); exact HO_8.out⟩, ⟨by repeat (first | (with_reducible first | exact HB.out | apply below_alloc | apply pw_below_drewN | apply below_drew1) | exact HB.out)⟩⟩
                                · replace c47 := Bool.eq_false_iff.mpr c47
                                  subst c47
                                  have H1 : (if x9_1 = true then (if 0 ≤ x10_1 then (if x10_1 < (t206.length : Int) then (if 0 ≤ (wrap64 ((x8_1.length : Int) - 1)) then (if (wrap64 ((x8_1.length : Int) - 1)) < (x8_1.length : Int) then (folkmootref03_set.l0 kj28 l0 l1 a2 t206 (x8_1.set ((wrap64 ((x8_1.length : Int) - 1)) : Int).toNat (⟨(rd_T35 x8_1 (wrap64 ((x8_1.length : Int) - 1))).f0, rdOf ByteArray.empty t206 x10_1⟩ : S35)) false (wrap64 (x10_1 + 1))) else (none)) else (none)) else (none)) else (none)) else (folkmootref03_set.l0 kj28 l0 l1 a2 t206 x8_1 false (wrap64 (x10_1 + 1)))) = some r := by rw [if_neg (show ¬ (false = true) by decide)] at H; exact H
                                  clear H
                                  have H := H1
                                  clear H1
                                  by_cases c48 : x9_1 = true
                                  · subst c48
                                    have H1 : (if 0 ≤ x10_1 then (if x10_1 < (t206.length : Int) then (if 0 ≤ (wrap64 ((x8_1.length : Int) - 1)) then (if (wrap64 ((x8_1.length : Int) - 1)) < (x8_1.length : Int) then (folkmootref03_set.l0 kj28 l0 l1 a2 t206 (x8_1.set ((wrap64 ((x8_1.length : Int) - 1)) : Int).toNat (⟨(rd_T35 x8_1 (wrap64 ((x8_1.length : Int) - 1))).f0, rdOf ByteArray.empty t206 x10_1⟩ : S35)) false (wrap64 (x10_1 + 1))) else (none)) else (none)) else (none)) else (none)) = some r := by rw [if_pos rfl] at H; exact H
                                    clear H
                                    have H := H1
                                    clear H1
                                    by_cases c49 : 0 ≤ x10_1
                                    · rw [if_pos c49] at H
                                      have c49b0 : decide (0 ≤ x10_1) = true := decide_eq_true c49
                                      clear c49
                                      by_cases c50 : x10_1 < (t206.length : Int)
                                      · rw [if_pos c50] at H
                                        have c50b0 : decide (x10_1 < (t206.length : Int)) = true := decide_eq_true c50
                                        clear c50
                                        obtain ⟨ji51, hji51⟩ : ∃ j_ : Int, (wrap64 ((x8_1.length : Int) - 1)) = j_ := ⟨_, rfl⟩
                                        replace H : (if 0 ≤ (ji51) then (if (ji51) < (x8_1.length : Int) then (folkmootref03_set.l0 kj28 l0 l1 a2 t206 (x8_1.set ((ji51) : Int).toNat (⟨(rd_T35 x8_1 (ji51)).f0, rdOf ByteArray.empty t206 x10_1⟩ : S35)) false (wrap64 (x10_1 + 1))) else (none)) else (none)) = some r := by first | (rw [hji51] at H; exact H) | (simp only [hji51] at H ⊢; exact H)
                                        have hji51w : (IntKind.i64.wrap ((x8_1.length : Int) - 1)) = ji51 := (i64_w _).trans hji51
                                        by_cases c52 : 0 ≤ (ji51)
                                        · rw [if_pos c52] at H
                                          have c52b0 : decide (0 ≤ (ji51)) = true := decide_eq_true c52
                                          clear c52
                                          by_cases c53 : (ji51) < (x8_1.length : Int)
                                          · rw [if_pos c53] at H
                                            have c53b0 : decide ((ji51) < (x8_1.length : Int)) = true := decide_eq_true c53
                                            clear c53
                                            obtain ⟨y220, hy220⟩ : ∃ y_ : List (S35), y_ = (x8_1.set ((ji51) : Int).toNat (⟨(rd_T35 x8_1 (ji51)).f0, rdOf ByteArray.empty t206 x10_1⟩ : S35)) := ⟨_, rfl⟩
                                            replace H : (folkmootref03_set.l0 kj28 l0 l1 a2 t206 y220 false (wrap64 (x10_1 + 1))) = some r := by first | (rw [hy220]; with_reducible exact H) | (have H2_ := (Option.bind_some _ _).symm.trans H; rw [hy220]; with_reducible exact H2_) | (have H2_ := (Option.bind_some _ _).symm.trans H; with_reducible exact H2_) | with_reducible exact H | (rw [hy220]; exact H) | exact H
                                            have Ny220 := Aside0.mk hy220
                                            clear hy220
                                            have H' := Aside0.mk H
                                            clear H
                                            obtain ⟨Ao55, co55, eo55⟩ := Kd.R_slice HO_8.out
                                            subst eo55
                                            have p219 : 0 ≤ (x10_1 : Int) := of_decide_eq_true (by first | (with_reducible assumption) | assumption)
                                            have q219 : x10_1 < (t206.length : Int) := of_decide_eq_true (by first | (with_reducible assumption) | assumption)
                                            obtain ⟨ad219, e219, hx219_0⟩ := Kd.at_string (Kd.R_reads' HO_7.out).2.2 x10_1 p219 q219
                                            obtain rfl : ad209 = ad219 := (by injection e219)
                                            replace p219 := eq_true p219
                                            replace q219 := eq_true q219
                                            have p54 : 0 ≤ ((ji51) : Int) := of_decide_eq_true (by first | (with_reducible assumption) | assumption)
                                            have q54 : ((ji51) : Int) < ((x8_1.length : Int) : Int) := of_decide_eq_true (by first | (with_reducible assumption) | assumption)
                                            obtain ⟨go54, co54, eo54, gb54, gl54, cl54, HG54⟩ := Kd.R_form HO_8.out (by omega)
                                            (first | cases eo54 | (injection eo54 with ea_ en_ ec_; (first | subst ea_ | (injection ea_ with ea_; subst ea_)); subst ec_; clear en_))
                                            have GB54 := Aside0.mk gb54
                                            have GG54 := Aside0.mk HG54
                                            clear gb54 gl54 HG54
                                            obtain ⟨ce54, hcl54, hM54, hcc54, hfr54⟩ := Kd.R_elem HO_8.out z35 ((ji51) : Int) p54 q54
                                            obtain rfl := k35_openM hM54
                                            have hx54_0 : wc.cell? ⟨go54, ((ji51) : Int).toNat * 2, none⟩ = some (.string ((rd_T35 x8_1 (ji51)).f0)) := hcc54 0 _ rfl
                                            have hx54_1 : wc.cell? ⟨go54, ((ji51) : Int).toNat * 2 + 1, none⟩ = some (.string ((rd_T35 x8_1 (ji51)).f1)) := hcc54 1 _ rfl
                                            have hf54_0 : wc.frozen? ⟨go54, ((ji51) : Int).toNat * 2, none⟩ = false := hfr54 0
                                            have hf54_1 : wc.frozen? ⟨go54, ((ji51) : Int).toNat * 2 + 1, none⟩ = false := hfr54 1
                                            clear hcl54 hcc54 hfr54 hM54
                                            replace p54 := eq_true p54
                                            replace q54 := eq_true q54
                                            have HX56 := Aside0.mk (show Kd.R k35 35 wc w.heap.size (fun _ => True) (.slice (some ⟨go54, 0, none⟩) x8_1.length co55) x8_1 from (uR HO_8))
                                            obtain ⟨ce56, hcl56, hM56, hcc56, hfr56⟩ := Kd.R_elem HX56.out z35 ((ji51) : Int) (of_decide_eq_true (by first | (with_reducible assumption) | assumption)) (by have h_ : ((ji51) : Int) < ((x8_1.length : Int) : Int) := of_decide_eq_true (by first | (with_reducible assumption) | assumption); first | exact h_ | (have e_ := (Kd.R_reads' HO_8.out).1; omega) | simpa using h_)
                                            obtain rfl := k35_openM hM56
                                            have HP56 := Kd.R_seg HX56.out ((ji51) : Int) (of_decide_eq_true (by first | (with_reducible assumption) | assumption)) (by have h_ : ((ji51) : Int) < ((x8_1.length : Int) : Int) := of_decide_eq_true (by first | (with_reducible assumption) | assumption); first | exact h_ | (have e_ := (Kd.R_reads' HO_8.out).1; omega) | simpa using h_) (seg := [.string (rdOf ByteArray.empty t206 x10_1)]) (j := 1) hcl56 hcc56 (show 2 ≤ 2 from by decide) (x' := (⟨(rd_T35 x8_1 (ji51)).f0, rdOf ByteArray.empty t206 x10_1⟩ : S35)) (k35_mkM _ _ _ (⟨(rd_T35 x8_1 (ji51)).f0, rdOf ByteArray.empty t206 x10_1⟩ : S35) ) (fun _ hk => hk)
                                            have hx56_1 := hcc56 1 _ rfl
                                            (try simp only [show (k35).sz = 2 from rfl, Nat.mul_one, Nat.add_zero] at hx56_1)
                                            have hf56_1 := hfr56 1
                                            (try simp only [show (k35).sz = 2 from rfl, Nat.mul_one, Nat.add_zero] at hf56_1)
                                            clear hcl56 hcc56 hfr56 hM56
                                            go_wp2_with (first | ((with_reducible refine gate_store (t := 9) (p := 82) rfl ?_); refine store_event (t := 9) (p := 82) (v := ?vo_w57) (w1 := (wc.setCell ⟨go54, ((ji51) : Int).toNat * 2 + 1, none⟩ (.string (rdOf ByteArray.empty t206 x10_1)))) ?hg ?ho ?hn ?hr ?_; (case ho => rfl); (case hg => rfl); (case hn => rfl); (case hr => first | (go_simp; done) | (go_simp; rfl)); intro w57 hw; have hg : wc.grownBy w57 (some go54) := (by rw [hw]; exact HP56.2); have hp_ : Kd.R k35 35 w57 w.heap.size (fun _ => True) (.slice (some ⟨go54, 0, none⟩) x8_1.length co55) y220 := (by rw [hw, Ny220.out]; exact HP56.1); clear HP56; replace HO_7 := Aside0.mk (Kd.R_over' (v := (.slice (some ⟨go54, 0, none⟩) x8_1.length co55)) (uR HO_7) (Kd.R_typed HO_8.out) (by decide) hg); replace HO_8 := Aside0.mk (hp_); replace HB := Aside0.mk ((by rw [hw]; exact below_set (HB.out) GB54.out : Below w.heap.size w w57)); clear hg hw hp_))
                                            go_roundg kj28
                                            case measure => have := HK1.out; have := HJ16.out; have := HJ22.out; have := HJ25.out; have := HJ28.out; omega
                                            case rel => exact ⟨(y220), (false), (wrap64 (x10_1 + 1)), (by first | rfl | (simp; done) | (simp [*]; done)), (by first | rfl | (simp; done) | (simp [*]; done)), H', ⟨by have := HK1.out; have := HJ16.out; have := HJ22.out; have := HJ25.out; have := HJ28.out; omega⟩, ⟨by (with_reducible repeat (first | apply Kd.R_alloc | apply Kd.R_drewN | apply Kd.R_drew)); exact HO_7.out⟩, ⟨by (with_reducible repeat (first | apply Kd.R_alloc | apply Kd.R_drewN | apply Kd.R_drew)); exact HO_8.out⟩, ⟨by repeat (first | (with_reducible first | exact HB.out | apply below_alloc | apply pw_below_drewN | apply below_drew1) | exact HB.out)⟩⟩
                                          · rw [if_neg c53] at H
                                            exact absurd H (by simp)
                                        · rw [if_neg c52] at H
                                          exact absurd H (by simp)
                                      · rw [if_neg c50] at H
                                        exact absurd H (by simp)
                                    · rw [if_neg c49] at H
                                      exact absurd H (by simp)
                                  · replace c48 := Bool.eq_false_iff.mpr c48
                                    subst c48
                                    have H1 : (folkmootref03_set.l0 kj28 l0 l1 a2 t206 x8_1 false (wrap64 (x10_1 + 1))) = some r := by rw [if_neg (show ¬ (false = true) by decide)] at H; exact H
                                    clear H
                                    have H := H1
                                    clear H1
                                    have H' := Aside0.mk H
                                    clear H
                                    go_wp2
                                    go_roundg kj28
                                    case measure => have := HK1.out; have := HJ16.out; have := HJ22.out; have := HJ25.out; have := HJ28.out; omega
                                    case rel => exact ⟨(x8_1), (false), (wrap64 (x10_1 + 1)), (by first | rfl | (simp; done) | (simp [*]; done)), (by first | rfl | (simp; done) | (simp [*]; done)), H', ⟨by have := HK1.out; have := HJ16.out; have := HJ22.out; have := HJ25.out; have := HJ28.out; omega⟩, ⟨by (with_reducible repeat (first | apply Kd.R_alloc | apply Kd.R_drewN | apply Kd.R_drew)); exact HO_7.out⟩, ⟨by (with_reducible repeat (first | apply Kd.R_alloc | apply Kd.R_drewN | apply Kd.R_drew)); exact HO_8.out⟩, ⟨by repeat (first | (with_reducible first | exact HB.out | apply below_alloc | apply pw_below_drewN | apply below_drew1) | exact HB.out)⟩⟩
            · rw [if_neg c14] at H
              exact absurd H (by simp)
          · rw [if_neg c13] at H
            have c13b0 : decide (x10_1 < (t206.length : Int)) = false := decide_eq_false c13
            clear c13
            obtain rfl := Option.some.inj H
            obtain ⟨Ao58, co58, eo58⟩ := Kd.R_slice HO_7.out
            subst eo58
            go_wp2
            go_ret
            exact ⟨_, by first | rfl | (simp [errW_none, errW_some] <;> rfl) | (simp [*, errW_none, errW_some] <;> rfl), by (with_reducible repeat (first | apply Kd.R_alloc | apply Kd.R_drewN | apply Kd.R_drew)); exact HO_8.out, by repeat (first | (with_reducible first | exact HB.out | apply below_alloc | apply pw_below_drewN | apply below_drew1) | exact HB.out)⟩
    · rw [if_neg c5] at H
      exact absurd H (by simp)
  · rw [if_neg c4] at H
    exact absurd H (by simp)
end Go.Proofs.Ytaedgbkeiankcaa.P
namespace Go.Proofs.Ytaedgbkeiankcaa.P
open Go.RowKit Go.Proofs.YtaedgbkeiankcaaW.PrintWords Go.Proofs.YtaedgbkeiankcaaW.PrintLast Go.Proofs.YtaedgbkeiankcaaW.PrintMore
attribute [local go_sem] str_leq str_geq max2_str max2_int min2_int max_two min_two max_three min_three max_four min_four
set_option linter.unusedVariables false
set_option linter.unusedSimpArgs false
def folkmootref03_Union.f (k : Nat) (l0 : List (S35)) : Option ((List (S35))) := (folkmootref03_set.f k l0 ([] : List (S35)) 0).bind fun t221 => (some t221)
set_option maxHeartbeats 8000000 in
set_option maxRecDepth 100000 in
theorem folkmootref03_Union.calls (k : Nat) (A0 : Option Addr) (c0 : Nat) (l0 : List (S35)) (r : List (S35)) (w : World) (hr0 : Kd.C k35 w A0 l0.length l0) (hc0 : l0.length ≤ c0) (h : folkmootref03_Union.f k l0 = some r) :
    Calls Try.prog 17 #[.slice A0 l0.length c0] w fun e w' => ∃ v0_ : Value, e = .returned (v0_) ∧ Kd.R k35 35 w' w.heap.size (fun _ => True) v0_ r ∧ Below w.heap.size w w' := by
  have HR0 := Aside0.mk hr0
  have HC0 := Aside0.mk hc0
  clear hr0 hc0
  have HB := Aside0.mk (Below.refl w.heap.size w)
  have H : ((folkmootref03_set.f k l0 ([] : List (S35)) 0).bind fun t221 => (some t221)) = some r := h
  clear h
  replace H := Option.bind_eq_some_iff.mp H
  obtain ⟨t221, A20, H⟩ := H
  replace H : (some t221) = some r := H
  have A2 := Aside0.mk A20
  clear A20
  obtain rfl := Option.some.inj H
  go_enter Try.func17, Try.ntmps17
  go_wp2_with (first | ((with_reducible refine gate_callee (f := 39) rfl ?_); refine goesL_ (some 4) rfl rfl Try.func39 (by kernel_rfl) rfl #[.slice A0 l0.length c0, .slice none 0 0, .int .i64 0] rfl (by (try simp only [List.map_toArray, List.map_cons, List.map_nil]); first | done | rfl | (simp only [List.length_drop, List.length_take]; rfl)) ?_; (refine (folkmootref03_set.calls k _ _ l0 _ _ ([] : List (S35)) 0 t221 _ ?side1 ?side2 ?side3 ?side4 A2.out).mono ?_); (case side1 => repeat (first | exact HR0.out | (with_reducible refine Kd.C_alloc ?_ _) | (with_reducible refine Kd.C_drewN ?_ _) | (with_reducible refine Kd.C_drew ?_))); (case side2 => exact HC0.out); (case side3 => exact Kd.C_nil _ _); (case side4 => exact Nat.le_refl _); rintro e w3 ⟨v222, rfl, ho0, hb⟩; refine ⟨_, rfl, ?_⟩; have n0_ := Aside0.mk (Kd.R_lower ho0 (below_size (by repeat (first | (with_reducible first | exact HB.out | apply below_alloc | apply pw_below_drewN | apply below_drew1) | exact HB.out)))); have n1_ := Aside0.mk (below_step (by repeat (first | (with_reducible first | exact HB.out | apply below_alloc | apply pw_below_drewN | apply below_drew1) | exact HB.out)) hb); clear HB; have HO223 := n0_; have HB := n1_; clear n0_ n1_; (try clear hb); (try clear hb2); (try clear hk); (try clear hi); (try clear ho0)))
  go_ret
  exact ⟨_, by first | rfl | (simp [errW_none, errW_some] <;> rfl) | (simp [*, errW_none, errW_some] <;> rfl), by (with_reducible repeat (first | apply Kd.R_alloc | apply Kd.R_drewN | apply Kd.R_drew)); exact HO223.out, by repeat (first | (with_reducible first | exact HB.out | apply below_alloc | apply pw_below_drewN | apply below_drew1) | exact HB.out)⟩
end Go.Proofs.Ytaedgbkeiankcaa.P
namespace Go.Proofs.Ytaedgbkeiankcaa.P
open Go.RowKit Go.Proofs.YtaedgbkeiankcaaW.PrintWords
set_option linter.unusedVariables false
theorem insM_spec (t : ByteArray) : ∀ l : List ByteArray, (l.map tx).Pairwise (· < ·) → ((insM t l).map tx).Pairwise (· < ·) ∧ ∀ x, x ∈ (insM t l).map tx ↔ x = tx t ∨ x ∈ l.map tx
  | [], _ => by simp [insM]
  | x :: l, h => by
    rw [List.map_cons] at h
    obtain ⟨h1, h2⟩ := List.pairwise_cons.1 h
    obtain ⟨h3, h4⟩ := insM_spec t l h2
    unfold insM
    by_cases c : Op.bytesLess x.toList t.toList = true
    · have c' : tx x < tx t := c
      rw [if_pos c, List.map_cons]
      refine ⟨List.pairwise_cons.2 ⟨fun y hy => ?_, h3⟩, fun y => ?_⟩
      · rcases (h4 y).1 hy with rfl | hy
        · exact c'
        · exact h1 y hy
      · rw [List.mem_cons, List.map_cons, List.mem_cons, h4]
        grind
    · rw [if_neg c]
      by_cases e : x.toList = t.toList
      · have e' : tx x = tx t := by unfold tx; rw [e]
        rw [if_pos e, List.map_cons]
        refine ⟨List.pairwise_cons.2 ⟨h1, h2⟩, fun y => ?_⟩
        rw [List.mem_cons, e']
        grind
      · rw [if_neg e]
        have hlt : tx t < tx x := by
          rcases bytesLess_tri x.toList t.toList with h | h | h
          · exact absurd h c
          · exact absurd h e
          · exact h
        rw [List.map_cons, List.map_cons]
        refine ⟨List.pairwise_cons.2 ⟨fun y hy => ?_, List.pairwise_cons.2 ⟨h1, h2⟩⟩, fun y => ?_⟩
        · rcases List.mem_cons.1 hy with rfl | hy
          · exact hlt
          · have := h1 y hy; grind
        · rw [List.mem_cons]
theorem midM_spec (out : List ByteArray) (x : S35) (h : (out.map tx).Pairwise (· < ·)) : ((midM out x 2).map tx).Pairwise (· < ·) ∧ ∀ y, y ∈ (midM out x 2).map tx ↔ (y = tx x.f0 ∨ (tx x.f1 ≠ .nil ∧ y = tx x.f1)) ∨ y ∈ out.map tx := by
  obtain ⟨h1, h2⟩ := insM_spec x.f0 out h
  obtain ⟨h3, h4⟩ := insM_spec x.f1 _ h1
  simp only [midM]
  by_cases c : x.f1.toList = []
  · rw [if_pos c]
    refine ⟨h1, fun y => ?_⟩
    have := (tx_nil x.f1).2 c
    rw [h2]
    grind
  · rw [if_neg c]
    refine ⟨h3, fun y => ?_⟩
    have : tx x.f1 ≠ .nil := fun e => c ((tx_nil x.f1).1 e)
    rw [h4, h2]
    grind
theorem marks_from (l : List S35) : ∀ out : List ByteArray, (out.map tx).Pairwise (· < ·) → ((l.foldl (fun out x => midM out x 2) out).map tx).Pairwise (· < ·) ∧ ∀ y, y ∈ (l.foldl (fun out x => midM out x 2) out).map tx ↔ y ∈ out.map tx ∨ ∃ x ∈ l, y = tx x.f0 ∨ (tx x.f1 ≠ .nil ∧ y = tx x.f1) := by
  induction l with
  | nil => intro out h; exact ⟨h, fun y => by simp⟩
  | cons x l ih =>
    intro out h
    obtain ⟨h1, h2⟩ := midM_spec out x h
    obtain ⟨h3, h4⟩ := ih _ h1
    refine ⟨h3, fun y => ?_⟩
    rw [List.foldl_cons, h4, h2]
    simp only [List.mem_cons, exists_eq_or_imp]
    grind
theorem marks_rise (l : List S35) : ((marksL l).map tx).Pairwise (· < ·) := (marks_from l [] List.Pairwise.nil).1
theorem marks_cover (l a : List S35) (h : ∀ x ∈ a, x ∈ l) : Sp.Covers ((marksL l).map tx) (a.map toSp) := by
  intro s hs
  obtain ⟨x, hx, rfl⟩ := List.mem_map.1 hs
  exact ⟨((marks_from l [] List.Pairwise.nil).2 _).2 (.inr ⟨x, h x hx, .inl rfl⟩), fun hn => ((marks_from l [] List.Pairwise.nil).2 _).2 (.inr ⟨x, h x hx, .inr ⟨hn, rfl⟩⟩)⟩
theorem marks_len (l : List S35) : (marksL l).length ≤ 2 * l.length := by
  have := marksL_len l l.length
  rwa [List.take_length] at this
def opW (w : Int) (x y : Bool) : Bool := if w = 2 then x && !y else if w = 1 then x && y else x || y
def tailS : Option ByteArray → List S35
  | none => []
  | some f => [(⟨f, (⟨#[]⟩ : ByteArray)⟩ : S35)]
def bldS (P : ByteArray → Bool) : Option ByteArray → List ByteArray → List S35
  | o, [] => tailS o
  | none, m :: M => if P m then bldS P (some m) M else bldS P none M
  | some f, m :: M => if P m then bldS P (some f) M else (⟨f, m⟩ : S35) :: bldS P none M
theorem bldS_map (P : ByteArray → Bool) (Q : Txt → Bool) (h : ∀ x, P x = Q (tx x)) : ∀ (M : List ByteArray) (o : Option ByteArray), (bldS P o M).map toSp = Sp.bld Q (o.map tx) (M.map tx)
  | [], none => rfl
  | [], some f => by
    have : tx (⟨#[]⟩ : ByteArray) = .nil := (tx_nil _).2 nil_list
    simp [bldS, tailS, Sp.bld, toSp, this]
  | m :: M, none => by
    simp only [bldS, Sp.bld, Option.map_none, List.map_cons, h]
    split
    · exact bldS_map P Q h M (some m)
    · exact bldS_map P Q h M none
  | m :: M, some f => by
    simp only [bldS, Sp.bld, Option.map_some, List.map_cons, h]
    split
    · exact bldS_map P Q h M (some f)
    · rw [List.map_cons, bldS_map P Q h M none]
      rfl
section
variable (a b : List S35) (w : Int) (m : List ByteArray)
theorem set_j3 (out : List S35) (op : Bool) (i : Int) (is : Bool) {r : List S35} (h : Ev (fun k => folkmootref03_set.j4 k a b w m out op i is (is && !op)) r) : Ev (fun k => folkmootref03_set.j3 k a b w m out op i is) r := by
  cases is with
  | true => exact Ev.step (fun k => by simp only [folkmootref03_set.j3, if_true] <;> rfl) h
  | false => exact Ev.step (fun k => by simp only [folkmootref03_set.j3, Bool.false_eq_true, if_false] <;> rfl) h
theorem set_j2 (out : List S35) (op : Bool) (i : Int) (X Y Z is : Bool) (h2 : w = 2 → is = (X && !Y)) (h1 : w ≠ 2 → is = Z) {r : List S35} (h : Ev (fun k => folkmootref03_set.j3 k a b w m out op i is) r) : Ev (fun k => folkmootref03_set.j2 k a b w m out op i X Y Z) r := by
  by_cases c : w = 2
  · obtain rfl := h2 c
    cases X with
    | true => exact Ev.step (fun k => by simp only [folkmootref03_set.j2, if_pos c, if_true] <;> rfl) h
    | false => exact Ev.step (fun k => by simp only [folkmootref03_set.j2, if_pos c, Bool.false_eq_true, if_false] <;> rfl) h
  · obtain rfl := h1 c
    exact Ev.step (fun k => by simp only [folkmootref03_set.j2, if_neg c] <;> rfl) h
theorem set_j1 (out : List S35) (op : Bool) (i : Int) (X Y : Bool) {r : List S35} (h : Ev (fun k => folkmootref03_set.j4 k a b w m out op i (opW w X Y) (opW w X Y && !op)) r) : Ev (fun k => folkmootref03_set.j1 k a b w m out op i X Y (X || Y)) r := by
  have h3 := set_j3 a b w m out op i _ h
  by_cases c : w = 1
  · have h2 := set_j2 a b w m out op i X Y (X && Y) (opW w X Y) (fun e => by unfold opW; rw [if_pos e]) (fun e => by unfold opW; rw [if_neg e, if_pos c]) h3
    cases X with
    | true => exact Ev.step (fun k => by simp only [folkmootref03_set.j1, if_pos c, if_true] <;> rfl) (by simpa only [Bool.true_and] using h2)
    | false => exact Ev.step (fun k => by simp only [folkmootref03_set.j1, if_pos c, Bool.false_eq_true, if_false] <;> rfl) (by simpa only [Bool.false_and] using h2)
  · have h2 := set_j2 a b w m out op i X Y (X || Y) (opW w X Y) (fun e => by unfold opW; rw [if_pos e]) (fun e => by unfold opW; rw [if_neg e, if_neg c]) h3
    exact Ev.step (fun k => by simp only [folkmootref03_set.j1, if_neg c] <;> rfl) h2
theorem set_l0 (ha : a.length ≤ 9223372036854775806) (hb : b.length ≤ 9223372036854775806) (hm : m.length < 4398046511104) : ∀ (d i : Nat) (D : List S35) (o : Option ByteArray), i ≤ m.length → m.length - i = d → (D ++ tailS o).length ≤ i →
    Ev (fun k => folkmootref03_set.l0 k a b w m (D ++ tailS o) o.isSome (i : Int)) (D ++ bldS (fun x => opW w (a.any (inSp x)) (b.any (inSp x))) o (m.drop i)) := by
  intro d
  induction d with
  | zero =>
    intro i D o hi hd hD
    have h1 : ¬ (i : Int) < (m.length : Int) := by omega
    rw [List.drop_eq_nil_of_le (by omega)]
    exact Ev.step (fun k => by simp only [folkmootref03_set.l0, if_neg h1]; rfl) (Ev.eq (Ev.val _) (by cases o <;> rfl))
  | succ d ih =>
    intro i D o hi hd hD
    have h1 : (i : Int) < (m.length : Int) := by omega
    have h0 : (0 : Int) ≤ (i : Int) := by omega
    have him : i < m.length := by omega
    have hw : wrap64 ((i : Int) + 1) = ((i + 1 : Nat) : Int) := by rw [wrap_in] <;> omega
    have hrd : rdOf ByteArray.empty m (i : Int) = m[i] := by simp [rdOf, List.getD_eq_getElem?_getD, him]
    rw [List.drop_eq_getElem_cons him]
    have hx : Ev (fun k => folkmootref03_set.j4 k a b w m (D ++ tailS o) o.isSome (i : Int) (opW w (a.any (inSp m[i])) (b.any (inSp m[i]))) (opW w (a.any (inSp m[i])) (b.any (inSp m[i])) && !o.isSome)) (D ++ bldS (fun x => opW w (a.any (inSp x)) (b.any (inSp x))) o (m[i] :: m.drop (i + 1))) := by
      have hsz : (D ++ tailS o).length < 4398046511104 := by omega
      cases o with
      | none =>
        cases c : opW w (a.any (inSp m[i])) (b.any (inSp m[i])) with
        | true =>
          have hsz' : D.length < 4398046511104 := by simp [tailS] at hsz; omega
          refine Ev.step (f := fun k => folkmootref03_set.l0 k a b w m (D ++ tailS (some m[i])) true ((i + 1 : Nat) : Int)) (fun k => ?_) (Ev.eq (ih (i + 1) D (some m[i]) (by omega) (by omega) (by simp [tailS] at hD ⊢; omega)) (by simp only [bldS, c, if_true]))
          simp only [folkmootref03_set.j4, Option.isSome_none, Bool.not_false, Bool.and_self, if_true, if_pos h0, if_pos h1, if_pos hsz', Option.bind_some, hrd, hw, tailS, List.append_nil]
        | false =>
          refine Ev.step (f := fun k => folkmootref03_set.l0 k a b w m (D ++ tailS none) false ((i + 1 : Nat) : Int)) (fun k => ?_) (Ev.eq (ih (i + 1) D none (by omega) (by omega) (by omega)) (by simp only [bldS, c, Bool.false_eq_true, if_false]))
          simp only [folkmootref03_set.j4, Option.isSome_none, Bool.false_and, Bool.false_eq_true, if_false, hw]
      | some f =>
        cases c : opW w (a.any (inSp m[i])) (b.any (inSp m[i])) with
        | true =>
          refine Ev.step (f := fun k => folkmootref03_set.l0 k a b w m (D ++ tailS (some f)) true ((i + 1 : Nat) : Int)) (fun k => ?_) (Ev.eq (ih (i + 1) D (some f) (by omega) (by omega) (by omega)) (by simp only [bldS, c, if_true]))
          simp only [folkmootref03_set.j4, Option.isSome_some, Bool.not_true, Bool.and_false, Bool.false_eq_true, if_false, if_true, hw]
        | false =>
          have hlen : (D ++ tailS (some f)).length = D.length + 1 := by simp [tailS]
          have hw2 : wrap64 (((D ++ tailS (some f)).length : Int) - 1) = (D.length : Int) := by rw [hlen, wrap_in] <;> omega
          have hd0 : (0 : Int) ≤ (D.length : Int) := by omega
          have hd1 : (D.length : Int) < ((D ++ tailS (some f)).length : Int) := by omega
          have hset : (D ++ tailS (some f)).set D.length (⟨(rd_T35 (D ++ tailS (some f)) (D.length : Int)).f0, m[i]⟩ : S35) = (D ++ [(⟨f, m[i]⟩ : S35)]) ++ tailS none := by
            rw [rd_at _ D.length (by omega)]
            simp [tailS]
          refine Ev.step (f := fun k => folkmootref03_set.l0 k a b w m ((D ++ [(⟨f, m[i]⟩ : S35)]) ++ tailS none) false ((i + 1 : Nat) : Int)) (fun k => ?_) (Ev.eq (ih (i + 1) (D ++ [(⟨f, m[i]⟩ : S35)]) none (by omega) (by omega) (by simp [tailS] at hD ⊢; omega)) (by simp only [bldS, c, Bool.false_eq_true, if_false, List.append_assoc, List.singleton_append]))
          simp only [folkmootref03_set.j4, Option.isSome_some, Bool.false_and, Bool.false_eq_true, if_false, if_true, if_pos h0, if_pos h1, hw2, if_pos hd0, if_pos hd1, Int.toNat_natCast, hset, hrd, hw]
    have hj := set_j1 a b w m (D ++ tailS o) o.isSome (i : Int) (a.any (inSp m[i])) (b.any (inSp m[i])) hx
    refine Ev.step (fun k => by simp only [folkmootref03_set.l0, if_pos h1, if_pos h0, hrd]; rfl) (Ev.bind (has_ev a m[i] ha) (Ev.bind (has_ev b m[i] hb) ?_))
    cases c : a.any (inSp m[i]) with
    | true => simp only [if_true]; rw [c] at hj; exact hj
    | false => simp only [Bool.false_eq_true, if_false]; rw [c] at hj; exact hj
end
def bk (t : Txt) : ByteArray := ⟨t.l.toArray⟩
theorem tx_bk (t : Txt) : tx (bk t) = t := by
  unfold tx bk
  rw [← toList_data]
theorem bk_tx (x : ByteArray) : bk (tx x) = x := tx_inj (tx_bk (tx x))
/-- THE REFERENCE's SET -/
theorem set_ev (a b : List S35) (w : Int) (h : a.length + b.length < 1099511627776) : ∃ s, Ev (fun k => folkmootref03_set.f k a b w) s ∧ Sp.Can (s.map toSp) ∧ ∀ k, Sp.mem (s.map toSp) (tx k) ↔ opW w (a.any (inSp k)) (b.any (inSp k)) = true := by
  have hm := marks_len (a ++ b)
  rw [List.length_append] at hm
  have hMf : folkmootref03_marks.f (a ++ b) = some (marksL (a ++ b)) := by unfold folkmootref03_marks.f; rw [if_pos (by rw [List.length_append]; exact h)]
  have key := set_l0 a b w (marksL (a ++ b)) (by omega) (by omega) (by omega) (marksL (a ++ b)).length 0 [] none (by omega) (by omega) (by simp [tailS])
  refine ⟨_, Ev.congr (fun k => ?_) key, ?_⟩
  · have h1 : (([] : List S35)).length + a.length < 4398046511104 := by simp; omega
    have h2 : (([] : List S35) ++ a).length + b.length < 4398046511104 := by simp; omega
    simp only [folkmootref03_set.f, Option.bind_some, if_pos h1, if_pos h2]
    rw [List.nil_append, hMf]
    rfl
  · rw [List.nil_append, List.drop_zero, bldS_map _ (fun t => opW w ((fun t => a.any (inSp (bk t))) t) ((fun t => b.any (inSp (bk t))) t)) (fun x => by simp only [bk_tx])]
    have h0 : opW w false false = false := by unfold opW; split <;> (try split) <;> rfl
    have hc := Sp.ref_set (marks_rise (a ++ b)) (marks_cover (a ++ b) a (fun x hx => by simp [hx])) (marks_cover (a ++ b) b (fun x hx => by simp [hx])) (opW w) h0 (fun t => a.any (inSp (bk t))) (fun t => b.any (inSp (bk t))) (fun t => by rw [any_iff, tx_bk]) (fun t => by rw [any_iff, tx_bk])
    refine ⟨hc.1, fun k => ?_⟩
    have := hc.2 (tx k)
    simp only [bk_tx] at this
    exact this
theorem can_eq {a b : List S35} (ha : Sp.Can (a.map toSp)) (hb : Sp.Can (b.map toSp)) (h : ∀ k : ByteArray, Sp.mem (a.map toSp) (tx k) ↔ Sp.mem (b.map toSp) (tx k)) : a = b :=
  map_inj (fun h => toSp_inj h) (Sp.can_unique _ _ ha hb fun k => by have := h (bk k); rwa [tx_bk] at this)
theorem union_can (l : List S35) : Sp.Can ((unionL l).map toSp) := (union_of l).can
theorem eq_of_any {a b : List S35} (ha : Sp.Can (a.map toSp)) (hb : Sp.Can (b.map toSp)) (h : ∀ k : ByteArray, a.any (inSp k) = b.any (inSp k)) : a = b :=
  can_eq ha hb fun k => by rw [← any_iff, ← any_iff, h k]
theorem refUnion_ev (l : List S35) (h : l.length < 1099511627776) : Ev (fun k => folkmootref03_Union.f k l) (unionL l) := by
  obtain ⟨s, h1, h2, h3⟩ := set_ev l [] 0 (by simpa using h)
  have e : s = unionL l := eq_of_any h2 (union_can l) fun k => by
    rw [union_any]
    refine Bool.eq_iff_iff.2 ?_
    rw [any_iff, h3]
    simp [opW]
  subst e
  exact Ev.bind h1 (Ev.val _)
theorem same_l0 (l : List S35) (hl : l.length ≤ 9223372036854775806) : ∀ (d i : Nat), i ≤ l.length → l.length - i = d → Ev (fun k => folkmootref03_Same.l0 k l l (i : Int)) true := by
  intro d
  induction d with
  | zero =>
    intro i hi hd
    have h1 : ¬ (i : Int) < (l.length : Int) := by omega
    exact Ev.step (fun k => by simp only [folkmootref03_Same.l0, if_neg h1] <;> rfl) (Ev.val _)
  | succ d ih =>
    intro i hi hd
    have h1 : (i : Int) < (l.length : Int) := by omega
    have h0 : (0 : Int) ≤ (i : Int) := by omega
    have hw : wrap64 ((i : Int) + 1) = ((i + 1 : Nat) : Int) := by rw [wrap_in] <;> omega
    exact Ev.step (fun k => by simp only [folkmootref03_Same.l0, if_pos h1, if_pos h0, beq_self_eq_true, Bool.not_true, Bool.or_self, Bool.false_eq_true, if_false, hw] <;> rfl) (ih (i + 1) (by omega) (by omega))
theorem same_ev (l : List S35) (hl : l.length ≤ 9223372036854775806) : Ev (fun k => folkmootref03_Same.f k l l) true :=
  Ev.congr (fun k => by simp only [folkmootref03_Same.f, if_true] <;> rfl) (same_l0 l hl l.length 0 (by omega) (by omega))
end Go.Proofs.Ytaedgbkeiankcaa.P
namespace Go.Proofs.Ytaedgbkeiankcaa.P
open Go.RowKit Go.Proofs.YtaedgbkeiankcaaW.PrintWords Go.Proofs.YtaedgbkeiankcaaW.PrintLast Go.Proofs.YtaedgbkeiankcaaW.PrintMore
attribute [local go_sem] str_leq str_geq max2_str max2_int min2_int max_two min_two max_three min_three max_four min_four
set_option linter.unusedVariables false
set_option linter.unusedSimpArgs false
def folkmootref03_Cut.f (k : Nat) (l0 : List (S35)) (l1 : List (S35)) : Option ((List (S35))) := (folkmootref03_set.f k l0 l1 1).bind fun t230 => (some t230)
set_option maxHeartbeats 8000000 in
set_option maxRecDepth 100000 in
theorem folkmootref03_Cut.calls (k : Nat) (A0 : Option Addr) (c0 : Nat) (l0 : List (S35)) (A1 : Option Addr) (c1 : Nat) (l1 : List (S35)) (r : List (S35)) (w : World) (hr0 : Kd.C k35 w A0 l0.length l0) (hc0 : l0.length ≤ c0) (hr1 : Kd.C k35 w A1 l1.length l1) (hc1 : l1.length ≤ c1) (h : folkmootref03_Cut.f k l0 l1 = some r) :
    Calls Try.prog 45 #[.slice A0 l0.length c0, .slice A1 l1.length c1] w fun e w' => ∃ v0_ : Value, e = .returned (v0_) ∧ Kd.R k35 35 w' w.heap.size (fun _ => True) v0_ r ∧ Below w.heap.size w w' := by
  have HR0 := Aside0.mk hr0
  have HC0 := Aside0.mk hc0
  clear hr0 hc0
  have HR1 := Aside0.mk hr1
  have HC1 := Aside0.mk hc1
  clear hr1 hc1
  have HB := Aside0.mk (Below.refl w.heap.size w)
  have H : ((folkmootref03_set.f k l0 l1 1).bind fun t230 => (some t230)) = some r := h
  clear h
  replace H := Option.bind_eq_some_iff.mp H
  obtain ⟨t230, A30, H⟩ := H
  replace H : (some t230) = some r := H
  have A3 := Aside0.mk A30
  clear A30
  obtain rfl := Option.some.inj H
  go_enter Try.func45, Try.ntmps45
  go_wp2_with (first | ((with_reducible refine gate_callee (f := 39) rfl ?_); refine goesL_ (some 7) rfl rfl Try.func39 (by kernel_rfl) rfl #[.slice A0 l0.length c0, .slice A1 l1.length c1, .int .i64 1] rfl (by (try simp only [List.map_toArray, List.map_cons, List.map_nil]); first | done | rfl | (simp only [List.length_drop, List.length_take]; rfl)) ?_; (with_reducible refine (folkmootref03_set.calls k _ _ l0 _ _ l1 1 t230 _ ?side1 ?side2 ?side3 ?side4 A3.out).mono ?_); (case side1 => repeat (first | exact HR0.out | (with_reducible refine Kd.C_alloc ?_ _) | (with_reducible refine Kd.C_drewN ?_ _) | (with_reducible refine Kd.C_drew ?_))); (case side2 => exact HC0.out); (case side3 => repeat (first | exact HR1.out | (with_reducible refine Kd.C_alloc ?_ _) | (with_reducible refine Kd.C_drewN ?_ _) | (with_reducible refine Kd.C_drew ?_))); (case side4 => exact HC1.out); rintro e w4 ⟨v231, rfl, ho0, hb⟩; refine ⟨_, rfl, ?_⟩; have n0_ := Aside0.mk (Kd.R_lower ho0 (below_size (by repeat (first | (with_reducible first | exact HB.out | apply below_alloc | apply pw_below_drewN | apply below_drew1) | exact HB.out)))); have n1_ := Aside0.mk (below_step (by repeat (first | (with_reducible first | exact HB.out | apply below_alloc | apply pw_below_drewN | apply below_drew1) | exact HB.out)) hb); clear HB; have HO232 := n0_; have HB := n1_; clear n0_ n1_; (try clear hb); (try clear hb2); (try clear hk); (try clear hi); (try clear ho0)))
  go_ret
  exact ⟨_, by first | rfl | (simp [errW_none, errW_some] <;> rfl) | (simp [*, errW_none, errW_some] <;> rfl), by (with_reducible repeat (first | apply Kd.R_alloc | apply Kd.R_drewN | apply Kd.R_drew)); exact HO232.out, by repeat (first | (with_reducible first | exact HB.out | apply below_alloc | apply pw_below_drewN | apply below_drew1) | exact HB.out)⟩
end Go.Proofs.Ytaedgbkeiankcaa.P
namespace Go.Proofs.Ytaedgbkeiankcaa.P
open Go.RowKit Go.Proofs.YtaedgbkeiankcaaW.PrintWords Go.Proofs.YtaedgbkeiankcaaW.PrintLast Go.Proofs.YtaedgbkeiankcaaW.PrintMore
attribute [local go_sem] str_leq str_geq max2_str max2_int min2_int max_two min_two max_three min_three max_four min_four
set_option linter.unusedVariables false
set_option linter.unusedSimpArgs false
def folkmootref04_Touch.l0 : Nat → List (S37) → List (S35) → List Int → Int → Option (List Int)
  | 0, _, _, _, _ => none
  | k + 1, x0, x1, x5, x6 => if x6 < (x0.length : Int) then (if 0 ≤ x6 then ((folkmootref03_Cut.f k (([(⟨(rd_T37 x0 x6).f0.f0, (rd_T37 x0 x6).f0.f1⟩ : S35)] : List (S35))) x1).bind fun t237 => (if (t237.length : Int) > 0 then (if x5.length < 17592186044416 then (folkmootref04_Touch.l0 k x0 x1 (x5 ++ [x6]) (wrap64 (x6 + 1))) else (none)) else (folkmootref04_Touch.l0 k x0 x1 x5 (wrap64 (x6 + 1))))) else (none)) else (some x5)
def folkmootref04_Touch.f (k : Nat) (l0 : List (S37)) (l1 : List (S35)) : Option (List Int) := folkmootref04_Touch.l0 k l0 l1 ([] : List Int) 0
set_option maxHeartbeats 8000000 in
set_option maxRecDepth 100000 in
theorem folkmootref04_Touch.calls (k : Nat) (A0 : Option Addr) (c0 : Nat) (l0 : List (S37)) (A1 : Option Addr) (c1 : Nat) (l1 : List (S35)) (r : List Int) (w : World) (hr0 : Kd.C k37 w A0 l0.length l0) (hc0 : l0.length ≤ c0) (hr1 : Kd.C k35 w A1 l1.length l1) (hc1 : l1.length ≤ c1) (h : folkmootref04_Touch.f k l0 l1 = some r) :
    Calls Try.prog 26 #[.slice A0 l0.length c0, .slice A1 l1.length c1] w fun e w' => ∃ v0_ : Value, e = .returned (v0_) ∧ Kd.R (Kd.int .i64) 3 w' w.heap.size (fun _ => True) v0_ r ∧ Below w.heap.size w w' := by
  have hu35 := Try.underlying35
  have HR0 := Aside0.mk hr0
  have HC0 := Aside0.mk hc0
  clear hr0 hc0
  have HR1 := Aside0.mk hr1
  have HC1 := Aside0.mk hc1
  clear hr1 hc1
  have HB := Aside0.mk (Below.refl w.heap.size w)
  have H : (folkmootref04_Touch.l0 k l0 l1 ([] : List Int) 0) = some r := h
  clear h
  have H' := Aside0.mk H
  clear H
  go_enter Try.func26, Try.ntmps26
  go_wp2
  go_loopg [5, 6] k (fun kq v5 v6 w' => ∃ (x5_1 : List Int) (x6_1 : Int), v6 = .int .i64 x6_1 ∧ Aside0 (folkmootref04_Touch.l0 kq l0 l1 x5_1 x6_1 = some r) ∧ Aside0 (kq ≤ k) ∧ Aside0 (Kd.R (Kd.int .i64) 3 w' w.heap.size (fun _ => True) v5 x5_1) ∧ Aside0 (Below w.heap.size w w'))
  case atStart => exact ⟨(([] : List Int)), (0), (by first | rfl | (simp; done) | (simp [*]; done)), H', ⟨Nat.le_refl _⟩, ⟨by first | exact Kd.R_nil _ _ _ _ _ | exact Kd.N_nil _ _ _ _ _ | exact Kd.V_nil _ _ _ _ _ | exact Kd.Q_nil _ _ _ _ _ | exact Kd.S_nil _ _ _ _ _⟩, ⟨by repeat (first | (with_reducible first | exact HB.out | apply below_alloc | apply pw_below_drewN | apply below_drew1) | exact HB.out)⟩⟩
  case round =>
    clear H'
    try clear c1
    try clear c2
    try clear p2
    obtain ⟨x5_1, x6_1, rfl, HA, HK1, HO_5, HB⟩ := hrel
    cases gk with
    | zero => exact absurd HA.out (by simp [folkmootref04_Touch.l0])
    | succ k1 =>
      have H := HA.out
      clear HA
      simp only [folkmootref04_Touch.l0] at H
      by_cases c3 : x6_1 < (l0.length : Int)
      · rw [if_pos c3] at H
        have c3b0 : decide (x6_1 < (l0.length : Int)) = true := decide_eq_true c3
        clear c3
        by_cases c4 : 0 ≤ x6_1
        · rw [if_pos c4] at H
          have c4b0 : decide (0 ≤ x6_1) = true := decide_eq_true c4
          clear c4
          obtain ⟨y234, hy234⟩ : ∃ y_ : List (S35), y_ = (([(⟨(rd_T37 l0 x6_1).f0.f0, (rd_T37 l0 x6_1).f0.f1⟩ : S35)] : List (S35))) := ⟨_, rfl⟩
          replace H : ((folkmootref03_Cut.f k1 y234 l1).bind fun t237 => (if (t237.length : Int) > 0 then (if x5_1.length < 17592186044416 then (folkmootref04_Touch.l0 k1 l0 l1 (x5_1 ++ [x6_1]) (wrap64 (x6_1 + 1))) else (none)) else (folkmootref04_Touch.l0 k1 l0 l1 x5_1 (wrap64 (x6_1 + 1))))) = some r := by first | (rw [hy234]; with_reducible exact H) | (have H2_ := (Option.bind_some _ _).symm.trans H; rw [hy234]; with_reducible exact H2_) | (have H2_ := (Option.bind_some _ _).symm.trans H; with_reducible exact H2_) | with_reducible exact H | (rw [hy234]; exact H) | exact H
          have Ny234 := Aside0.mk hy234
          clear hy234
          replace H := Option.bind_eq_some_iff.mp H
          obtain ⟨t237, A50, H⟩ := H
          replace H : (if (t237.length : Int) > 0 then (if x5_1.length < 17592186044416 then (folkmootref04_Touch.l0 k1 l0 l1 (x5_1 ++ [x6_1]) (wrap64 (x6_1 + 1))) else (none)) else (folkmootref04_Touch.l0 k1 l0 l1 x5_1 (wrap64 (x6_1 + 1)))) = some r := H
          have A5 := Aside0.mk A50
          clear A50
          by_cases c6 : (t237.length : Int) > 0
          · rw [if_pos c6] at H
            have c6b0 : decide (0 < (t237.length : Int)) = true := decide_eq_true c6
            have c6b1 : decide (0 < t237.length) = true := decide_eq_true (by omega)
            clear c6
            by_cases c7 : x5_1.length < 17592186044416
            · rw [if_pos c7] at H
              have LMc7 := Aside0.mk c7
              clear c7
              obtain ⟨y240, hy240⟩ : ∃ y_ : List Int, y_ = (x5_1 ++ [x6_1]) := ⟨_, rfl⟩
              replace H : (folkmootref04_Touch.l0 k1 l0 l1 y240 (wrap64 (x6_1 + 1))) = some r := by first | (rw [hy240]; with_reducible exact H) | (have H2_ := (Option.bind_some _ _).symm.trans H; rw [hy240]; with_reducible exact H2_) | (have H2_ := (Option.bind_some _ _).symm.trans H; with_reducible exact H2_) | with_reducible exact H | (rw [hy240]; exact H) | exact H
              have Ny240 := Aside0.mk hy240
              clear hy240
              have H' := Aside0.mk H
              clear H
              have p233 : 0 ≤ (x6_1 : Int) := of_decide_eq_true (by first | (with_reducible assumption) | assumption)
              have q233 : x6_1 < (l0.length : Int) := of_decide_eq_true (by first | (with_reducible assumption) | assumption)
              obtain ⟨ad233, A233_2, c233_2, e233, hx233_0, hx233_1, hx233_2, hl233_2, hi233_2⟩ := at_T37 HR0.out x6_1 p233 q233
              cases e233
              replace hx233_0 := (HB.out.cell (World.block_lt_of_cell? w _ hx233_0)).trans hx233_0
              replace hx233_1 := (HB.out.cell (World.block_lt_of_cell? w _ hx233_1)).trans hx233_1
              replace hx233_2 := (HB.out.cell (World.block_lt_of_cell? w _ hx233_2)).trans hx233_2
              have HR233_2 := Aside0.mk hi233_2
              have HC233_2 := Aside0.mk hl233_2
              clear hi233_2 hl233_2
              replace p233 := eq_true p233
              replace q233 := eq_true q233
              go_wp2_with (first | ((with_reducible refine gate_dst (N := 18) rfl ?_); refine Kd.R_lit k35 _ 35 ?hg (N := 18) ?hd (xs := ([(⟨(rd_T37 l0 x6_1).f0.f0, (rd_T37 l0 x6_1).f0.f1⟩ : S35)] : List (S35))) (inner := [.string ((rd_T37 l0 x6_1).f0.f0), .string ((rd_T37 l0 x6_1).f0.f1)]) (ok := fun _ => True) (okp := fun _ => True) ?hr ?hp (fun _ hk => hk) trivial (Below.refl _ _) (Nat.le_refl _) (by simp) ?_; (case hd => rfl); (case hg => rfl); (case hr => first | (go_simp; done) | (go_simp; rfl)); (case hp => exact (Reps.c2 (show Kd.M k35 _ _ _ (⟨(rd_T37 l0 x6_1).f0.f0, (rd_T37 l0 x6_1).f0.f1⟩ : S35) [.string ((rd_T37 l0 x6_1).f0.f0), .string ((rd_T37 l0 x6_1).f0.f1)] from (k35_mkM _ _ _ (⟨(rd_T37 l0 x6_1).f0.f0, (rd_T37 l0 x6_1).f0.f1⟩ : S35) )) (Reps.none _ _))); intro v235 w8 ho9 hb hg_ hnew_; clear hg_ hnew_; (first | rw [← Ny234.out] at ho9 | (simp only [Int.reduceToNat] at ho9; rw [← Ny234.out] at ho9)); replace HO_5 := bR HO_5 hb; have HO236 := lR ho9 HB; replace HB := sB HB hb; clear hb ho9; obtain ⟨Ao10, co10, eo10⟩ := Kd.R_slice HO236.out; subst eo10) | ((with_reducible refine gate_callee (f := 45) rfl ?_); refine goesL_ (some 20) rfl rfl Try.func45 (by kernel_rfl) rfl #[.slice Ao10 y234.length co10, .slice A1 l1.length c1] rfl (by (try simp only [List.map_toArray, List.map_cons, List.map_nil]); first | done | rfl | (simp only [List.length_drop, List.length_take]; rfl)) ?_; (with_reducible refine (folkmootref03_Cut.calls k1 _ _ y234 _ _ l1 t237 _ ?side1 ?side2 ?side3 ?side4 A5.out).mono ?_); (case side1 => exact uC (Kd.R_reads' HO236.out).2.2); (case side2 => exact (Kd.R_reads' HO236.out).2.1); (case side3 => exact uC (Kd.C_below HR1.out HB.out)); (case side4 => exact HC1.out); rintro e w11 ⟨v238, rfl, ho0, hb⟩; refine ⟨_, rfl, ?_⟩; replace HO_5 := bR HO_5 hb; have HO239 := lR (nR ho0 HO236) HB; replace HO236 := eR HO236 ho0 hb; replace HB := sB HB hb; (try clear hb); (try clear hb2); (try clear hk); (try clear hi); (try clear ho0); obtain ⟨Ao12, co12, eo12⟩ := Kd.R_slice HO239.out; subst eo12) | ((with_reducible refine gate_builtin (b := .append) (xs := #[.tmp 23, .tmp 25]) rfl ?_); at_builtin; refine Kd.R_append (Kd.int .i64) (w0 := w) w.heap.size rfl (.tmp 23) (.tmp 25) 32 3 (.int .i64 0) 8 rfl Try.underlying32 info3 rfl (by decide) (by omega) u5 x5_1 x6_1 [.int .i64 x6_1] (fun _ => True) (fun _ => False) rfl rfl ?aP (fun _ hk => hk.elim) ?aF ?aO ?aB ?aS ?aL ?_; (case aP => exact rfl); (case aB => exact (uB HB)); (case aF => exact (fun _ _ => trivial)); (case aO => exact (uR HO_5)); (case aS => exact (below_size (uB HB))); (case aL => have := LMc7.out; omega); intro v241 w13 ho hb hg hat; rw [← Ny240.out] at ho; have n0_ := Aside0.mk (Kd.R_over' (uR HO236) (Kd.R_typed (uR HO_5)) (by decide) hg); have n1_ := Aside0.mk (Kd.R_over' (uR HO239) (Kd.R_typed (uR HO_5)) (by decide) hg); have n2_ := Aside0.mk (hb); have n3_ := Aside0.mk (ho); clear HO236; clear HO239; clear HB; clear HO_5; have HO236 := n0_; have HO239 := n1_; have HB := n2_; have HO242 := n3_; clear n0_ n1_ n2_ n3_; clear ho hb hg hat))
              go_roundg k1
              case measure => have := HK1.out; omega
              case rel => exact ⟨(y240), (wrap64 (x6_1 + 1)), (by first | rfl | (simp; done) | (simp [*]; done)), H', ⟨by have := HK1.out; omega⟩, ⟨by (with_reducible repeat (first | apply Kd.R_alloc | apply Kd.R_drewN | apply Kd.R_drew)); exact HO242.out⟩, ⟨by repeat (first | (with_reducible first | exact HB.out | apply below_alloc | apply pw_below_drewN | apply below_drew1) | exact HB.out)⟩⟩
            · rw [if_neg c7] at H
              exact absurd H (by simp)
          · rw [if_neg c6] at H
            have c6b0 : decide (0 < (t237.length : Int)) = false := decide_eq_false c6
            have c6b1 : decide (0 < t237.length) = false := decide_eq_false (by omega)
            clear c6
            have H' := Aside0.mk H
            clear H
            have p233 : 0 ≤ (x6_1 : Int) := of_decide_eq_true (by first | (with_reducible assumption) | assumption)
            have q233 : x6_1 < (l0.length : Int) := of_decide_eq_true (by first | (with_reducible assumption) | assumption)
            obtain ⟨ad233, A233_2, c233_2, e233, hx233_0, hx233_1, hx233_2, hl233_2, hi233_2⟩ := at_T37 HR0.out x6_1 p233 q233
            cases e233
            replace hx233_0 := (HB.out.cell (World.block_lt_of_cell? w _ hx233_0)).trans hx233_0
            replace hx233_1 := (HB.out.cell (World.block_lt_of_cell? w _ hx233_1)).trans hx233_1
            replace hx233_2 := (HB.out.cell (World.block_lt_of_cell? w _ hx233_2)).trans hx233_2
            have HR233_2 := Aside0.mk hi233_2
            have HC233_2 := Aside0.mk hl233_2
            clear hi233_2 hl233_2
            replace p233 := eq_true p233
            replace q233 := eq_true q233
            go_wp2_with (first | ((with_reducible refine gate_dst (N := 18) rfl ?_); refine Kd.R_lit k35 _ 35 ?hg (N := 18) ?hd (xs := ([(⟨(rd_T37 l0 x6_1).f0.f0, (rd_T37 l0 x6_1).f0.f1⟩ : S35)] : List (S35))) (inner := [.string ((rd_T37 l0 x6_1).f0.f0), .string ((rd_T37 l0 x6_1).f0.f1)]) (ok := fun _ => True) (okp := fun _ => True) ?hr ?hp (fun _ hk => hk) trivial (Below.refl _ _) (Nat.le_refl _) (by simp) ?_; (case hd => rfl); (case hg => rfl); (case hr => first | (go_simp; done) | (go_simp; rfl)); (case hp => exact (Reps.c2 (show Kd.M k35 _ _ _ (⟨(rd_T37 l0 x6_1).f0.f0, (rd_T37 l0 x6_1).f0.f1⟩ : S35) [.string ((rd_T37 l0 x6_1).f0.f0), .string ((rd_T37 l0 x6_1).f0.f1)] from (k35_mkM _ _ _ (⟨(rd_T37 l0 x6_1).f0.f0, (rd_T37 l0 x6_1).f0.f1⟩ : S35) )) (Reps.none _ _))); intro v235 w14 ho15 hb hg_ hnew_; clear hg_ hnew_; (first | rw [← Ny234.out] at ho15 | (simp only [Int.reduceToNat] at ho15; rw [← Ny234.out] at ho15)); replace HO_5 := bR HO_5 hb; have HO236 := lR ho15 HB; replace HB := sB HB hb; clear hb ho15; obtain ⟨Ao16, co16, eo16⟩ := Kd.R_slice HO236.out; subst eo16) | ((with_reducible refine gate_callee (f := 45) rfl ?_); refine goesL_ (some 20) rfl rfl Try.func45 (by kernel_rfl) rfl #[.slice Ao16 y234.length co16, .slice A1 l1.length c1] rfl (by (try simp only [List.map_toArray, List.map_cons, List.map_nil]); first | done | rfl | (simp only [List.length_drop, List.length_take]; rfl)) ?_; (with_reducible refine (folkmootref03_Cut.calls k1 _ _ y234 _ _ l1 t237 _ ?side1 ?side2 ?side3 ?side4 A5.out).mono ?_); (case side1 => exact uC (Kd.R_reads' HO236.out).2.2); (case side2 => exact (Kd.R_reads' HO236.out).2.1); (case side3 => exact uC (Kd.C_below HR1.out HB.out)); (case side4 => exact HC1.out); rintro e w17 ⟨v238, rfl, ho0, hb⟩; refine ⟨_, rfl, ?_⟩; replace HO_5 := bR HO_5 hb; have HO239 := lR (nR ho0 HO236) HB; replace HO236 := eR HO236 ho0 hb; replace HB := sB HB hb; (try clear hb); (try clear hb2); (try clear hk); (try clear hi); (try clear ho0); obtain ⟨Ao18, co18, eo18⟩ := Kd.R_slice HO239.out; subst eo18))
            go_roundg k1
            case measure => have := HK1.out; omega
            case rel => exact ⟨(x5_1), (wrap64 (x6_1 + 1)), (by first | rfl | (simp; done) | (simp [*]; done)), H', ⟨by have := HK1.out; omega⟩, ⟨by (with_reducible repeat (first | apply Kd.R_alloc | apply Kd.R_drewN | apply Kd.R_drew)); exact HO_5.out⟩, ⟨by repeat (first | (with_reducible first | exact HB.out | apply below_alloc | apply pw_below_drewN | apply below_drew1) | exact HB.out)⟩⟩
        · rw [if_neg c4] at H
          exact absurd H (by simp)
      · rw [if_neg c3] at H
        have c3b0 : decide (x6_1 < (l0.length : Int)) = false := decide_eq_false c3
        clear c3
        obtain rfl := Option.some.inj H
        go_wp2
        go_ret
        exact ⟨_, by first | rfl | (simp [errW_none, errW_some] <;> rfl) | (simp [*, errW_none, errW_some] <;> rfl), by (with_reducible repeat (first | apply Kd.R_alloc | apply Kd.R_drewN | apply Kd.R_drew)); exact HO_5.out, by repeat (first | (with_reducible first | exact HB.out | apply below_alloc | apply pw_below_drewN | apply below_drew1) | exact HB.out)⟩
end Go.Proofs.Ytaedgbkeiankcaa.P
namespace Go.Proofs.Ytaedgbkeiankcaa.P
open Go.RowKit Go.Proofs.YtaedgbkeiankcaaW.PrintWords Go.Proofs.YtaedgbkeiankcaaW.PrintLast Go.Proofs.YtaedgbkeiankcaaW.PrintMore
attribute [local go_sem] str_leq str_geq max2_str max2_int min2_int max_two min_two max_three min_three max_four min_four
set_option linter.unusedVariables false
set_option linter.unusedSimpArgs false
def folkmootref04_Owned.l0 : Nat → List (S37) → Int → List (S35) → Int → Option ((List (S35)))
  | 0, _, _, _, _ => none
  | k + 1, x0, x1, x5, x6 => if x6 < (x0.length : Int) then (if 0 ≤ x6 then ((folkmootref04_In.f k ((rd_T37 x0 x6).f1) x1).bind fun t249 => (if t249 = true then (if x5.length < 4398046511104 then (folkmootref04_Owned.l0 k x0 x1 (x5 ++ [(⟨(rd_T37 x0 x6).f0.f0, (rd_T37 x0 x6).f0.f1⟩ : S35)]) (wrap64 (x6 + 1))) else (none)) else (folkmootref04_Owned.l0 k x0 x1 x5 (wrap64 (x6 + 1))))) else (none)) else ((folkmootref03_Union.f k x5).bind fun t254 => (some t254))
def folkmootref04_Owned.f (k : Nat) (l0 : List (S37)) (a1 : Int) : Option ((List (S35))) := folkmootref04_Owned.l0 k l0 a1 ([] : List (S35)) 0
set_option maxHeartbeats 8000000 in
set_option maxRecDepth 100000 in
theorem folkmootref04_Owned.calls (k : Nat) (A0 : Option Addr) (c0 : Nat) (l0 : List (S37)) (a1 : Int) (r : List (S35)) (w : World) (hr0 : Kd.C k37 w A0 l0.length l0) (hc0 : l0.length ≤ c0) (h : folkmootref04_Owned.f k l0 a1 = some r) :
    Calls Try.prog 28 #[.slice A0 l0.length c0, .int .i64 a1] w fun e w' => ∃ v0_ : Value, e = .returned (v0_) ∧ Kd.R k35 35 w' w.heap.size (fun _ => True) v0_ r ∧ Below w.heap.size w w' := by
  have hu35 := Try.underlying35
  have HR0 := Aside0.mk hr0
  have HC0 := Aside0.mk hc0
  clear hr0 hc0
  have HB := Aside0.mk (Below.refl w.heap.size w)
  have H : (folkmootref04_Owned.l0 k l0 a1 ([] : List (S35)) 0) = some r := h
  clear h
  have H' := Aside0.mk H
  clear H
  go_enter Try.func28, Try.ntmps28
  go_wp2
  go_loopg [5, 6] k (fun kq v5 v6 w' => ∃ (x5_1 : List (S35)) (x6_1 : Int), v6 = .int .i64 x6_1 ∧ Aside0 (folkmootref04_Owned.l0 kq l0 a1 x5_1 x6_1 = some r) ∧ Aside0 (kq ≤ k) ∧ Aside0 (Kd.R k35 35 w' w.heap.size (fun _ => True) v5 x5_1) ∧ Aside0 (Below w.heap.size w w'))
  case atStart => exact ⟨(([] : List (S35))), (0), (by first | rfl | (simp; done) | (simp [*]; done)), H', ⟨Nat.le_refl _⟩, ⟨by first | exact Kd.R_nil _ _ _ _ _ | exact Kd.N_nil _ _ _ _ _ | exact Kd.V_nil _ _ _ _ _ | exact Kd.Q_nil _ _ _ _ _ | exact Kd.S_nil _ _ _ _ _⟩, ⟨by repeat (first | (with_reducible first | exact HB.out | apply below_alloc | apply pw_below_drewN | apply below_drew1) | exact HB.out)⟩⟩
  case round =>
    clear H'
    try clear c2
    try clear p2
    obtain ⟨x5_1, x6_1, rfl, HA, HK1, HO_5, HB⟩ := hrel
    cases gk with
    | zero => exact absurd HA.out (by simp [folkmootref04_Owned.l0])
    | succ k1 =>
      have H := HA.out
      clear HA
      simp only [folkmootref04_Owned.l0] at H
      by_cases c3 : x6_1 < (l0.length : Int)
      · rw [if_pos c3] at H
        have c3b0 : decide (x6_1 < (l0.length : Int)) = true := decide_eq_true c3
        clear c3
        by_cases c4 : 0 ≤ x6_1
        · rw [if_pos c4] at H
          have c4b0 : decide (0 ≤ x6_1) = true := decide_eq_true c4
          clear c4
          replace H := Option.bind_eq_some_iff.mp H
          obtain ⟨t249, A50, H⟩ := H
          replace H : (if t249 = true then (if x5_1.length < 4398046511104 then (folkmootref04_Owned.l0 k1 l0 a1 (x5_1 ++ [(⟨(rd_T37 l0 x6_1).f0.f0, (rd_T37 l0 x6_1).f0.f1⟩ : S35)]) (wrap64 (x6_1 + 1))) else (none)) else (folkmootref04_Owned.l0 k1 l0 a1 x5_1 (wrap64 (x6_1 + 1)))) = some r := H
          have A5 := Aside0.mk A50
          clear A50
          by_cases c6 : t249 = true
          · subst c6
            have H1 : (if x5_1.length < 4398046511104 then (folkmootref04_Owned.l0 k1 l0 a1 (x5_1 ++ [(⟨(rd_T37 l0 x6_1).f0.f0, (rd_T37 l0 x6_1).f0.f1⟩ : S35)]) (wrap64 (x6_1 + 1))) else (none)) = some r := by rw [if_pos rfl] at H; exact H
            clear H
            have H := H1
            clear H1
            by_cases c7 : x5_1.length < 4398046511104
            · rw [if_pos c7] at H
              have LMc7 := Aside0.mk c7
              clear c7
              obtain ⟨y251, hy251⟩ : ∃ y_ : List (S35), y_ = (x5_1 ++ [(⟨(rd_T37 l0 x6_1).f0.f0, (rd_T37 l0 x6_1).f0.f1⟩ : S35)]) := ⟨_, rfl⟩
              replace H : (folkmootref04_Owned.l0 k1 l0 a1 y251 (wrap64 (x6_1 + 1))) = some r := by first | (rw [hy251]; with_reducible exact H) | (have H2_ := (Option.bind_some _ _).symm.trans H; rw [hy251]; with_reducible exact H2_) | (have H2_ := (Option.bind_some _ _).symm.trans H; with_reducible exact H2_) | with_reducible exact H | (rw [hy251]; exact H) | exact H
              have Ny251 := Aside0.mk hy251
              clear hy251
              have H' := Aside0.mk H
              clear H
              have p248 : 0 ≤ (x6_1 : Int) := of_decide_eq_true (by first | (with_reducible assumption) | assumption)
              have q248 : x6_1 < (l0.length : Int) := of_decide_eq_true (by first | (with_reducible assumption) | assumption)
              obtain ⟨ad248, A248_2, c248_2, e248, hx248_0, hx248_1, hx248_2, hl248_2, hi248_2⟩ := at_T37 HR0.out x6_1 p248 q248
              cases e248
              replace hx248_0 := (HB.out.cell (World.block_lt_of_cell? w _ hx248_0)).trans hx248_0
              replace hx248_1 := (HB.out.cell (World.block_lt_of_cell? w _ hx248_1)).trans hx248_1
              replace hx248_2 := (HB.out.cell (World.block_lt_of_cell? w _ hx248_2)).trans hx248_2
              have HR248_2 := Aside0.mk hi248_2
              have HC248_2 := Aside0.mk hl248_2
              clear hi248_2 hl248_2
              replace p248 := eq_true p248
              replace q248 := eq_true q248
              go_wp2_with (first | ((with_reducible refine gate_callee (f := 20) rfl ?_); refine goesL_ (some 19) rfl rfl Try.func20 (by kernel_rfl) rfl #[.slice A248_2 ((rd_T37 l0 x6_1).f1).length c248_2, .int .i64 a1] rfl (by (try simp only [List.map_toArray, List.map_cons, List.map_nil]); first | done | rfl | (simp only [List.length_drop, List.length_take]; rfl)) ?_; (with_reducible refine (folkmootref04_In.calls k1 _ _ ((rd_T37 l0 x6_1).f1) a1 true _ ?side1 ?side2 A5.out).mono ?_); (case side1 => exact uC (Kd.C_below HR248_2.out HB.out)); (case side2 => exact HC248_2.out); rintro e w' ⟨rfl, ⟨nd, rfl⟩⟩; refine ⟨_, rfl, ?_⟩; have p250 : 0 ≤ (x6_1 : Int) := of_decide_eq_true (by first | (with_reducible assumption) | assumption); have q250 : x6_1 < (l0.length : Int) := of_decide_eq_true (by first | (with_reducible assumption) | assumption); obtain ⟨ad250, A250_2, c250_2, e250, hx250_0, hx250_1, hx250_2, hl250_2, hi250_2⟩ := at_T37 HR0.out x6_1 p250 q250; obtain rfl : ad248 = ad250 := (by injection e250); replace hx250_0 := (HB.out.cell (World.block_lt_of_cell? w _ hx250_0)).trans hx250_0; replace hx250_1 := (HB.out.cell (World.block_lt_of_cell? w _ hx250_1)).trans hx250_1; replace hx250_2 := (HB.out.cell (World.block_lt_of_cell? w _ hx250_2)).trans hx250_2; have HR250_2 := Aside0.mk hi250_2; have HC250_2 := Aside0.mk hl250_2; clear hi250_2 hl250_2; replace p250 := eq_true p250; replace q250 := eq_true q250; have ea_ := Option.some.inj (hx248_2.symm.trans hx250_2); injection ea_ with ea_ en_ ec_; subst ea_; subst ec_; clear en_) | ((with_reducible refine gate_builtin (b := .append) (xs := #[.tmp 20, .tmp 26]) rfl ?_); at_builtin; refine Kd.R_append k35 (w0 := w) w.heap.size rfl (.tmp 20) (.tmp 26) 30 35 (.agg #[(.string ⟨#[]⟩), (.string ⟨#[]⟩)]) 32 rfl Try.underlying30 info35 rfl (by decide) (by omega) u5 x5_1 (⟨(rd_T37 l0 x6_1).f0.f0, (rd_T37 l0 x6_1).f0.f1⟩ : S35) [.string ((rd_T37 l0 x6_1).f0.f0), .string ((rd_T37 l0 x6_1).f0.f1)] (fun _ => True) (fun _ => False) rfl rfl ?aP (fun _ hk => hk.elim) ?aF ?aO ?aB ?aS ?aL ?_; (case aP => exact k35_mkM _ _ _ (⟨(rd_T37 l0 x6_1).f0.f0, (rd_T37 l0 x6_1).f0.f1⟩ : S35)); (case aB => exact (uB HB)); (case aF => exact (fun _ _ => trivial)); (case aO => exact (uR HO_5)); (case aS => exact (below_size (uB HB))); (case aL => have := LMc7.out; omega); intro v252 w8 ho hb hg hat; rw [← Ny251.out] at ho; have n0_ := Aside0.mk (hb); have n1_ := Aside0.mk (ho); clear HB; clear HO_5; have HB := n0_; have HO253 := n1_; clear n0_ n1_; clear ho hb hg hat))
              go_roundg k1
              case measure => have := HK1.out; omega
              case rel => exact ⟨(y251), (wrap64 (x6_1 + 1)), (by first | rfl | (simp; done) | (simp [*]; done)), H', ⟨by have := HK1.out; omega⟩, ⟨by (with_reducible repeat (first | apply Kd.R_alloc | apply Kd.R_drewN | apply Kd.R_drew)); exact HO253.out⟩, ⟨by repeat (first | (with_reducible first | exact HB.out | apply below_alloc | apply pw_below_drewN | apply below_drew1) | exact HB.out)⟩⟩
            · rw [if_neg c7] at H
              exact absurd H (by simp)
          · replace c6 := Bool.eq_false_iff.mpr c6
            subst c6
            have H1 : (folkmootref04_Owned.l0 k1 l0 a1 x5_1 (wrap64 (x6_1 + 1))) = some r := by rw [if_neg (show ¬ (false = true) by decide)] at H; exact H
            clear H
            have H := H1
            clear H1
            have H' := Aside0.mk H
            clear H
            have p248 : 0 ≤ (x6_1 : Int) := of_decide_eq_true (by first | (with_reducible assumption) | assumption)
            have q248 : x6_1 < (l0.length : Int) := of_decide_eq_true (by first | (with_reducible assumption) | assumption)
            obtain ⟨ad248, A248_2, c248_2, e248, hx248_0, hx248_1, hx248_2, hl248_2, hi248_2⟩ := at_T37 HR0.out x6_1 p248 q248
            cases e248
            replace hx248_0 := (HB.out.cell (World.block_lt_of_cell? w _ hx248_0)).trans hx248_0
            replace hx248_1 := (HB.out.cell (World.block_lt_of_cell? w _ hx248_1)).trans hx248_1
            replace hx248_2 := (HB.out.cell (World.block_lt_of_cell? w _ hx248_2)).trans hx248_2
            have HR248_2 := Aside0.mk hi248_2
            have HC248_2 := Aside0.mk hl248_2
            clear hi248_2 hl248_2
            replace p248 := eq_true p248
            replace q248 := eq_true q248
            go_wp2_with (first | ((with_reducible refine gate_callee (f := 20) rfl ?_); refine goesL_ (some 19) rfl rfl Try.func20 (by kernel_rfl) rfl #[.slice A248_2 ((rd_T37 l0 x6_1).f1).length c248_2, .int .i64 a1] rfl (by (try simp only [List.map_toArray, List.map_cons, List.map_nil]); first | done | rfl | (simp only [List.length_drop, List.length_take]; rfl)) ?_; (with_reducible refine (folkmootref04_In.calls k1 _ _ ((rd_T37 l0 x6_1).f1) a1 false _ ?side1 ?side2 A5.out).mono ?_); (case side1 => exact uC (Kd.C_below HR248_2.out HB.out)); (case side2 => exact HC248_2.out); rintro e w' ⟨rfl, ⟨nd, rfl⟩⟩; refine ⟨_, rfl, ?_⟩))
            go_roundg k1
            case measure => have := HK1.out; omega
            case rel => exact ⟨(x5_1), (wrap64 (x6_1 + 1)), (by first | rfl | (simp; done) | (simp [*]; done)), H', ⟨by have := HK1.out; omega⟩, ⟨by (with_reducible repeat (first | apply Kd.R_alloc | apply Kd.R_drewN | apply Kd.R_drew)); exact HO_5.out⟩, ⟨by repeat (first | (with_reducible first | exact HB.out | apply below_alloc | apply pw_below_drewN | apply below_drew1) | exact HB.out)⟩⟩
        · rw [if_neg c4] at H
          exact absurd H (by simp)
      · rw [if_neg c3] at H
        have c3b0 : decide (x6_1 < (l0.length : Int)) = false := decide_eq_false c3
        clear c3
        replace H := Option.bind_eq_some_iff.mp H
        obtain ⟨t254, A90, H⟩ := H
        replace H : (some t254) = some r := H
        have A9 := Aside0.mk A90
        clear A90
        obtain rfl := Option.some.inj H
        obtain ⟨Ao10, co10, eo10⟩ := Kd.R_slice HO_5.out
        subst eo10
        go_wp2_with (first | ((with_reducible refine gate_callee (f := 17) rfl ?_); refine goesL_ (some 29) rfl rfl Try.func17 (by kernel_rfl) rfl #[.slice Ao10 x5_1.length co10] rfl (by (try simp only [List.map_toArray, List.map_cons, List.map_nil]); first | done | rfl | (simp only [List.length_drop, List.length_take]; rfl)) ?_; (with_reducible refine (folkmootref03_Union.calls k1 _ _ x5_1 t254 _ ?side1 ?side2 A9.out).mono ?_); (case side1 => exact uC (Kd.R_reads' HO_5.out).2.2); (case side2 => exact (Kd.R_reads' HO_5.out).2.1); rintro e w11 ⟨v255, rfl, ho0, hb⟩; refine ⟨_, rfl, ?_⟩; have HO256 := lR (nR ho0 HO_5) HB; replace HO_5 := eR HO_5 ho0 hb; replace HB := sB HB hb; (try clear hb); (try clear hb2); (try clear hk); (try clear hi); (try clear ho0)))
        go_ret
        exact ⟨_, by first | rfl | (simp [errW_none, errW_some] <;> rfl) | (simp [*, errW_none, errW_some] <;> rfl), by (with_reducible repeat (first | apply Kd.R_alloc | apply Kd.R_drewN | apply Kd.R_drew)); exact Kd.R_mono HO256.out (fun _ hk => trivial), by repeat (first | (with_reducible first | exact HB.out | apply below_alloc | apply pw_below_drewN | apply below_drew1) | exact HB.out)⟩
end Go.Proofs.Ytaedgbkeiankcaa.P
