/- Texts of the proofs of TopoOnce, TopoTells, TopoTouches, TopoWhole, merged (PUo, SpM). -/
import Derived.Test.YtaedgbkeiankcaaGc82107f1
import Derived.Test.YtaedgbkeiankcaaG5c64a3a1
import Derived.Deep.RegionHeld3
import Derived.Deep.LoopGhost
/- Plain: an element read; what span.Union comes to. -/
namespace Go.Proofs.Ytaedgbkeiankcaa.P
open Go.RowKit Go.Proofs.YtaedgbkeiankcaaW.PrintWords
set_option linter.unusedVariables false

theorem rd_at (l : List S35) (i : Nat) (hi : i < l.length) : rd_T35 l (i : Int) = l[i] := by simp [rd_T35, List.getD_eq_getElem?_getD, hi]
theorem union_of (l : List S35) : Sp.Of ((l.filter fullSp).map toSp) ((unionL l).map toSp) := (union_one l _ (List.mergeSort_perm _ _) (sorted_rises _)).2
end Go.Proofs.Ytaedgbkeiankcaa.P
/- Contracts: the reference's marks. -/
namespace Go.Proofs.Ytaedgbkeiankcaa.P
open Go.RowKit
open Go.Proofs.YtaedgbkeiankcaaW.PrintWords (Kd)
set_option linter.unusedVariables false

def strs (l : List ByteArray) : List Value := l.map Value.string
theorem strs_one (l : List ByteArray) : ∀ u ∈ strs l, u.oneCell' = true := by
  intro u hu
  obtain ⟨_, _, rfl⟩ := List.mem_map.1 hu
  rfl
theorem strs_len (l : List ByteArray) : (strs l).length = l.length := List.length_map _
/-- a text laid at its place, once -/
def insM (t : ByteArray) : List ByteArray → List ByteArray
  | [] => [t]
  | x :: l => if Op.bytesLess x.toList t.toList = true then x :: insM t l else if x.toList = t.toList then x :: l else t :: x :: l
/-- how many lie ahead of it -/
def placeM (t : ByteArray) : List ByteArray → Nat
  | [] => 0
  | x :: l => if Op.bytesLess x.toList t.toList = true then placeM t l + 1 else 0
theorem place_le (t : ByteArray) (l : List ByteArray) : placeM t l ≤ l.length := by
  induction l with
  | nil => exact Nat.le_refl _
  | cons x l ih => unfold placeM; split <;> simp <;> omega
theorem place_at (t : ByteArray) (l : List ByteArray) (k : Nat) (hk : k < l.length) (h : k ≤ placeM t l) : (Op.bytesLess l[k].toList t.toList = true ↔ k < placeM t l) := by
  induction l generalizing k with
  | nil => simp at hk
  | cons x l ih =>
    unfold placeM at h ⊢
    by_cases c : Op.bytesLess x.toList t.toList = true
    · rw [if_pos c] at h ⊢
      cases k with
      | zero => simp [c]
      | succ k => simpa using ih k (by simpa using hk) (by omega)
    · rw [if_neg c] at h ⊢
      obtain rfl : k = 0 := by omega
      simp [c]
theorem insM_there (t : ByteArray) (l : List ByteArray) (h : placeM t l < l.length) (he : (l[placeM t l]'h).toList = t.toList) : insM t l = l := by
  induction l with
  | nil => simp at h
  | cons x l ih =>
    by_cases c : Op.bytesLess x.toList t.toList = true
    · have e : placeM t (x :: l) = placeM t l + 1 := by rw [placeM, if_pos c]
      have hl : placeM t l < l.length := by rw [e] at h; simpa using h
      have he' : (l[placeM t l]'hl).toList = t.toList := by
        have : (x :: l)[placeM t (x :: l)]'h = l[placeM t l]'hl := by simp only [e, List.getElem_cons_succ]
        rw [← this]; exact he
      unfold insM
      rw [if_pos c, ih hl he']
    · have e : placeM t (x :: l) = 0 := by rw [placeM, if_neg c]
      have he' : x.toList = t.toList := by
        have : (x :: l)[placeM t (x :: l)]'h = x := by simp only [e, List.getElem_cons_zero]
        rw [← this]; exact he
      unfold insM
      rw [if_neg c, if_pos he']
theorem insM_new (t : ByteArray) (l : List ByteArray) (h : placeM t l = l.length ∨ ∃ hl : placeM t l < l.length, (l[placeM t l]'hl).toList ≠ t.toList) : insM t l = l.take (placeM t l) ++ [t] ++ l.drop (placeM t l) := by
  induction l with
  | nil => rfl
  | cons x l ih =>
    by_cases c : Op.bytesLess x.toList t.toList = true
    · have e : placeM t (x :: l) = placeM t l + 1 := by rw [placeM, if_pos c]
      unfold insM
      rw [if_pos c, e, ih (by
        rcases h with h | ⟨hl, h⟩
        · rw [e] at h; exact .inl (by simpa using h)
        · right
          have hl' : placeM t l < l.length := by rw [e] at hl; simpa using hl
          refine ⟨hl', ?_⟩
          have : (x :: l)[placeM t (x :: l)]'hl = l[placeM t l]'hl' := by simp only [e, List.getElem_cons_succ]
          rw [← this]; exact h)]
      simp
    · have e : placeM t (x :: l) = 0 := by rw [placeM, if_neg c]
      unfold insM
      rw [if_neg c, e]
      rcases h with h | ⟨hl, h⟩
      · rw [e] at h; simp at h
      · have : (x :: l)[placeM t (x :: l)]'hl = x := by simp only [e, List.getElem_cons_zero]
        rw [this] at h
        rw [if_neg h]
        rfl
theorem insM_len (t : ByteArray) (l : List ByteArray) : (insM t l).length ≤ l.length + 1 := by
  induction l with
  | nil => simp [insM]
  | cons x l ih => unfold insM; split <;> (try split) <;> simp <;> omega
/-- the texts of one span, after j of the two -/
def midM (out : List ByteArray) (x : S35) : Nat → List ByteArray
  | 0 => out
  | 1 => insM x.f0 out
  | _ => if x.f1.toList = [] then insM x.f0 out else insM x.f1 (insM x.f0 out)
def marksL (l : List S35) : List ByteArray := l.foldl (fun out x => midM out x 2) []
theorem marksL_take (l : List S35) (k : Nat) (hk : k < l.length) : marksL (l.take (k + 1)) = midM (marksL (l.take k)) l[k] 2 := by
  unfold marksL
  rw [List.take_succ_eq_append_getElem hk, List.foldl_append, List.foldl_cons, List.foldl_nil]
theorem midM_len (out : List ByteArray) (x : S35) (j : Nat) : (midM out x j).length ≤ out.length + 2 := by
  have h1 := insM_len x.f0 out
  have h2 := insM_len x.f1 (insM x.f0 out)
  match j with
  | 0 => simp [midM]
  | 1 => simp only [midM]; omega
  | j + 2 => simp only [midM]; split <;> omega
theorem marksL_len (l : List S35) (k : Nat) : (marksL (l.take k)).length ≤ 2 * k := by
  induction k with
  | zero => simp [marksL]
  | succ k ih =>
    by_cases h : k < l.length
    · rw [marksL_take l k h]
      have := midM_len (marksL (l.take k)) l[k] 2
      omega
    · rw [List.take_of_length_le (by omega)] at ih ⊢
      omega
theorem strs_at (l : List ByteArray) (k : Nat) (hk : k < l.length) : (strs l)[k]? = some (.string l[k]) := by simp [strs, hk]
theorem str_info : (Try.prog.info? 9).map (fun i => (i.zero, i.size, i.bytes)) = some (some (.string ⟨#[]⟩), 1, 16) := by kernel_rfl
theorem R_rawStr {w : World} {base : Nat} {v : Value} {l : List ByteArray} (h : w.ownsRow base 9 1 v l.length (strs l)) : Kd.R Kd.string 9 w base (fun _ => True) v l :=
  Kd.R_of_own h (fun _ _ => trivial)

theorem own_none' {w : World} {base p : Nat} {t : TypeId} {k : Nat} (hp : w.heap.size = p) (hb : base ≤ w.heap.size) : (w.alloc (.cells #[] t)).ownsRow base t k (.slice (some ⟨p, 0, none⟩) 0 0) 0 [] := by
  subst hp
  exact own_none w base hb t k
theorem str_cut (A : Option Addr) (n c q : Nat) (hq : q ≤ n) (W : World) : (Instr.slice 73 (.slice A n c) (some (.int .i64 (q : Int))) none none).run Try.prog W = .ok (.slice (if c = q then A else A.map (·.add (q * 1))) (n - q) (c - q)) W := by
  obtain ⟨i0, hi0, hz0, hz1, hz2⟩ := info_parts str_info
  have := Go.Proofs.YtaedgbkeiankcaaW.PrintWords.cut_from (P := Try.prog) 73 9 .i64 Try.underlying73 hi0 1 hz1 A n c q (by omega) (by omega) W
  rw [this]
  simp
theorem grown_ext {wr W W' : World} {row : Option Nat} (hE : Ext wr W) (hg : W.grownBy W' row) (hr : ∀ i, row = some i → wr.heap.size ≤ i) : Ext wr W' :=
  ⟨hg.os.trans hE.os, hg.tape.trans hE.tape, hg.output.trans hE.output, Nat.le_trans hE.size hg.size, fun i hi => (hg.block i (Nat.lt_of_lt_of_le hi hE.size) (fun e => by have := hr i e.symm; omega)).trans (hE.block i hi)⟩
theorem own_cap {w : World} {base : Nat} {e : TypeId} {size n : Nat} {v : Value} {xs : List Value} (h : w.ownsRow base e size v n xs) : ∃ A c, v = .slice A n c ∧ n ≤ c := by
  obtain ⟨_, ⟨rfl, rfl⟩ | ⟨g, cap, cur, rfl, _, _, h, _⟩⟩ := h
  · exact ⟨_, _, rfl, Nat.le_refl _⟩
  · exact ⟨_, _, rfl, h⟩
theorem str_upto (A : Option Addr) (n c q : Nat) (hq : q ≤ n) (hc : n ≤ c) (W : World) : (Instr.slice 73 (.slice A n c) none (some (.int .i64 (q : Int))) none).run Try.prog W = .ok (.slice A q c) W := by
  obtain ⟨i0, hi0, hz0, hz1, hz2⟩ := info_parts str_info
  have := Go.Proofs.YtaedgbkeiankcaaW.PrintWords.cut_to (P := Try.prog) 73 9 .i64 Try.underlying73 hi0 A n c q (by omega) (by omega) hc W
  rw [this]
  simp
theorem blk_new' {W : World} {p : Nat} {t : TypeId} {cs : Array Value} (hp : W.heap.size = p) : Blk (W.alloc (.cells cs t)) p t cs := by
  subst hp
  exact Blk.new _ _ _
theorem blk_reads {w : World} {g : Nat} {cs : List Value} {t : TypeId} (h : Blk w g t cs.toArray) : Reads w (g + 1) 1 (some ⟨g, 0, none⟩) cs.length cs :=
  ⟨by simp, fun _ => ⟨_, rfl, Nat.lt_succ_self _, fun j v hv => by
    have : (⟨g, 0, none⟩ : Addr).add j = ⟨g, j, none⟩ := by unfold Addr.add; split <;> simp_all
    rw [this, h.cell, List.getElem?_toArray, hv]⟩⟩
theorem reads_kept {W w' : World} {v : Value} (h : ∀ g t cs, Blk W g t cs → v.ownBlock ≠ some g → Blk w' g t cs) {p : Nat} {t : TypeId} {x : ByteArray} (hb : Blk W p t #[.string x]) (hn : v.ownBlock ≠ some p) : Reads w' (p + 1) 1 (some ⟨p, 0, none⟩) 1 (strs [x]) :=
  blk_reads (cs := [.string x]) (h _ _ _ hb hn)
theorem step_strs {ops : Array Oper} {o : Oper} {a : Act} {K : Act → World → Prop} {Q : Exit → Act → World → Prop} {E : Prop} (hgd : o.guard = none) (s x : Operand)
    (ho : o.op = .call { callee := .builtin .append, args := #[s, x], argTypes := #[73, 73] }) {wr W : World} (hE : Ext wr W)
    (v : Value) (n : Nat) (xs : List ByteArray) (hs : a.eval s = v) (hown : W.ownsRow wr.heap.size 9 1 v n (strs xs))
    (B : Nat) (A : Option Addr) (m c : Nat) (news : List ByteArray) (hx : a.eval x = .slice A m c) (hr : Reads W B 1 A m (strs news)) (h63 : n + m ≤ 4398046511104)
    (h : ∀ v' w', Ext wr w' → w'.ownsRow wr.heap.size 9 1 v' (n + m) (strs (xs ++ news)) → (∀ g t cs, Blk W g t cs → v.ownBlock ≠ some g → Blk w' g t cs) → K (a.put o.dst v') w') :
    if Region.wanted o (yielded ops a.tmps) = true then Oper.wp Try.prog o a W K Q else E := by
  obtain ⟨i0, hi0, hz0, hz1, hz2⟩ := info_parts str_info
  refine step_append_any W hgd s x 73 ho wr.heap.size 9 i0 _ 1 16 Try.underlying73 hi0 hz0 hz1 hz2 rfl (by omega) v n (strs xs) hs hown B A m c (strs news) hx hr (strs_one _) (by unfold maxLen; omega) (by omega) hE.size ?_
  intro v' w' h1 h2 h3
  refine h v' w' (grown_ext hE h2 (fun i hi => (hown.lt i hi).1)) (by rw [strs, List.map_append]; exact h1) (fun g t cs hb hne => (h2.block g hb.lt (fun e => hne e.symm)).trans hb)
theorem reads_take {w : World} {B : Nat} {A : Option Addr} {l : List ByteArray} {q : Nat} (h : Reads w B 1 A l.length (strs l)) (hq : q ≤ l.length) : Reads w B 1 A q (strs (l.take q)) :=
  ⟨by rw [strs_len, List.length_take]; omega, fun hn => by
    obtain ⟨ad, e, hb, hc⟩ := h.2 (by omega)
    refine ⟨ad, e, hb, fun j u hu => hc j u ?_⟩
    rw [strs, List.map_take, List.getElem?_take] at hu
    split at hu
    · exact hu
    · cases hu⟩
theorem reads_drop {w : World} {B : Nat} {A : Option Addr} {l : List ByteArray} {q c : Nat} (h : Reads w B 1 A l.length (strs l)) (hq : q ≤ l.length) (hc : l.length ≤ c) : Reads w B 1 (if c = q then A else A.map (·.add (q * 1))) (l.length - q) (strs (l.drop q)) := by
  have := h.cut (k := q) (cap := c) hq hc
  simp only [Nat.mul_one, strs, List.map_drop] at this ⊢
  exact this
theorem midM_step (out : List ByteArray) (xf xt : ByteArray) (m : Nat) (hm : m < 2) (h : ¬ (m = 1 ∧ xt.toList = [])) : midM out ⟨xf, xt⟩ (m + 1) = insM (if m = 0 then xf else xt) (midM out ⟨xf, xt⟩ m) := by
  match m, hm with
  | 0, _ => rfl
  | 1, _ => simp only [midM]; rw [if_neg (fun e => h ⟨rfl, e⟩)]; rfl
def MarksPost (r : List ByteArray) (w : World) (e : Ending) (w' : World) : Prop := ∃ v0, e = .returned v0 ∧ Kd.R Kd.string 9 w' w.heap.size (fun _ => True) v0 r ∧ Ext w w'
abbrev OwnT (w : World) (base : Nat) (v : Value) (l : List ByteArray) : Prop := w.ownsRow base 9 1 v l.length (strs l)
theorem own_mono {w : World} {base base' : Nat} {e : TypeId} {size : Nat} {v : Value} {n : Nat} {xs : List Value} (h : w.ownsRow base e size v n xs) (hb : base' ≤ base) : w.ownsRow base' e size v n xs := by
  obtain ⟨h0, h1 | ⟨g, cap, cur, h2, h3, h4⟩⟩ := h
  · exact ⟨h0, .inl h1⟩
  · exact ⟨h0, .inr ⟨g, cap, cur, h2, Nat.le_trans hb h3, h4⟩⟩
theorem own_ins {w : World} {base n q : Nat} {v : Value} {t : ByteArray} {cur : List ByteArray} (h : w.ownsRow base 9 1 v n (strs ([] ++ cur.take q ++ [t] ++ cur.drop q))) : OwnT w base v (cur.take q ++ [t] ++ cur.drop q) := by
  have hl := h.1
  rw [strs_len, Nat.mul_one] at hl
  subst hl
  exact h
theorem own_ins' {w : World} {base n : Nat} {v : Value} {t : ByteArray} {cur : List ByteArray} (h : w.ownsRow base 9 1 v n (strs ([] ++ cur.take cur.length ++ [t] ++ []))) : OwnT w base v (cur.take cur.length ++ [t] ++ cur.drop cur.length) :=
  own_ins (by rw [List.drop_length]; exact h)
set_option maxHeartbeats 16000000 in
set_option maxRecDepth 100000 in
theorem marks_walk (A0 : Option Addr) (c0 : Nat) (l : List S35) (w : World) (hr0 : Kd.C k35 w A0 l.length l) (hc0 : l.length ≤ c0) (hl : l.length < 1099511627776) :
    Calls Try.prog 55 #[.slice A0 l.length c0] w (MarksPost (marksL l) w) := by
  have HR0 := Lib.hid (C_rawSp hr0)
  clear hr0
  obtain ⟨i0, hi0, hz0, hz1, hz2⟩ := info_parts str_info
  have HI0 := Lib.hid hi0
  have HZ0 := Lib.hid hz0
  have HZ1 := Lib.hid hz1
  have HZ2 := Lib.hid hz2
  clear hi0 hz0 hz1 hz2
  go_enter Try.func55, Try.ntmps55
  go_wp2
  go_loopw [3, 4] (fun o i wr => ∃ k : Nat, k ≤ l.length ∧ i = .int .i64 k ∧ Hid (OwnT wr w.heap.size o (marksL (l.take k))) ∧ Hid (Ext w wr)) (fun _ i _ => l.length - (intOf i).toNat)
  case atStart => exact ⟨0, by omega, rfl, Lib.hid (World.ownsRow_nil _ _ _ _), Lib.hid (Ext.refl _)⟩
  case round =>
    obtain ⟨k, hk, rfl, HO, HX⟩ := hrel
    by_cases hlt : k < l.length
    · have hltz : (k : Int) < (l.length : Int) := by omega
      have hml := marksL_len l k
      have HT := Lib.hid (marksL_take l k hlt)
      obtain ⟨ad, rfl, had, hcell⟩ := HR0.out.2 (by rw [List.length_map]; omega)
      have hcl : ∀ i u, (encSp l[k])[i]? = some u → wr.cell? (ad.add (k * 2 + i)) = some u := fun i u hu => by
        have hi : i < 2 := (List.getElem?_eq_some_iff.1 hu).1
        have h0 := hcell (k * 2 + i) u (by have := (wideSp l).at_ k (by simpa using hlt) i hi []; rw [List.append_nil, List.getElem_map] at this; rw [this]; exact hu)
        rw [← h0]
        exact HX.out.below.cell (by rw [block_of_add]; exact had)
      have f0 := hcl 0 _ rfl
      have f1 := hcl 1 _ rfl
      rw [Nat.add_zero] at f0
      rw [add_plus _ _ 1 (by omega)] at f1
      generalize hx : l[k] = x at *
      generalize marksL (l.take k) = out at *
      obtain ⟨xf, xt⟩ := x
      clear hx hcl hcell
      dsimp only at f0 f1
      have hbl := HX.out.below.size
      go_wp2
      refine wp_region_still_tail 10 (by kernel_rfl) (by kernel_rfl) ?_
      simp only [List.take_succ_cons, List.take_zero, List.drop_succ_cons, List.drop_zero, World.drew_eq]
      repeat still_step
      try refine wpStill_nil ?_
      go_wp2
      have HB0 : Hid (Blk ((wr.alloc (.cells #[.string xf, .string xt] 9)).drew) wr.heap.size 9 #[.string xf, .string xt]) := Lib.hid (Blk.new _ _ _)
      have HX0 := Lib.hid ((HX.out.alloc (.cells #[.string xf, .string xt] 9)).drew)
      have HO0 := Lib.hid (own_ext HO.out (((Ext.refl wr).alloc (.cells #[.string xf, .string xt] 9)).drew))
      have HN0 := Lib.hid (fun i (hi : u3.ownBlock = some i) => (show i ≠ wr.heap.size from by have := (HO.out.lt i hi).2; omega))
      generalize hgb : wr.heap.size = gb at *
      generalize hW0 : (wr.alloc (.cells #[.string xf, .string xt] 9)).drew = W0 at *
      have hcl : out.length < 4398046511104 - 4 := by omega
      clear hW0 hgb
      go_loopw [3, 6] (fun o j w2 => ∃ m : Nat, m ≤ 2 ∧ j = .int .i64 m ∧ Hid (OwnT w2 w.heap.size o (midM out ⟨xf, xt⟩ m)) ∧ Hid (Ext w w2) ∧ Hid (Blk w2 gb 9 #[.string xf, .string xt]) ∧ Hid (∀ i, o.ownBlock = some i → i ≠ gb)) (fun _ j _ => 2 - (intOf j).toNat)
      case atStart => exact ⟨0, by omega, rfl, HO0, HX0, HB0, HN0⟩
      case round =>
        obtain ⟨m, hm, rfl, HO2, HX2, HB2, HN2⟩ := hrel
        clear HO0 HX0 HB0 HN0
        rename World => wz
        by_cases hm2 : m < 2
        · have hm2z : (m : Int) < 2 := by omega
          have hcl2 := midM_len out ⟨xf, xt⟩ m
          have c1 : wz.cell? ⟨gb, 1, none⟩ = some (.string xt) := HB2.out.cell 1
          have hgl := HB2.out.lt
          by_cases hc : m = 1 ∧ xt.toList = []
          · have b1 : ((m : Int) == 1) = true := by rw [hc.1]; rfl
            have b2 : (xt.toList == ([] : List UInt8)) = true := by rw [hc.2]; rfl
            have hstep : midM out ⟨xf, xt⟩ (m + 1) = midM out ⟨xf, xt⟩ m := by rw [hc.1]; simp only [midM]; rw [if_pos hc.2]
            have HS := Lib.hid hstep
            clear hc hstep
            go_wp2
            go_roundw
            case rel => exact ⟨m + 1, by omega, by go_num, by rw [HS.out]; exact HO2, HX2, HB2, HN2⟩
            case measure => simp [intOf]; omega
          · have HS := Lib.hid (midM_step out xf xt m hm2 hc)
            have hcm : wz.cell? ⟨gb, m, none⟩ = some (.string (if m = 0 then xf else xt)) := by
              match m, hm2 with
              | 0, _ => exact HB2.out.cell 0
              | 1, _ => exact HB2.out.cell 1
            have hbt : (((m : Int) == 1) = true ∧ (xt.toList == ([] : List UInt8)) = false) ∨ ((m : Int) == 1) = false := by
              by_cases e : m = 1
              · left
                refine ⟨by rw [e]; rfl, beq_eq_false_iff_ne.2 (fun h => hc ⟨e, h⟩)⟩
              · right
                exact beq_eq_false_iff_ne.2 (by omega)
            generalize (if m = 0 then xf else xt) = t at *
            generalize hcur : midM out ⟨xf, xt⟩ m = cur at *
            have HC := Lib.hid hcur
            clear hcur hc
            obtain ⟨A3, c3, rfl, hcc⟩ := own_cap HO2.out
            have hple := place_le t cur
            have HPA := Lib.hid (place_at t cur)
            have HF : Hid (∀ W, Ext wz W → OwnT W w.heap.size (.slice A3 cur.length c3) cur ∧ Ext w W ∧ Blk W gb 9 #[.string xf, .string xt] ∧ W.cell? ⟨gb, m, none⟩ = some (.string t)) :=
              Lib.hid fun W hW => ⟨own_ext HO2.out hW, HX2.out.trans hW, HB2.out.chs (S := fun _ => False) (.of_ext hW) (fun e => e), hW.below.cell (p := ⟨gb, m, none⟩) hgl |>.trans hcm⟩
            have HC3 : Hid (∀ (q : Nat) (hq : q < cur.length) (W : World), Ext wz W → ∃ g, A3 = some ⟨g, 0, none⟩ ∧ g ≠ gb ∧ W.cell? ⟨g, q, none⟩ = some (.string cur[q])) := Lib.hid fun q hq W hW => by
              obtain ⟨g, c4, e, _, _, _⟩ := own_some HO2.out (by omega)
              injection e with e _ _
              refine ⟨g, e, HN2.out g (by rw [e]; rfl), ?_⟩
              subst e
              obtain ⟨ad3, e3, _, hc3⟩ := (Reads.of_own (own_ext HO2.out hW)).2 (by omega)
              injection e3 with e3
              subst e3
              have := hc3 q _ (strs_at cur q hq)
              have e4 : (⟨g, 0, none⟩ : Addr).add q = ⟨g, q, none⟩ := by unfold Addr.add; split <;> simp_all
              rwa [e4] at this
            have HR3 : Hid (∀ W, Ext wz W → Reads W wz.heap.size 1 A3 cur.length (strs cur)) := Lib.hid fun W hW => (Reads.of_own HO2.out).below hW.below
            clear hcm
            have hcl3 : cur.length < 4398046511104 - 1 := by omega
            clear hcl2
            rcases hbt with ⟨b1, b2⟩ | b1
            all_goals
              go_wp2
              go_loopw [7] (fun kk w3 => ∃ q : Nat, q ≤ placeM t cur ∧ kk = .int .i64 q ∧ Hid (Ext wz w3)) (fun kk _ => cur.length + 1 - (intOf kk).toNat)
              case atStart => exact ⟨0, by omega, rfl, Lib.hid (Ext.refl _)⟩
              case round =>
                obtain ⟨q, hq, rfl, HE⟩ := hrel
                obtain ⟨_, _, hB4, hct⟩ := HF.out _ HE.out
                have hn0 : (0 : Int) ≤ (m : Int) := by omega
                have hn2 : (m : Int) < 2 := by omega
                by_cases hql : q < cur.length
                · have hqlz : (q : Int) < (cur.length : Int) := by omega
                  have hdq : decide ((q : Int) < (cur.length : Int)) = true := decide_eq_true hqlz
                  have heq : ((q : Int) == (cur.length : Int)) = false := beq_eq_false_iff_ne.2 (by omega)
                  obtain ⟨g, rfl, hgne, hcq⟩ := HC3.out q hql _ HE.out
                  have HPq := Lib.hid (HPA.out q hql hq)
                  by_cases hls : Op.bytesLess cur[q].toList t.toList = true
                  · have hq1 : q < placeM t cur := HPq.out.1 hls
                    generalize cur[q] = y at *
                    go_wp2
                    go_quiet (fail)
                    go_wp2
                    go_roundw
                    case rel => exact ⟨q + 1, by omega, by go_num, Lib.hid (HE.out.drewN _)⟩
                    case measure => simp [intOf]; omega
                  · have hq1 : ¬ q < placeM t cur := fun h => hls (HPq.out.2 h)
                    obtain rfl : q = placeM t cur := by omega
                    generalize hp : placeM t cur = q at *
                    have hlf : Op.bytesLess cur[q].toList t.toList = false := by simpa using hls
                    by_cases he : cur[q].toList = t.toList
                    · have heb : (cur[q].toList == t.toList) = true := beq_iff_eq.2 he
                      have HI := Lib.hid (insM_there t cur (by rw [hp]; exact hql) (by simp only [hp]; exact he))
                      generalize cur[q] = y at *
                      clear he hls
                      go_wp2
                      go_quiet (fail)
                      go_wp2
                      go_quiet (fail)
                      go_wp2
                      go_roundw
                      case rel => exact ⟨m + 1, by omega, by go_num, by rw [HS.out, HI.out]; exact own_ext HO2.out (HE.out.drewN _), HX2.out.trans (HE.out.drewN _) |> Lib.hid, HB2.out.ext (HE.out.drewN _) |> Lib.hid, HN2⟩
                      case measure => simp [intOf]; omega
                    · have heb : (cur[q].toList == t.toList) = false := beq_eq_false_iff_ne.2 he
                      have HI := Lib.hid (insM_new t cur (.inr ⟨by rw [hp]; exact hql, by simp only [hp]; exact he⟩))
                      generalize cur[q] = y at *
                      clear he hls
                      go_wp2
                      go_quiet (fail)
                      go_wp2
                      go_quiet (fail)
                      go_wp2
                      have cutA := fun W => str_upto (some ⟨g, 0, none⟩) cur.length c3 q (by omega) hcc W
                      obtain ⟨AD, cutB, HRd⟩ : ∃ AD, (∀ W, (Instr.slice 73 (.slice (some ⟨g, 0, none⟩) cur.length c3) (some (.int .i64 (q : Int))) none none).run Try.prog W = .ok (.slice AD (cur.length - q) (c3 - q)) W) ∧ Hid (∀ W, Ext wz W → Reads W wz.heap.size 1 AD (cur.length - q) (strs (cur.drop q))) :=
                        ⟨_, fun W => str_cut _ cur.length c3 q (by omega) W, Lib.hid fun W hW => reads_drop (HR3.out W hW) (by omega) hcc⟩
                      have HRt := Lib.hid (fun W (hW : Ext wz W) => reads_take (q := q) (HR3.out W hW) (by omega))
                      have hq4 : (q : Int) ≤ (cur.length : Int) := by omega
                      have hq0 : (0 : Int) ≤ (q : Int) := by omega
                      go_region_held3 (fun W => W.cell? ⟨gb, m, none⟩ = some (.string t)) (exact (HF.out _ (by repeat first | assumption | exact Lib.Hid.out (by assumption) | apply Ext.drew | apply Ext.drewN | apply Ext.alloc)).2.2.2) ((first
                        | (have _h := ho5; clear _h; refine step_strs (by rfl) _ _ (by rfl) (wr := wz) (by repeat first | assumption | exact Lib.Hid.out (by assumption) | apply Ext.drew | apply Ext.drewN | apply Ext.alloc) v5 _ _ (by rfl) ho5 _ _ _ _ _ (by rfl) (HRd.out _ (by repeat first | assumption | exact Lib.Hid.out (by assumption) | apply Ext.drew | apply Ext.drewN | apply Ext.alloc)) (by omega) ?_; intro v6 w6 hE6 ho6 hk6)
                        | (have _h := ho4; clear _h; refine step_strs (by rfl) _ _ (by rfl) (wr := wz) (by repeat first | assumption | exact Lib.Hid.out (by assumption) | apply Ext.drew | apply Ext.drewN | apply Ext.alloc) v4 _ _ (by rfl) (by first | exact ho4 | exact own_ext ho4 ((Ext.refl _).alloc _)) _ _ 1 1 [t] (by rfl) (by first | exact new_reads [.string t] rfl (by first | rfl | simp) | exact reads_kept hk4 (blk_new' (by first | rfl | simp)) (by simp [Value.ownBlock]) | exact reads_kept hk4 (Blk.ext (blk_new' (by first | rfl | simp)) ((Ext.refl _).alloc _)) (by simp [Value.ownBlock])) (by omega) ?_; intro v5 w5 hE5 ho5 hk5)
                        | (refine step_strs (by rfl) _ _ (by rfl) (wr := wz) (by repeat first | assumption | exact Lib.Hid.out (by assumption) | apply Ext.drew | apply Ext.drewN | apply Ext.alloc) (.slice (some ⟨_, 0, none⟩) 0 0) 0 [] (by rfl) (by first | exact own_none' (by first | rfl | simp) (Ext.size (by repeat first | assumption | exact Lib.Hid.out (by assumption) | apply Ext.drew | apply Ext.drewN | apply Ext.alloc)) | exact own_ext (own_none' (by first | rfl | simp) (Ext.size (by repeat first | assumption | exact Lib.Hid.out (by assumption) | apply Ext.drew | apply Ext.drewN | apply Ext.alloc))) ((Ext.refl _).alloc _)) _ _ _ _ _ (by rfl) (HRt.out _ (by repeat first | assumption | exact Lib.Hid.out (by assumption) | apply Ext.drew | apply Ext.drewN | apply Ext.alloc)) (by omega) ?_; intro v4 w4 hE4 ho4 hk4)))
                      all_goals
                        go_wp2
                        go_roundw
                        case rel =>
                          refine ⟨m + 1, by omega, by go_num, ?_, Lib.hid (HX2.out.trans hE6), Lib.hid (HB2.out.ext hE6), Lib.hid fun i hi => by have := (ho6.lt i hi).1; omega⟩
                          rw [HS.out]
                          rw [HI.out, hp]
                          exact Lib.hid (own_ins (own_mono ho6 HX2.out.size))
                        case measure => simp [intOf]; omega
                · obtain rfl : q = cur.length := by omega
                  have hqlz : ¬ (cur.length : Int) < (cur.length : Int) := by omega
                  have hp : placeM t cur = cur.length := by omega
                  have HI := Lib.hid (insM_new t cur (.inl hp))
                  have hpp := Lib.hid hp
                  clear hql hp
                  go_wp2
                  go_quiet (fail)
                  go_wp2
                  go_quiet (fail)
                  go_wp2
                  have cutA := fun W => str_upto A3 cur.length c3 cur.length (by omega) hcc W
                  obtain ⟨AD, cutB, HRd⟩ : ∃ AD, (∀ W, (Instr.slice 73 (.slice A3 cur.length c3) (some (.int .i64 (cur.length : Int))) none none).run Try.prog W = .ok (.slice AD 0 (c3 - cur.length)) W) ∧ Hid (∀ W : World, Reads W wz.heap.size 1 AD 0 (strs [])) :=
                    ⟨_, fun W => by rw [str_cut A3 cur.length c3 cur.length (by omega) W, Nat.sub_self], Lib.hid fun W => Reads.none_⟩
                  have HRt := Lib.hid (fun W (hW : Ext wz W) => reads_take (q := cur.length) (HR3.out W hW) (by omega))
                  have hq4 : (cur.length : Int) ≤ (cur.length : Int) := by omega
                  have hq0 : (0 : Int) ≤ (cur.length : Int) := by omega
                  go_region_held3 (fun W => W.cell? ⟨gb, m, none⟩ = some (.string t)) (exact (HF.out _ (by repeat first | assumption | exact Lib.Hid.out (by assumption) | apply Ext.drew | apply Ext.drewN | apply Ext.alloc)).2.2.2) ((first
                    | (have _h := ho5; clear _h; refine step_strs (by rfl) _ _ (by rfl) (wr := wz) (by repeat first | assumption | exact Lib.Hid.out (by assumption) | apply Ext.drew | apply Ext.drewN | apply Ext.alloc) v5 _ _ (by rfl) ho5 _ _ _ _ _ (by rfl) (HRd.out _) (by omega) ?_; intro v6 w6 hE6 ho6 hk6)
                    | (have _h := ho4; clear _h; refine step_strs (by rfl) _ _ (by rfl) (wr := wz) (by repeat first | assumption | exact Lib.Hid.out (by assumption) | apply Ext.drew | apply Ext.drewN | apply Ext.alloc) v4 _ _ (by rfl) (by first | exact ho4 | exact own_ext ho4 ((Ext.refl _).alloc _)) _ _ 1 1 [t] (by rfl) (by first | exact new_reads [.string t] rfl (by first | rfl | simp) | exact reads_kept hk4 (blk_new' (by first | rfl | simp)) (by simp [Value.ownBlock]) | exact reads_kept hk4 (Blk.ext (blk_new' (by first | rfl | simp)) ((Ext.refl _).alloc _)) (by simp [Value.ownBlock])) (by omega) ?_; intro v5 w5 hE5 ho5 hk5)
                    | (refine step_strs (by rfl) _ _ (by rfl) (wr := wz) (by repeat first | assumption | exact Lib.Hid.out (by assumption) | apply Ext.drew | apply Ext.drewN | apply Ext.alloc) (.slice (some ⟨_, 0, none⟩) 0 0) 0 [] (by rfl) (by first | exact own_none' (by first | rfl | simp) (Ext.size (by repeat first | assumption | exact Lib.Hid.out (by assumption) | apply Ext.drew | apply Ext.drewN | apply Ext.alloc)) | exact own_ext (own_none' (by first | rfl | simp) (Ext.size (by repeat first | assumption | exact Lib.Hid.out (by assumption) | apply Ext.drew | apply Ext.drewN | apply Ext.alloc))) ((Ext.refl _).alloc _)) _ _ _ _ _ (by rfl) (HRt.out _ (by repeat first | assumption | exact Lib.Hid.out (by assumption) | apply Ext.drew | apply Ext.drewN | apply Ext.alloc)) (by omega) ?_; intro v4 w4 hE4 ho4 hk4)))
                  all_goals
                    go_wp2
                    go_roundw
                    case rel =>
                      refine ⟨m + 1, by omega, by go_num, ?_, Lib.hid (HX2.out.trans hE6), Lib.hid (HB2.out.ext hE6), Lib.hid fun i hi => by have := (ho6.lt i hi).1; omega⟩
                      rw [HS.out]
                      rw [HI.out, hpp.out]
                      exact Lib.hid (own_ins' (own_mono ho6 HX2.out.size))
                    case measure => simp [intOf]; omega
        · obtain rfl : m = 2 := by omega
          go_wp2
          go_roundw
          case rel => exact ⟨k + 1, by omega, by go_num, by rw [HT.out]; exact HO2, HX2⟩
          case measure => simp [intOf]; omega
    · obtain rfl : k = l.length := by omega
      rw [List.take_length] at HO
      have hltz : ¬ (l.length : Int) < (l.length : Int) := by omega
      go_wp2
      go_ret
      exact ⟨_, rfl, R_rawStr HO.out, HX.out⟩
def folkmootref03_marks.f (l0 : List S35) : Option (List ByteArray) := if l0.length < 1099511627776 then some (marksL l0) else none
theorem folkmootref03_marks.calls (A0 : Option Addr) (c0 : Nat) (l0 : List S35) (r : List ByteArray) (w : World) (hr0 : Kd.C k35 w A0 l0.length l0) (hc0 : l0.length ≤ c0) (h : folkmootref03_marks.f l0 = some r) :
    Calls Try.prog 55 #[.slice A0 l0.length c0] w fun e w' => ∃ v0_ : Value, e = .returned (v0_) ∧ Kd.R Kd.string 9 w' w.heap.size (fun _ => True) v0_ r ∧ Below w.heap.size w w' := by
  unfold folkmootref03_marks.f at h
  by_cases hl : l0.length < 1099511627776
  · rw [if_pos hl] at h
    obtain rfl := Option.some.inj h
    exact (marks_walk A0 c0 l0 w hr0 hc0 hl).mono fun e w' ⟨v0, he, hR, hx⟩ => ⟨v0, he, hR, hx⟩
  · rw [if_neg hl] at h
    cases h
end Go.Proofs.Ytaedgbkeiankcaa.P
