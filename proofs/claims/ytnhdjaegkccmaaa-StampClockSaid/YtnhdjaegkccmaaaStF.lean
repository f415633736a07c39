/- Contracts: a list's copy; the reference's Max, After, Has. -/
import Derived.Test.YtnhdjaegkccmaaaStD
namespace Go.Proofs.Ytnhdjaegkccmaaa
open Go.RowKit

theorem Sts.reads {w : World} {A : Option Addr} {l : List St} (h : Sts w A l) : Reads w w.heap.size 2 A l.length (stCells l) := by
  refine ⟨by rw [stCells_len], fun hn => ?_⟩
  obtain ⟨b, o, hA, hb, hc⟩ := h (by rintro rfl; simp at hn)
  exact ⟨_, hA, hb, Sts.holds hc⟩
theorem stCells_one (l : List St) : ∀ u ∈ stCells l, u.oneCell' = true := by
  intro u hu
  obtain ⟨s, _, hs⟩ := List.mem_flatMap.1 hu
  simp at hs
  rcases hs with rfl | rfl <;> rfl

theorem own_empty (w : World) (base : Nat) (hb : base ≤ w.heap.size) (t : TypeId) : (w.alloc (.cells #[] t)).ownsRow base t 2 (.slice (some ⟨w.heap.size, 0, none⟩) 0 0) 0 [] := by
  refine ⟨rfl, .inr ⟨w.heap.size, 0, #[], rfl, hb, ?_, by omega, by unfold maxLen; omega, by simp, by simp⟩⟩
  exact heap_alloc_new w _

/-- a list that lies in memory made since w0 -/
structure New (w0 w : World) (A : Option Addr) (c : Nat) (l : List St) : Prop where
  cap : l.length ≤ c
  none_ : A = none → c = 0
  sts : Sts w A l
  new : ∀ ad, A = some ad → w0.heap.size ≤ ad.block
theorem New.ext {w0 w w' : World} {A : Option Addr} {c : Nat} {l : List St} (h : New w0 w A c l) (hx : Ext w w') : New w0 w' A c l := ⟨h.cap, h.none_, h.sts.ext hx, h.new⟩
theorem own_form {w0 w : World} {base : Nat} {e : TypeId} {v : Value} {n : Nat} {l : List St} (hb : base = w0.heap.size) (hn : l.length = n) (h : w.ownsRow base e 2 v n (stCells l)) : ∃ A c, v = .slice A n c ∧ New w0 w A c l := by
  subst hn
  have hs : ∀ A c, v = .slice A l.length c → Sts w A l := fun A c hv => Sts.of_own (base := base) (e := e) (c := c) (hv ▸ h)
  rcases h.2 with ⟨hv, hx⟩ | ⟨g, cap, cur, hv, hbg, _, hnc, _⟩
  · have hl : l = [] := by
      cases l with
      | nil => rfl
      | cons a l => simp at hx
    subst hl
    exact ⟨none, 0, hv, Nat.le_refl _, fun _ => rfl, Sts.nil _ _, fun ad h => by cases h⟩
  · exact ⟨some ⟨g, 0, none⟩, cap, hv, hnc, (fun h => by cases h), hs _ _ hv, fun ad h => by injection h with h; subst h; show w0.heap.size ≤ g; omega⟩

/-- own(l): a copy, in memory of its own -/
def IsOwn (w : World) (l : List St) (e : Ending) (w' : World) : Prop := ∃ A c, e = .returned (.slice A l.length c) ∧ New w w' A c l ∧ Ext w w'
set_option maxRecDepth 100000 in
theorem own_any (l : List St) (A : Option Addr) (c : Nat) (w : World) (hm : l.length ≤ 1000) (hs : Sts w A l) :
    Calls Try.prog 20 #[.slice A l.length c] w (IsOwn w l) := by
  obtain ⟨i0, hi0, hz0, hz1, hz2⟩ := info_parts st_info
  have hE := own_empty w w.heap.size (Nat.le_refl _) 23
  have hR := (hs.reads.alloc (Nat.le_refl _) (.cells #[] 23))
  have h1 := stCells_one l
  go_enter Try.func20, Try.ntmps20
  go_wp2_with (at_builtin; go_loud (refine wpList_append_any _ rfl (.tmp 3) (.tmp 4) _ rfl w.heap.size 23 i0 _ 2 16 Try.underlying31 hi0 hz0 hz1 hz2 rfl (by omega) _ 0 [] rfl hE w.heap.size A l.length c (stCells l) rfl hR h1 (by simp only [maxLen]; omega) (by omega) (by simp) ?_); intro v1 w1 hown hg hat)
  have hown' : w1.ownsRow w.heap.size 23 2 v1 l.length (stCells l) := by simpa using hown
  obtain ⟨A', c', rfl, hN⟩ := own_form (w0 := w) rfl rfl hown'
  have hg' : Chg w.heap.size (w.alloc (.cells #[] 23)) w1 := hg
  go_ret
  exact ⟨A', c', rfl, hN, ((Ext.refl w).alloc _).chg hg' (Nat.le_refl _)⟩

/-! ### the reference -/
def rmaxStep (m s : St) : St := if St.less m s then s else m
theorem rmaxStep_eq (m s : St) : rmaxStep m s = maxStep m s := by
  unfold rmaxStep maxStep
  have h : St.less m s = decide (0 < St.cmp s m) := by
    obtain ⟨t, n⟩ := m
    obtain ⟨u, k⟩ := s
    unfold St.less St.cmp orV cmpI
    dsimp only
    by_cases h1 : t < u
    · have a : ¬ u < t := by omega
      simp [h1, a]
    · by_cases h2 : u < t
      · have : ¬ t = u := by omega
        simp [h1, h2, this]
      · have e : t = u := by omega
        subst e
        by_cases h3 : n < k
        · have a : ¬ k < n := by omega
          simp [h3, a]
        · by_cases h4 : k < n
          · simp [h3, h4]
          · simp [h3, h4]
  rw [h]; simp

theorem rmax_any (l : List St) (A : Option Addr) (c : Nat) (w : World) (hm : l.length ≤ 1000) (hs : Sts w A l) :
    Calls Try.prog 23 #[.slice A l.length c] w fun e w' => e = .returned (.agg #[.int .i64 (maxSt l).t, .int .i64 (maxSt l).n]) ∧ Ext w w' := by
  by_cases hl : l = []
  · subst hl
    go_enter Try.func23, Try.ntmps23
    go_wp2
    refine bodyPost_ret (v := .agg #[.int .i64 (maxSt []).t, .int .i64 (maxSt []).n]) (by simp [results, Try.results23, go_sem, maxSt, St.z]) rfl ⟨rfl, (Ext.refl _).alloc _⟩
  · obtain ⟨b, o, rfl, hb, hc⟩ := hs hl
    have hn : 0 < l.length := by cases l with | nil => exact absurd rfl hl | cons a l => simp
    have hn' : ((l.length : Int) == 0) = false := by simp; exact hl
    have h00 := hc 0 hn
    have h0 : w.cell? ⟨b, o, none⟩ = some (.int .i64 (l[0]).t) := by simpa using h00.1
    have h1 : w.cell? ⟨b, o + 1, none⟩ = some (.int .i64 (l[0]).n) := by simpa using h00.2
    clear h00 hl
    go_enter Try.func23, Try.ntmps23
    go_wp2
    go_loopw [4] (fun i wr => ∃ k : Nat, 1 ≤ k ∧ k ≤ l.length ∧ i = .int .i64 k ∧ Ext w wr ∧ Blk wr w.heap.size 23 #[.int .i64 0, .int .i64 0] ∧ Blk wr (w.heap.size + 1) 23 #[.int .i64 (maxSt (l.take k)).t, .int .i64 (maxSt (l.take k)).n]) (fun i _ => l.length - (intOf i).toNat)
    case atStart =>
      refine ⟨1, by omega, hn, rfl, ((Ext.refl _).alloc _).alloc _, (Blk.new _ _ _).alloc _, ?_⟩
      have e : l.take 1 = [l[0]] := by
        cases l with
        | nil => simp at hn
        | cons a l => rfl
      rw [e]
      have := Blk.new (w.alloc (.cells #[.int .i64 0, .int .i64 0] 23)) 23 #[.int .i64 (l[0]).t, .int .i64 (l[0]).n]
      simpa [maxSt] using this
    case round =>
      obtain ⟨k, hk1, hk, rfl, hx, hb0, hb1⟩ := hrel
      clear h0 h1
      by_cases hlt : k < l.length
      · have h1 := hx.cell hb (hc k hlt).1
        have h2 := hx.cell hb (hc k hlt).2
        have hs := hb1.lt
        have hbr := hx.lt hb
        have hM := Lib.hid (maxSt_take l k hk1 hlt)
        generalize l[k] = X at *
        generalize maxSt (l.take k) = M at *
        have h3 : wr.cell? ⟨w.heap.size + 1, 0, none⟩ = some (.int .i64 M.t) := hb1.cell 0
        have h4 : wr.cell? ⟨w.heap.size + 1, 1, none⟩ = some (.int .i64 M.n) := hb1.cell 1
        have hE := rmaxStep_eq M X
        have c1 := fun w => rless_any M X w
        clear hc
        cases hgt : St.less M X <;> rw [hgt] at c1
        all_goals
          unfold rmaxStep at hE
          rw [hgt] at hE
          have HE := Lib.hid hE
          clear hE hgt
          go_wp2
          refine wp_region_in wr (by kernel_rfl) (by kernel_rfl) (Ext.refl _) ?_
          repeat (refine wpQuiet_step (fun K hK => ?_); go_simp; first | (refine hK _ ?_; clear hK K) | (apply Exists.intro; refine ⟨fun w' hw' => ?_, hK _ ?_⟩; (first | (go_at_call 13; exact qcall hw' (c1 _)) |  (have f1 := hw'.cell hbr h1; have f2 := hw'.cell hbr h2; have f3 := hw'.cell hs h3; have f4 := hw'.cell hs h4; go_simp; rfl)); clear hK K))
          refine wpQuiet_nil ?_
          intro w1 hx1
          have e1 := hx1.cell hbr h1
          have e2 := hx1.cell hbr h2
          have e3 := hx1.cell hs h3
          have e4 := hx1.cell hs h4
          have e5 := (hb1.ext hx1).frozen 0
          have e6 := (hb1.ext hx1).frozen 1
          have hb0' := hb0.ext hx1
          have hb1' := hb1.ext hx1
          go_wp2
          go_roundw
          case measure => simp [intOf]; omega
        case rel => exact ⟨k + 1, by omega, by omega, by go_num, hx.trans hx1, hb0', by rw [hM.out, ← HE.out]; exact hb1'⟩
        case rel =>
          refine ⟨k + 1, by omega, by omega, by go_num, ((hx.trans hx1).setCell (by simp) _).setCell (by simp) _, (hb0'.far (by simp) _).far (by simp) _, ?_⟩
          rw [hM.out, ← HE.out]
          exact (hb1'.set_ 0 _).set_ 1 _
      · obtain rfl : k = l.length := by omega
        have hs := hb1.lt
        rw [List.take_length] at hb1
        generalize hMx : maxSt l = M at *
        have hMy := Lib.hid hMx
        clear hMx
        have h3 : wr.cell? ⟨w.heap.size + 1, 0, none⟩ = some (.int .i64 M.t) := hb1.cell 0
        have h4 : wr.cell? ⟨w.heap.size + 1, 1, none⟩ = some (.int .i64 M.n) := hb1.cell 1
        have h5 : wr.cell? ⟨w.heap.size, 0, none⟩ = some (.int .i64 0) := hb0.cell 0
        have h6 : wr.cell? ⟨w.heap.size, 1, none⟩ = some (.int .i64 0) := hb0.cell 1
        have h7 := hb0.frozen 0
        have h8 := hb0.frozen 1
        clear hc
        go_wp2
        refine bodyPost_ret (v := .agg #[.int .i64 (M).t, .int .i64 (M).n]) (by simp [results, Try.results23, go_sem, h5, h6]) rfl ⟨by rw [hMy.out], (hx.setCell (by simp) _).setCell (by simp) _⟩

theorem rhas_any (l : List St) (s : St) (A : Option Addr) (c : Nat) (w : World) (hm : l.length ≤ 1000) (hs : Sts w A l) :
    Calls Try.prog 24 #[.slice A l.length c, .agg #[.int .i64 (s).t, .int .i64 (s).n]] w fun e w' => e = .returned (.bool (decide (s ∈ l))) ∧ Ext w w' := by
  go_enter Try.func24, Try.ntmps24
  go_wp2
  go_loopw [5] (fun i wr => ∃ k : Nat, k ≤ l.length ∧ i = .int .i64 k ∧ Ext w wr ∧ Blk wr w.heap.size 23 #[.int .i64 s.t, .int .i64 s.n] ∧ s ∉ l.take k) (fun i _ => l.length - (intOf i).toNat)
  case atStart => exact ⟨0, by omega, rfl, (Ext.refl _).alloc _, Blk.new _ _ _, by simp⟩
  case round =>
    obtain ⟨k, hk, rfl, hx, hb1, hnot⟩ := hrel
    by_cases hlt : k < l.length
    · obtain ⟨b, o, rfl, hb, hc⟩ := hs (by rintro rfl; simp at hlt)
      have h1 := hx.cell hb (hc k hlt).1
      have h2 := hx.cell hb (hc k hlt).2
      have hsz := hb1.lt
      have hbr := hx.lt hb
      have hT : s ∈ l.take (k + 1) ↔ s = l[k] := by
        rw [List.take_succ_eq_append_getElem hlt, List.mem_append, List.mem_singleton]
        exact ⟨fun h => h.resolve_left hnot, .inr⟩
      have hI : l[k] ∈ l := List.getElem_mem hlt
      have HT := Lib.hid hT
      have HI := Lib.hid hI
      clear hT hI hnot
      generalize l[k] = X at *
      have h3 : wr.cell? ⟨w.heap.size, 0, none⟩ = some (.int .i64 s.t) := hb1.cell 0
      have h4 : wr.cell? ⟨w.heap.size, 1, none⟩ = some (.int .i64 s.n) := hb1.cell 1
      clear hc
      have hcase : (X.t == s.t) = true ∧ (X.n == s.n) = true ∧ s = X ∨ (X.t == s.t) = true ∧ (X.n == s.n) = false ∧ s ≠ X ∨ (X.t == s.t) = false ∧ s ≠ X := by
        obtain ⟨t, n⟩ := s
        obtain ⟨u, m⟩ := X
        dsimp only
        by_cases a1 : u = t
        · by_cases a2 : m = n
          · left; subst a1 a2; simp
          · right; left; subst a1; simp [a2]; exact fun h => a2 h.symm
        · right; right; simp [a1]; exact fun h => absurd h.symm a1
      rcases hcase with ⟨q1, q2, q3⟩ | ⟨q1, q2, q3⟩ | ⟨q1, q3⟩
      case inl =>
        have Q3 := Lib.hid q3
        clear q3
        go_wp2
        refine wp_region_in wr (by kernel_rfl) (by kernel_rfl) (Ext.refl _) ?_
        repeat (refine wpQuiet_step (fun K hK => ?_); go_simp; first | (refine hK _ ?_; clear hK K) | (apply Exists.intro; refine ⟨fun w' hw' => ?_, hK _ ?_⟩; (first |  (have f1 := hw'.cell hbr h1; have f2 := hw'.cell hbr h2; have f3 := hw'.cell hsz h3; have f4 := hw'.cell hsz h4; go_simp; rfl)); clear hK K))
        refine wpQuiet_nil ?_
        intro w1 hx1
        go_wp2
        go_ret
        exact ⟨by rw [Q3.out]; simp [HI.out], hx.trans hx1⟩
      all_goals
        have Q3 := Lib.hid q3
        clear q3
        go_wp2
        refine wp_region_in wr (by kernel_rfl) (by kernel_rfl) (Ext.refl _) ?_
        repeat (refine wpQuiet_step (fun K hK => ?_); go_simp; first | (refine hK _ ?_; clear hK K) | (apply Exists.intro; refine ⟨fun w' hw' => ?_, hK _ ?_⟩; (first |  (have f1 := hw'.cell hbr h1; have f2 := hw'.cell hbr h2; have f3 := hw'.cell hsz h3; have f4 := hw'.cell hsz h4; go_simp; rfl)); clear hK K))
        refine wpQuiet_nil ?_
        intro w1 hx1
        have hb1' := hb1.ext hx1
        go_wp2
        go_roundw
        case rel => exact ⟨k + 1, by omega, by go_num, hx.trans hx1, hb1', fun h => Q3.out (HT.out.1 h)⟩
        case measure => simp [intOf]; omega
    · obtain rfl : k = l.length := by omega
      rw [List.take_length] at hnot
      have hn : decide (s ∈ l) = false := by simpa using hnot
      have HN := Lib.hid hn
      clear hnot hn
      go_wp2
      go_ret
      exact ⟨by rw [HN.out]; rfl, hx⟩
end Go.Proofs.Ytnhdjaegkccmaaa
