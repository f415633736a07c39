/- The walk of StampGreatest. -/
import Derived.Test.YtnhdjaegkccmaaaStG
namespace Go.Proofs.Ytnhdjaegkccmaaa
open Go.RowKit

def St.le (a b : St) : Prop := a.t < b.t ∨ a.t = b.t ∧ a.n ≤ b.n
def St.lt (a b : St) : Prop := a.t < b.t ∨ a.t = b.t ∧ a.n < b.n
theorem cmp_cases (a b : St) : (St.cmp a b = -1 ∧ St.lt a b) ∨ (St.cmp a b = 0 ∧ a.t = b.t ∧ a.n = b.n) ∨ (St.cmp a b = 1 ∧ St.lt b a) := by
  obtain ⟨t, n⟩ := a
  obtain ⟨u, m⟩ := b
  unfold St.cmp orV cmpI St.lt
  dsimp only
  by_cases h1 : t < u
  · left; simp [h1]
  · by_cases h2 : u < t
    · right; right; simp [h1, h2]
    · have e : t = u := by omega
      subst e
      by_cases h3 : n < m
      · left; simp [h3]
      · by_cases h4 : m < n
        · right; right; simp [h3, h4]
        · right; left; simp [h3, h4]; omega
theorem cmp_le (a b : St) : St.cmp a b ≤ 0 ↔ St.le a b := by
  rcases cmp_cases a b with ⟨h, l⟩ | ⟨h, l⟩ | ⟨h, l⟩ <;> rw [h] <;> (try unfold St.lt at l) <;> unfold St.le <;> omega
theorem cmp_neg (a b : St) : St.cmp a b < 0 ↔ St.lt a b := by
  rcases cmp_cases a b with ⟨h, l⟩ | ⟨h, l⟩ | ⟨h, l⟩ <;> rw [h] <;> unfold St.lt <;> (try unfold St.lt at l) <;> omega
theorem St.le_refl (a : St) : St.le a a := .inr ⟨rfl, Int.le_refl _⟩
theorem St.le_trans {a b c : St} (h : St.le a b) (k : St.le b c) : St.le a c := by unfold St.le at *; omega
theorem maxStep_ge (m s : St) : St.le m (maxStep m s) ∧ St.le s (maxStep m s) := by
  unfold maxStep
  by_cases h : 0 < St.cmp s m
  · rw [if_pos h]
    refine ⟨?_, St.le_refl s⟩
    rcases cmp_cases s m with ⟨e, l⟩ | ⟨e, l⟩ | ⟨e, l⟩
    · omega
    · omega
    · unfold St.lt at l; unfold St.le; omega
  · rw [if_neg h]
    exact ⟨St.le_refl m, (cmp_le s m).1 (by omega)⟩
theorem foldl_max_ge (l : List St) (a : St) : St.le a (l.foldl maxStep a) ∧ ∀ x ∈ l, St.le x (l.foldl maxStep a) := by
  induction l generalizing a with
  | nil => exact ⟨St.le_refl a, fun x h => by cases h⟩
  | cons b l ih =>
    simp only [List.foldl_cons]
    obtain ⟨h1, h2⟩ := ih (maxStep a b)
    obtain ⟨g1, g2⟩ := maxStep_ge a b
    refine ⟨St.le_trans g1 h1, fun x hx => ?_⟩
    rcases List.mem_cons.1 hx with rfl | hx
    · exact St.le_trans g2 h1
    · exact h2 x hx
theorem maxSt_ge (l : List St) (x : St) (h : x ∈ l) : St.cmp x (maxSt l) ≤ 0 := by
  rw [cmp_le]
  cases l with
  | nil => cases h
  | cons a l =>
    show St.le x (l.foldl maxStep a)
    obtain ⟨h1, h2⟩ := foldl_max_ge l a
    rcases List.mem_cons.1 h with rfl | h
    · exact h1
    · exact h2 x h
theorem topT_mem (l : List St) (x : St) (h : x ∈ l) : x.t ≤ topT l := by
  have := (cmp_le _ _).1 (maxSt_ge (l ++ [St.z]) x (List.mem_append_left _ h))
  unfold topT; unfold St.le at this; omega
/-- After, told: an error and nothing, or a stamp behind all -/
theorem after_told (node : Int) (l : List St) : (afterE node l ≠ 0 ∧ afterS node l = St.z) ∨ (afterE node l = 0 ∧ (afterS node l).chk = 0 ∧ (afterS node l).n = node ∧ ∀ x ∈ l, St.cmp x (afterS node l) < 0 ∧ x.t < (afterS node l).t) := by
  by_cases h : afterE node l = 0
  · right
    have hS : afterS node l = ⟨topT l + 1, node⟩ := by unfold afterS; rw [if_pos h]
    have hE := h
    unfold afterE at hE
    split at hE
    · cases hE
    · rename_i hn
      split at hE
      · cases hE
      · rename_i ha
        split at hE
        · cases hE
        · rename_i ht
          have hall : l.all St.fine = true := by simpa using ha
          have hge := topT_ge hall
          have hn' : nodeOk node = true := by simpa using hn
          rw [hS]
          refine ⟨h, ?_, rfl, fun x hx => ?_⟩
          · unfold St.chk St.ok
            dsimp only
            rw [hn', if_pos]
            unfold topT at ht ⊢
            simp; omega
          · have hx' := topT_mem l x hx
            refine ⟨(cmp_neg _ _).2 (.inl ?_), ?_⟩ <;> dsimp only <;> omega
  · left; exact ⟨h, by unfold afterS; rw [if_neg h]⟩

set_option maxHeartbeats 3000000 in
set_option maxRecDepth 100000 in
theorem stampGreatest_walk (node : Int) (A : Option Addr) (n c : Nat) (l : List St) (w : World) (_wn : (Lit.int .i64 node).wf = true) (hl : StsIn w A n c l) :
    Calls Try.prog 5 #[.int .i64 node, .slice A n c] w fun e w' => e = .returned (.bool true) ∧ Ext w w' := by
  obtain ⟨rfl, hcap, hnone, hs, hwf⟩ := hl
  clear _wn hwf
  by_cases hbig : 60 < l.length
  · clear hs
    go_enter Try.func5, Try.ntmps5
    go_wp2_with (go_at_call 18; refine (live_any _).mono ?_; rintro e w1 ⟨rfl, hx1⟩)
    go_ret
    exact ⟨rfl, (by repeat (first | assumption | exact Ext.refl _ | (with_reducible refine Ext.alloc ?_ _) | (with_reducible refine Ext.drew ?_) | refine Ext.trans ?_ (by assumption)))⟩
  · have hm : l.length ≤ 1000 := by omega
    have hle : l.length ≤ 60 := by omega
    have hge := maxSt_ge l
    have hmem := maxSt_mem l
    have hcap' := Lib.hid hcap
    have HG := Lib.hid hge
    have HM := Lib.hid hmem
    clear hbig hcap hge hmem
    go_enter Try.func5, Try.ntmps5
    go_wp2_with fail
    refine (max_any l A c w (by omega) hs).mono ?_
    rintro e w1 ⟨rfl, hx1⟩
    have hb1 := Blk.new w1 23 #[.int .i64 (maxSt l).t, .int .i64 (maxSt l).n]
    generalize maxSt l = M at *
    go_wp2_with fail
    go_loopw [6] (fun i wr => ∃ k : Nat, k ≤ l.length ∧ i = .int .i64 k ∧ Ext w wr ∧ Blk wr w1.heap.size 23 #[.int .i64 M.t, .int .i64 M.n]) (fun i _ => l.length - (intOf i).toNat)
    case atStart => exact ⟨0, by omega, rfl, hx1.alloc _, hb1⟩
    case round =>
      obtain ⟨k, hk, rfl, hx, hb⟩ := hrel
      clear hb1
      have hsz := hb.lt
      have m1 : wr.cell? ⟨w1.heap.size, 0, none⟩ = some (.int .i64 M.t) := hb.cell 0
      have m2 : wr.cell? ⟨w1.heap.size, 1, none⟩ = some (.int .i64 M.n) := hb.cell 1
      by_cases hlt : k < l.length
      · obtain ⟨b, o, rfl, hbb, hc⟩ := hs (by rintro rfl; simp at hlt)
        have h1 := hx.cell hbb (hc k hlt).1
        have h2 := hx.cell hbb (hc k hlt).2
        have hbr := hx.lt hbb
        have hX := HG.out (l[k]) (List.getElem_mem hlt)
        generalize l[k] = X at *
        clear hc
        go_wp2
        refine wp_region_in wr (by kernel_rfl) (by kernel_rfl) (Ext.refl _) ?_
        repeat (refine wpQuiet_step (fun K hK => ?_); go_simp; first | (refine hK _ ?_; clear hK K) | (apply Exists.intro; refine ⟨fun w' hw' => ?_, hK _ ?_⟩; (first | (go_at_call 17; exact qcall hw' (compare_any X M _)) |  (have f1 := hw'.cell hbr h1; have f2 := hw'.cell hbr h2; have f3 := hw'.cell hsz m1; have f4 := hw'.cell hsz m2; go_simp; rfl)); clear hK K))
        refine wpQuiet_nil ?_
        intro w2 hx2
        go_wp2
        go_roundw
        case rel => exact ⟨k + 1, by omega, by go_num, hx.trans hx2, hb.ext hx2⟩
        case measure => simp [intOf]; omega
      · obtain rfl : k = l.length := by omega
        clear hlt hk
        by_cases hpos : 0 < l.length
        case pos =>
          have hdec : decide (M ∈ l) = true := by
            have := HM.out (by rintro rfl; simp at hpos)
            simpa using this
          have c1 := rhas_any l M A c wr hm (hs.ext hx)
          rw [hdec] at c1
          clear hdec
          have C1 := Lib.hid c1
          clear c1
          go_wp2_with fail
          refine C1.out.mono ?_
          rintro e w3 ⟨rfl, hx3⟩
          replace hx := hx.trans hx3
          clear C1 m1 m2 hb hsz hpos
          go_wp2_with fail
          refine (after_any node l A c _ hm hcap'.out hnone (hs.ext hx)).mono ?_
          rintro e w4 ⟨rfl, hx4⟩
          replace hx := hx.trans hx4
          have hT := after_told node l
          generalize afterS node l = S at *
          generalize afterE node l = E at *
          have hb4 := Blk.new w4 23 #[.int .i64 S.t, .int .i64 S.n]
          replace hx := hx.alloc (.cells #[.int .i64 S.t, .int .i64 S.n] 23)
          clear hx4
          rcases hT with ⟨t1, rfl⟩ | ⟨rfl, t2, t3, t4⟩
          case inl =>
            have t1' : (E != 0) = true := by simpa using t1
            clear t1
            have z1 : St.z.t = 0 := rfl
            have z2 : St.z.n = 0 := rfl
            go_wp2_with (first | (go_at_call 14; refine (num_any _ _).mono ?_; rintro e w' ⟨rfl, rfl⟩) | (go_at_call 18; refine (live_any _).mono ?_; rintro e w5 ⟨rfl, hx5⟩))
            go_ret
            exact ⟨rfl, hx.trans hx5⟩
          case inr =>
            have T4 := Lib.hid t4
            have T3 := Lib.hid t3
            clear t4 t3
            go_wp2_with (go_at_call 14; refine (num_any _ _).mono ?_; rintro e w' ⟨rfl, rfl⟩)
            go_loopw [9] (fun i wr => ∃ k : Nat, k ≤ l.length ∧ i = .int .i64 k ∧ Ext w wr ∧ Blk wr w4.heap.size 23 #[.int .i64 S.t, .int .i64 S.n]) (fun i _ => l.length - (intOf i).toNat)
            case atStart => exact ⟨0, by omega, rfl, hx, hb4⟩
            case round =>
              clear hx hb4
              obtain ⟨k, hk, rfl, hx, hb⟩ := hrel
              have hsz := hb.lt
              have m1 := hb.cell 0
              have m2 := hb.cell 1
              simp only [List.getElem?_toArray, List.getElem?_cons_zero, List.getElem?_cons_succ] at m1 m2
              by_cases hlt : k < l.length
              · obtain ⟨b, o, rfl, hbb, hc⟩ := hs (by rintro rfl; simp at hlt)
                have h1 := hx.cell hbb (hc k hlt).1
                have h2 := hx.cell hbb (hc k hlt).2
                have hbr := hx.lt hbb
                have hX := T4.out (l[k]) (List.getElem_mem hlt)
                generalize l[k] = X at *
                clear hc
                obtain ⟨hX1, hX2⟩ := hX
                have d1 : decide (0 ≤ St.cmp X S) = false := by simp; omega
                go_wp2
                refine wp_region_in _ (by kernel_rfl) (by kernel_rfl) (Ext.refl _) ?_
                repeat (refine wpQuiet_step (fun K hK => ?_); go_simp; first | (refine hK _ ?_; clear hK K) | (apply Exists.intro; refine ⟨fun w' hw' => ?_, hK _ ?_⟩; (first | (go_at_call 17; exact qcall hw' (compare_any X S _)) |  (have f1 := hw'.cell hbr h1; have f2 := hw'.cell hbr h2; have f3 := hw'.cell hsz m1; have f4 := hw'.cell hsz m2; go_simp; rfl)); clear hK K))
                refine wpQuiet_nil ?_
                intro w2 hx2
                go_wp2
                go_roundw
                case rel => exact ⟨k + 1, by omega, by go_num, hx.trans hx2, hb.ext hx2⟩
                case measure => simp [intOf]; omega
              · obtain rfl : k = l.length := by omega
                have t3' : (S.n == node) = true := by simpa using T3.out
                clear hlt
                go_wp2_with (first | (go_at_call 14; refine (num_any _ _).mono ?_; rintro e w' ⟨rfl, rfl⟩) | (go_at_call 15; refine (check_any S _).mono ?_; rintro e w6 ⟨rfl, hx6⟩; have g2 := hx6.cell hsz m2) | (go_at_call 18; refine (live_any _).mono ?_; rintro e w7 ⟨rfl, hx7⟩))
                go_ret
                exact ⟨rfl, (hx.trans hx6).trans hx7⟩
        case neg =>
          clear m1 m2 hb hsz
          go_wp2_with fail
          clear hpos
          refine (after_any node l A c _ hm hcap'.out hnone (hs.ext hx)).mono ?_
          rintro e w4 ⟨rfl, hx4⟩
          replace hx := hx.trans hx4
          have hT := after_told node l
          generalize afterS node l = S at *
          generalize afterE node l = E at *
          have hb4 := Blk.new w4 23 #[.int .i64 S.t, .int .i64 S.n]
          replace hx := hx.alloc (.cells #[.int .i64 S.t, .int .i64 S.n] 23)
          clear hx4
          rcases hT with ⟨t1, rfl⟩ | ⟨rfl, t2, t3, t4⟩
          case inl =>
            have t1' : (E != 0) = true := by simpa using t1
            clear t1
            have z1 : St.z.t = 0 := rfl
            have z2 : St.z.n = 0 := rfl
            go_wp2_with (first | (go_at_call 14; refine (num_any _ _).mono ?_; rintro e w' ⟨rfl, rfl⟩) | (go_at_call 18; refine (live_any _).mono ?_; rintro e w5 ⟨rfl, hx5⟩))
            go_ret
            exact ⟨rfl, hx.trans hx5⟩
          case inr =>
            have T4 := Lib.hid t4
            have T3 := Lib.hid t3
            clear t4 t3
            go_wp2_with (go_at_call 14; refine (num_any _ _).mono ?_; rintro e w' ⟨rfl, rfl⟩)
            go_loopw [9] (fun i wr => ∃ k : Nat, k ≤ l.length ∧ i = .int .i64 k ∧ Ext w wr ∧ Blk wr w4.heap.size 23 #[.int .i64 S.t, .int .i64 S.n]) (fun i _ => l.length - (intOf i).toNat)
            case atStart => exact ⟨0, by omega, rfl, hx, hb4⟩
            case round =>
              clear hx hb4
              obtain ⟨k, hk, rfl, hx, hb⟩ := hrel
              have hsz := hb.lt
              have m1 := hb.cell 0
              have m2 := hb.cell 1
              simp only [List.getElem?_toArray, List.getElem?_cons_zero, List.getElem?_cons_succ] at m1 m2
              by_cases hlt : k < l.length
              · obtain ⟨b, o, rfl, hbb, hc⟩ := hs (by rintro rfl; simp at hlt)
                have h1 := hx.cell hbb (hc k hlt).1
                have h2 := hx.cell hbb (hc k hlt).2
                have hbr := hx.lt hbb
                have hX := T4.out (l[k]) (List.getElem_mem hlt)
                generalize l[k] = X at *
                clear hc
                obtain ⟨hX1, hX2⟩ := hX
                have d1 : decide (0 ≤ St.cmp X S) = false := by simp; omega
                go_wp2
                refine wp_region_in _ (by kernel_rfl) (by kernel_rfl) (Ext.refl _) ?_
                repeat (refine wpQuiet_step (fun K hK => ?_); go_simp; first | (refine hK _ ?_; clear hK K) | (apply Exists.intro; refine ⟨fun w' hw' => ?_, hK _ ?_⟩; (first | (go_at_call 17; exact qcall hw' (compare_any X S _)) |  (have f1 := hw'.cell hbr h1; have f2 := hw'.cell hbr h2; have f3 := hw'.cell hsz m1; have f4 := hw'.cell hsz m2; go_simp; rfl)); clear hK K))
                refine wpQuiet_nil ?_
                intro w2 hx2
                go_wp2
                go_roundw
                case rel => exact ⟨k + 1, by omega, by go_num, hx.trans hx2, hb.ext hx2⟩
                case measure => simp [intOf]; omega
              · obtain rfl : k = l.length := by omega
                have t3' : (S.n == node) = true := by simpa using T3.out
                clear hlt
                go_wp2_with (first | (go_at_call 14; refine (num_any _ _).mono ?_; rintro e w' ⟨rfl, rfl⟩) | (go_at_call 15; refine (check_any S _).mono ?_; rintro e w6 ⟨rfl, hx6⟩; have g2 := hx6.cell hsz m2) | (go_at_call 18; refine (live_any _).mono ?_; rintro e w7 ⟨rfl, hx7⟩))
                go_ret
                exact ⟨rfl, (hx.trans hx6).trans hx7⟩
end Go.Proofs.Ytnhdjaegkccmaaa
