/- Texts of the proofs of StampMerges, merged (Pxfmlaw01StampMerges, PMerges). -/
import Derived.Test.YtnhdjaegkccmaaaWWords
import Derived.Test.YtnhdjaegkccmaaaWLast
import Derived.Test.YtnhdjaegkccmaaaWTab
import Derived.Test.YtnhdjaegkccmaaaWQPut
import Derived.Test.YtnhdjaegkccmaaaWApart
import Derived.Test.YtnhdjaegkccmaaaWArr
import Derived.Test.YtnhdjaegkccmaaaWZeros
import Derived.Test.YtnhdjaegkccmaaaWFoot
import Derived.Test.YtnhdjaegkccmaaaWKept
import Derived.Test.YtnhdjaegkccmaaaWShare
import Derived.Test.YtnhdjaegkccmaaaWN
import Derived.Test.YtnhdjaegkccmaaaWEqStruct
import Derived.Test.YtnhdjaegkccmaaaWRepsOne
import Derived.Test.YtnhdjaegkccmaaaWGuard
import Derived.Test.YtnhdjaegkccmaaaWNEv
import Derived.Test.YtnhdjaegkccmaaaWMore
import Derived.Test.YtnhdjaegkccmaaaGf8a1be9d
import Derived.Test.YtnhdjaegkccmaaaG6fd917f9
import Derived.Test.YtnhdjaegkccmaaaG5069bfb7
import Derived.Test.YtnhdjaegkccmaaaGd76a5295
import Derived.Test.YtnhdjaegkccmaaaG70b67bd7
import Derived.Test.YtnhdjaegkccmaaaGe8422621
import Derived.Test.YtnhdjaegkccmaaaG3359b79f
import Derived.Test.YtnhdjaegkccmaaaG0a207337
import Derived.Test.YtnhdjaegkccmaaaG156e9106
import Derived.Test.YtnhdjaegkccmaaaG67187c64
import Derived.Test.YtnhdjaegkccmaaaG83aa1947
import Derived.Test.YtnhdjaegkccmaaaG7a1f7523
import Derived.Test.YtnhdjaegkccmaaaG86c3fbc1
import Derived.Test.YtnhdjaegkccmaaaG080cdc10
import Derived.Test.YtnhdjaegkccmaaaG0409e222
import Derived.Test.YtnhdjaegkccmaaaGb1360167
namespace Go.Proofs.Ytnhdjaegkccmaaa.P
open Go.RowKit Go.Proofs.YtnhdjaegkccmaaaW.PrintWords Go.Proofs.YtnhdjaegkccmaaaW.PrintLast Go.Proofs.YtnhdjaegkccmaaaW.PrintMore
attribute [local go_sem] max2_int min2_int max_two min_two max_three min_three max_four min_four
set_option linter.unusedVariables false
set_option linter.unusedSimpArgs false
def folkmootlaw01_StampMerges.f (k : Nat) (l0 : List (S23)) (l1 : List (S23)) (l2 : List (S23)) (a3_0 : Int) (a3_1 : Int) : Option (Bool) := if (wrap64 ((wrap64 ((l0.length : Int) + (l1.length : Int))) + (l2.length : Int))) > 60 then ((folkmootlaw01_live.f).bind fun t109 => (some t109)) else ((stamp_Sort.f l0).bind fun t110 => ((stamp_Sort.f l1).bind fun t113 => ((stamp_Sort.f l2).bind fun t116 => ((stamp_Merge.f (([t110, t113, t116] : List (List (S23))))).bind fun t122 => ((stamp_Has.f t122 a3_0 a3_1).bind fun t125 => ((stamp_Has.f t110 a3_0 a3_1).bind fun t126 => (if t126 = true then (if (t125 == true) = true then ((stamp_Merge.f (([t113, t110] : List (List (S23))))).bind fun t130 => ((stamp_Merge.f (([t116, t130] : List (List (S23))))).bind fun t136 => ((folkmootref01_Same.f k t122 t136).bind fun t139 => (if t139 = true then ((stamp_Merge.f (([t122, t110] : List (List (S23))))).bind fun t143 => ((folkmootref01_Same.f k t143 t122).bind fun t146 => (if t146 = true then ((folkmootref01_List.f k t122).bind fun t147 => (if t147 = true then ((folkmootlaw01_live.f).bind fun t148 => (some t148)) else (some false))) else (some false)))) else (some false))))) else (some false)) else ((stamp_Has.f t113 a3_0 a3_1).bind fun t149 => (if t149 = true then (if (t125 == true) = true then ((stamp_Merge.f (([t113, t110] : List (List (S23))))).bind fun t153 => ((stamp_Merge.f (([t116, t153] : List (List (S23))))).bind fun t159 => ((folkmootref01_Same.f k t122 t159).bind fun t162 => (if t162 = true then ((stamp_Merge.f (([t122, t110] : List (List (S23))))).bind fun t166 => ((folkmootref01_Same.f k t166 t122).bind fun t169 => (if t169 = true then ((folkmootref01_List.f k t122).bind fun t170 => (if t170 = true then ((folkmootlaw01_live.f).bind fun t171 => (some t171)) else (some false))) else (some false)))) else (some false))))) else (some false)) else ((stamp_Has.f t116 a3_0 a3_1).bind fun t172 => (if (t125 == t172) = true then ((stamp_Merge.f (([t113, t110] : List (List (S23))))).bind fun t176 => ((stamp_Merge.f (([t116, t176] : List (List (S23))))).bind fun t182 => ((folkmootref01_Same.f k t122 t182).bind fun t185 => (if t185 = true then ((stamp_Merge.f (([t122, t110] : List (List (S23))))).bind fun t189 => ((folkmootref01_Same.f k t189 t122).bind fun t192 => (if t192 = true then ((folkmootref01_List.f k t122).bind fun t193 => (if t193 = true then ((folkmootlaw01_live.f).bind fun t194 => (some t194)) else (some false))) else (some false)))) else (some false))))) else (some false))))))))))))
def folkmootlaw01_StampMerges.T5 : Bool × List (List Nat × List Nat) := (true, [([], []), ([], []), ([0, 1], [0, 1]), ([], []), ([], []), ([3, 4, 2], [3, 4]), ([5, 5], [5]), ([6], [6]), ([6], [6]), ([7, 8, 6, 6], [6, 7, 8]), ([6, 9], [6, 9]), ([10, 9], [10]), ([11], [11]), ([11], [11]), ([12, 13, 11, 11], [11, 12, 13]), ([11, 14], [11, 14]), ([2, 15], [2, 15]), ([16, 14], [16]), ([17], [17]), ([17], [17]), ([17], [17]), ([17], [17]), ([20, 21, 17], [17, 20, 21]), ([22, 17, 17], [17, 22]), ([19, 23, 17], [17, 19, 23]), ([24, 23, 17], [17, 24]), ([18, 25, 25, 17], [17, 18, 25]), ([17, 26], [17, 26]), ([27, 26], [27]), ([28], [28]), ([28], [28]), ([29, 30, 28], [28, 29, 30]), ([31, 28, 28], [28, 31]), ([28], [28]), ([32, 33, 32, 28], [28, 32, 33]), ([28, 34], [28, 34]), ([35, 34], [35]), ([36], [36]), ([37, 36, 36], [36, 37]), ([36, 38], [36, 38]), ([39, 38], [39]), ([40, 40], [40]), ([40, 41], [40, 41]), ([42, 41, 0, 1, 2, 3, 4, 5, 6, 7, 8, 9, 10, 11, 12, 13, 14, 15, 16, 17, 18, 19, 20, 21, 22, 23, 24, 25, 26, 27, 28, 29, 30, 31, 32, 33, 34, 35, 36, 37, 38, 39, 40, 41, 42], [42])])
def folkmootlaw01_StampMerges.B5 : List Nat := [0, 0, 3, 0, 0, 31, 63, 127, 127, 511, 1023, 2047, 4095, 4095, 16383, 32767, 65535, 131071, 262143, 262143, 262143, 262143, 3407871, 7602175, 16515071, 33292287, 67108863, 134217727, 268435455, 536870911, 536870911, 2147483647, 4294967295, 536870911, 17179869183, 34359738367, 68719476735, 137438953471, 274877906943, 549755813887, 1099511627775, 2199023255551, 4398046511103, 8796093022207]
theorem folkmootlaw01_StampMerges.tab5 : rtab .any (opsOf Try.f11 5) = folkmootlaw01_StampMerges.T5 := by kernel_rfl
theorem folkmootlaw01_StampMerges.bits5 : waitsOk folkmootlaw01_StampMerges.T5.2 folkmootlaw01_StampMerges.B5 = true := by kernel_rfl
set_option maxHeartbeats 8000000 in
set_option maxRecDepth 100000 in
theorem folkmootlaw01_StampMerges.calls (k : Nat) (A0 : Option Addr) (c0 : Nat) (l0 : List (S23)) (A1 : Option Addr) (c1 : Nat) (l1 : List (S23)) (A2 : Option Addr) (c2 : Nat) (l2 : List (S23)) (a3_0 : Int) (a3_1 : Int) (r : Bool) (w : World) (hr0 : Kd.C k23 w A0 l0.length l0) (hc0 : l0.length ≤ c0) (hr1 : Kd.C k23 w A1 l1.length l1) (hc1 : l1.length ≤ c1) (hr2 : Kd.C k23 w A2 l2.length l2) (hc2 : l2.length ≤ c2) (h : folkmootlaw01_StampMerges.f k l0 l1 l2 a3_0 a3_1 = some r) (hrt_ : r = true := by rfl) :
  Calls Try.prog 11 #[.slice A0 l0.length c0, .slice A1 l1.length c1, .slice A2 l2.length c2, .agg #[.int .i64 a3_0, .int .i64 a3_1]] w fun e w' => e = .returned (.bool r) ∧ Below w.heap.size w w' := by
 subst hrt_
 have hu23 := Try.underlying23
 have HR0 := Aside0.mk hr0
 have HC0 := Aside0.mk hc0
 clear hr0 hc0
 have HR1 := Aside0.mk hr1
 have HC1 := Aside0.mk hc1
 clear hr1 hc1
 have HR2 := Aside0.mk hr2
 have HC2 := Aside0.mk hc2
 clear hr2 hc2
 have HB := Aside0.mk (Below.refl w.heap.size w)
 have H : (if (wrap64 ((wrap64 ((l0.length : Int) + (l1.length : Int))) + (l2.length : Int))) > 60 then ((folkmootlaw01_live.f).bind fun t109 => (some t109)) else ((stamp_Sort.f l0).bind fun t110 => ((stamp_Sort.f l1).bind fun t113 => ((stamp_Sort.f l2).bind fun t116 => ((stamp_Merge.f (([t110, t113, t116] : List (List (S23))))).bind fun t122 => ((stamp_Has.f t122 a3_0 a3_1).bind fun t125 => ((stamp_Has.f t110 a3_0 a3_1).bind fun t126 => (if t126 = true then (if (t125 == true) = true then ((stamp_Merge.f (([t113, t110] : List (List (S23))))).bind fun t130 => ((stamp_Merge.f (([t116, t130] : List (List (S23))))).bind fun t136 => ((folkmootref01_Same.f k t122 t136).bind fun t139 => (if t139 = true then ((stamp_Merge.f (([t122, t110] : List (List (S23))))).bind fun t143 => ((folkmootref01_Same.f k t143 t122).bind fun t146 => (if t146 = true then ((folkmootref01_List.f k t122).bind fun t147 => (if t147 = true then ((folkmootlaw01_live.f).bind fun t148 => (some t148)) else (some false))) else (some false)))) else (some false))))) else (some false)) else ((stamp_Has.f t113 a3_0 a3_1).bind fun t149 => (if t149 = true then (if (t125 == true) = true then ((stamp_Merge.f (([t113, t110] : List (List (S23))))).bind fun t153 => ((stamp_Merge.f (([t116, t153] : List (List (S23))))).bind fun t159 => ((folkmootref01_Same.f k t122 t159).bind fun t162 => (if t162 = true then ((stamp_Merge.f (([t122, t110] : List (List (S23))))).bind fun t166 => ((folkmootref01_Same.f k t166 t122).bind fun t169 => (if t169 = true then ((folkmootref01_List.f k t122).bind fun t170 => (if t170 = true then ((folkmootlaw01_live.f).bind fun t171 => (some t171)) else (some false))) else (some false)))) else (some false))))) else (some false)) else ((stamp_Has.f t116 a3_0 a3_1).bind fun t172 => (if (t125 == t172) = true then ((stamp_Merge.f (([t113, t110] : List (List (S23))))).bind fun t176 => ((stamp_Merge.f (([t116, t176] : List (List (S23))))).bind fun t182 => ((folkmootref01_Same.f k t122 t182).bind fun t185 => (if t185 = true then ((stamp_Merge.f (([t122, t110] : List (List (S23))))).bind fun t189 => ((folkmootref01_Same.f k t189 t122).bind fun t192 => (if t192 = true then ((folkmootref01_List.f k t122).bind fun t193 => (if t193 = true then ((folkmootlaw01_live.f).bind fun t194 => (some t194)) else (some false))) else (some false)))) else (some false))))) else (some false))))))))))))) = some true := h
 clear h
 by_cases c5 : (wrap64 ((wrap64 ((l0.length : Int) + (l1.length : Int))) + (l2.length : Int))) > 60
 ·rw [if_pos c5] at H
  have c5b0 : decide (60 < (wrap64 ((wrap64 ((l0.length : Int) + (l1.length : Int))) + (l2.length : Int)))) = true := decide_eq_true c5
  clear c5
  replace H := Option.bind_eq_some_iff.mp H
  obtain ⟨t109, A60, H⟩ := H
  replace H : (some t109) = some true := H
  have A6 := Aside0.mk A60
  clear A60
  have hrt_ := Aside0.mk (Option.some.inj H)
  clear H
  go_enter Try.func11, Try.ntmps11
  go_wp2_with (first | ((with_reducible refine gate_dst (N := 7) rfl ?_); (try (refine gate_guard (by rfl) ?_; dsimp only)); refine box_event ?hg (N := 7) ?hd (cs := #[.int .i64 a3_0, .int .i64 a3_1]) (t := 23) ?hr ?_; (case hd => rfl); (case hg => rfl); (case hr => first | (go_simp; done) | (go_simp; rfl)); intro gb108 hg w7 hbox hb; have BK108 := Aside0.mk (hbox); have GW108 := Aside0.mk ((by rw [hg]; exact (below_size (uB HB)) : w.heap.size ≤ gb108)); have GE108 := Aside0.mk ((by rw [hg]; exact (below_size (uB HB)) : w.heap.size ≤ gb108)); replace HB := sB HB hb; clear hb hbox hg) | ((with_reducible refine gate_callee (f := 18) rfl ?_); refine goesL_ (some 22) rfl rfl Try.func18 (by kernel_rfl) rfl #[] rfl (by (try simp only [List.map_toArray, List.map_cons, List.map_nil]); first | done | rfl | (simp only [List.length_drop, List.length_take]; rfl)) ?_; (with_reducible refine (folkmootlaw01_live.calls  t109 _ A6.out).mono ?_); rintro e w8 ⟨rfl, hb⟩; refine ⟨_, rfl, ?_⟩; replace BK108 := bkB BK108 hb; replace HB := sBg HB GE108 hb; (try clear hb); (try clear hb2); (try clear hk); (try clear hi)))
  go_ret
  exact ⟨by first | rfl | (exact congrArg (fun b_ => Ending.returned (Value.bool b_)) hrt_.out) | (simp [errW_none, errW_some] <;> rfl) | (simp [*, errW_none, errW_some] <;> rfl), by repeat (first | (with_reducible first | exact HB.out | apply below_alloc | apply pw_below_drewN | apply below_drew1 | refine below_set ?_ GE108.out) | exact HB.out)⟩
 ·rw [if_neg c5] at H
  have c5b0 : decide (60 < (wrap64 ((wrap64 ((l0.length : Int) + (l1.length : Int))) + (l2.length : Int)))) = false := decide_eq_false c5
  clear c5
  replace H := Option.bind_eq_some_iff.mp H
  obtain ⟨t110, A90, H⟩ := H
  replace H : ((stamp_Sort.f l1).bind fun t113 => ((stamp_Sort.f l2).bind fun t116 => ((stamp_Merge.f (([t110, t113, t116] : List (List (S23))))).bind fun t122 => ((stamp_Has.f t122 a3_0 a3_1).bind fun t125 => ((stamp_Has.f t110 a3_0 a3_1).bind fun t126 => (if t126 = true then (if (t125 == true) = true then ((stamp_Merge.f (([t113, t110] : List (List (S23))))).bind fun t130 => ((stamp_Merge.f (([t116, t130] : List (List (S23))))).bind fun t136 => ((folkmootref01_Same.f k t122 t136).bind fun t139 => (if t139 = true then ((stamp_Merge.f (([t122, t110] : List (List (S23))))).bind fun t143 => ((folkmootref01_Same.f k t143 t122).bind fun t146 => (if t146 = true then ((folkmootref01_List.f k t122).bind fun t147 => (if t147 = true then ((folkmootlaw01_live.f).bind fun t148 => (some t148)) else (some false))) else (some false)))) else (some false))))) else (some false)) else ((stamp_Has.f t113 a3_0 a3_1).bind fun t149 => (if t149 = true then (if (t125 == true) = true then ((stamp_Merge.f (([t113, t110] : List (List (S23))))).bind fun t153 => ((stamp_Merge.f (([t116, t153] : List (List (S23))))).bind fun t159 => ((folkmootref01_Same.f k t122 t159).bind fun t162 => (if t162 = true then ((stamp_Merge.f (([t122, t110] : List (List (S23))))).bind fun t166 => ((folkmootref01_Same.f k t166 t122).bind fun t169 => (if t169 = true then ((folkmootref01_List.f k t122).bind fun t170 => (if t170 = true then ((folkmootlaw01_live.f).bind fun t171 => (some t171)) else (some false))) else (some false)))) else (some false))))) else (some false)) else ((stamp_Has.f t116 a3_0 a3_1).bind fun t172 => (if (t125 == t172) = true then ((stamp_Merge.f (([t113, t110] : List (List (S23))))).bind fun t176 => ((stamp_Merge.f (([t116, t176] : List (List (S23))))).bind fun t182 => ((folkmootref01_Same.f k t122 t182).bind fun t185 => (if t185 = true then ((stamp_Merge.f (([t122, t110] : List (List (S23))))).bind fun t189 => ((folkmootref01_Same.f k t189 t122).bind fun t192 => (if t192 = true then ((folkmootref01_List.f k t122).bind fun t193 => (if t193 = true then ((folkmootlaw01_live.f).bind fun t194 => (some t194)) else (some false))) else (some false)))) else (some false))))) else (some false))))))))))) = some true := H
  have A9 := Aside0.mk A90
  clear A90
  replace H := Option.bind_eq_some_iff.mp H
  obtain ⟨t113, A100, H⟩ := H
  replace H : ((stamp_Sort.f l2).bind fun t116 => ((stamp_Merge.f (([t110, t113, t116] : List (List (S23))))).bind fun t122 => ((stamp_Has.f t122 a3_0 a3_1).bind fun t125 => ((stamp_Has.f t110 a3_0 a3_1).bind fun t126 => (if t126 = true then (if (t125 == true) = true then ((stamp_Merge.f (([t113, t110] : List (List (S23))))).bind fun t130 => ((stamp_Merge.f (([t116, t130] : List (List (S23))))).bind fun t136 => ((folkmootref01_Same.f k t122 t136).bind fun t139 => (if t139 = true then ((stamp_Merge.f (([t122, t110] : List (List (S23))))).bind fun t143 => ((folkmootref01_Same.f k t143 t122).bind fun t146 => (if t146 = true then ((folkmootref01_List.f k t122).bind fun t147 => (if t147 = true then ((folkmootlaw01_live.f).bind fun t148 => (some t148)) else (some false))) else (some false)))) else (some false))))) else (some false)) else ((stamp_Has.f t113 a3_0 a3_1).bind fun t149 => (if t149 = true then (if (t125 == true) = true then ((stamp_Merge.f (([t113, t110] : List (List (S23))))).bind fun t153 => ((stamp_Merge.f (([t116, t153] : List (List (S23))))).bind fun t159 => ((folkmootref01_Same.f k t122 t159).bind fun t162 => (if t162 = true then ((stamp_Merge.f (([t122, t110] : List (List (S23))))).bind fun t166 => ((folkmootref01_Same.f k t166 t122).bind fun t169 => (if t169 = true then ((folkmootref01_List.f k t122).bind fun t170 => (if t170 = true then ((folkmootlaw01_live.f).bind fun t171 => (some t171)) else (some false))) else (some false)))) else (some false))))) else (some false)) else ((stamp_Has.f t116 a3_0 a3_1).bind fun t172 => (if (t125 == t172) = true then ((stamp_Merge.f (([t113, t110] : List (List (S23))))).bind fun t176 => ((stamp_Merge.f (([t116, t176] : List (List (S23))))).bind fun t182 => ((folkmootref01_Same.f k t122 t182).bind fun t185 => (if t185 = true then ((stamp_Merge.f (([t122, t110] : List (List (S23))))).bind fun t189 => ((folkmootref01_Same.f k t189 t122).bind fun t192 => (if t192 = true then ((folkmootref01_List.f k t122).bind fun t193 => (if t193 = true then ((folkmootlaw01_live.f).bind fun t194 => (some t194)) else (some false))) else (some false)))) else (some false))))) else (some false)))))))))) = some true := H
  have A10 := Aside0.mk A100
  clear A100
  replace H := Option.bind_eq_some_iff.mp H
  obtain ⟨t116, A110, H⟩ := H
  replace H : ((stamp_Merge.f (([t110, t113, t116] : List (List (S23))))).bind fun t122 => ((stamp_Has.f t122 a3_0 a3_1).bind fun t125 => ((stamp_Has.f t110 a3_0 a3_1).bind fun t126 => (if t126 = true then (if (t125 == true) = true then ((stamp_Merge.f (([t113, t110] : List (List (S23))))).bind fun t130 => ((stamp_Merge.f (([t116, t130] : List (List (S23))))).bind fun t136 => ((folkmootref01_Same.f k t122 t136).bind fun t139 => (if t139 = true then ((stamp_Merge.f (([t122, t110] : List (List (S23))))).bind fun t143 => ((folkmootref01_Same.f k t143 t122).bind fun t146 => (if t146 = true then ((folkmootref01_List.f k t122).bind fun t147 => (if t147 = true then ((folkmootlaw01_live.f).bind fun t148 => (some t148)) else (some false))) else (some false)))) else (some false))))) else (some false)) else ((stamp_Has.f t113 a3_0 a3_1).bind fun t149 => (if t149 = true then (if (t125 == true) = true then ((stamp_Merge.f (([t113, t110] : List (List (S23))))).bind fun t153 => ((stamp_Merge.f (([t116, t153] : List (List (S23))))).bind fun t159 => ((folkmootref01_Same.f k t122 t159).bind fun t162 => (if t162 = true then ((stamp_Merge.f (([t122, t110] : List (List (S23))))).bind fun t166 => ((folkmootref01_Same.f k t166 t122).bind fun t169 => (if t169 = true then ((folkmootref01_List.f k t122).bind fun t170 => (if t170 = true then ((folkmootlaw01_live.f).bind fun t171 => (some t171)) else (some false))) else (some false)))) else (some false))))) else (some false)) else ((stamp_Has.f t116 a3_0 a3_1).bind fun t172 => (if (t125 == t172) = true then ((stamp_Merge.f (([t113, t110] : List (List (S23))))).bind fun t176 => ((stamp_Merge.f (([t116, t176] : List (List (S23))))).bind fun t182 => ((folkmootref01_Same.f k t122 t182).bind fun t185 => (if t185 = true then ((stamp_Merge.f (([t122, t110] : List (List (S23))))).bind fun t189 => ((folkmootref01_Same.f k t189 t122).bind fun t192 => (if t192 = true then ((folkmootref01_List.f k t122).bind fun t193 => (if t193 = true then ((folkmootlaw01_live.f).bind fun t194 => (some t194)) else (some false))) else (some false)))) else (some false))))) else (some false))))))))) = some true := H
  have A11 := Aside0.mk A110
  clear A110
  obtain ⟨y119, hy119⟩ : ∃ y_ : List (List (S23)), y_ = (([t110, t113, t116] : List (List (S23)))) := ⟨_, rfl⟩
  replace H : ((stamp_Merge.f y119).bind fun t122 => ((stamp_Has.f t122 a3_0 a3_1).bind fun t125 => ((stamp_Has.f t110 a3_0 a3_1).bind fun t126 => (if t126 = true then (if (t125 == true) = true then ((stamp_Merge.f (([t113, t110] : List (List (S23))))).bind fun t130 => ((stamp_Merge.f (([t116, t130] : List (List (S23))))).bind fun t136 => ((folkmootref01_Same.f k t122 t136).bind fun t139 => (if t139 = true then ((stamp_Merge.f (([t122, t110] : List (List (S23))))).bind fun t143 => ((folkmootref01_Same.f k t143 t122).bind fun t146 => (if t146 = true then ((folkmootref01_List.f k t122).bind fun t147 => (if t147 = true then ((folkmootlaw01_live.f).bind fun t148 => (some t148)) else (some false))) else (some false)))) else (some false))))) else (some false)) else ((stamp_Has.f t113 a3_0 a3_1).bind fun t149 => (if t149 = true then (if (t125 == true) = true then ((stamp_Merge.f (([t113, t110] : List (List (S23))))).bind fun t153 => ((stamp_Merge.f (([t116, t153] : List (List (S23))))).bind fun t159 => ((folkmootref01_Same.f k t122 t159).bind fun t162 => (if t162 = true then ((stamp_Merge.f (([t122, t110] : List (List (S23))))).bind fun t166 => ((folkmootref01_Same.f k t166 t122).bind fun t169 => (if t169 = true then ((folkmootref01_List.f k t122).bind fun t170 => (if t170 = true then ((folkmootlaw01_live.f).bind fun t171 => (some t171)) else (some false))) else (some false)))) else (some false))))) else (some false)) else ((stamp_Has.f t116 a3_0 a3_1).bind fun t172 => (if (t125 == t172) = true then ((stamp_Merge.f (([t113, t110] : List (List (S23))))).bind fun t176 => ((stamp_Merge.f (([t116, t176] : List (List (S23))))).bind fun t182 => ((folkmootref01_Same.f k t122 t182).bind fun t185 => (if t185 = true then ((stamp_Merge.f (([t122, t110] : List (List (S23))))).bind fun t189 => ((folkmootref01_Same.f k t189 t122).bind fun t192 => (if t192 = true then ((folkmootref01_List.f k t122).bind fun t193 => (if t193 = true then ((folkmootlaw01_live.f).bind fun t194 => (some t194)) else (some false))) else (some false)))) else (some false))))) else (some false))))))))) = some true := by first | (rw [hy119]; with_reducible exact H) | (have H2_ := (Option.bind_some _ _).symm.trans H; rw [hy119]; with_reducible exact H2_) | (have H2_ := (Option.bind_some _ _).symm.trans H; with_reducible exact H2_) | with_reducible exact H | (rw [hy119]; exact H) | exact H
  have Ny119 := Aside0.mk hy119
  clear hy119
  replace H := Option.bind_eq_some_iff.mp H
  obtain ⟨t122, A120, H⟩ := H
  replace H : ((stamp_Has.f t122 a3_0 a3_1).bind fun t125 => ((stamp_Has.f t110 a3_0 a3_1).bind fun t126 => (if t126 = true then (if (t125 == true) = true then ((stamp_Merge.f (([t113, t110] : List (List (S23))))).bind fun t130 => ((stamp_Merge.f (([t116, t130] : List (List (S23))))).bind fun t136 => ((folkmootref01_Same.f k t122 t136).bind fun t139 => (if t139 = true then ((stamp_Merge.f (([t122, t110] : List (List (S23))))).bind fun t143 => ((folkmootref01_Same.f k t143 t122).bind fun t146 => (if t146 = true then ((folkmootref01_List.f k t122).bind fun t147 => (if t147 = true then ((folkmootlaw01_live.f).bind fun t148 => (some t148)) else (some false))) else (some false)))) else (some false))))) else (some false)) else ((stamp_Has.f t113 a3_0 a3_1).bind fun t149 => (if t149 = true then (if (t125 == true) = true then ((stamp_Merge.f (([t113, t110] : List (List (S23))))).bind fun t153 => ((stamp_Merge.f (([t116, t153] : List (List (S23))))).bind fun t159 => ((folkmootref01_Same.f k t122 t159).bind fun t162 => (if t162 = true then ((stamp_Merge.f (([t122, t110] : List (List (S23))))).bind fun t166 => ((folkmootref01_Same.f k t166 t122).bind fun t169 => (if t169 = true then ((folkmootref01_List.f k t122).bind fun t170 => (if t170 = true then ((folkmootlaw01_live.f).bind fun t171 => (some t171)) else (some false))) else (some false)))) else (some false))))) else (some false)) else ((stamp_Has.f t116 a3_0 a3_1).bind fun t172 => (if (t125 == t172) = true then ((stamp_Merge.f (([t113, t110] : List (List (S23))))).bind fun t176 => ((stamp_Merge.f (([t116, t176] : List (List (S23))))).bind fun t182 => ((folkmootref01_Same.f k t122 t182).bind fun t185 => (if t185 = true then ((stamp_Merge.f (([t122, t110] : List (List (S23))))).bind fun t189 => ((folkmootref01_Same.f k t189 t122).bind fun t192 => (if t192 = true then ((folkmootref01_List.f k t122).bind fun t193 => (if t193 = true then ((folkmootlaw01_live.f).bind fun t194 => (some t194)) else (some false))) else (some false)))) else (some false))))) else (some false)))))))) = some true := H
  have A12 := Aside0.mk A120
  clear A120
  replace H := Option.bind_eq_some_iff.mp H
  obtain ⟨t125, A130, H⟩ := H
  replace H : ((stamp_Has.f t110 a3_0 a3_1).bind fun t126 => (if t126 = true then (if (t125 == true) = true then ((stamp_Merge.f (([t113, t110] : List (List (S23))))).bind fun t130 => ((stamp_Merge.f (([t116, t130] : List (List (S23))))).bind fun t136 => ((folkmootref01_Same.f k t122 t136).bind fun t139 => (if t139 = true then ((stamp_Merge.f (([t122, t110] : List (List (S23))))).bind fun t143 => ((folkmootref01_Same.f k t143 t122).bind fun t146 => (if t146 = true then ((folkmootref01_List.f k t122).bind fun t147 => (if t147 = true then ((folkmootlaw01_live.f).bind fun t148 => (some t148)) else (some false))) else (some false)))) else (some false))))) else (some false)) else ((stamp_Has.f t113 a3_0 a3_1).bind fun t149 => (if t149 = true then (if (t125 == true) = true then ((stamp_Merge.f (([t113, t110] : List (List (S23))))).bind fun t153 => ((stamp_Merge.f (([t116, t153] : List (List (S23))))).bind fun t159 => ((folkmootref01_Same.f k t122 t159).bind fun t162 => (if t162 = true then ((stamp_Merge.f (([t122, t110] : List (List (S23))))).bind fun t166 => ((folkmootref01_Same.f k t166 t122).bind fun t169 => (if t169 = true then ((folkmootref01_List.f k t122).bind fun t170 => (if t170 = true then ((folkmootlaw01_live.f).bind fun t171 => (some t171)) else (some false))) else (some false)))) else (some false))))) else (some false)) else ((stamp_Has.f t116 a3_0 a3_1).bind fun t172 => (if (t125 == t172) = true then ((stamp_Merge.f (([t113, t110] : List (List (S23))))).bind fun t176 => ((stamp_Merge.f (([t116, t176] : List (List (S23))))).bind fun t182 => ((folkmootref01_Same.f k t122 t182).bind fun t185 => (if t185 = true then ((stamp_Merge.f (([t122, t110] : List (List (S23))))).bind fun t189 => ((folkmootref01_Same.f k t189 t122).bind fun t192 => (if t192 = true then ((folkmootref01_List.f k t122).bind fun t193 => (if t193 = true then ((folkmootlaw01_live.f).bind fun t194 => (some t194)) else (some false))) else (some false)))) else (some false))))) else (some false))))))) = some true := H
  have A13 := Aside0.mk A130
  clear A130
  replace H := Option.bind_eq_some_iff.mp H
  obtain ⟨t126, A140, H⟩ := H
  replace H : (if t126 = true then (if (t125 == true) = true then ((stamp_Merge.f (([t113, t110] : List (List (S23))))).bind fun t130 => ((stamp_Merge.f (([t116, t130] : List (List (S23))))).bind fun t136 => ((folkmootref01_Same.f k t122 t136).bind fun t139 => (if t139 = true then ((stamp_Merge.f (([t122, t110] : List (List (S23))))).bind fun t143 => ((folkmootref01_Same.f k t143 t122).bind fun t146 => (if t146 = true then ((folkmootref01_List.f k t122).bind fun t147 => (if t147 = true then ((folkmootlaw01_live.f).bind fun t148 => (some t148)) else (some false))) else (some false)))) else (some false))))) else (some false)) else ((stamp_Has.f t113 a3_0 a3_1).bind fun t149 => (if t149 = true then (if (t125 == true) = true then ((stamp_Merge.f (([t113, t110] : List (List (S23))))).bind fun t153 => ((stamp_Merge.f (([t116, t153] : List (List (S23))))).bind fun t159 => ((folkmootref01_Same.f k t122 t159).bind fun t162 => (if t162 = true then ((stamp_Merge.f (([t122, t110] : List (List (S23))))).bind fun t166 => ((folkmootref01_Same.f k t166 t122).bind fun t169 => (if t169 = true then ((folkmootref01_List.f k t122).bind fun t170 => (if t170 = true then ((folkmootlaw01_live.f).bind fun t171 => (some t171)) else (some false))) else (some false)))) else (some false))))) else (some false)) else ((stamp_Has.f t116 a3_0 a3_1).bind fun t172 => (if (t125 == t172) = true then ((stamp_Merge.f (([t113, t110] : List (List (S23))))).bind fun t176 => ((stamp_Merge.f (([t116, t176] : List (List (S23))))).bind fun t182 => ((folkmootref01_Same.f k t122 t182).bind fun t185 => (if t185 = true then ((stamp_Merge.f (([t122, t110] : List (List (S23))))).bind fun t189 => ((folkmootref01_Same.f k t189 t122).bind fun t192 => (if t192 = true then ((folkmootref01_List.f k t122).bind fun t193 => (if t193 = true then ((folkmootlaw01_live.f).bind fun t194 => (some t194)) else (some false))) else (some false)))) else (some false))))) else (some false)))))) = some true := H
  have A14 := Aside0.mk A140
  clear A140
  by_cases c15 : t126 = true
  ·subst c15
   have H1 : (if (t125 == true) = true then ((stamp_Merge.f (([t113, t110] : List (List (S23))))).bind fun t130 => ((stamp_Merge.f (([t116, t130] : List (List (S23))))).bind fun t136 => ((folkmootref01_Same.f k t122 t136).bind fun t139 => (if t139 = true then ((stamp_Merge.f (([t122, t110] : List (List (S23))))).bind fun t143 => ((folkmootref01_Same.f k t143 t122).bind fun t146 => (if t146 = true then ((folkmootref01_List.f k t122).bind fun t147 => (if t147 = true then ((folkmootlaw01_live.f).bind fun t148 => (some t148)) else (some false))) else (some false)))) else (some false))))) else (some false)) = some true := by rw [if_pos rfl] at H; exact H
   clear H
   have H := H1
   clear H1
   by_cases c16 : (t125 == true) = true
   ·rw [if_pos c16] at H
    have c16b0 : (t125 == true) = true := c16
    (try (have c16e : (t125 = true) := by simpa using c16))
    (try (have c16b1 : decide (t125 = true) = true := by simpa using c16))
    (try (have c16b2 : (t125 == true) = true := by simpa using c16))
    clear c16
    obtain ⟨y127, hy127⟩ : ∃ y_ : List (List (S23)), y_ = (([t113, t110] : List (List (S23)))) := ⟨_, rfl⟩
    replace H : ((stamp_Merge.f y127).bind fun t130 => ((stamp_Merge.f (([t116, t130] : List (List (S23))))).bind fun t136 => ((folkmootref01_Same.f k t122 t136).bind fun t139 => (if t139 = true then ((stamp_Merge.f (([t122, t110] : List (List (S23))))).bind fun t143 => ((folkmootref01_Same.f k t143 t122).bind fun t146 => (if t146 = true then ((folkmootref01_List.f k t122).bind fun t147 => (if t147 = true then ((folkmootlaw01_live.f).bind fun t148 => (some t148)) else (some false))) else (some false)))) else (some false))))) = some true := by first | (rw [hy127]; with_reducible exact H) | (have H2_ := (Option.bind_some _ _).symm.trans H; rw [hy127]; with_reducible exact H2_) | (have H2_ := (Option.bind_some _ _).symm.trans H; with_reducible exact H2_) | with_reducible exact H | (rw [hy127]; exact H) | exact H
    have Ny127 := Aside0.mk hy127
    clear hy127
    replace H := Option.bind_eq_some_iff.mp H
    obtain ⟨t130, A170, H⟩ := H
    replace H : ((stamp_Merge.f (([t116, t130] : List (List (S23))))).bind fun t136 => ((folkmootref01_Same.f k t122 t136).bind fun t139 => (if t139 = true then ((stamp_Merge.f (([t122, t110] : List (List (S23))))).bind fun t143 => ((folkmootref01_Same.f k t143 t122).bind fun t146 => (if t146 = true then ((folkmootref01_List.f k t122).bind fun t147 => (if t147 = true then ((folkmootlaw01_live.f).bind fun t148 => (some t148)) else (some false))) else (some false)))) else (some false)))) = some true := H
    have A17 := Aside0.mk A170
    clear A170
    obtain ⟨y133, hy133⟩ : ∃ y_ : List (List (S23)), y_ = (([t116, t130] : List (List (S23)))) := ⟨_, rfl⟩
    replace H : ((stamp_Merge.f y133).bind fun t136 => ((folkmootref01_Same.f k t122 t136).bind fun t139 => (if t139 = true then ((stamp_Merge.f (([t122, t110] : List (List (S23))))).bind fun t143 => ((folkmootref01_Same.f k t143 t122).bind fun t146 => (if t146 = true then ((folkmootref01_List.f k t122).bind fun t147 => (if t147 = true then ((folkmootlaw01_live.f).bind fun t148 => (some t148)) else (some false))) else (some false)))) else (some false)))) = some true := by first | (rw [hy133]; with_reducible exact H) | (have H2_ := (Option.bind_some _ _).symm.trans H; rw [hy133]; with_reducible exact H2_) | (have H2_ := (Option.bind_some _ _).symm.trans H; with_reducible exact H2_) | with_reducible exact H | (rw [hy133]; exact H) | exact H
    have Ny133 := Aside0.mk hy133
    clear hy133
    replace H := Option.bind_eq_some_iff.mp H
    obtain ⟨t136, A180, H⟩ := H
    replace H : ((folkmootref01_Same.f k t122 t136).bind fun t139 => (if t139 = true then ((stamp_Merge.f (([t122, t110] : List (List (S23))))).bind fun t143 => ((folkmootref01_Same.f k t143 t122).bind fun t146 => (if t146 = true then ((folkmootref01_List.f k t122).bind fun t147 => (if t147 = true then ((folkmootlaw01_live.f).bind fun t148 => (some t148)) else (some false))) else (some false)))) else (some false))) = some true := H
    have A18 := Aside0.mk A180
    clear A180
    replace H := Option.bind_eq_some_iff.mp H
    obtain ⟨t139, A190, H⟩ := H
    replace H : (if t139 = true then ((stamp_Merge.f (([t122, t110] : List (List (S23))))).bind fun t143 => ((folkmootref01_Same.f k t143 t122).bind fun t146 => (if t146 = true then ((folkmootref01_List.f k t122).bind fun t147 => (if t147 = true then ((folkmootlaw01_live.f).bind fun t148 => (some t148)) else (some false))) else (some false)))) else (some false)) = some true := H
    have A19 := Aside0.mk A190
    clear A190
    by_cases c20 : t139 = true
    ·subst c20
     have H1 : ((stamp_Merge.f (([t122, t110] : List (List (S23))))).bind fun t143 => ((folkmootref01_Same.f k t143 t122).bind fun t146 => (if t146 = true then ((folkmootref01_List.f k t122).bind fun t147 => (if t147 = true then ((folkmootlaw01_live.f).bind fun t148 => (some t148)) else (some false))) else (some false)))) = some true := by rw [if_pos rfl] at H; exact H
     clear H
     have H := H1
     clear H1
     obtain ⟨y140, hy140⟩ : ∃ y_ : List (List (S23)), y_ = (([t122, t110] : List (List (S23)))) := ⟨_, rfl⟩
     replace H : ((stamp_Merge.f y140).bind fun t143 => ((folkmootref01_Same.f k t143 t122).bind fun t146 => (if t146 = true then ((folkmootref01_List.f k t122).bind fun t147 => (if t147 = true then ((folkmootlaw01_live.f).bind fun t148 => (some t148)) else (some false))) else (some false)))) = some true := by first | (rw [hy140]; with_reducible exact H) | (have H2_ := (Option.bind_some _ _).symm.trans H; rw [hy140]; with_reducible exact H2_) | (have H2_ := (Option.bind_some _ _).symm.trans H; with_reducible exact H2_) | with_reducible exact H | (rw [hy140]; exact H) | exact H
     have Ny140 := Aside0.mk hy140
     clear hy140
     replace H := Option.bind_eq_some_iff.mp H
     obtain ⟨t143, A210, H⟩ := H
     replace H : ((folkmootref01_Same.f k t143 t122).bind fun t146 => (if t146 = true then ((folkmootref01_List.f k t122).bind fun t147 => (if t147 = true then ((folkmootlaw01_live.f).bind fun t148 => (some t148)) else (some false))) else (some false))) = some true := H
     have A21 := Aside0.mk A210
     clear A210
     replace H := Option.bind_eq_some_iff.mp H
     obtain ⟨t146, A220, H⟩ := H
     replace H : (if t146 = true then ((folkmootref01_List.f k t122).bind fun t147 => (if t147 = true then ((folkmootlaw01_live.f).bind fun t148 => (some t148)) else (some false))) else (some false)) = some true := H
     have A22 := Aside0.mk A220
     clear A220
     by_cases c23 : t146 = true
     ·subst c23
      have H1 : ((folkmootref01_List.f k t122).bind fun t147 => (if t147 = true then ((folkmootlaw01_live.f).bind fun t148 => (some t148)) else (some false))) = some true := by rw [if_pos rfl] at H; exact H
      clear H
      have H := H1
      clear H1
      replace H := Option.bind_eq_some_iff.mp H
      obtain ⟨t147, A240, H⟩ := H
      replace H : (if t147 = true then ((folkmootlaw01_live.f).bind fun t148 => (some t148)) else (some false)) = some true := H
      have A24 := Aside0.mk A240
      clear A240
      by_cases c25 : t147 = true
      ·subst c25
       have H1 : ((folkmootlaw01_live.f).bind fun t148 => (some t148)) = some true := by rw [if_pos rfl] at H; exact H
       clear H
       have H := H1
       clear H1
       replace H := Option.bind_eq_some_iff.mp H
       obtain ⟨t148, A260, H⟩ := H
       replace H : (some t148) = some true := H
       have A26 := Aside0.mk A260
       clear A260
       have hrt_ := Aside0.mk (Option.some.inj H)
       clear H
       go_enter Try.func11, Try.ntmps11
       try go_wp2_with (first | ((with_reducible refine gate_dst (N := 7) rfl ?_); (try (refine gate_guard (by rfl) ?_; dsimp only)); refine box_event ?hg (N := 7) ?hd (cs := #[.int .i64 a3_0, .int .i64 a3_1]) (t := 23) ?hr ?_; (case hd => rfl); (case hg => rfl); (case hr => first | (go_simp; done) | (go_simp; rfl)); intro gb108 hg w27 hbox hb; have BK108 := Aside0.mk (hbox); have GW108 := Aside0.mk ((by rw [hg]; exact (below_size (uB HB)) : w.heap.size ≤ gb108)); have GE108 := Aside0.mk ((by rw [hg]; exact (below_size (uB HB)) : w.heap.size ≤ gb108)); replace HB := sB HB hb; clear hb hbox hg) | ((with_reducible refine gate_callee (f := 33) rfl ?_); refine goesL_ (some 24) rfl rfl Try.func33 (by kernel_rfl) rfl #[.slice A0 l0.length c0] rfl (by (try simp only [List.map_toArray, List.map_cons, List.map_nil]); first | done | rfl | (simp only [List.length_drop, List.length_take]; rfl)) ?_; (with_reducible refine (stamp_Sort.callsV _ _ l0 t110 _ ?side1 ?side2 A9.out).mono ?_); (case side1 => exact uC (Kd.C_below HR0.out HB.out)); (case side2 => exact HC0.out); rintro e w28 ⟨v111, rfl, ho0, hb⟩; refine ⟨_, rfl, ?_⟩; have HO112 := Aside0.mk (Kd.V_lower (Kd.V_mono (ok' := fun k_ => k_ ≠ gb108) ho0 (fun k_ hk_ => (Kd.freshB (g := gb108) (o := .cells #[.int .i64 a3_0, .int .i64 a3_1] 23 (0, 0)) (by (with_reducible repeat (first | refine blk_drewN ?_ _ | refine blk_drew ?_ | refine blk_alloc ?_ _)); exact BK108.out) k_ hk_))) (below_size (by repeat (first | (with_reducible first | exact HB.out | apply below_alloc | apply pw_below_drewN | apply below_drew1 | refine below_set ?_ GE108.out) | exact HB.out)))); replace BK108 := bkB BK108 hb; replace HB := sBg HB GE108 hb; (try clear hb); (try clear hb2); (try clear hk); (try clear hi); (try clear ho0)) | ((with_reducible refine gate_callee (f := 33) rfl ?_); refine goesL_ (some 26) rfl rfl Try.func33 (by kernel_rfl) rfl #[.slice A1 l1.length c1] rfl (by (try simp only [List.map_toArray, List.map_cons, List.map_nil]); first | done | rfl | (simp only [List.length_drop, List.length_take]; rfl)) ?_; (with_reducible refine (stamp_Sort.callsV _ _ l1 t113 _ ?side1 ?side2 A10.out).mono ?_); (case side1 => exact uC (Kd.C_below HR1.out HB.out)); (case side2 => exact HC1.out); rintro e w29 ⟨v114, rfl, ho0, hb⟩; refine ⟨_, rfl, ?_⟩; replace HO112 := Aside0.mk (Kd.V_below (by (with_reducible repeat (first | apply Kd.V_alloc | apply Kd.V_drewN | apply Kd.V_drew)); exact HO112.out) hb); have HO115 := Aside0.mk (Kd.V_lower (Kd.V_mono (ok' := fun k_ => k_ ≠ gb108) ho0 (fun k_ hk_ => (Kd.freshB (g := gb108) (o := .cells #[.int .i64 a3_0, .int .i64 a3_1] 23 (0, 0)) (by (with_reducible repeat (first | refine blk_drewN ?_ _ | refine blk_drew ?_ | refine blk_alloc ?_ _)); exact BK108.out) k_ hk_))) (below_size (by repeat (first | (with_reducible first | exact HB.out | apply below_alloc | apply pw_below_drewN | apply below_drew1 | refine below_set ?_ GE108.out) | exact HB.out)))); replace BK108 := bkB BK108 hb; replace HB := sBg HB GE108 hb; (try clear hb); (try clear hb2); (try clear hk); (try clear hi); (try clear ho0)) | ((with_reducible refine gate_callee (f := 33) rfl ?_); refine goesL_ (some 28) rfl rfl Try.func33 (by kernel_rfl) rfl #[.slice A2 l2.length c2] rfl (by (try simp only [List.map_toArray, List.map_cons, List.map_nil]); first | done | rfl | (simp only [List.length_drop, List.length_take]; rfl)) ?_; (with_reducible refine (stamp_Sort.callsV _ _ l2 t116 _ ?side1 ?side2 A11.out).mono ?_); (case side1 => exact uC (Kd.C_below HR2.out HB.out)); (case side2 => exact HC2.out); rintro e w30 ⟨v117, rfl, ho0, hb⟩; refine ⟨_, rfl, ?_⟩; replace HO112 := Aside0.mk (Kd.V_below (by (with_reducible repeat (first | apply Kd.V_alloc | apply Kd.V_drewN | apply Kd.V_drew)); exact HO112.out) hb); replace HO115 := Aside0.mk (Kd.V_below (by (with_reducible repeat (first | apply Kd.V_alloc | apply Kd.V_drewN | apply Kd.V_drew)); exact HO115.out) hb); have HO118 := Aside0.mk (Kd.V_lower (Kd.V_mono (ok' := fun k_ => k_ ≠ gb108) ho0 (fun k_ hk_ => (Kd.freshB (g := gb108) (o := .cells #[.int .i64 a3_0, .int .i64 a3_1] 23 (0, 0)) (by (with_reducible repeat (first | refine blk_drewN ?_ _ | refine blk_drew ?_ | refine blk_alloc ?_ _)); exact BK108.out) k_ hk_))) (below_size (by repeat (first | (with_reducible first | exact HB.out | apply below_alloc | apply pw_below_drewN | apply below_drew1 | refine below_set ?_ GE108.out) | exact HB.out)))); replace BK108 := bkB BK108 hb; replace HB := sBg HB GE108 hb; (try clear hb); (try clear hb2); (try clear hk); (try clear hi); (try clear ho0); obtain ⟨Ao31, co31, eo31⟩ := Kd.V_slice HO112.out; subst eo31; obtain ⟨Ao32, co32, eo32⟩ := Kd.V_slice HO115.out; subst eo32; obtain ⟨Ao33, co33, eo33⟩ := Kd.V_slice HO118.out; subst eo33) | ((with_reducible refine gate_dst (N := 32) rfl ?_); (try (refine gate_guard (by rfl) ?_; dsimp only)); refine Kd.N_lit (Kd.slice 23 k23) _ 31 ?hg (N' := 32) ?hd (xs := ([t110, t113, t116] : List (List (S23)))) (inner := [.slice Ao31 t110.length co31, .slice Ao32 t113.length co32, .slice Ao33 t116.length co33]) (ok := (fun k_ => k_ ≠ gb108)) (okp := (fun k_ => k_ ≠ gb108)) ?hr ?hp (fun _ hk => hk) ((show ∀ k_, w30.heap.size ≤ k_ → (fun k_ => k_ ≠ gb108) k_ from fun k_ hk => Kd.freshB (g := gb108) (o := .cells #[.int .i64 a3_0, .int .i64 a3_1] 23 (0, 0)) (by (with_reducible repeat (first | refine blk_drewN ?_ _ | refine blk_drew ?_ | refine blk_alloc ?_ _)); exact BK108.out) k_ hk) _ (Nat.le_refl _)) (Below.refl _ _) (Nat.le_refl _) (by simp) ?_; (case hd => rfl); (case hg => rfl); (case hr => first | (go_simp; done) | (go_simp; rfl)); (case hp => exact (Reps.one (show Kd.FK (Kd.slice 23 k23) _ _ t110 [.slice Ao31 t110.length co31] from (Kd.FK_slice_mk (Kd.V_reads' (Kd.V_mono (ok' := (fun k_ => k_ ≠ gb108)) (HO112.out) (fun k_ hk => hk))).2.1 (Kd.V_F (Kd.V_mono (e := 0) (base := 0) (ok' := (fun k_ => k_ ≠ gb108)) (HO112.out) (fun k_ hk => hk))))) (Reps.one (show Kd.FK (Kd.slice 23 k23) _ _ t113 [.slice Ao32 t113.length co32] from (Kd.FK_slice_mk (Kd.V_reads' (Kd.V_mono (ok' := (fun k_ => k_ ≠ gb108)) (HO115.out) (fun k_ hk => hk))).2.1 (Kd.V_F (Kd.V_mono (e := 0) (base := 0) (ok' := (fun k_ => k_ ≠ gb108)) (HO115.out) (fun k_ hk => hk))))) (Reps.one (show Kd.FK (Kd.slice 23 k23) _ _ t116 [.slice Ao33 t116.length co33] from (Kd.FK_slice_mk (Kd.V_reads' (Kd.V_mono (ok' := (fun k_ => k_ ≠ gb108)) (HO118.out) (fun k_ hk => hk))).2.1 (Kd.V_F (Kd.V_mono (e := 0) (base := 0) (ok' := (fun k_ => k_ ≠ gb108)) (HO118.out) (fun k_ hk => hk))))) (Reps.none _ _))))); intro v120 w34 ho35 hb hg_ hnew_; clear hg_ hnew_; (first | rw [← Ny119.out] at ho35 | (simp only [Int.reduceToNat] at ho35; rw [← Ny119.out] at ho35)); replace HO112 := Aside0.mk (Kd.V_elder' (by (with_reducible repeat (first | apply Kd.V_alloc | apply Kd.V_drewN | apply Kd.V_drew)); exact HO112.out) (Kd.N_base ho35) hb); replace HO115 := Aside0.mk (Kd.V_elder' (by (with_reducible repeat (first | apply Kd.V_alloc | apply Kd.V_drewN | apply Kd.V_drew)); exact HO115.out) (Kd.N_base ho35) hb); replace HO118 := Aside0.mk (Kd.V_elder' (by (with_reducible repeat (first | apply Kd.V_alloc | apply Kd.V_drewN | apply Kd.V_drew)); exact HO118.out) (Kd.N_base ho35) hb); have HO121 := Aside0.mk (Kd.N_lower ho35 (below_size (by repeat (first | (with_reducible first | exact HB.out | apply below_alloc | apply pw_below_drewN | apply below_drew1 | refine below_set ?_ GE108.out) | exact HB.out)))); replace BK108 := bkB BK108 hb; replace HB := sBg HB GE108 hb; clear hb ho35; obtain ⟨Ao36, co36, eo36⟩ := Kd.N_slice HO121.out; subst eo36) | ((with_reducible refine gate_callee (f := 38) rfl ?_); refine goesL_ (some 33) rfl rfl Try.func38 (by kernel_rfl) rfl #[.slice Ao36 y119.length co36] rfl (by (try simp only [List.map_toArray, List.map_cons, List.map_nil]); first | done | rfl | (simp only [List.length_drop, List.length_take]; rfl)) ?_; (with_reducible refine (stamp_Merge.callsV _ _ y119 t122 _ ?side1 ?side2 A12.out).mono ?_); (case side1 => exact uC (Kd.N_reads' HO121.out).2.2); (case side2 => exact (Kd.N_reads' HO121.out).2.1); rintro e w37 ⟨v123, rfl, ho0, hb⟩; refine ⟨_, rfl, ?_⟩; replace HO112 := Aside0.mk (Kd.V_below (by (with_reducible repeat (first | apply Kd.V_alloc | apply Kd.V_drewN | apply Kd.V_drew)); exact HO112.out) hb); replace HO115 := Aside0.mk (Kd.V_below (by (with_reducible repeat (first | apply Kd.V_alloc | apply Kd.V_drewN | apply Kd.V_drew)); exact HO115.out) hb); replace HO118 := Aside0.mk (Kd.V_below (by (with_reducible repeat (first | apply Kd.V_alloc | apply Kd.V_drewN | apply Kd.V_drew)); exact HO118.out) hb); have HO124 := Aside0.mk (Kd.V_lower (Kd.V_mono (ok' := fun k_ => some k_ ≠ (.slice Ao36 y119.length co36 : Value).ownBlock ∧ k_ ≠ gb108) ho0 (fun k_ hk_ => ⟨(Kd.fresh' (Kd.N_lt (by (with_reducible repeat (first | apply Kd.N_alloc | apply Kd.N_drewN | apply Kd.N_drew)); exact HO121.out)) k_ hk_), (Kd.freshB (g := gb108) (o := .cells #[.int .i64 a3_0, .int .i64 a3_1] 23 (0, 0)) (by (with_reducible repeat (first | refine blk_drewN ?_ _ | refine blk_drew ?_ | refine blk_alloc ?_ _)); exact BK108.out) k_ hk_)⟩)) (below_size (by repeat (first | (with_reducible first | exact HB.out | apply below_alloc | apply pw_below_drewN | apply below_drew1 | refine below_set ?_ GE108.out) | exact HB.out)))); replace HO121 := Aside0.mk (Kd.N_below (by (with_reducible repeat (first | apply Kd.N_alloc | apply Kd.N_drewN | apply Kd.N_drew)); exact HO121.out) hb); replace BK108 := bkB BK108 hb; replace HB := sBg HB GE108 hb; (try clear hb); (try clear hb2); (try clear hk); (try clear hi); (try clear ho0)))
       replace HO112 := Aside0.mk (Kd.V_drew HO112.out)
       replace HO115 := Aside0.mk (Kd.V_drew HO115.out)
       replace HO118 := Aside0.mk (Kd.V_drew HO118.out)
       replace HO121 := Aside0.mk (Kd.N_drew HO121.out)
       replace HO124 := Aside0.mk (Kd.V_drew HO124.out)
       replace BK108 := Aside0.mk (blk_drew BK108.out)
       replace HB := Aside0.mk (below_drew1 HB.out)
       obtain ⟨Ao39, co39, eo39⟩ := Kd.V_slice HO124.out
       (first | subst eo39 | (injection eo39 with f1_ f2_ f3_; have f4_ := f1_.symm; have f5_ := f3_.symm; clear f1_ f2_ f3_; subst f4_; subst f5_))
       refine start_ (n := 44) (S := fun w' => w'.cell? ⟨gb108, 0, none⟩ = some (.int .i64 a3_0) ∧ w'.cell? ⟨gb108, 1, none⟩ = some (.int .i64 a3_1)) (ds := []) (bA 44 0) (by kernel_rfl) rfl rfl ⟨(blk_cell BK108.out 0).trans rfl, (blk_cell BK108.out 1).trans rfl⟩ (fun hHeld => ?_); refine with_tabW folkmootlaw01_StampMerges.tab5 folkmootlaw01_StampMerges.bits5 (fun HT_ HW_ => ?_)
       generalize w37.drew = w38 at HO112 HO115 HO118 HO121 HO124 BK108 HB hHeld ⊢
       refine pY 0 (some 34) (bA 44 1) HT_ ?_
       refine pY 3 (some 37) (bA 44 9) HT_ ?_
       refine take_ (i := 1) (N := some 35) (v := ?_) (a' := ?_) (bA 44 11) rfl rfl (take_ofW HT_.out HW_.out (by kernel_rfl)) (fun _ _ _ h => h) (Or.inl ⟨by rfl, ?_⟩) hHeld ?_ ?_
       rotate_left
       ·rintro w' ⟨s0, s1⟩
        go_simp
        with_reducible rfl
       rotate_left
       ·simp only [Act.put, List.setIfInBounds_toArray, List.set_cons_zero, List.set_cons_succ, i64_w, i32_w]
        rfl
       refine take_ (i := 4) (N := some 38) (v := ?_) (a' := ?_) (bA 44 27) rfl rfl (take_ofW HT_.out HW_.out (by kernel_rfl)) (fun _ _ _ h => h) (Or.inl ⟨by rfl, ?_⟩) hHeld ?_ ?_
       rotate_left
       ·rintro w' ⟨s0, s1⟩
        go_simp
        with_reducible rfl
       rotate_left
       ·simp only [Act.put, List.setIfInBounds_toArray, List.set_cons_zero, List.set_cons_succ, i64_w, i32_w]
        rfl
       refine one_ (i := 2) (N := some 36) (bA 44 31) rfl rfl (one_of HT_.out (by kernel_rfl)) (by decide) (fun K hK => ?_)
       refine goes_ Try.func34 (by kernel_rfl) rfl #[.slice Ao39 t122.length co39, .agg #[.int .i64 a3_0, .int .i64 a3_1]] (by rfl) rfl rfl (by (try simp only [List.map_toArray, List.map_cons, List.map_nil]); first | done | rfl | (simp only [List.length_drop, List.length_take]; rfl)) ?_
       with_reducible refine (stamp_Has.calls _ _ t122 a3_0 a3_1 t125 _ ?side1 ?side2 A13.out).mono ?_
       (case side1 => exact uC (Kd.V_reads' HO124.out).2.2)
       (case side2 => exact (Kd.V_reads' HO124.out).2.1)
       rintro e w40 ⟨rfl, hb⟩
       refine ⟨_, rfl, ?_⟩
       replace HO112 := Aside0.mk (Kd.V_below (by (with_reducible repeat (first | apply Kd.V_alloc | apply Kd.V_drewN | apply Kd.V_drew)); exact HO112.out) hb)
       replace HO115 := Aside0.mk (Kd.V_below (by (with_reducible repeat (first | apply Kd.V_alloc | apply Kd.V_drewN | apply Kd.V_drew)); exact HO115.out) hb)
       replace HO118 := Aside0.mk (Kd.V_below (by (with_reducible repeat (first | apply Kd.V_alloc | apply Kd.V_drewN | apply Kd.V_drew)); exact HO118.out) hb)
       replace HO121 := Aside0.mk (Kd.N_below (by (with_reducible repeat (first | apply Kd.N_alloc | apply Kd.N_drewN | apply Kd.N_drew)); exact HO121.out) hb)
       replace HO124 := Aside0.mk (Kd.V_below (by (with_reducible repeat (first | apply Kd.V_alloc | apply Kd.V_drewN | apply Kd.V_drew)); exact HO124.out) hb)
       replace BK108 := bkB BK108 hb
       replace HB := sBg HB GE108 hb
       (try clear hb)
       (try clear hb2)
       (try clear hk)
       (try clear hi)
       refine hK.out _ _ ⟨(blk_cell BK108.out 0).trans rfl, (blk_cell BK108.out 1).trans rfl⟩ (fun hHeld => ?_)
       clear hK K
       refine norm_ (a' := ?_) ?_ ?_
       rotate_left
       ·show Act.put _ (some 36) _ = _
        simp only [Act.put, List.setIfInBounds_toArray, List.set_cons_zero, List.set_cons_succ, i64_w, i32_w]
        rfl
       refine one_ (i := 5) (N := some 39) (bA 44 63) rfl rfl (one_of HT_.out (by kernel_rfl)) (by decide) (fun K hK => ?_)
       refine goes_ Try.func34 (by kernel_rfl) rfl #[.slice Ao31 t110.length co31, .agg #[.int .i64 a3_0, .int .i64 a3_1]] (by rfl) rfl rfl (by (try simp only [List.map_toArray, List.map_cons, List.map_nil]); first | done | rfl | (simp only [List.length_drop, List.length_take]; rfl)) ?_
       with_reducible refine (stamp_Has.calls _ _ t110 a3_0 a3_1 true _ ?side1 ?side2 A14.out).mono ?_
       (case side1 => exact uC (Kd.V_reads' HO112.out).2.2)
       (case side2 => exact (Kd.V_reads' HO112.out).2.1)
       rintro e w41 ⟨rfl, hb⟩
       refine ⟨_, rfl, ?_⟩
       replace HO112 := Aside0.mk (Kd.V_below (by (with_reducible repeat (first | apply Kd.V_alloc | apply Kd.V_drewN | apply Kd.V_drew)); exact HO112.out) hb)
       replace HO115 := Aside0.mk (Kd.V_below (by (with_reducible repeat (first | apply Kd.V_alloc | apply Kd.V_drewN | apply Kd.V_drew)); exact HO115.out) hb)
       replace HO118 := Aside0.mk (Kd.V_below (by (with_reducible repeat (first | apply Kd.V_alloc | apply Kd.V_drewN | apply Kd.V_drew)); exact HO118.out) hb)
       replace HO121 := Aside0.mk (Kd.N_below (by (with_reducible repeat (first | apply Kd.N_alloc | apply Kd.N_drewN | apply Kd.N_drew)); exact HO121.out) hb)
       replace HO124 := Aside0.mk (Kd.V_below (by (with_reducible repeat (first | apply Kd.V_alloc | apply Kd.V_drewN | apply Kd.V_drew)); exact HO124.out) hb)
       replace BK108 := bkB BK108 hb
       replace HB := sBg HB GE108 hb
       (try clear hb)
       (try clear hb2)
       (try clear hk)
       (try clear hi)
       refine hK.out _ _ ⟨(blk_cell BK108.out 0).trans rfl, (blk_cell BK108.out 1).trans rfl⟩ (fun hHeld => ?_)
       clear hK K
       refine norm_ (a' := ?_) ?_ ?_
       rotate_left
       ·show Act.put _ (some 39) _ = _
        simp only [Act.put, List.setIfInBounds_toArray, List.set_cons_zero, List.set_cons_succ, i64_w, i32_w]
        rfl
       refine pY 6 (some 40) (bA 44 127) HT_ ?_
       refine pN 7 (some 41) (bA 44 255) HT_ ?_
       refine pN 8 (some 42) (bA 44 511) HT_ ?_
       refine pN 9 (some 43) (bA 44 1023) HT_ ?_
       refine pY 10 (some 44) (bA 44 2047) HT_ ?_
       refine pY 11 (some 45) (bA 44 4095) HT_ ?_
       refine pN 12 (some 46) (bA 44 8191) HT_ ?_
       refine pN 13 (some 47) (bA 44 16383) HT_ ?_
       refine pN 14 (some 48) (bA 44 32767) HT_ ?_
       refine pY 15 (some 49) (bA 44 65535) HT_ ?_
       refine pY 16 (some 50) (bA 44 131071) HT_ ?_
       refine pY 17 (some 51) (bA 44 262143) HT_ ?_
       refine pY 18 (some 52) (bA 44 524287) HT_ ?_
       refine pY 19 (some 53) (bA 44 1048575) HT_ ?_
       refine pY 20 (some 54) (bA 44 2097151) HT_ ?_
       refine pY 21 (some 55) (bA 44 4194303) HT_ ?_
       refine one_ (i := 22) (N := some 56) (bA 44 8388607) rfl rfl (one_of HT_.out (by kernel_rfl)) (by decide) (fun K hK => ?_)
       refine Kd.N_lit_step (Kd.slice 23 k23) _ 31 ?hg (N' := 56) ?hd (xs := ([t113, t110] : List (List (S23)))) (inner := [.slice Ao32 t113.length co32, .slice Ao31 t110.length co31]) (ok := (fun k_ => some k_ ≠ (.slice Ao36 y119.length co36 : Value).ownBlock ∧ k_ ≠ gb108)) (okp := (fun k_ => some k_ ≠ (.slice Ao36 y119.length co36 : Value).ownBlock ∧ k_ ≠ gb108)) ?hr ?hp (fun _ hk => hk) ((show ∀ k_, w41.heap.size ≤ k_ → (fun k_ => some k_ ≠ (.slice Ao36 y119.length co36 : Value).ownBlock ∧ k_ ≠ gb108) k_ from fun k_ hk => ⟨Kd.fresh' (Kd.N_lt (by (with_reducible repeat (first | apply Kd.N_alloc | apply Kd.N_drewN | apply Kd.N_drew)); exact HO121.out)) k_ hk, Kd.freshB (g := gb108) (o := .cells #[.int .i64 a3_0, .int .i64 a3_1] 23 (0, 0)) (by (with_reducible repeat (first | refine blk_drewN ?_ _ | refine blk_drew ?_ | refine blk_alloc ?_ _)); exact BK108.out) k_ hk⟩) _ (Nat.le_refl _)) (Below.refl _ _) (Nat.le_refl _) (by simp) ?_; (case hd => rfl); (case hg => rfl); (case hr => first | (go_simp; done) | (go_simp; rfl)); (case hp => exact (Reps.one (show Kd.FK (Kd.slice 23 k23) _ _ t113 [.slice Ao32 t113.length co32] from (Kd.FK_slice_mk (Kd.V_reads' (Kd.V_mono (ok' := (fun k_ => some k_ ≠ (.slice Ao36 y119.length co36 : Value).ownBlock ∧ k_ ≠ gb108)) (HO115.out) (fun k_ hk => ⟨hk.2, hk.1⟩))).2.1 (Kd.V_F (Kd.V_mono (e := 0) (base := 0) (ok' := (fun k_ => some k_ ≠ (.slice Ao36 y119.length co36 : Value).ownBlock ∧ k_ ≠ gb108)) (HO115.out) (fun k_ hk => ⟨hk.2, hk.1⟩))))) (Reps.one (show Kd.FK (Kd.slice 23 k23) _ _ t110 [.slice Ao31 t110.length co31] from (Kd.FK_slice_mk (Kd.V_reads' (Kd.V_mono (ok' := (fun k_ => some k_ ≠ (.slice Ao36 y119.length co36 : Value).ownBlock ∧ k_ ≠ gb108)) (HO112.out) (fun k_ hk => ⟨hk.2, hk.1⟩))).2.1 (Kd.V_F (Kd.V_mono (e := 0) (base := 0) (ok' := (fun k_ => some k_ ≠ (.slice Ao36 y119.length co36 : Value).ownBlock ∧ k_ ≠ gb108)) (HO112.out) (fun k_ hk => ⟨hk.2, hk.1⟩))))) (Reps.none _ _))))
       intro v128 w42 ho43 hb hg_ hnew_
       clear hg_ hnew_
       (first | rw [← Ny127.out] at ho43 | (simp only [Int.reduceToNat] at ho43; rw [← Ny127.out] at ho43))
       replace HO112 := Aside0.mk (Kd.V_elder' (by (with_reducible repeat (first | apply Kd.V_alloc | apply Kd.V_drewN | apply Kd.V_drew)); exact HO112.out) (Kd.N_base ho43) hb)
       replace HO115 := Aside0.mk (Kd.V_elder' (by (with_reducible repeat (first | apply Kd.V_alloc | apply Kd.V_drewN | apply Kd.V_drew)); exact HO115.out) (Kd.N_base ho43) hb)
       replace HO118 := Aside0.mk (Kd.V_elder' (by (with_reducible repeat (first | apply Kd.V_alloc | apply Kd.V_drewN | apply Kd.V_drew)); exact HO118.out) (Kd.N_base ho43) hb)
       replace HO121 := Aside0.mk (Kd.N_elder' (by (with_reducible repeat (first | apply Kd.N_alloc | apply Kd.N_drewN | apply Kd.N_drew)); exact HO121.out) (Kd.N_base ho43) hb)
       replace HO124 := Aside0.mk (Kd.V_elder' (by (with_reducible repeat (first | apply Kd.V_alloc | apply Kd.V_drewN | apply Kd.V_drew)); exact HO124.out) (Kd.N_base ho43) hb)
       have HO129 := Aside0.mk (Kd.N_lower ho43 (below_size (by repeat (first | (with_reducible first | exact HB.out | apply below_alloc | apply pw_below_drewN | apply below_drew1 | refine below_set ?_ GE108.out) | exact HB.out))))
       replace BK108 := bkB BK108 hb
       replace HB := sBg HB GE108 hb
       clear hb ho43
       obtain ⟨Ao44, co44, eo44⟩ := Kd.N_slice HO129.out
       (first | subst eo44 | (injection eo44 with f1_ f2_ f3_; have f4_ := f1_.symm; have f5_ := f3_.symm; clear f1_ f2_ f3_; subst f4_; subst f5_))
       refine hK.out _ _ ⟨(blk_cell BK108.out 0).trans rfl, (blk_cell BK108.out 1).trans rfl⟩ (fun hHeld => ?_)
       clear hK K
       refine norm_ (a' := ?_) ?_ ?_
       rotate_left
       ·show Act.put _ (some 56) _ = _
        simp only [Act.put, List.setIfInBounds_toArray, List.set_cons_zero, List.set_cons_succ, i64_w, i32_w]
        rfl
       refine one_ (i := 23) (N := some 57) (bA 44 16777215) rfl rfl (one_of HT_.out (by kernel_rfl)) (by decide) (fun K hK => ?_)
       refine goes_ Try.func38 (by kernel_rfl) rfl #[.slice Ao44 y127.length co44] (by rfl) rfl rfl (by (try simp only [List.map_toArray, List.map_cons, List.map_nil]); first | done | rfl | (simp only [List.length_drop, List.length_take]; rfl)) ?_
       with_reducible refine (stamp_Merge.callsV _ _ y127 t130 _ ?side1 ?side2 A17.out).mono ?_
       (case side1 => exact uC (Kd.N_reads' HO129.out).2.2)
       (case side2 => exact (Kd.N_reads' HO129.out).2.1)
       rintro e w45 ⟨v131, rfl, ho0, hb⟩
       refine ⟨_, rfl, ?_⟩
       replace HO112 := Aside0.mk (Kd.V_below (by (with_reducible repeat (first | apply Kd.V_alloc | apply Kd.V_drewN | apply Kd.V_drew)); exact HO112.out) hb)
       replace HO115 := Aside0.mk (Kd.V_below (by (with_reducible repeat (first | apply Kd.V_alloc | apply Kd.V_drewN | apply Kd.V_drew)); exact HO115.out) hb)
       replace HO118 := Aside0.mk (Kd.V_below (by (with_reducible repeat (first | apply Kd.V_alloc | apply Kd.V_drewN | apply Kd.V_drew)); exact HO118.out) hb)
       replace HO124 := Aside0.mk (Kd.V_below (by (with_reducible repeat (first | apply Kd.V_alloc | apply Kd.V_drewN | apply Kd.V_drew)); exact HO124.out) hb)
       have HO132 := Aside0.mk (Kd.V_lower (Kd.V_mono (ok' := fun k_ => some k_ ≠ (.slice Ao36 y119.length co36 : Value).ownBlock ∧ some k_ ≠ (.slice Ao44 y127.length co44 : Value).ownBlock ∧ k_ ≠ gb108) ho0 (fun k_ hk_ => ⟨(Kd.fresh' (Kd.N_lt (by (with_reducible repeat (first | apply Kd.N_alloc | apply Kd.N_drewN | apply Kd.N_drew)); exact HO121.out)) k_ hk_), (Kd.fresh' (Kd.N_lt (by (with_reducible repeat (first | apply Kd.N_alloc | apply Kd.N_drewN | apply Kd.N_drew)); exact HO129.out)) k_ hk_), (Kd.freshB (g := gb108) (o := .cells #[.int .i64 a3_0, .int .i64 a3_1] 23 (0, 0)) (by (with_reducible repeat (first | refine blk_drewN ?_ _ | refine blk_drew ?_ | refine blk_alloc ?_ _)); exact BK108.out) k_ hk_)⟩)) (below_size (by repeat (first | (with_reducible first | exact HB.out | apply below_alloc | apply pw_below_drewN | apply below_drew1 | refine below_set ?_ GE108.out) | exact HB.out))))
       replace HO121 := Aside0.mk (Kd.N_below (by (with_reducible repeat (first | apply Kd.N_alloc | apply Kd.N_drewN | apply Kd.N_drew)); exact HO121.out) hb)
       replace HO129 := Aside0.mk (Kd.N_below (by (with_reducible repeat (first | apply Kd.N_alloc | apply Kd.N_drewN | apply Kd.N_drew)); exact HO129.out) hb)
       replace BK108 := bkB BK108 hb
       replace HB := sBg HB GE108 hb
       (try clear hb)
       (try clear hb2)
       (try clear hk)
       (try clear hi)
       (try clear ho0)
       obtain ⟨Ao46, co46, eo46⟩ := Kd.V_slice HO132.out
       (first | subst eo46 | (injection eo46 with f1_ f2_ f3_; have f4_ := f1_.symm; have f5_ := f3_.symm; clear f1_ f2_ f3_; subst f4_; subst f5_))
       refine hK.out _ _ ⟨(blk_cell BK108.out 0).trans rfl, (blk_cell BK108.out 1).trans rfl⟩ (fun hHeld => ?_)
       clear hK K
       refine norm_ (a' := ?_) ?_ ?_
       rotate_left
       ·show Act.put _ (some 57) _ = _
        simp only [Act.put, List.setIfInBounds_toArray, List.set_cons_zero, List.set_cons_succ, i64_w, i32_w]
        rfl
       refine one_ (i := 24) (N := some 58) (bA 44 33554431) rfl rfl (one_of HT_.out (by kernel_rfl)) (by decide) (fun K hK => ?_)
       refine Kd.N_lit_step (Kd.slice 23 k23) _ 31 ?hg (N' := 58) ?hd (xs := ([t116, t130] : List (List (S23)))) (inner := [.slice Ao33 t116.length co33, .slice Ao46 t130.length co46]) (ok := (fun k_ => some k_ ≠ (.slice Ao36 y119.length co36 : Value).ownBlock ∧ some k_ ≠ (.slice Ao44 y127.length co44 : Value).ownBlock ∧ k_ ≠ gb108)) (okp := (fun k_ => some k_ ≠ (.slice Ao36 y119.length co36 : Value).ownBlock ∧ some k_ ≠ (.slice Ao44 y127.length co44 : Value).ownBlock ∧ k_ ≠ gb108)) ?hr ?hp (fun _ hk => hk) ((show ∀ k_, w45.heap.size ≤ k_ → (fun k_ => some k_ ≠ (.slice Ao36 y119.length co36 : Value).ownBlock ∧ some k_ ≠ (.slice Ao44 y127.length co44 : Value).ownBlock ∧ k_ ≠ gb108) k_ from fun k_ hk => ⟨Kd.fresh' (Kd.N_lt (by (with_reducible repeat (first | apply Kd.N_alloc | apply Kd.N_drewN | apply Kd.N_drew)); exact HO121.out)) k_ hk, Kd.fresh' (Kd.N_lt (by (with_reducible repeat (first | apply Kd.N_alloc | apply Kd.N_drewN | apply Kd.N_drew)); exact HO129.out)) k_ hk, Kd.freshB (g := gb108) (o := .cells #[.int .i64 a3_0, .int .i64 a3_1] 23 (0, 0)) (by (with_reducible repeat (first | refine blk_drewN ?_ _ | refine blk_drew ?_ | refine blk_alloc ?_ _)); exact BK108.out) k_ hk⟩) _ (Nat.le_refl _)) (Below.refl _ _) (Nat.le_refl _) (by simp) ?_; (case hd => rfl); (case hg => rfl); (case hr => first | (go_simp; done) | (go_simp; rfl)); (case hp => exact (Reps.one (show Kd.FK (Kd.slice 23 k23) _ _ t116 [.slice Ao33 t116.length co33] from (Kd.FK_slice_mk (Kd.V_reads' (Kd.V_mono (ok' := (fun k_ => some k_ ≠ (.slice Ao36 y119.length co36 : Value).ownBlock ∧ some k_ ≠ (.slice Ao44 y127.length co44 : Value).ownBlock ∧ k_ ≠ gb108)) (HO118.out) (fun k_ hk => ⟨hk.1.2, ⟨hk.2, hk.1.1⟩⟩))).2.1 (Kd.V_F (Kd.V_mono (e := 0) (base := 0) (ok' := (fun k_ => some k_ ≠ (.slice Ao36 y119.length co36 : Value).ownBlock ∧ some k_ ≠ (.slice Ao44 y127.length co44 : Value).ownBlock ∧ k_ ≠ gb108)) (HO118.out) (fun k_ hk => ⟨hk.1.2, ⟨hk.2, hk.1.1⟩⟩))))) (Reps.one (show Kd.FK (Kd.slice 23 k23) _ _ t130 [.slice Ao46 t130.length co46] from (Kd.FK_slice_mk (Kd.V_reads' (Kd.V_mono (ok' := (fun k_ => some k_ ≠ (.slice Ao36 y119.length co36 : Value).ownBlock ∧ some k_ ≠ (.slice Ao44 y127.length co44 : Value).ownBlock ∧ k_ ≠ gb108)) (HO132.out) (fun k_ hk => ⟨hk.1, ⟨hk.2.1, hk.2.2⟩⟩))).2.1 (Kd.V_F (Kd.V_mono (e := 0) (base := 0) (ok' := (fun k_ => some k_ ≠ (.slice Ao36 y119.length co36 : Value).ownBlock ∧ some k_ ≠ (.slice Ao44 y127.length co44 : Value).ownBlock ∧ k_ ≠ gb108)) (HO132.out) (fun k_ hk => ⟨hk.1, ⟨hk.2.1, hk.2.2⟩⟩))))) (Reps.none _ _))))
       intro v134 w47 ho48 hb hg_ hnew_
       clear hg_ hnew_
       (first | rw [← Ny133.out] at ho48 | (simp only [Int.reduceToNat] at ho48; rw [← Ny133.out] at ho48))
       replace HO112 := Aside0.mk (Kd.V_elder' (by (with_reducible repeat (first | apply Kd.V_alloc | apply Kd.V_drewN | apply Kd.V_drew)); exact HO112.out) (Kd.N_base ho48) hb)
       replace HO115 := Aside0.mk (Kd.V_elder' (by (with_reducible repeat (first | apply Kd.V_alloc | apply Kd.V_drewN | apply Kd.V_drew)); exact HO115.out) (Kd.N_base ho48) hb)
       replace HO118 := Aside0.mk (Kd.V_elder' (by (with_reducible repeat (first | apply Kd.V_alloc | apply Kd.V_drewN | apply Kd.V_drew)); exact HO118.out) (Kd.N_base ho48) hb)
       replace HO121 := Aside0.mk (Kd.N_elder' (by (with_reducible repeat (first | apply Kd.N_alloc | apply Kd.N_drewN | apply Kd.N_drew)); exact HO121.out) (Kd.N_base ho48) hb)
       replace HO124 := Aside0.mk (Kd.V_elder' (by (with_reducible repeat (first | apply Kd.V_alloc | apply Kd.V_drewN | apply Kd.V_drew)); exact HO124.out) (Kd.N_base ho48) hb)
       replace HO129 := Aside0.mk (Kd.N_elder' (by (with_reducible repeat (first | apply Kd.N_alloc | apply Kd.N_drewN | apply Kd.N_drew)); exact HO129.out) (Kd.N_base ho48) hb)
       replace HO132 := Aside0.mk (Kd.V_elder' (by (with_reducible repeat (first | apply Kd.V_alloc | apply Kd.V_drewN | apply Kd.V_drew)); exact HO132.out) (Kd.N_base ho48) hb)
       have HO135 := Aside0.mk (Kd.N_lower ho48 (below_size (by repeat (first | (with_reducible first | exact HB.out | apply below_alloc | apply pw_below_drewN | apply below_drew1 | refine below_set ?_ GE108.out) | exact HB.out))))
       replace BK108 := bkB BK108 hb
       replace HB := sBg HB GE108 hb
       clear hb ho48
       obtain ⟨Ao49, co49, eo49⟩ := Kd.N_slice HO135.out
       (first | subst eo49 | (injection eo49 with f1_ f2_ f3_; have f4_ := f1_.symm; have f5_ := f3_.symm; clear f1_ f2_ f3_; subst f4_; subst f5_))
       refine hK.out _ _ ⟨(blk_cell BK108.out 0).trans rfl, (blk_cell BK108.out 1).trans rfl⟩ (fun hHeld => ?_)
       clear hK K
       refine norm_ (a' := ?_) ?_ ?_
       rotate_left
       ·show Act.put _ (some 58) _ = _
        simp only [Act.put, List.setIfInBounds_toArray, List.set_cons_zero, List.set_cons_succ, i64_w, i32_w]
        rfl
       refine one_ (i := 25) (N := some 59) (bA 44 67108863) rfl rfl (one_of HT_.out (by kernel_rfl)) (by decide) (fun K hK => ?_)
       refine goes_ Try.func38 (by kernel_rfl) rfl #[.slice Ao49 y133.length co49] (by rfl) rfl rfl (by (try simp only [List.map_toArray, List.map_cons, List.map_nil]); first | done | rfl | (simp only [List.length_drop, List.length_take]; rfl)) ?_
       with_reducible refine (stamp_Merge.callsV _ _ y133 t136 _ ?side1 ?side2 A18.out).mono ?_
       (case side1 => exact uC (Kd.N_reads' HO135.out).2.2)
       (case side2 => exact (Kd.N_reads' HO135.out).2.1)
       rintro e w50 ⟨v137, rfl, ho0, hb⟩
       refine ⟨_, rfl, ?_⟩
       replace HO112 := Aside0.mk (Kd.V_below (by (with_reducible repeat (first | apply Kd.V_alloc | apply Kd.V_drewN | apply Kd.V_drew)); exact HO112.out) hb)
       replace HO115 := Aside0.mk (Kd.V_below (by (with_reducible repeat (first | apply Kd.V_alloc | apply Kd.V_drewN | apply Kd.V_drew)); exact HO115.out) hb)
       replace HO118 := Aside0.mk (Kd.V_below (by (with_reducible repeat (first | apply Kd.V_alloc | apply Kd.V_drewN | apply Kd.V_drew)); exact HO118.out) hb)
       replace HO124 := Aside0.mk (Kd.V_below (by (with_reducible repeat (first | apply Kd.V_alloc | apply Kd.V_drewN | apply Kd.V_drew)); exact HO124.out) hb)
       replace HO132 := Aside0.mk (Kd.V_below (by (with_reducible repeat (first | apply Kd.V_alloc | apply Kd.V_drewN | apply Kd.V_drew)); exact HO132.out) hb)
       have HO138 := Aside0.mk (Kd.V_lower (Kd.V_mono (ok' := fun k_ => some k_ ≠ (.slice Ao36 y119.length co36 : Value).ownBlock ∧ some k_ ≠ (.slice Ao44 y127.length co44 : Value).ownBlock ∧ some k_ ≠ (.slice Ao49 y133.length co49 : Value).ownBlock ∧ k_ ≠ gb108) ho0 (fun k_ hk_ => ⟨(Kd.fresh' (Kd.N_lt (by (with_reducible repeat (first | apply Kd.N_alloc | apply Kd.N_drewN | apply Kd.N_drew)); exact HO121.out)) k_ hk_), (Kd.fresh' (Kd.N_lt (by (with_reducible repeat (first | apply Kd.N_alloc | apply Kd.N_drewN | apply Kd.N_drew)); exact HO129.out)) k_ hk_), (Kd.fresh' (Kd.N_lt (by (with_reducible repeat (first | apply Kd.N_alloc | apply Kd.N_drewN | apply Kd.N_drew)); exact HO135.out)) k_ hk_), (Kd.freshB (g := gb108) (o := .cells #[.int .i64 a3_0, .int .i64 a3_1] 23 (0, 0)) (by (with_reducible repeat (first | refine blk_drewN ?_ _ | refine blk_drew ?_ | refine blk_alloc ?_ _)); exact BK108.out) k_ hk_)⟩)) (below_size (by repeat (first | (with_reducible first | exact HB.out | apply below_alloc | apply pw_below_drewN | apply below_drew1 | refine below_set ?_ GE108.out) | exact HB.out))))
       replace HO121 := Aside0.mk (Kd.N_below (by (with_reducible repeat (first | apply Kd.N_alloc | apply Kd.N_drewN | apply Kd.N_drew)); exact HO121.out) hb)
       replace HO129 := Aside0.mk (Kd.N_below (by (with_reducible repeat (first | apply Kd.N_alloc | apply Kd.N_drewN | apply Kd.N_drew)); exact HO129.out) hb)
       replace HO135 := Aside0.mk (Kd.N_below (by (with_reducible repeat (first | apply Kd.N_alloc | apply Kd.N_drewN | apply Kd.N_drew)); exact HO135.out) hb)
       replace BK108 := bkB BK108 hb
       replace HB := sBg HB GE108 hb
       (try clear hb)
       (try clear hb2)
       (try clear hk)
       (try clear hi)
       (try clear ho0)
       obtain ⟨Ao51, co51, eo51⟩ := Kd.V_slice HO138.out
       (first | subst eo51 | (injection eo51 with f1_ f2_ f3_; have f4_ := f1_.symm; have f5_ := f3_.symm; clear f1_ f2_ f3_; subst f4_; subst f5_))
       refine hK.out _ _ ⟨(blk_cell BK108.out 0).trans rfl, (blk_cell BK108.out 1).trans rfl⟩ (fun hHeld => ?_)
       clear hK K
       refine norm_ (a' := ?_) ?_ ?_
       rotate_left
       ·show Act.put _ (some 59) _ = _
        simp only [Act.put, List.setIfInBounds_toArray, List.set_cons_zero, List.set_cons_succ, i64_w, i32_w]
        rfl
       refine one_ (i := 26) (N := some 60) (bA 44 134217727) rfl rfl (one_of HT_.out (by kernel_rfl)) (by decide) (fun K hK => ?_)
       refine goes_ Try.func36 (by kernel_rfl) rfl #[.slice Ao39 t122.length co39, .slice Ao51 t136.length co51] (by rfl) rfl rfl (by (try simp only [List.map_toArray, List.map_cons, List.map_nil]); first | done | rfl | (simp only [List.length_drop, List.length_take]; rfl)) ?_
       with_reducible refine (folkmootref01_Same.calls k _ _ t122 _ _ t136 true _ ?side1 ?side2 ?side3 ?side4 A19.out).mono ?_
       (case side1 => exact uC (Kd.V_reads' HO124.out).2.2)
       (case side2 => exact (Kd.V_reads' HO124.out).2.1)
       (case side3 => exact uC (Kd.V_reads' HO138.out).2.2)
       (case side4 => exact (Kd.V_reads' HO138.out).2.1)
       rintro e w' ⟨rfl, ⟨nd, rfl⟩⟩
       refine ⟨_, rfl, ?_⟩
       refine hK.out _ _ ⟨(blk_cell BK108.out 0).trans rfl, (blk_cell BK108.out 1).trans rfl⟩ (fun hHeld => ?_)
       clear hK K
       refine norm_ (a' := ?_) ?_ ?_
       rotate_left
       ·show Act.put _ (some 60) _ = _
        simp only [Act.put, List.setIfInBounds_toArray, List.set_cons_zero, List.set_cons_succ, i64_w, i32_w]
        rfl
       refine pY 27 (some 61) (bA 44 268435455) HT_ ?_
       refine pY 28 (some 62) (bA 44 536870911) HT_ ?_
       refine pY 29 (some 63) (bA 44 1073741823) HT_ ?_
       refine pY 30 (some 64) (bA 44 2147483647) HT_ ?_
       refine pY 33 (some 67) (bA 44 10737418239) HT_ ?_
       refine one_ (i := 31) (N := some 65) (bA 44 12884901887) rfl rfl (one_of HT_.out (by kernel_rfl)) (by decide) (fun K hK => ?_)
       refine Kd.N_lit_step (Kd.slice 23 k23) _ 31 ?hg (N' := 65) ?hd (xs := ([t122, t110] : List (List (S23)))) (inner := [.slice Ao39 t122.length co39, .slice Ao31 t110.length co31]) (ok := (fun k_ => some k_ ≠ (.slice Ao36 y119.length co36 : Value).ownBlock ∧ some k_ ≠ (.slice Ao44 y127.length co44 : Value).ownBlock ∧ some k_ ≠ (.slice Ao49 y133.length co49 : Value).ownBlock ∧ k_ ≠ gb108)) (okp := (fun k_ => some k_ ≠ (.slice Ao36 y119.length co36 : Value).ownBlock ∧ some k_ ≠ (.slice Ao44 y127.length co44 : Value).ownBlock ∧ some k_ ≠ (.slice Ao49 y133.length co49 : Value).ownBlock ∧ k_ ≠ gb108)) ?hr ?hp (fun _ hk => hk) ((show ∀ k_, w50.heap.size ≤ k_ → (fun k_ => some k_ ≠ (.slice Ao36 y119.length co36 : Value).ownBlock ∧ some k_ ≠ (.slice Ao44 y127.length co44 : Value).ownBlock ∧ some k_ ≠ (.slice Ao49 y133.length co49 : Value).ownBlock ∧ k_ ≠ gb108) k_ from fun k_ hk => ⟨Kd.fresh' (Kd.N_lt (by (with_reducible repeat (first | apply Kd.N_alloc | apply Kd.N_drewN | apply Kd.N_drew)); exact HO121.out)) k_ hk, Kd.fresh' (Kd.N_lt (by (with_reducible repeat (first | apply Kd.N_alloc | apply Kd.N_drewN | apply Kd.N_drew)); exact HO129.out)) k_ hk, Kd.fresh' (Kd.N_lt (by (with_reducible repeat (first | apply Kd.N_alloc | apply Kd.N_drewN | apply Kd.N_drew)); exact HO135.out)) k_ hk, Kd.freshB (g := gb108) (o := .cells #[.int .i64 a3_0, .int .i64 a3_1] 23 (0, 0)) (by (with_reducible repeat (first | refine blk_drewN ?_ _ | refine blk_drew ?_ | refine blk_alloc ?_ _)); exact BK108.out) k_ hk⟩) _ (Nat.le_refl _)) (Below.refl _ _) (Nat.le_refl _) (by simp) ?_; (case hd => rfl); (case hg => rfl); (case hr => first | (go_simp; done) | (go_simp; rfl)); (case hp => exact (Reps.one (show Kd.FK (Kd.slice 23 k23) _ _ t122 [.slice Ao39 t122.length co39] from (Kd.FK_slice_mk (Kd.V_reads' (Kd.V_mono (ok' := (fun k_ => some k_ ≠ (.slice Ao36 y119.length co36 : Value).ownBlock ∧ some k_ ≠ (.slice Ao44 y127.length co44 : Value).ownBlock ∧ some k_ ≠ (.slice Ao49 y133.length co49 : Value).ownBlock ∧ k_ ≠ gb108)) (HO124.out) (fun k_ hk => ⟨hk.1.1.1, ⟨hk.1.2, ⟨hk.2, hk.1.1.2⟩⟩⟩))).2.1 (Kd.V_F (Kd.V_mono (e := 0) (base := 0) (ok' := (fun k_ => some k_ ≠ (.slice Ao36 y119.length co36 : Value).ownBlock ∧ some k_ ≠ (.slice Ao44 y127.length co44 : Value).ownBlock ∧ some k_ ≠ (.slice Ao49 y133.length co49 : Value).ownBlock ∧ k_ ≠ gb108)) (HO124.out) (fun k_ hk => ⟨hk.1.1.1, ⟨hk.1.2, ⟨hk.2, hk.1.1.2⟩⟩⟩))))) (Reps.one (show Kd.FK (Kd.slice 23 k23) _ _ t110 [.slice Ao31 t110.length co31] from (Kd.FK_slice_mk (Kd.V_reads' (Kd.V_mono (ok' := (fun k_ => some k_ ≠ (.slice Ao36 y119.length co36 : Value).ownBlock ∧ some k_ ≠ (.slice Ao44 y127.length co44 : Value).ownBlock ∧ some k_ ≠ (.slice Ao49 y133.length co49 : Value).ownBlock ∧ k_ ≠ gb108)) (HO112.out) (fun k_ hk => ⟨hk.1.1.2, ⟨hk.1.2, ⟨hk.2, hk.1.1.1⟩⟩⟩))).2.1 (Kd.V_F (Kd.V_mono (e := 0) (base := 0) (ok' := (fun k_ => some k_ ≠ (.slice Ao36 y119.length co36 : Value).ownBlock ∧ some k_ ≠ (.slice Ao44 y127.length co44 : Value).ownBlock ∧ some k_ ≠ (.slice Ao49 y133.length co49 : Value).ownBlock ∧ k_ ≠ gb108)) (HO112.out) (fun k_ hk => ⟨hk.1.1.2, ⟨hk.1.2, ⟨hk.2, hk.1.1.1⟩⟩⟩))))) (Reps.none _ _))))
       intro v141 w52 ho53 hb hg_ hnew_
       clear hg_ hnew_
       (first | rw [← Ny140.out] at ho53 | (simp only [Int.reduceToNat] at ho53; rw [← Ny140.out] at ho53))
       replace HO112 := Aside0.mk (Kd.V_elder' (by (with_reducible repeat (first | apply Kd.V_alloc | apply Kd.V_drewN | apply Kd.V_drew)); exact HO112.out) (Kd.N_base ho53) hb)
       replace HO115 := Aside0.mk (Kd.V_elder' (by (with_reducible repeat (first | apply Kd.V_alloc | apply Kd.V_drewN | apply Kd.V_drew)); exact HO115.out) (Kd.N_base ho53) hb)
       replace HO118 := Aside0.mk (Kd.V_elder' (by (with_reducible repeat (first | apply Kd.V_alloc | apply Kd.V_drewN | apply Kd.V_drew)); exact HO118.out) (Kd.N_base ho53) hb)
       replace HO121 := Aside0.mk (Kd.N_elder' (by (with_reducible repeat (first | apply Kd.N_alloc | apply Kd.N_drewN | apply Kd.N_drew)); exact HO121.out) (Kd.N_base ho53) hb)
       replace HO124 := Aside0.mk (Kd.V_elder' (by (with_reducible repeat (first | apply Kd.V_alloc | apply Kd.V_drewN | apply Kd.V_drew)); exact HO124.out) (Kd.N_base ho53) hb)
       replace HO129 := Aside0.mk (Kd.N_elder' (by (with_reducible repeat (first | apply Kd.N_alloc | apply Kd.N_drewN | apply Kd.N_drew)); exact HO129.out) (Kd.N_base ho53) hb)
       replace HO132 := Aside0.mk (Kd.V_elder' (by (with_reducible repeat (first | apply Kd.V_alloc | apply Kd.V_drewN | apply Kd.V_drew)); exact HO132.out) (Kd.N_base ho53) hb)
       replace HO135 := Aside0.mk (Kd.N_elder' (by (with_reducible repeat (first | apply Kd.N_alloc | apply Kd.N_drewN | apply Kd.N_drew)); exact HO135.out) (Kd.N_base ho53) hb)
       replace HO138 := Aside0.mk (Kd.V_elder' (by (with_reducible repeat (first | apply Kd.V_alloc | apply Kd.V_drewN | apply Kd.V_drew)); exact HO138.out) (Kd.N_base ho53) hb)
       have HO142 := Aside0.mk (Kd.N_lower ho53 (below_size (by repeat (first | (with_reducible first | exact HB.out | apply below_alloc | apply pw_below_drewN | apply below_drew1 | refine below_set ?_ GE108.out) | exact HB.out))))
       replace BK108 := bkB BK108 hb
       replace HB := sBg HB GE108 hb
       clear hb ho53
       obtain ⟨Ao54, co54, eo54⟩ := Kd.N_slice HO142.out
       (first | subst eo54 | (injection eo54 with f1_ f2_ f3_; have f4_ := f1_.symm; have f5_ := f3_.symm; clear f1_ f2_ f3_; subst f4_; subst f5_))
       refine hK.out _ _ ⟨(blk_cell BK108.out 0).trans rfl, (blk_cell BK108.out 1).trans rfl⟩ (fun hHeld => ?_)
       clear hK K
       refine norm_ (a' := ?_) ?_ ?_
       rotate_left
       ·show Act.put _ (some 65) _ = _
        simp only [Act.put, List.setIfInBounds_toArray, List.set_cons_zero, List.set_cons_succ, i64_w, i32_w]
        rfl
       refine one_ (i := 32) (N := some 66) (bA 44 17179869183) rfl rfl (one_of HT_.out (by kernel_rfl)) (by decide) (fun K hK => ?_)
       refine goes_ Try.func38 (by kernel_rfl) rfl #[.slice Ao54 y140.length co54] (by rfl) rfl rfl (by (try simp only [List.map_toArray, List.map_cons, List.map_nil]); first | done | rfl | (simp only [List.length_drop, List.length_take]; rfl)) ?_
       with_reducible refine (stamp_Merge.callsV _ _ y140 t143 _ ?side1 ?side2 A21.out).mono ?_
       (case side1 => exact uC (Kd.N_reads' HO142.out).2.2)
       (case side2 => exact (Kd.N_reads' HO142.out).2.1)
       rintro e w55 ⟨v144, rfl, ho0, hb⟩
       refine ⟨_, rfl, ?_⟩
       replace HO112 := Aside0.mk (Kd.V_below (by (with_reducible repeat (first | apply Kd.V_alloc | apply Kd.V_drewN | apply Kd.V_drew)); exact HO112.out) hb)
       replace HO115 := Aside0.mk (Kd.V_below (by (with_reducible repeat (first | apply Kd.V_alloc | apply Kd.V_drewN | apply Kd.V_drew)); exact HO115.out) hb)
       replace HO118 := Aside0.mk (Kd.V_below (by (with_reducible repeat (first | apply Kd.V_alloc | apply Kd.V_drewN | apply Kd.V_drew)); exact HO118.out) hb)
       replace HO124 := Aside0.mk (Kd.V_below (by (with_reducible repeat (first | apply Kd.V_alloc | apply Kd.V_drewN | apply Kd.V_drew)); exact HO124.out) hb)
       replace HO132 := Aside0.mk (Kd.V_below (by (with_reducible repeat (first | apply Kd.V_alloc | apply Kd.V_drewN | apply Kd.V_drew)); exact HO132.out) hb)
       replace HO138 := Aside0.mk (Kd.V_below (by (with_reducible repeat (first | apply Kd.V_alloc | apply Kd.V_drewN | apply Kd.V_drew)); exact HO138.out) hb)
       have HO145 := Aside0.mk (Kd.V_lower (Kd.V_mono (ok' := fun k_ => some k_ ≠ (.slice Ao36 y119.length co36 : Value).ownBlock ∧ some k_ ≠ (.slice Ao44 y127.length co44 : Value).ownBlock ∧ some k_ ≠ (.slice Ao49 y133.length co49 : Value).ownBlock ∧ some k_ ≠ (.slice Ao54 y140.length co54 : Value).ownBlock ∧ k_ ≠ gb108) ho0 (fun k_ hk_ => ⟨(Kd.fresh' (Kd.N_lt (by (with_reducible repeat (first | apply Kd.N_alloc | apply Kd.N_drewN | apply Kd.N_drew)); exact HO121.out)) k_ hk_), (Kd.fresh' (Kd.N_lt (by (with_reducible repeat (first | apply Kd.N_alloc | apply Kd.N_drewN | apply Kd.N_drew)); exact HO129.out)) k_ hk_), (Kd.fresh' (Kd.N_lt (by (with_reducible repeat (first | apply Kd.N_alloc | apply Kd.N_drewN | apply Kd.N_drew)); exact HO135.out)) k_ hk_), (Kd.fresh' (Kd.N_lt (by (with_reducible repeat (first | apply Kd.N_alloc | apply Kd.N_drewN | apply Kd.N_drew)); exact HO142.out)) k_ hk_), (Kd.freshB (g := gb108) (o := .cells #[.int .i64 a3_0, .int .i64 a3_1] 23 (0, 0)) (by (with_reducible repeat (first | refine blk_drewN ?_ _ | refine blk_drew ?_ | refine blk_alloc ?_ _)); exact BK108.out) k_ hk_)⟩)) (below_size (by repeat (first | (with_reducible first | exact HB.out | apply below_alloc | apply pw_below_drewN | apply below_drew1 | refine below_set ?_ GE108.out) | exact HB.out))))
       replace HO121 := Aside0.mk (Kd.N_below (by (with_reducible repeat (first | apply Kd.N_alloc | apply Kd.N_drewN | apply Kd.N_drew)); exact HO121.out) hb)
       replace HO129 := Aside0.mk (Kd.N_below (by (with_reducible repeat (first | apply Kd.N_alloc | apply Kd.N_drewN | apply Kd.N_drew)); exact HO129.out) hb)
       replace HO135 := Aside0.mk (Kd.N_below (by (with_reducible repeat (first | apply Kd.N_alloc | apply Kd.N_drewN | apply Kd.N_drew)); exact HO135.out) hb)
       replace HO142 := Aside0.mk (Kd.N_below (by (with_reducible repeat (first | apply Kd.N_alloc | apply Kd.N_drewN | apply Kd.N_drew)); exact HO142.out) hb)
       replace BK108 := bkB BK108 hb
       replace HB := sBg HB GE108 hb
       (try clear hb)
       (try clear hb2)
       (try clear hk)
       (try clear hi)
       (try clear ho0)
       obtain ⟨Ao56, co56, eo56⟩ := Kd.V_slice HO145.out
       (first | subst eo56 | (injection eo56 with f1_ f2_ f3_; have f4_ := f1_.symm; have f5_ := f3_.symm; clear f1_ f2_ f3_; subst f4_; subst f5_))
       refine hK.out _ _ ⟨(blk_cell BK108.out 0).trans rfl, (blk_cell BK108.out 1).trans rfl⟩ (fun hHeld => ?_)
       clear hK K
       refine norm_ (a' := ?_) ?_ ?_
       rotate_left
       ·show Act.put _ (some 66) _ = _
        simp only [Act.put, List.setIfInBounds_toArray, List.set_cons_zero, List.set_cons_succ, i64_w, i32_w]
        rfl
       refine one_ (i := 34) (N := some 68) (bA 44 34359738367) rfl rfl (one_of HT_.out (by kernel_rfl)) (by decide) (fun K hK => ?_)
       refine goes_ Try.func36 (by kernel_rfl) rfl #[.slice Ao56 t143.length co56, .slice Ao39 t122.length co39] (by rfl) rfl rfl (by (try simp only [List.map_toArray, List.map_cons, List.map_nil]); first | done | rfl | (simp only [List.length_drop, List.length_take]; rfl)) ?_
       with_reducible refine (folkmootref01_Same.calls k _ _ t143 _ _ t122 true _ ?side1 ?side2 ?side3 ?side4 A22.out).mono ?_
       (case side1 => exact uC (Kd.V_reads' HO145.out).2.2)
       (case side2 => exact (Kd.V_reads' HO145.out).2.1)
       (case side3 => exact uC (Kd.V_reads' HO124.out).2.2)
       (case side4 => exact (Kd.V_reads' HO124.out).2.1)
       rintro e w' ⟨rfl, ⟨nd, rfl⟩⟩
       refine ⟨_, rfl, ?_⟩
       refine hK.out _ _ ⟨(blk_cell BK108.out 0).trans rfl, (blk_cell BK108.out 1).trans rfl⟩ (fun hHeld => ?_)
       clear hK K
       refine norm_ (a' := ?_) ?_ ?_
       rotate_left
       ·show Act.put _ (some 68) _ = _
        simp only [Act.put, List.setIfInBounds_toArray, List.set_cons_zero, List.set_cons_succ, i64_w, i32_w]
        rfl
       refine pY 35 (some 69) (bA 44 68719476735) HT_ ?_
       refine pY 36 (some 70) (bA 44 137438953471) HT_ ?_
       refine pY 37 (some 71) (bA 44 274877906943) HT_ ?_
       refine one_ (i := 38) (N := some 72) (bA 44 549755813887) rfl rfl (one_of HT_.out (by kernel_rfl)) (by decide) (fun K hK => ?_)
       refine goes_ Try.func35 (by kernel_rfl) rfl #[.slice Ao39 t122.length co39] (by rfl) rfl rfl (by (try simp only [List.map_toArray, List.map_cons, List.map_nil]); first | done | rfl | (simp only [List.length_drop, List.length_take]; rfl)) ?_
       with_reducible refine (folkmootref01_List.calls k _ _ t122 true _ ?side1 ?side2 A24.out).mono ?_
       (case side1 => exact uC (Kd.V_reads' HO124.out).2.2)
       (case side2 => exact (Kd.V_reads' HO124.out).2.1)
       rintro e w57 ⟨rfl, hb⟩
       refine ⟨_, rfl, ?_⟩
       replace HO112 := Aside0.mk (Kd.V_below (by (with_reducible repeat (first | apply Kd.V_alloc | apply Kd.V_drewN | apply Kd.V_drew)); exact HO112.out) hb)
       replace HO115 := Aside0.mk (Kd.V_below (by (with_reducible repeat (first | apply Kd.V_alloc | apply Kd.V_drewN | apply Kd.V_drew)); exact HO115.out) hb)
       replace HO118 := Aside0.mk (Kd.V_below (by (with_reducible repeat (first | apply Kd.V_alloc | apply Kd.V_drewN | apply Kd.V_drew)); exact HO118.out) hb)
       replace HO121 := Aside0.mk (Kd.N_below (by (with_reducible repeat (first | apply Kd.N_alloc | apply Kd.N_drewN | apply Kd.N_drew)); exact HO121.out) hb)
       replace HO124 := Aside0.mk (Kd.V_below (by (with_reducible repeat (first | apply Kd.V_alloc | apply Kd.V_drewN | apply Kd.V_drew)); exact HO124.out) hb)
       replace HO129 := Aside0.mk (Kd.N_below (by (with_reducible repeat (first | apply Kd.N_alloc | apply Kd.N_drewN | apply Kd.N_drew)); exact HO129.out) hb)
       replace HO132 := Aside0.mk (Kd.V_below (by (with_reducible repeat (first | apply Kd.V_alloc | apply Kd.V_drewN | apply Kd.V_drew)); exact HO132.out) hb)
       replace HO135 := Aside0.mk (Kd.N_below (by (with_reducible repeat (first | apply Kd.N_alloc | apply Kd.N_drewN | apply Kd.N_drew)); exact HO135.out) hb)
       replace HO138 := Aside0.mk (Kd.V_below (by (with_reducible repeat (first | apply Kd.V_alloc | apply Kd.V_drewN | apply Kd.V_drew)); exact HO138.out) hb)
       replace HO142 := Aside0.mk (Kd.N_below (by (with_reducible repeat (first | apply Kd.N_alloc | apply Kd.N_drewN | apply Kd.N_drew)); exact HO142.out) hb)
       replace HO145 := Aside0.mk (Kd.V_below (by (with_reducible repeat (first | apply Kd.V_alloc | apply Kd.V_drewN | apply Kd.V_drew)); exact HO145.out) hb)
       replace BK108 := bkB BK108 hb
       replace HB := sBg HB GE108 hb
       (try clear hb)
       (try clear hb2)
       (try clear hk)
       (try clear hi)
       refine hK.out _ _ ⟨(blk_cell BK108.out 0).trans rfl, (blk_cell BK108.out 1).trans rfl⟩ (fun hHeld => ?_)
       clear hK K
       refine norm_ (a' := ?_) ?_ ?_
       rotate_left
       ·show Act.put _ (some 72) _ = _
        simp only [Act.put, List.setIfInBounds_toArray, List.set_cons_zero, List.set_cons_succ, i64_w, i32_w]
        rfl
       refine pY 39 (some 73) (bA 44 1099511627775) HT_ ?_
       refine pY 40 (some 74) (bA 44 2199023255551) HT_ ?_
       refine one_ (i := 41) (N := some 75) (bA 44 4398046511103) rfl rfl (one_of HT_.out (by kernel_rfl)) (by decide) (fun K hK => ?_)
       refine goes_ Try.func18 (by kernel_rfl) rfl #[] (by rfl) rfl rfl (by (try simp only [List.map_toArray, List.map_cons, List.map_nil]); first | done | rfl | (simp only [List.length_drop, List.length_take]; rfl)) ?_
       with_reducible refine (folkmootlaw01_live.calls  t148 _ A26.out).mono ?_
       rintro e w58 ⟨rfl, hb⟩
       refine ⟨_, rfl, ?_⟩
       replace HO112 := Aside0.mk (Kd.V_below (by (with_reducible repeat (first | apply Kd.V_alloc | apply Kd.V_drewN | apply Kd.V_drew)); exact HO112.out) hb)
       replace HO115 := Aside0.mk (Kd.V_below (by (with_reducible repeat (first | apply Kd.V_alloc | apply Kd.V_drewN | apply Kd.V_drew)); exact HO115.out) hb)
       replace HO118 := Aside0.mk (Kd.V_below (by (with_reducible repeat (first | apply Kd.V_alloc | apply Kd.V_drewN | apply Kd.V_drew)); exact HO118.out) hb)
       replace HO121 := Aside0.mk (Kd.N_below (by (with_reducible repeat (first | apply Kd.N_alloc | apply Kd.N_drewN | apply Kd.N_drew)); exact HO121.out) hb)
       replace HO124 := Aside0.mk (Kd.V_below (by (with_reducible repeat (first | apply Kd.V_alloc | apply Kd.V_drewN | apply Kd.V_drew)); exact HO124.out) hb)
       replace HO129 := Aside0.mk (Kd.N_below (by (with_reducible repeat (first | apply Kd.N_alloc | apply Kd.N_drewN | apply Kd.N_drew)); exact HO129.out) hb)
       replace HO132 := Aside0.mk (Kd.V_below (by (with_reducible repeat (first | apply Kd.V_alloc | apply Kd.V_drewN | apply Kd.V_drew)); exact HO132.out) hb)
       replace HO135 := Aside0.mk (Kd.N_below (by (with_reducible repeat (first | apply Kd.N_alloc | apply Kd.N_drewN | apply Kd.N_drew)); exact HO135.out) hb)
       replace HO138 := Aside0.mk (Kd.V_below (by (with_reducible repeat (first | apply Kd.V_alloc | apply Kd.V_drewN | apply Kd.V_drew)); exact HO138.out) hb)
       replace HO142 := Aside0.mk (Kd.N_below (by (with_reducible repeat (first | apply Kd.N_alloc | apply Kd.N_drewN | apply Kd.N_drew)); exact HO142.out) hb)
       replace HO145 := Aside0.mk (Kd.V_below (by (with_reducible repeat (first | apply Kd.V_alloc | apply Kd.V_drewN | apply Kd.V_drew)); exact HO145.out) hb)
       replace BK108 := bkB BK108 hb
       replace HB := sBg HB GE108 hb
       (try clear hb)
       (try clear hb2)
       (try clear hk)
       (try clear hi)
       refine hK.out _ _ ⟨(blk_cell BK108.out 0).trans rfl, (blk_cell BK108.out 1).trans rfl⟩ (fun hHeld => ?_)
       clear hK K
       refine norm_ (a' := ?_) ?_ ?_
       rotate_left
       ·show Act.put _ (some 75) _ = _
        simp only [Act.put, List.setIfInBounds_toArray, List.set_cons_zero, List.set_cons_succ, i64_w, i32_w]
        rfl
       refine pY 42 (some 76) (bA 44 8796093022207) HT_ ?_
       refine pY 43 (some 8) (bA 44 17592186044415) HT_ ?_
       refine done_ (done_of HT_.out (by kernel_rfl)) ?_
       try go_wp2
       go_ret
       exact ⟨by first | rfl | (exact congrArg (fun b_ => Ending.returned (Value.bool b_)) hrt_.out) | (simp [errW_none, errW_some] <;> rfl) | (simp [*, errW_none, errW_some] <;> rfl), by repeat (first | (with_reducible first | exact HB.out | apply below_alloc | apply pw_below_drewN | apply below_drew1 | refine below_set ?_ GE108.out) | exact HB.out)⟩
      ·replace c25 := Bool.eq_false_iff.mpr c25
       subst c25
       have H1 : (some false) = some true := by rw [if_neg (show ¬ (false = true) by decide)] at H; exact H
       exact absurd H1 (by simp)
     ·replace c23 := Bool.eq_false_iff.mpr c23
      subst c23
      have H1 : (some false) = some true := by rw [if_neg (show ¬ (false = true) by decide)] at H; exact H
      exact absurd H1 (by simp)
    ·replace c20 := Bool.eq_false_iff.mpr c20
     subst c20
     have H1 : (some false) = some true := by rw [if_neg (show ¬ (false = true) by decide)] at H; exact H
     exact absurd H1 (by simp)
   ·rw [if_neg c16] at H
    have c16b0 : (t125 == true) = false := by simpa using c16
    (try (have c16e : ¬ (t125 = true) := by simpa using c16))
    (try (have c16b1 : decide (t125 = true) = false := by simpa using c16))
    (try (have c16b2 : (t125 == true) = false := by simpa using c16))
    (try (have c16b3 : ¬ (t125 = true) := by simpa using c16))
    clear c16
    exact absurd H (by simp)
  ·replace c15 := Bool.eq_false_iff.mpr c15
   subst c15
   have H1 : ((stamp_Has.f t113 a3_0 a3_1).bind fun t149 => (if t149 = true then (if (t125 == true) = true then ((stamp_Merge.f (([t113, t110] : List (List (S23))))).bind fun t153 => ((stamp_Merge.f (([t116, t153] : List (List (S23))))).bind fun t159 => ((folkmootref01_Same.f k t122 t159).bind fun t162 => (if t162 = true then ((stamp_Merge.f (([t122, t110] : List (List (S23))))).bind fun t166 => ((folkmootref01_Same.f k t166 t122).bind fun t169 => (if t169 = true then ((folkmootref01_List.f k t122).bind fun t170 => (if t170 = true then ((folkmootlaw01_live.f).bind fun t171 => (some t171)) else (some false))) else (some false)))) else (some false))))) else (some false)) else ((stamp_Has.f t116 a3_0 a3_1).bind fun t172 => (if (t125 == t172) = true then ((stamp_Merge.f (([t113, t110] : List (List (S23))))).bind fun t176 => ((stamp_Merge.f (([t116, t176] : List (List (S23))))).bind fun t182 => ((folkmootref01_Same.f k t122 t182).bind fun t185 => (if t185 = true then ((stamp_Merge.f (([t122, t110] : List (List (S23))))).bind fun t189 => ((folkmootref01_Same.f k t189 t122).bind fun t192 => (if t192 = true then ((folkmootref01_List.f k t122).bind fun t193 => (if t193 = true then ((folkmootlaw01_live.f).bind fun t194 => (some t194)) else (some false))) else (some false)))) else (some false))))) else (some false))))) = some true := by rw [if_neg (show ¬ (false = true) by decide)] at H; exact H
   clear H
   have H := H1
   clear H1
   replace H := Option.bind_eq_some_iff.mp H
   obtain ⟨t149, A1600, H⟩ := H
   replace H : (if t149 = true then (if (t125 == true) = true then ((stamp_Merge.f (([t113, t110] : List (List (S23))))).bind fun t153 => ((stamp_Merge.f (([t116, t153] : List (List (S23))))).bind fun t159 => ((folkmootref01_Same.f k t122 t159).bind fun t162 => (if t162 = true then ((stamp_Merge.f (([t122, t110] : List (List (S23))))).bind fun t166 => ((folkmootref01_Same.f k t166 t122).bind fun t169 => (if t169 = true then ((folkmootref01_List.f k t122).bind fun t170 => (if t170 = true then ((folkmootlaw01_live.f).bind fun t171 => (some t171)) else (some false))) else (some false)))) else (some false))))) else (some false)) else ((stamp_Has.f t116 a3_0 a3_1).bind fun t172 => (if (t125 == t172) = true then ((stamp_Merge.f (([t113, t110] : List (List (S23))))).bind fun t176 => ((stamp_Merge.f (([t116, t176] : List (List (S23))))).bind fun t182 => ((folkmootref01_Same.f k t122 t182).bind fun t185 => (if t185 = true then ((stamp_Merge.f (([t122, t110] : List (List (S23))))).bind fun t189 => ((folkmootref01_Same.f k t189 t122).bind fun t192 => (if t192 = true then ((folkmootref01_List.f k t122).bind fun t193 => (if t193 = true then ((folkmootlaw01_live.f).bind fun t194 => (some t194)) else (some false))) else (some false)))) else (some false))))) else (some false)))) = some true := H
   have A160 := Aside0.mk A1600
   clear A1600
   by_cases c161 : t149 = true
   ·subst c161
    have H1 : (if (t125 == true) = true then ((stamp_Merge.f (([t113, t110] : List (List (S23))))).bind fun t153 => ((stamp_Merge.f (([t116, t153] : List (List (S23))))).bind fun t159 => ((folkmootref01_Same.f k t122 t159).bind fun t162 => (if t162 = true then ((stamp_Merge.f (([t122, t110] : List (List (S23))))).bind fun t166 => ((folkmootref01_Same.f k t166 t122).bind fun t169 => (if t169 = true then ((folkmootref01_List.f k t122).bind fun t170 => (if t170 = true then ((folkmootlaw01_live.f).bind fun t171 => (some t171)) else (some false))) else (some false)))) else (some false))))) else (some false)) = some true := by rw [if_pos rfl] at H; exact H
    clear H
    have H := H1
    clear H1
    by_cases c162 : (t125 == true) = true
    ·rw [if_pos c162] at H
     have c162b0 : (t125 == true) = true := c162
     (try (have c162e : (t125 = true) := by simpa using c162))
     (try (have c162b1 : decide (t125 = true) = true := by simpa using c162))
     (try (have c162b2 : (t125 == true) = true := by simpa using c162))
     clear c162
     obtain ⟨y150, hy150⟩ : ∃ y_ : List (List (S23)), y_ = (([t113, t110] : List (List (S23)))) := ⟨_, rfl⟩
     replace H : ((stamp_Merge.f y150).bind fun t153 => ((stamp_Merge.f (([t116, t153] : List (List (S23))))).bind fun t159 => ((folkmootref01_Same.f k t122 t159).bind fun t162 => (if t162 = true then ((stamp_Merge.f (([t122, t110] : List (List (S23))))).bind fun t166 => ((folkmootref01_Same.f k t166 t122).bind fun t169 => (if t169 = true then ((folkmootref01_List.f k t122).bind fun t170 => (if t170 = true then ((folkmootlaw01_live.f).bind fun t171 => (some t171)) else (some false))) else (some false)))) else (some false))))) = some true := by first | (rw [hy150]; with_reducible exact H) | (have H2_ := (Option.bind_some _ _).symm.trans H; rw [hy150]; with_reducible exact H2_) | (have H2_ := (Option.bind_some _ _).symm.trans H; with_reducible exact H2_) | with_reducible exact H | (rw [hy150]; exact H) | exact H
     have Ny150 := Aside0.mk hy150
     clear hy150
     replace H := Option.bind_eq_some_iff.mp H
     obtain ⟨t153, A1630, H⟩ := H
     replace H : ((stamp_Merge.f (([t116, t153] : List (List (S23))))).bind fun t159 => ((folkmootref01_Same.f k t122 t159).bind fun t162 => (if t162 = true then ((stamp_Merge.f (([t122, t110] : List (List (S23))))).bind fun t166 => ((folkmootref01_Same.f k t166 t122).bind fun t169 => (if t169 = true then ((folkmootref01_List.f k t122).bind fun t170 => (if t170 = true then ((folkmootlaw01_live.f).bind fun t171 => (some t171)) else (some false))) else (some false)))) else (some false)))) = some true := H
     have A163 := Aside0.mk A1630
     clear A1630
     obtain ⟨y156, hy156⟩ : ∃ y_ : List (List (S23)), y_ = (([t116, t153] : List (List (S23)))) := ⟨_, rfl⟩
     replace H : ((stamp_Merge.f y156).bind fun t159 => ((folkmootref01_Same.f k t122 t159).bind fun t162 => (if t162 = true then ((stamp_Merge.f (([t122, t110] : List (List (S23))))).bind fun t166 => ((folkmootref01_Same.f k t166 t122).bind fun t169 => (if t169 = true then ((folkmootref01_List.f k t122).bind fun t170 => (if t170 = true then ((folkmootlaw01_live.f).bind fun t171 => (some t171)) else (some false))) else (some false)))) else (some false)))) = some true := by first | (rw [hy156]; with_reducible exact H) | (have H2_ := (Option.bind_some _ _).symm.trans H; rw [hy156]; with_reducible exact H2_) | (have H2_ := (Option.bind_some _ _).symm.trans H; with_reducible exact H2_) | with_reducible exact H | (rw [hy156]; exact H) | exact H
     have Ny156 := Aside0.mk hy156
     clear hy156
     replace H := Option.bind_eq_some_iff.mp H
     obtain ⟨t159, A1640, H⟩ := H
     replace H : ((folkmootref01_Same.f k t122 t159).bind fun t162 => (if t162 = true then ((stamp_Merge.f (([t122, t110] : List (List (S23))))).bind fun t166 => ((folkmootref01_Same.f k t166 t122).bind fun t169 => (if t169 = true then ((folkmootref01_List.f k t122).bind fun t170 => (if t170 = true then ((folkmootlaw01_live.f).bind fun t171 => (some t171)) else (some false))) else (some false)))) else (some false))) = some true := H
     have A164 := Aside0.mk A1640
     clear A1640
     replace H := Option.bind_eq_some_iff.mp H
     obtain ⟨t162, A1650, H⟩ := H
     replace H : (if t162 = true then ((stamp_Merge.f (([t122, t110] : List (List (S23))))).bind fun t166 => ((folkmootref01_Same.f k t166 t122).bind fun t169 => (if t169 = true then ((folkmootref01_List.f k t122).bind fun t170 => (if t170 = true then ((folkmootlaw01_live.f).bind fun t171 => (some t171)) else (some false))) else (some false)))) else (some false)) = some true := H
     have A165 := Aside0.mk A1650
     clear A1650
     by_cases c166 : t162 = true
     ·subst c166
      have H1 : ((stamp_Merge.f (([t122, t110] : List (List (S23))))).bind fun t166 => ((folkmootref01_Same.f k t166 t122).bind fun t169 => (if t169 = true then ((folkmootref01_List.f k t122).bind fun t170 => (if t170 = true then ((folkmootlaw01_live.f).bind fun t171 => (some t171)) else (some false))) else (some false)))) = some true := by rw [if_pos rfl] at H; exact H
      clear H
      have H := H1
      clear H1
      obtain ⟨y163, hy163⟩ : ∃ y_ : List (List (S23)), y_ = (([t122, t110] : List (List (S23)))) := ⟨_, rfl⟩
      replace H : ((stamp_Merge.f y163).bind fun t166 => ((folkmootref01_Same.f k t166 t122).bind fun t169 => (if t169 = true then ((folkmootref01_List.f k t122).bind fun t170 => (if t170 = true then ((folkmootlaw01_live.f).bind fun t171 => (some t171)) else (some false))) else (some false)))) = some true := by first | (rw [hy163]; with_reducible exact H) | (have H2_ := (Option.bind_some _ _).symm.trans H; rw [hy163]; with_reducible exact H2_) | (have H2_ := (Option.bind_some _ _).symm.trans H; with_reducible exact H2_) | with_reducible exact H | (rw [hy163]; exact H) | exact H
      have Ny163 := Aside0.mk hy163
      clear hy163
      replace H := Option.bind_eq_some_iff.mp H
      obtain ⟨t166, A1670, H⟩ := H
      replace H : ((folkmootref01_Same.f k t166 t122).bind fun t169 => (if t169 = true then ((folkmootref01_List.f k t122).bind fun t170 => (if t170 = true then ((folkmootlaw01_live.f).bind fun t171 => (some t171)) else (some false))) else (some false))) = some true := H
      have A167 := Aside0.mk A1670
      clear A1670
      replace H := Option.bind_eq_some_iff.mp H
      obtain ⟨t169, A1680, H⟩ := H
      replace H : (if t169 = true then ((folkmootref01_List.f k t122).bind fun t170 => (if t170 = true then ((folkmootlaw01_live.f).bind fun t171 => (some t171)) else (some false))) else (some false)) = some true := H
      have A168 := Aside0.mk A1680
      clear A1680
      by_cases c169 : t169 = true
      ·subst c169
       have H1 : ((folkmootref01_List.f k t122).bind fun t170 => (if t170 = true then ((folkmootlaw01_live.f).bind fun t171 => (some t171)) else (some false))) = some true := by rw [if_pos rfl] at H; exact H
       clear H
       have H := H1
       clear H1
       replace H := Option.bind_eq_some_iff.mp H
       obtain ⟨t170, A1700, H⟩ := H
       replace H : (if t170 = true then ((folkmootlaw01_live.f).bind fun t171 => (some t171)) else (some false)) = some true := H
       have A170 := Aside0.mk A1700
       clear A1700
       by_cases c171 : t170 = true
       ·subst c171
        have H1 : ((folkmootlaw01_live.f).bind fun t171 => (some t171)) = some true := by rw [if_pos rfl] at H; exact H
        clear H
        have H := H1
        clear H1
        replace H := Option.bind_eq_some_iff.mp H
        obtain ⟨t171, A1720, H⟩ := H
        replace H : (some t171) = some true := H
        have A172 := Aside0.mk A1720
        clear A1720
        have hrt_ := Aside0.mk (Option.some.inj H)
        clear H
        go_enter Try.func11, Try.ntmps11
        try go_wp2_with (first | ((with_reducible refine gate_dst (N := 7) rfl ?_); (try (refine gate_guard (by rfl) ?_; dsimp only)); refine box_event ?hg (N := 7) ?hd (cs := #[.int .i64 a3_0, .int .i64 a3_1]) (t := 23) ?hr ?_; (case hd => rfl); (case hg => rfl); (case hr => first | (go_simp; done) | (go_simp; rfl)); intro gb108 hg w173 hbox hb; have BK108 := Aside0.mk (hbox); have GW108 := Aside0.mk ((by rw [hg]; exact (below_size (uB HB)) : w.heap.size ≤ gb108)); have GE108 := Aside0.mk ((by rw [hg]; exact (below_size (uB HB)) : w.heap.size ≤ gb108)); replace HB := sB HB hb; clear hb hbox hg) | ((with_reducible refine gate_callee (f := 33) rfl ?_); refine goesL_ (some 24) rfl rfl Try.func33 (by kernel_rfl) rfl #[.slice A0 l0.length c0] rfl (by (try simp only [List.map_toArray, List.map_cons, List.map_nil]); first | done | rfl | (simp only [List.length_drop, List.length_take]; rfl)) ?_; (with_reducible refine (stamp_Sort.callsV _ _ l0 t110 _ ?side1 ?side2 A9.out).mono ?_); (case side1 => exact uC (Kd.C_below HR0.out HB.out)); (case side2 => exact HC0.out); rintro e w174 ⟨v111, rfl, ho0, hb⟩; refine ⟨_, rfl, ?_⟩; have HO112 := Aside0.mk (Kd.V_lower (Kd.V_mono (ok' := fun k_ => k_ ≠ gb108) ho0 (fun k_ hk_ => (Kd.freshB (g := gb108) (o := .cells #[.int .i64 a3_0, .int .i64 a3_1] 23 (0, 0)) (by (with_reducible repeat (first | refine blk_drewN ?_ _ | refine blk_drew ?_ | refine blk_alloc ?_ _)); exact BK108.out) k_ hk_))) (below_size (by repeat (first | (with_reducible first | exact HB.out | apply below_alloc | apply pw_below_drewN | apply below_drew1 | refine below_set ?_ GE108.out) | exact HB.out)))); replace BK108 := bkB BK108 hb; replace HB := sBg HB GE108 hb; (try clear hb); (try clear hb2); (try clear hk); (try clear hi); (try clear ho0)) | ((with_reducible refine gate_callee (f := 33) rfl ?_); refine goesL_ (some 26) rfl rfl Try.func33 (by kernel_rfl) rfl #[.slice A1 l1.length c1] rfl (by (try simp only [List.map_toArray, List.map_cons, List.map_nil]); first | done | rfl | (simp only [List.length_drop, List.length_take]; rfl)) ?_; (with_reducible refine (stamp_Sort.callsV _ _ l1 t113 _ ?side1 ?side2 A10.out).mono ?_); (case side1 => exact uC (Kd.C_below HR1.out HB.out)); (case side2 => exact HC1.out); rintro e w175 ⟨v114, rfl, ho0, hb⟩; refine ⟨_, rfl, ?_⟩; replace HO112 := Aside0.mk (Kd.V_below (by (with_reducible repeat (first | apply Kd.V_alloc | apply Kd.V_drewN | apply Kd.V_drew)); exact HO112.out) hb); have HO115 := Aside0.mk (Kd.V_lower (Kd.V_mono (ok' := fun k_ => k_ ≠ gb108) ho0 (fun k_ hk_ => (Kd.freshB (g := gb108) (o := .cells #[.int .i64 a3_0, .int .i64 a3_1] 23 (0, 0)) (by (with_reducible repeat (first | refine blk_drewN ?_ _ | refine blk_drew ?_ | refine blk_alloc ?_ _)); exact BK108.out) k_ hk_))) (below_size (by repeat (first | (with_reducible first | exact HB.out | apply below_alloc | apply pw_below_drewN | apply below_drew1 | refine below_set ?_ GE108.out) | exact HB.out)))); replace BK108 := bkB BK108 hb; replace HB := sBg HB GE108 hb; (try clear hb); (try clear hb2); (try clear hk); (try clear hi); (try clear ho0)) | ((with_reducible refine gate_callee (f := 33) rfl ?_); refine goesL_ (some 28) rfl rfl Try.func33 (by kernel_rfl) rfl #[.slice A2 l2.length c2] rfl (by (try simp only [List.map_toArray, List.map_cons, List.map_nil]); first | done | rfl | (simp only [List.length_drop, List.length_take]; rfl)) ?_; (with_reducible refine (stamp_Sort.callsV _ _ l2 t116 _ ?side1 ?side2 A11.out).mono ?_); (case side1 => exact uC (Kd.C_below HR2.out HB.out)); (case side2 => exact HC2.out); rintro e w176 ⟨v117, rfl, ho0, hb⟩; refine ⟨_, rfl, ?_⟩; replace HO112 := Aside0.mk (Kd.V_below (by (with_reducible repeat (first | apply Kd.V_alloc | apply Kd.V_drewN | apply Kd.V_drew)); exact HO112.out) hb); replace HO115 := Aside0.mk (Kd.V_below (by (with_reducible repeat (first | apply Kd.V_alloc | apply Kd.V_drewN | apply Kd.V_drew)); exact HO115.out) hb); have HO118 := Aside0.mk (Kd.V_lower (Kd.V_mono (ok' := fun k_ => k_ ≠ gb108) ho0 (fun k_ hk_ => (Kd.freshB (g := gb108) (o := .cells #[.int .i64 a3_0, .int .i64 a3_1] 23 (0, 0)) (by (with_reducible repeat (first | refine blk_drewN ?_ _ | refine blk_drew ?_ | refine blk_alloc ?_ _)); exact BK108.out) k_ hk_))) (below_size (by repeat (first | (with_reducible first | exact HB.out | apply below_alloc | apply pw_below_drewN | apply below_drew1 | refine below_set ?_ GE108.out) | exact HB.out)))); replace BK108 := bkB BK108 hb; replace HB := sBg HB GE108 hb; (try clear hb); (try clear hb2); (try clear hk); (try clear hi); (try clear ho0); obtain ⟨Ao177, co177, eo177⟩ := Kd.V_slice HO112.out; subst eo177; obtain ⟨Ao178, co178, eo178⟩ := Kd.V_slice HO115.out; subst eo178; obtain ⟨Ao179, co179, eo179⟩ := Kd.V_slice HO118.out; subst eo179) | ((with_reducible refine gate_dst (N := 32) rfl ?_); (try (refine gate_guard (by rfl) ?_; dsimp only)); refine Kd.N_lit (Kd.slice 23 k23) _ 31 ?hg (N' := 32) ?hd (xs := ([t110, t113, t116] : List (List (S23)))) (inner := [.slice Ao177 t110.length co177, .slice Ao178 t113.length co178, .slice Ao179 t116.length co179]) (ok := (fun k_ => k_ ≠ gb108)) (okp := (fun k_ => k_ ≠ gb108)) ?hr ?hp (fun _ hk => hk) ((show ∀ k_, w176.heap.size ≤ k_ → (fun k_ => k_ ≠ gb108) k_ from fun k_ hk => Kd.freshB (g := gb108) (o := .cells #[.int .i64 a3_0, .int .i64 a3_1] 23 (0, 0)) (by (with_reducible repeat (first | refine blk_drewN ?_ _ | refine blk_drew ?_ | refine blk_alloc ?_ _)); exact BK108.out) k_ hk) _ (Nat.le_refl _)) (Below.refl _ _) (Nat.le_refl _) (by simp) ?_; (case hd => rfl); (case hg => rfl); (case hr => first | (go_simp; done) | (go_simp; rfl)); (case hp => exact (Reps.one (show Kd.FK (Kd.slice 23 k23) _ _ t110 [.slice Ao177 t110.length co177] from (Kd.FK_slice_mk (Kd.V_reads' (Kd.V_mono (ok' := (fun k_ => k_ ≠ gb108)) (HO112.out) (fun k_ hk => hk))).2.1 (Kd.V_F (Kd.V_mono (e := 0) (base := 0) (ok' := (fun k_ => k_ ≠ gb108)) (HO112.out) (fun k_ hk => hk))))) (Reps.one (show Kd.FK (Kd.slice 23 k23) _ _ t113 [.slice Ao178 t113.length co178] from (Kd.FK_slice_mk (Kd.V_reads' (Kd.V_mono (ok' := (fun k_ => k_ ≠ gb108)) (HO115.out) (fun k_ hk => hk))).2.1 (Kd.V_F (Kd.V_mono (e := 0) (base := 0) (ok' := (fun k_ => k_ ≠ gb108)) (HO115.out) (fun k_ hk => hk))))) (Reps.one (show Kd.FK (Kd.slice 23 k23) _ _ t116 [.slice Ao179 t116.length co179] from (Kd.FK_slice_mk (Kd.V_reads' (Kd.V_mono (ok' := (fun k_ => k_ ≠ gb108)) (HO118.out) (fun k_ hk => hk))).2.1 (Kd.V_F (Kd.V_mono (e := 0) (base := 0) (ok' := (fun k_ => k_ ≠ gb108)) (HO118.out) (fun k_ hk => hk))))) (Reps.none _ _))))); intro v120 w180 ho181 hb hg_ hnew_; clear hg_ hnew_; (first | rw [← Ny119.out] at ho181 | (simp only [Int.reduceToNat] at ho181; rw [← Ny119.out] at ho181)); replace HO112 := Aside0.mk (Kd.V_elder' (by (with_reducible repeat (first | apply Kd.V_alloc | apply Kd.V_drewN | apply Kd.V_drew)); exact HO112.out) (Kd.N_base ho181) hb); replace HO115 := Aside0.mk (Kd.V_elder' (by (with_reducible repeat (first | apply Kd.V_alloc | apply Kd.V_drewN | apply Kd.V_drew)); exact HO115.out) (Kd.N_base ho181) hb); replace HO118 := Aside0.mk (Kd.V_elder' (by (with_reducible repeat (first | apply Kd.V_alloc | apply Kd.V_drewN | apply Kd.V_drew)); exact HO118.out) (Kd.N_base ho181) hb); have HO121 := Aside0.mk (Kd.N_lower ho181 (below_size (by repeat (first | (with_reducible first | exact HB.out | apply below_alloc | apply pw_below_drewN | apply below_drew1 | refine below_set ?_ GE108.out) | exact HB.out)))); replace BK108 := bkB BK108 hb; replace HB := sBg HB GE108 hb; clear hb ho181; obtain ⟨Ao182, co182, eo182⟩ := Kd.N_slice HO121.out; subst eo182) | ((with_reducible refine gate_callee (f := 38) rfl ?_); refine goesL_ (some 33) rfl rfl Try.func38 (by kernel_rfl) rfl #[.slice Ao182 y119.length co182] rfl (by (try simp only [List.map_toArray, List.map_cons, List.map_nil]); first | done | rfl | (simp only [List.length_drop, List.length_take]; rfl)) ?_; (with_reducible refine (stamp_Merge.callsV _ _ y119 t122 _ ?side1 ?side2 A12.out).mono ?_); (case side1 => exact uC (Kd.N_reads' HO121.out).2.2); (case side2 => exact (Kd.N_reads' HO121.out).2.1); rintro e w183 ⟨v123, rfl, ho0, hb⟩; refine ⟨_, rfl, ?_⟩; replace HO112 := Aside0.mk (Kd.V_below (by (with_reducible repeat (first | apply Kd.V_alloc | apply Kd.V_drewN | apply Kd.V_drew)); exact HO112.out) hb); replace HO115 := Aside0.mk (Kd.V_below (by (with_reducible repeat (first | apply Kd.V_alloc | apply Kd.V_drewN | apply Kd.V_drew)); exact HO115.out) hb); replace HO118 := Aside0.mk (Kd.V_below (by (with_reducible repeat (first | apply Kd.V_alloc | apply Kd.V_drewN | apply Kd.V_drew)); exact HO118.out) hb); have HO124 := Aside0.mk (Kd.V_lower (Kd.V_mono (ok' := fun k_ => some k_ ≠ (.slice Ao182 y119.length co182 : Value).ownBlock ∧ k_ ≠ gb108) ho0 (fun k_ hk_ => ⟨(Kd.fresh' (Kd.N_lt (by (with_reducible repeat (first | apply Kd.N_alloc | apply Kd.N_drewN | apply Kd.N_drew)); exact HO121.out)) k_ hk_), (Kd.freshB (g := gb108) (o := .cells #[.int .i64 a3_0, .int .i64 a3_1] 23 (0, 0)) (by (with_reducible repeat (first | refine blk_drewN ?_ _ | refine blk_drew ?_ | refine blk_alloc ?_ _)); exact BK108.out) k_ hk_)⟩)) (below_size (by repeat (first | (with_reducible first | exact HB.out | apply below_alloc | apply pw_below_drewN | apply below_drew1 | refine below_set ?_ GE108.out) | exact HB.out)))); replace HO121 := Aside0.mk (Kd.N_below (by (with_reducible repeat (first | apply Kd.N_alloc | apply Kd.N_drewN | apply Kd.N_drew)); exact HO121.out) hb); replace BK108 := bkB BK108 hb; replace HB := sBg HB GE108 hb; (try clear hb); (try clear hb2); (try clear hk); (try clear hi); (try clear ho0)))
        replace HO112 := Aside0.mk (Kd.V_drew HO112.out)
        replace HO115 := Aside0.mk (Kd.V_drew HO115.out)
        replace HO118 := Aside0.mk (Kd.V_drew HO118.out)
        replace HO121 := Aside0.mk (Kd.N_drew HO121.out)
        replace HO124 := Aside0.mk (Kd.V_drew HO124.out)
        replace BK108 := Aside0.mk (blk_drew BK108.out)
        replace HB := Aside0.mk (below_drew1 HB.out)
        obtain ⟨Ao185, co185, eo185⟩ := Kd.V_slice HO124.out
        (first | subst eo185 | (injection eo185 with f1_ f2_ f3_; have f4_ := f1_.symm; have f5_ := f3_.symm; clear f1_ f2_ f3_; subst f4_; subst f5_))
        refine start_ (n := 44) (S := fun w' => w'.cell? ⟨gb108, 0, none⟩ = some (.int .i64 a3_0) ∧ w'.cell? ⟨gb108, 1, none⟩ = some (.int .i64 a3_1)) (ds := []) (bA 44 0) (by kernel_rfl) rfl rfl ⟨(blk_cell BK108.out 0).trans rfl, (blk_cell BK108.out 1).trans rfl⟩ (fun hHeld => ?_); refine with_tabW folkmootlaw01_StampMerges.tab5 folkmootlaw01_StampMerges.bits5 (fun HT_ HW_ => ?_)
        generalize w183.drew = w184 at HO112 HO115 HO118 HO121 HO124 BK108 HB hHeld ⊢
        refine pY 0 (some 34) (bA 44 1) HT_ ?_
        refine pY 3 (some 37) (bA 44 9) HT_ ?_
        refine take_ (i := 1) (N := some 35) (v := ?_) (a' := ?_) (bA 44 11) rfl rfl (take_ofW HT_.out HW_.out (by kernel_rfl)) (fun _ _ _ h => h) (Or.inl ⟨by rfl, ?_⟩) hHeld ?_ ?_
        rotate_left
        ·rintro w' ⟨s0, s1⟩
         go_simp
         with_reducible rfl
        rotate_left
        ·simp only [Act.put, List.setIfInBounds_toArray, List.set_cons_zero, List.set_cons_succ, i64_w, i32_w]
         rfl
        refine take_ (i := 4) (N := some 38) (v := ?_) (a' := ?_) (bA 44 27) rfl rfl (take_ofW HT_.out HW_.out (by kernel_rfl)) (fun _ _ _ h => h) (Or.inl ⟨by rfl, ?_⟩) hHeld ?_ ?_
        rotate_left
        ·rintro w' ⟨s0, s1⟩
         go_simp
         with_reducible rfl
        rotate_left
        ·simp only [Act.put, List.setIfInBounds_toArray, List.set_cons_zero, List.set_cons_succ, i64_w, i32_w]
         rfl
        refine one_ (i := 2) (N := some 36) (bA 44 31) rfl rfl (one_of HT_.out (by kernel_rfl)) (by decide) (fun K hK => ?_)
        refine goes_ Try.func34 (by kernel_rfl) rfl #[.slice Ao185 t122.length co185, .agg #[.int .i64 a3_0, .int .i64 a3_1]] (by rfl) rfl rfl (by (try simp only [List.map_toArray, List.map_cons, List.map_nil]); first | done | rfl | (simp only [List.length_drop, List.length_take]; rfl)) ?_
        with_reducible refine (stamp_Has.calls _ _ t122 a3_0 a3_1 t125 _ ?side1 ?side2 A13.out).mono ?_
        (case side1 => exact uC (Kd.V_reads' HO124.out).2.2)
        (case side2 => exact (Kd.V_reads' HO124.out).2.1)
        rintro e w186 ⟨rfl, hb⟩
        refine ⟨_, rfl, ?_⟩
        replace HO112 := Aside0.mk (Kd.V_below (by (with_reducible repeat (first | apply Kd.V_alloc | apply Kd.V_drewN | apply Kd.V_drew)); exact HO112.out) hb)
        replace HO115 := Aside0.mk (Kd.V_below (by (with_reducible repeat (first | apply Kd.V_alloc | apply Kd.V_drewN | apply Kd.V_drew)); exact HO115.out) hb)
        replace HO118 := Aside0.mk (Kd.V_below (by (with_reducible repeat (first | apply Kd.V_alloc | apply Kd.V_drewN | apply Kd.V_drew)); exact HO118.out) hb)
        replace HO121 := Aside0.mk (Kd.N_below (by (with_reducible repeat (first | apply Kd.N_alloc | apply Kd.N_drewN | apply Kd.N_drew)); exact HO121.out) hb)
        replace HO124 := Aside0.mk (Kd.V_below (by (with_reducible repeat (first | apply Kd.V_alloc | apply Kd.V_drewN | apply Kd.V_drew)); exact HO124.out) hb)
        replace BK108 := bkB BK108 hb
        replace HB := sBg HB GE108 hb
        (try clear hb)
        (try clear hb2)
        (try clear hk)
        (try clear hi)
        refine hK.out _ _ ⟨(blk_cell BK108.out 0).trans rfl, (blk_cell BK108.out 1).trans rfl⟩ (fun hHeld => ?_)
        clear hK K
        refine norm_ (a' := ?_) ?_ ?_
        rotate_left
        ·show Act.put _ (some 36) _ = _
         simp only [Act.put, List.setIfInBounds_toArray, List.set_cons_zero, List.set_cons_succ, i64_w, i32_w]
         rfl
        refine one_ (i := 5) (N := some 39) (bA 44 63) rfl rfl (one_of HT_.out (by kernel_rfl)) (by decide) (fun K hK => ?_)
        refine goes_ Try.func34 (by kernel_rfl) rfl #[.slice Ao177 t110.length co177, .agg #[.int .i64 a3_0, .int .i64 a3_1]] (by rfl) rfl rfl (by (try simp only [List.map_toArray, List.map_cons, List.map_nil]); first | done | rfl | (simp only [List.length_drop, List.length_take]; rfl)) ?_
        with_reducible refine (stamp_Has.calls _ _ t110 a3_0 a3_1 false _ ?side1 ?side2 A14.out).mono ?_
        (case side1 => exact uC (Kd.V_reads' HO112.out).2.2)
        (case side2 => exact (Kd.V_reads' HO112.out).2.1)
        rintro e w187 ⟨rfl, hb⟩
        refine ⟨_, rfl, ?_⟩
        replace HO112 := Aside0.mk (Kd.V_below (by (with_reducible repeat (first | apply Kd.V_alloc | apply Kd.V_drewN | apply Kd.V_drew)); exact HO112.out) hb)
        replace HO115 := Aside0.mk (Kd.V_below (by (with_reducible repeat (first | apply Kd.V_alloc | apply Kd.V_drewN | apply Kd.V_drew)); exact HO115.out) hb)
        replace HO118 := Aside0.mk (Kd.V_below (by (with_reducible repeat (first | apply Kd.V_alloc | apply Kd.V_drewN | apply Kd.V_drew)); exact HO118.out) hb)
        replace HO121 := Aside0.mk (Kd.N_below (by (with_reducible repeat (first | apply Kd.N_alloc | apply Kd.N_drewN | apply Kd.N_drew)); exact HO121.out) hb)
        replace HO124 := Aside0.mk (Kd.V_below (by (with_reducible repeat (first | apply Kd.V_alloc | apply Kd.V_drewN | apply Kd.V_drew)); exact HO124.out) hb)
        replace BK108 := bkB BK108 hb
        replace HB := sBg HB GE108 hb
        (try clear hb)
        (try clear hb2)
        (try clear hk)
        (try clear hi)
        refine hK.out _ _ ⟨(blk_cell BK108.out 0).trans rfl, (blk_cell BK108.out 1).trans rfl⟩ (fun hHeld => ?_)
        clear hK K
        refine norm_ (a' := ?_) ?_ ?_
        rotate_left
        ·show Act.put _ (some 39) _ = _
         simp only [Act.put, List.setIfInBounds_toArray, List.set_cons_zero, List.set_cons_succ, i64_w, i32_w]
         rfl
        refine pY 6 (some 40) (bA 44 127) HT_ ?_
        refine pY 7 (some 41) (bA 44 255) HT_ ?_
        refine take_ (i := 8) (N := some 42) (v := ?_) (a' := ?_) (bA 44 511) rfl rfl (take_ofW HT_.out HW_.out (by kernel_rfl)) (fun _ _ _ h => h) (Or.inl ⟨by rfl, ?_⟩) hHeld ?_ ?_
        rotate_left
        ·rintro w' ⟨s0, s1⟩
         go_simp
         with_reducible rfl
        rotate_left
        ·simp only [Act.put, List.setIfInBounds_toArray, List.set_cons_zero, List.set_cons_succ, i64_w, i32_w]
         rfl
        refine one_ (i := 9) (N := some 43) (bA 44 1023) rfl rfl (one_of HT_.out (by kernel_rfl)) (by decide) (fun K hK => ?_)
        refine goes_ Try.func34 (by kernel_rfl) rfl #[.slice Ao178 t113.length co178, .agg #[.int .i64 a3_0, .int .i64 a3_1]] (by rfl) rfl rfl (by (try simp only [List.map_toArray, List.map_cons, List.map_nil]); first | done | rfl | (simp only [List.length_drop, List.length_take]; rfl)) ?_
        with_reducible refine (stamp_Has.calls _ _ t113 a3_0 a3_1 true _ ?side1 ?side2 A160.out).mono ?_
        (case side1 => exact uC (Kd.V_reads' HO115.out).2.2)
        (case side2 => exact (Kd.V_reads' HO115.out).2.1)
        rintro e w188 ⟨rfl, hb⟩
        refine ⟨_, rfl, ?_⟩
        replace HO112 := Aside0.mk (Kd.V_below (by (with_reducible repeat (first | apply Kd.V_alloc | apply Kd.V_drewN | apply Kd.V_drew)); exact HO112.out) hb)
        replace HO115 := Aside0.mk (Kd.V_below (by (with_reducible repeat (first | apply Kd.V_alloc | apply Kd.V_drewN | apply Kd.V_drew)); exact HO115.out) hb)
        replace HO118 := Aside0.mk (Kd.V_below (by (with_reducible repeat (first | apply Kd.V_alloc | apply Kd.V_drewN | apply Kd.V_drew)); exact HO118.out) hb)
        replace HO121 := Aside0.mk (Kd.N_below (by (with_reducible repeat (first | apply Kd.N_alloc | apply Kd.N_drewN | apply Kd.N_drew)); exact HO121.out) hb)
        replace HO124 := Aside0.mk (Kd.V_below (by (with_reducible repeat (first | apply Kd.V_alloc | apply Kd.V_drewN | apply Kd.V_drew)); exact HO124.out) hb)
        replace BK108 := bkB BK108 hb
        replace HB := sBg HB GE108 hb
        (try clear hb)
        (try clear hb2)
        (try clear hk)
        (try clear hi)
        refine hK.out _ _ ⟨(blk_cell BK108.out 0).trans rfl, (blk_cell BK108.out 1).trans rfl⟩ (fun hHeld => ?_)
        clear hK K
        refine norm_ (a' := ?_) ?_ ?_
        rotate_left
        ·show Act.put _ (some 43) _ = _
         simp only [Act.put, List.setIfInBounds_toArray, List.set_cons_zero, List.set_cons_succ, i64_w, i32_w]
         rfl
        refine pY 10 (some 44) (bA 44 2047) HT_ ?_
        refine pY 11 (some 45) (bA 44 4095) HT_ ?_
        refine pN 12 (some 46) (bA 44 8191) HT_ ?_
        refine pN 13 (some 47) (bA 44 16383) HT_ ?_
        refine pN 14 (some 48) (bA 44 32767) HT_ ?_
        refine pY 15 (some 49) (bA 44 65535) HT_ ?_
        refine pY 16 (some 50) (bA 44 131071) HT_ ?_
        refine pY 17 (some 51) (bA 44 262143) HT_ ?_
        refine pY 18 (some 52) (bA 44 524287) HT_ ?_
        refine pY 19 (some 53) (bA 44 1048575) HT_ ?_
        refine pY 20 (some 54) (bA 44 2097151) HT_ ?_
        refine pY 21 (some 55) (bA 44 4194303) HT_ ?_
        refine one_ (i := 22) (N := some 56) (bA 44 8388607) rfl rfl (one_of HT_.out (by kernel_rfl)) (by decide) (fun K hK => ?_)
        refine Kd.N_lit_step (Kd.slice 23 k23) _ 31 ?hg (N' := 56) ?hd (xs := ([t113, t110] : List (List (S23)))) (inner := [.slice Ao178 t113.length co178, .slice Ao177 t110.length co177]) (ok := (fun k_ => some k_ ≠ (.slice Ao182 y119.length co182 : Value).ownBlock ∧ k_ ≠ gb108)) (okp := (fun k_ => some k_ ≠ (.slice Ao182 y119.length co182 : Value).ownBlock ∧ k_ ≠ gb108)) ?hr ?hp (fun _ hk => hk) ((show ∀ k_, w188.heap.size ≤ k_ → (fun k_ => some k_ ≠ (.slice Ao182 y119.length co182 : Value).ownBlock ∧ k_ ≠ gb108) k_ from fun k_ hk => ⟨Kd.fresh' (Kd.N_lt (by (with_reducible repeat (first | apply Kd.N_alloc | apply Kd.N_drewN | apply Kd.N_drew)); exact HO121.out)) k_ hk, Kd.freshB (g := gb108) (o := .cells #[.int .i64 a3_0, .int .i64 a3_1] 23 (0, 0)) (by (with_reducible repeat (first | refine blk_drewN ?_ _ | refine blk_drew ?_ | refine blk_alloc ?_ _)); exact BK108.out) k_ hk⟩) _ (Nat.le_refl _)) (Below.refl _ _) (Nat.le_refl _) (by simp) ?_; (case hd => rfl); (case hg => rfl); (case hr => first | (go_simp; done) | (go_simp; rfl)); (case hp => exact (Reps.one (show Kd.FK (Kd.slice 23 k23) _ _ t113 [.slice Ao178 t113.length co178] from (Kd.FK_slice_mk (Kd.V_reads' (Kd.V_mono (ok' := (fun k_ => some k_ ≠ (.slice Ao182 y119.length co182 : Value).ownBlock ∧ k_ ≠ gb108)) (HO115.out) (fun k_ hk => ⟨hk.2, hk.1⟩))).2.1 (Kd.V_F (Kd.V_mono (e := 0) (base := 0) (ok' := (fun k_ => some k_ ≠ (.slice Ao182 y119.length co182 : Value).ownBlock ∧ k_ ≠ gb108)) (HO115.out) (fun k_ hk => ⟨hk.2, hk.1⟩))))) (Reps.one (show Kd.FK (Kd.slice 23 k23) _ _ t110 [.slice Ao177 t110.length co177] from (Kd.FK_slice_mk (Kd.V_reads' (Kd.V_mono (ok' := (fun k_ => some k_ ≠ (.slice Ao182 y119.length co182 : Value).ownBlock ∧ k_ ≠ gb108)) (HO112.out) (fun k_ hk => ⟨hk.2, hk.1⟩))).2.1 (Kd.V_F (Kd.V_mono (e := 0) (base := 0) (ok' := (fun k_ => some k_ ≠ (.slice Ao182 y119.length co182 : Value).ownBlock ∧ k_ ≠ gb108)) (HO112.out) (fun k_ hk => ⟨hk.2, hk.1⟩))))) (Reps.none _ _))))
        intro v151 w189 ho190 hb hg_ hnew_
        clear hg_ hnew_
        (first | rw [← Ny150.out] at ho190 | (simp only [Int.reduceToNat] at ho190; rw [← Ny150.out] at ho190))
        replace HO112 := Aside0.mk (Kd.V_elder' (by (with_reducible repeat (first | apply Kd.V_alloc | apply Kd.V_drewN | apply Kd.V_drew)); exact HO112.out) (Kd.N_base ho190) hb)
        replace HO115 := Aside0.mk (Kd.V_elder' (by (with_reducible repeat (first | apply Kd.V_alloc | apply Kd.V_drewN | apply Kd.V_drew)); exact HO115.out) (Kd.N_base ho190) hb)
        replace HO118 := Aside0.mk (Kd.V_elder' (by (with_reducible repeat (first | apply Kd.V_alloc | apply Kd.V_drewN | apply Kd.V_drew)); exact HO118.out) (Kd.N_base ho190) hb)
        replace HO121 := Aside0.mk (Kd.N_elder' (by (with_reducible repeat (first | apply Kd.N_alloc | apply Kd.N_drewN | apply Kd.N_drew)); exact HO121.out) (Kd.N_base ho190) hb)
        replace HO124 := Aside0.mk (Kd.V_elder' (by (with_reducible repeat (first | apply Kd.V_alloc | apply Kd.V_drewN | apply Kd.V_drew)); exact HO124.out) (Kd.N_base ho190) hb)
        have HO152 := Aside0.mk (Kd.N_lower ho190 (below_size (by repeat (first | (with_reducible first | exact HB.out | apply below_alloc | apply pw_below_drewN | apply below_drew1 | refine below_set ?_ GE108.out) | exact HB.out))))
        replace BK108 := bkB BK108 hb
        replace HB := sBg HB GE108 hb
        clear hb ho190
        obtain ⟨Ao191, co191, eo191⟩ := Kd.N_slice HO152.out
        (first | subst eo191 | (injection eo191 with f1_ f2_ f3_; have f4_ := f1_.symm; have f5_ := f3_.symm; clear f1_ f2_ f3_; subst f4_; subst f5_))
        refine hK.out _ _ ⟨(blk_cell BK108.out 0).trans rfl, (blk_cell BK108.out 1).trans rfl⟩ (fun hHeld => ?_)
        clear hK K
        refine norm_ (a' := ?_) ?_ ?_
        rotate_left
        ·show Act.put _ (some 56) _ = _
         simp only [Act.put, List.setIfInBounds_toArray, List.set_cons_zero, List.set_cons_succ, i64_w, i32_w]
         rfl
        refine one_ (i := 23) (N := some 57) (bA 44 16777215) rfl rfl (one_of HT_.out (by kernel_rfl)) (by decide) (fun K hK => ?_)
        refine goes_ Try.func38 (by kernel_rfl) rfl #[.slice Ao191 y150.length co191] (by rfl) rfl rfl (by (try simp only [List.map_toArray, List.map_cons, List.map_nil]); first | done | rfl | (simp only [List.length_drop, List.length_take]; rfl)) ?_
        with_reducible refine (stamp_Merge.callsV _ _ y150 t153 _ ?side1 ?side2 A163.out).mono ?_
        (case side1 => exact uC (Kd.N_reads' HO152.out).2.2)
        (case side2 => exact (Kd.N_reads' HO152.out).2.1)
        rintro e w192 ⟨v154, rfl, ho0, hb⟩
        refine ⟨_, rfl, ?_⟩
        replace HO112 := Aside0.mk (Kd.V_below (by (with_reducible repeat (first | apply Kd.V_alloc | apply Kd.V_drewN | apply Kd.V_drew)); exact HO112.out) hb)
        replace HO115 := Aside0.mk (Kd.V_below (by (with_reducible repeat (first | apply Kd.V_alloc | apply Kd.V_drewN | apply Kd.V_drew)); exact HO115.out) hb)
        replace HO118 := Aside0.mk (Kd.V_below (by (with_reducible repeat (first | apply Kd.V_alloc | apply Kd.V_drewN | apply Kd.V_drew)); exact HO118.out) hb)
        replace HO124 := Aside0.mk (Kd.V_below (by (with_reducible repeat (first | apply Kd.V_alloc | apply Kd.V_drewN | apply Kd.V_drew)); exact HO124.out) hb)
        have HO155 := Aside0.mk (Kd.V_lower (Kd.V_mono (ok' := fun k_ => some k_ ≠ (.slice Ao182 y119.length co182 : Value).ownBlock ∧ some k_ ≠ (.slice Ao191 y150.length co191 : Value).ownBlock ∧ k_ ≠ gb108) ho0 (fun k_ hk_ => ⟨(Kd.fresh' (Kd.N_lt (by (with_reducible repeat (first | apply Kd.N_alloc | apply Kd.N_drewN | apply Kd.N_drew)); exact HO121.out)) k_ hk_), (Kd.fresh' (Kd.N_lt (by (with_reducible repeat (first | apply Kd.N_alloc | apply Kd.N_drewN | apply Kd.N_drew)); exact HO152.out)) k_ hk_), (Kd.freshB (g := gb108) (o := .cells #[.int .i64 a3_0, .int .i64 a3_1] 23 (0, 0)) (by (with_reducible repeat (first | refine blk_drewN ?_ _ | refine blk_drew ?_ | refine blk_alloc ?_ _)); exact BK108.out) k_ hk_)⟩)) (below_size (by repeat (first | (with_reducible first | exact HB.out | apply below_alloc | apply pw_below_drewN | apply below_drew1 | refine below_set ?_ GE108.out) | exact HB.out))))
        replace HO121 := Aside0.mk (Kd.N_below (by (with_reducible repeat (first | apply Kd.N_alloc | apply Kd.N_drewN | apply Kd.N_drew)); exact HO121.out) hb)
        replace HO152 := Aside0.mk (Kd.N_below (by (with_reducible repeat (first | apply Kd.N_alloc | apply Kd.N_drewN | apply Kd.N_drew)); exact HO152.out) hb)
        replace BK108 := bkB BK108 hb
        replace HB := sBg HB GE108 hb
        (try clear hb)
        (try clear hb2)
        (try clear hk)
        (try clear hi)
        (try clear ho0)
        obtain ⟨Ao193, co193, eo193⟩ := Kd.V_slice HO155.out
        (first | subst eo193 | (injection eo193 with f1_ f2_ f3_; have f4_ := f1_.symm; have f5_ := f3_.symm; clear f1_ f2_ f3_; subst f4_; subst f5_))
        refine hK.out _ _ ⟨(blk_cell BK108.out 0).trans rfl, (blk_cell BK108.out 1).trans rfl⟩ (fun hHeld => ?_)
        clear hK K
        refine norm_ (a' := ?_) ?_ ?_
        rotate_left
        ·show Act.put _ (some 57) _ = _
         simp only [Act.put, List.setIfInBounds_toArray, List.set_cons_zero, List.set_cons_succ, i64_w, i32_w]
         rfl
        refine one_ (i := 24) (N := some 58) (bA 44 33554431) rfl rfl (one_of HT_.out (by kernel_rfl)) (by decide) (fun K hK => ?_)
        refine Kd.N_lit_step (Kd.slice 23 k23) _ 31 ?hg (N' := 58) ?hd (xs := ([t116, t153] : List (List (S23)))) (inner := [.slice Ao179 t116.length co179, .slice Ao193 t153.length co193]) (ok := (fun k_ => some k_ ≠ (.slice Ao182 y119.length co182 : Value).ownBlock ∧ some k_ ≠ (.slice Ao191 y150.length co191 : Value).ownBlock ∧ k_ ≠ gb108)) (okp := (fun k_ => some k_ ≠ (.slice Ao182 y119.length co182 : Value).ownBlock ∧ some k_ ≠ (.slice Ao191 y150.length co191 : Value).ownBlock ∧ k_ ≠ gb108)) ?hr ?hp (fun _ hk => hk) ((show ∀ k_, w192.heap.size ≤ k_ → (fun k_ => some k_ ≠ (.slice Ao182 y119.length co182 : Value).ownBlock ∧ some k_ ≠ (.slice Ao191 y150.length co191 : Value).ownBlock ∧ k_ ≠ gb108) k_ from fun k_ hk => ⟨Kd.fresh' (Kd.N_lt (by (with_reducible repeat (first | apply Kd.N_alloc | apply Kd.N_drewN | apply Kd.N_drew)); exact HO121.out)) k_ hk, Kd.fresh' (Kd.N_lt (by (with_reducible repeat (first | apply Kd.N_alloc | apply Kd.N_drewN | apply Kd.N_drew)); exact HO152.out)) k_ hk, Kd.freshB (g := gb108) (o := .cells #[.int .i64 a3_0, .int .i64 a3_1] 23 (0, 0)) (by (with_reducible repeat (first | refine blk_drewN ?_ _ | refine blk_drew ?_ | refine blk_alloc ?_ _)); exact BK108.out) k_ hk⟩) _ (Nat.le_refl _)) (Below.refl _ _) (Nat.le_refl _) (by simp) ?_; (case hd => rfl); (case hg => rfl); (case hr => first | (go_simp; done) | (go_simp; rfl)); (case hp => exact (Reps.one (show Kd.FK (Kd.slice 23 k23) _ _ t116 [.slice Ao179 t116.length co179] from (Kd.FK_slice_mk (Kd.V_reads' (Kd.V_mono (ok' := (fun k_ => some k_ ≠ (.slice Ao182 y119.length co182 : Value).ownBlock ∧ some k_ ≠ (.slice Ao191 y150.length co191 : Value).ownBlock ∧ k_ ≠ gb108)) (HO118.out) (fun k_ hk => ⟨hk.1.2, ⟨hk.2, hk.1.1⟩⟩))).2.1 (Kd.V_F (Kd.V_mono (e := 0) (base := 0) (ok' := (fun k_ => some k_ ≠ (.slice Ao182 y119.length co182 : Value).ownBlock ∧ some k_ ≠ (.slice Ao191 y150.length co191 : Value).ownBlock ∧ k_ ≠ gb108)) (HO118.out) (fun k_ hk => ⟨hk.1.2, ⟨hk.2, hk.1.1⟩⟩))))) (Reps.one (show Kd.FK (Kd.slice 23 k23) _ _ t153 [.slice Ao193 t153.length co193] from (Kd.FK_slice_mk (Kd.V_reads' (Kd.V_mono (ok' := (fun k_ => some k_ ≠ (.slice Ao182 y119.length co182 : Value).ownBlock ∧ some k_ ≠ (.slice Ao191 y150.length co191 : Value).ownBlock ∧ k_ ≠ gb108)) (HO155.out) (fun k_ hk => ⟨hk.1, ⟨hk.2.1, hk.2.2⟩⟩))).2.1 (Kd.V_F (Kd.V_mono (e := 0) (base := 0) (ok' := (fun k_ => some k_ ≠ (.slice Ao182 y119.length co182 : Value).ownBlock ∧ some k_ ≠ (.slice Ao191 y150.length co191 : Value).ownBlock ∧ k_ ≠ gb108)) (HO155.out) (fun k_ hk => ⟨hk.1, ⟨hk.2.1, hk.2.2⟩⟩))))) (Reps.none _ _))))
        intro v157 w194 ho195 hb hg_ hnew_
        clear hg_ hnew_
        (first | rw [← Ny156.out] at ho195 | (simp only [Int.reduceToNat] at ho195; rw [← Ny156.out] at ho195))
        replace HO112 := Aside0.mk (Kd.V_elder' (by (with_reducible repeat (first | apply Kd.V_alloc | apply Kd.V_drewN | apply Kd.V_drew)); exact HO112.out) (Kd.N_base ho195) hb)
        replace HO115 := Aside0.mk (Kd.V_elder' (by (with_reducible repeat (first | apply Kd.V_alloc | apply Kd.V_drewN | apply Kd.V_drew)); exact HO115.out) (Kd.N_base ho195) hb)
        replace HO118 := Aside0.mk (Kd.V_elder' (by (with_reducible repeat (first | apply Kd.V_alloc | apply Kd.V_drewN | apply Kd.V_drew)); exact HO118.out) (Kd.N_base ho195) hb)
        replace HO121 := Aside0.mk (Kd.N_elder' (by (with_reducible repeat (first | apply Kd.N_alloc | apply Kd.N_drewN | apply Kd.N_drew)); exact HO121.out) (Kd.N_base ho195) hb)
        replace HO124 := Aside0.mk (Kd.V_elder' (by (with_reducible repeat (first | apply Kd.V_alloc | apply Kd.V_drewN | apply Kd.V_drew)); exact HO124.out) (Kd.N_base ho195) hb)
        replace HO152 := Aside0.mk (Kd.N_elder' (by (with_reducible repeat (first | apply Kd.N_alloc | apply Kd.N_drewN | apply Kd.N_drew)); exact HO152.out) (Kd.N_base ho195) hb)
        replace HO155 := Aside0.mk (Kd.V_elder' (by (with_reducible repeat (first | apply Kd.V_alloc | apply Kd.V_drewN | apply Kd.V_drew)); exact HO155.out) (Kd.N_base ho195) hb)
        have HO158 := Aside0.mk (Kd.N_lower ho195 (below_size (by repeat (first | (with_reducible first | exact HB.out | apply below_alloc | apply pw_below_drewN | apply below_drew1 | refine below_set ?_ GE108.out) | exact HB.out))))
        replace BK108 := bkB BK108 hb
        replace HB := sBg HB GE108 hb
        clear hb ho195
        obtain ⟨Ao196, co196, eo196⟩ := Kd.N_slice HO158.out
        (first | subst eo196 | (injection eo196 with f1_ f2_ f3_; have f4_ := f1_.symm; have f5_ := f3_.symm; clear f1_ f2_ f3_; subst f4_; subst f5_))
        refine hK.out _ _ ⟨(blk_cell BK108.out 0).trans rfl, (blk_cell BK108.out 1).trans rfl⟩ (fun hHeld => ?_)
        clear hK K
        refine norm_ (a' := ?_) ?_ ?_
        rotate_left
        ·show Act.put _ (some 58) _ = _
         simp only [Act.put, List.setIfInBounds_toArray, List.set_cons_zero, List.set_cons_succ, i64_w, i32_w]
         rfl
        refine one_ (i := 25) (N := some 59) (bA 44 67108863) rfl rfl (one_of HT_.out (by kernel_rfl)) (by decide) (fun K hK => ?_)
        refine goes_ Try.func38 (by kernel_rfl) rfl #[.slice Ao196 y156.length co196] (by rfl) rfl rfl (by (try simp only [List.map_toArray, List.map_cons, List.map_nil]); first | done | rfl | (simp only [List.length_drop, List.length_take]; rfl)) ?_
        with_reducible refine (stamp_Merge.callsV _ _ y156 t159 _ ?side1 ?side2 A164.out).mono ?_
        (case side1 => exact uC (Kd.N_reads' HO158.out).2.2)
        (case side2 => exact (Kd.N_reads' HO158.out).2.1)
        rintro e w197 ⟨v160, rfl, ho0, hb⟩
        refine ⟨_, rfl, ?_⟩
        replace HO112 := Aside0.mk (Kd.V_below (by (with_reducible repeat (first | apply Kd.V_alloc | apply Kd.V_drewN | apply Kd.V_drew)); exact HO112.out) hb)
        replace HO115 := Aside0.mk (Kd.V_below (by (with_reducible repeat (first | apply Kd.V_alloc | apply Kd.V_drewN | apply Kd.V_drew)); exact HO115.out) hb)
        replace HO118 := Aside0.mk (Kd.V_below (by (with_reducible repeat (first | apply Kd.V_alloc | apply Kd.V_drewN | apply Kd.V_drew)); exact HO118.out) hb)
        replace HO124 := Aside0.mk (Kd.V_below (by (with_reducible repeat (first | apply Kd.V_alloc | apply Kd.V_drewN | apply Kd.V_drew)); exact HO124.out) hb)
        replace HO155 := Aside0.mk (Kd.V_below (by (with_reducible repeat (first | apply Kd.V_alloc | apply Kd.V_drewN | apply Kd.V_drew)); exact HO155.out) hb)
        have HO161 := Aside0.mk (Kd.V_lower (Kd.V_mono (ok' := fun k_ => some k_ ≠ (.slice Ao182 y119.length co182 : Value).ownBlock ∧ some k_ ≠ (.slice Ao191 y150.length co191 : Value).ownBlock ∧ some k_ ≠ (.slice Ao196 y156.length co196 : Value).ownBlock ∧ k_ ≠ gb108) ho0 (fun k_ hk_ => ⟨(Kd.fresh' (Kd.N_lt (by (with_reducible repeat (first | apply Kd.N_alloc | apply Kd.N_drewN | apply Kd.N_drew)); exact HO121.out)) k_ hk_), (Kd.fresh' (Kd.N_lt (by (with_reducible repeat (first | apply Kd.N_alloc | apply Kd.N_drewN | apply Kd.N_drew)); exact HO152.out)) k_ hk_), (Kd.fresh' (Kd.N_lt (by (with_reducible repeat (first | apply Kd.N_alloc | apply Kd.N_drewN | apply Kd.N_drew)); exact HO158.out)) k_ hk_), (Kd.freshB (g := gb108) (o := .cells #[.int .i64 a3_0, .int .i64 a3_1] 23 (0, 0)) (by (with_reducible repeat (first | refine blk_drewN ?_ _ | refine blk_drew ?_ | refine blk_alloc ?_ _)); exact BK108.out) k_ hk_)⟩)) (below_size (by repeat (first | (with_reducible first | exact HB.out | apply below_alloc | apply pw_below_drewN | apply below_drew1 | refine below_set ?_ GE108.out) | exact HB.out))))
        replace HO121 := Aside0.mk (Kd.N_below (by (with_reducible repeat (first | apply Kd.N_alloc | apply Kd.N_drewN | apply Kd.N_drew)); exact HO121.out) hb)
        replace HO152 := Aside0.mk (Kd.N_below (by (with_reducible repeat (first | apply Kd.N_alloc | apply Kd.N_drewN | apply Kd.N_drew)); exact HO152.out) hb)
        replace HO158 := Aside0.mk (Kd.N_below (by (with_reducible repeat (first | apply Kd.N_alloc | apply Kd.N_drewN | apply Kd.N_drew)); exact HO158.out) hb)
        replace BK108 := bkB BK108 hb
        replace HB := sBg HB GE108 hb
        (try clear hb)
        (try clear hb2)
        (try clear hk)
        (try clear hi)
        (try clear ho0)
        obtain ⟨Ao198, co198, eo198⟩ := Kd.V_slice HO161.out
        (first | subst eo198 | (injection eo198 with f1_ f2_ f3_; have f4_ := f1_.symm; have f5_ := f3_.symm; clear f1_ f2_ f3_; subst f4_; subst f5_))
        refine hK.out _ _ ⟨(blk_cell BK108.out 0).trans rfl, (blk_cell BK108.out 1).trans rfl⟩ (fun hHeld => ?_)
        clear hK K
        refine norm_ (a' := ?_) ?_ ?_
        rotate_left
        ·show Act.put _ (some 59) _ = _
         simp only [Act.put, List.setIfInBounds_toArray, List.set_cons_zero, List.set_cons_succ, i64_w, i32_w]
         rfl
        refine one_ (i := 26) (N := some 60) (bA 44 134217727) rfl rfl (one_of HT_.out (by kernel_rfl)) (by decide) (fun K hK => ?_)
        refine goes_ Try.func36 (by kernel_rfl) rfl #[.slice Ao185 t122.length co185, .slice Ao198 t159.length co198] (by rfl) rfl rfl (by (try simp only [List.map_toArray, List.map_cons, List.map_nil]); first | done | rfl | (simp only [List.length_drop, List.length_take]; rfl)) ?_
        with_reducible refine (folkmootref01_Same.calls k _ _ t122 _ _ t159 true _ ?side1 ?side2 ?side3 ?side4 A165.out).mono ?_
        (case side1 => exact uC (Kd.V_reads' HO124.out).2.2)
        (case side2 => exact (Kd.V_reads' HO124.out).2.1)
        (case side3 => exact uC (Kd.V_reads' HO161.out).2.2)
        (case side4 => exact (Kd.V_reads' HO161.out).2.1)
        rintro e w' ⟨rfl, ⟨nd, rfl⟩⟩
        refine ⟨_, rfl, ?_⟩
        refine hK.out _ _ ⟨(blk_cell BK108.out 0).trans rfl, (blk_cell BK108.out 1).trans rfl⟩ (fun hHeld => ?_)
        clear hK K
        refine norm_ (a' := ?_) ?_ ?_
        rotate_left
        ·show Act.put _ (some 60) _ = _
         simp only [Act.put, List.setIfInBounds_toArray, List.set_cons_zero, List.set_cons_succ, i64_w, i32_w]
         rfl
        refine pY 27 (some 61) (bA 44 268435455) HT_ ?_
        refine pY 28 (some 62) (bA 44 536870911) HT_ ?_
        refine pY 29 (some 63) (bA 44 1073741823) HT_ ?_
        refine pY 30 (some 64) (bA 44 2147483647) HT_ ?_
        refine pY 33 (some 67) (bA 44 10737418239) HT_ ?_
        refine one_ (i := 31) (N := some 65) (bA 44 12884901887) rfl rfl (one_of HT_.out (by kernel_rfl)) (by decide) (fun K hK => ?_)
        refine Kd.N_lit_step (Kd.slice 23 k23) _ 31 ?hg (N' := 65) ?hd (xs := ([t122, t110] : List (List (S23)))) (inner := [.slice Ao185 t122.length co185, .slice Ao177 t110.length co177]) (ok := (fun k_ => some k_ ≠ (.slice Ao182 y119.length co182 : Value).ownBlock ∧ some k_ ≠ (.slice Ao191 y150.length co191 : Value).ownBlock ∧ some k_ ≠ (.slice Ao196 y156.length co196 : Value).ownBlock ∧ k_ ≠ gb108)) (okp := (fun k_ => some k_ ≠ (.slice Ao182 y119.length co182 : Value).ownBlock ∧ some k_ ≠ (.slice Ao191 y150.length co191 : Value).ownBlock ∧ some k_ ≠ (.slice Ao196 y156.length co196 : Value).ownBlock ∧ k_ ≠ gb108)) ?hr ?hp (fun _ hk => hk) ((show ∀ k_, w197.heap.size ≤ k_ → (fun k_ => some k_ ≠ (.slice Ao182 y119.length co182 : Value).ownBlock ∧ some k_ ≠ (.slice Ao191 y150.length co191 : Value).ownBlock ∧ some k_ ≠ (.slice Ao196 y156.length co196 : Value).ownBlock ∧ k_ ≠ gb108) k_ from fun k_ hk => ⟨Kd.fresh' (Kd.N_lt (by (with_reducible repeat (first | apply Kd.N_alloc | apply Kd.N_drewN | apply Kd.N_drew)); exact HO121.out)) k_ hk, Kd.fresh' (Kd.N_lt (by (with_reducible repeat (first | apply Kd.N_alloc | apply Kd.N_drewN | apply Kd.N_drew)); exact HO152.out)) k_ hk, Kd.fresh' (Kd.N_lt (by (with_reducible repeat (first | apply Kd.N_alloc | apply Kd.N_drewN | apply Kd.N_drew)); exact HO158.out)) k_ hk, Kd.freshB (g := gb108) (o := .cells #[.int .i64 a3_0, .int .i64 a3_1] 23 (0, 0)) (by (with_reducible repeat (first | refine blk_drewN ?_ _ | refine blk_drew ?_ | refine blk_alloc ?_ _)); exact BK108.out) k_ hk⟩) _ (Nat.le_refl _)) (Below.refl _ _) (Nat.le_refl _) (by simp) ?_; (case hd => rfl); (case hg => rfl); (case hr => first | (go_simp; done) | (go_simp; rfl)); (case hp => exact (Reps.one (show Kd.FK (Kd.slice 23 k23) _ _ t122 [.slice Ao185 t122.length co185] from (Kd.FK_slice_mk (Kd.V_reads' (Kd.V_mono (ok' := (fun k_ => some k_ ≠ (.slice Ao182 y119.length co182 : Value).ownBlock ∧ some k_ ≠ (.slice Ao191 y150.length co191 : Value).ownBlock ∧ some k_ ≠ (.slice Ao196 y156.length co196 : Value).ownBlock ∧ k_ ≠ gb108)) (HO124.out) (fun k_ hk => ⟨hk.1.1.1, ⟨hk.1.2, ⟨hk.2, hk.1.1.2⟩⟩⟩))).2.1 (Kd.V_F (Kd.V_mono (e := 0) (base := 0) (ok' := (fun k_ => some k_ ≠ (.slice Ao182 y119.length co182 : Value).ownBlock ∧ some k_ ≠ (.slice Ao191 y150.length co191 : Value).ownBlock ∧ some k_ ≠ (.slice Ao196 y156.length co196 : Value).ownBlock ∧ k_ ≠ gb108)) (HO124.out) (fun k_ hk => ⟨hk.1.1.1, ⟨hk.1.2, ⟨hk.2, hk.1.1.2⟩⟩⟩))))) (Reps.one (show Kd.FK (Kd.slice 23 k23) _ _ t110 [.slice Ao177 t110.length co177] from (Kd.FK_slice_mk (Kd.V_reads' (Kd.V_mono (ok' := (fun k_ => some k_ ≠ (.slice Ao182 y119.length co182 : Value).ownBlock ∧ some k_ ≠ (.slice Ao191 y150.length co191 : Value).ownBlock ∧ some k_ ≠ (.slice Ao196 y156.length co196 : Value).ownBlock ∧ k_ ≠ gb108)) (HO112.out) (fun k_ hk => ⟨hk.1.1.2, ⟨hk.1.2, ⟨hk.2, hk.1.1.1⟩⟩⟩))).2.1 (Kd.V_F (Kd.V_mono (e := 0) (base := 0) (ok' := (fun k_ => some k_ ≠ (.slice Ao182 y119.length co182 : Value).ownBlock ∧ some k_ ≠ (.slice Ao191 y150.length co191 : Value).ownBlock ∧ some k_ ≠ (.slice Ao196 y156.length co196 : Value).ownBlock ∧ k_ ≠ gb108)) (HO112.out) (fun k_ hk => ⟨hk.1.1.2, ⟨hk.1.2, ⟨hk.2, hk.1.1.1⟩⟩⟩))))) (Reps.none _ _))))
        intro v164 w199 ho200 hb hg_ hnew_
        clear hg_ hnew_
        (first | rw [← Ny163.out] at ho200 | (simp only [Int.reduceToNat] at ho200; rw [← Ny163.out] at ho200))
        replace HO112 := Aside0.mk (Kd.V_elder' (by (with_reducible repeat (first | apply Kd.V_alloc | apply Kd.V_drewN | apply Kd.V_drew)); exact HO112.out) (Kd.N_base ho200) hb)
        replace HO115 := Aside0.mk (Kd.V_elder' (by (with_reducible repeat (first | apply Kd.V_alloc | apply Kd.V_drewN | apply Kd.V_drew)); exact HO115.out) (Kd.N_base ho200) hb)
        replace HO118 := Aside0.mk (Kd.V_elder' (by (with_reducible repeat (first | apply Kd.V_alloc | apply Kd.V_drewN | apply Kd.V_drew)); exact HO118.out) (Kd.N_base ho200) hb)
        replace HO121 := Aside0.mk (Kd.N_elder' (by (with_reducible repeat (first | apply Kd.N_alloc | apply Kd.N_drewN | apply Kd.N_drew)); exact HO121.out) (Kd.N_base ho200) hb)
        replace HO124 := Aside0.mk (Kd.V_elder' (by (with_reducible repeat (first | apply Kd.V_alloc | apply Kd.V_drewN | apply Kd.V_drew)); exact HO124.out) (Kd.N_base ho200) hb)
        replace HO152 := Aside0.mk (Kd.N_elder' (by (with_reducible repeat (first | apply Kd.N_alloc | apply Kd.N_drewN | apply Kd.N_drew)); exact HO152.out) (Kd.N_base ho200) hb)
        replace HO155 := Aside0.mk (Kd.V_elder' (by (with_reducible repeat (first | apply Kd.V_alloc | apply Kd.V_drewN | apply Kd.V_drew)); exact HO155.out) (Kd.N_base ho200) hb)
        replace HO158 := Aside0.mk (Kd.N_elder' (by (with_reducible repeat (first | apply Kd.N_alloc | apply Kd.N_drewN | apply Kd.N_drew)); exact HO158.out) (Kd.N_base ho200) hb)
        replace HO161 := Aside0.mk (Kd.V_elder' (by (with_reducible repeat (first | apply Kd.V_alloc | apply Kd.V_drewN | apply Kd.V_drew)); exact HO161.out) (Kd.N_base ho200) hb)
        have HO165 := Aside0.mk (Kd.N_lower ho200 (below_size (by repeat (first | (with_reducible first | exact HB.out | apply below_alloc | apply pw_below_drewN | apply below_drew1 | refine below_set ?_ GE108.out) | exact HB.out))))
        replace BK108 := bkB BK108 hb
        replace HB := sBg HB GE108 hb
        clear hb ho200
        obtain ⟨Ao201, co201, eo201⟩ := Kd.N_slice HO165.out
        (first | subst eo201 | (injection eo201 with f1_ f2_ f3_; have f4_ := f1_.symm; have f5_ := f3_.symm; clear f1_ f2_ f3_; subst f4_; subst f5_))
        refine hK.out _ _ ⟨(blk_cell BK108.out 0).trans rfl, (blk_cell BK108.out 1).trans rfl⟩ (fun hHeld => ?_)
        clear hK K
        refine norm_ (a' := ?_) ?_ ?_
        rotate_left
        ·show Act.put _ (some 65) _ = _
         simp only [Act.put, List.setIfInBounds_toArray, List.set_cons_zero, List.set_cons_succ, i64_w, i32_w]
         rfl
        refine one_ (i := 32) (N := some 66) (bA 44 17179869183) rfl rfl (one_of HT_.out (by kernel_rfl)) (by decide) (fun K hK => ?_)
        refine goes_ Try.func38 (by kernel_rfl) rfl #[.slice Ao201 y163.length co201] (by rfl) rfl rfl (by (try simp only [List.map_toArray, List.map_cons, List.map_nil]); first | done | rfl | (simp only [List.length_drop, List.length_take]; rfl)) ?_
        with_reducible refine (stamp_Merge.callsV _ _ y163 t166 _ ?side1 ?side2 A167.out).mono ?_
        (case side1 => exact uC (Kd.N_reads' HO165.out).2.2)
        (case side2 => exact (Kd.N_reads' HO165.out).2.1)
        rintro e w202 ⟨v167, rfl, ho0, hb⟩
        refine ⟨_, rfl, ?_⟩
        replace HO112 := Aside0.mk (Kd.V_below (by (with_reducible repeat (first | apply Kd.V_alloc | apply Kd.V_drewN | apply Kd.V_drew)); exact HO112.out) hb)
        replace HO115 := Aside0.mk (Kd.V_below (by (with_reducible repeat (first | apply Kd.V_alloc | apply Kd.V_drewN | apply Kd.V_drew)); exact HO115.out) hb)
        replace HO118 := Aside0.mk (Kd.V_below (by (with_reducible repeat (first | apply Kd.V_alloc | apply Kd.V_drewN | apply Kd.V_drew)); exact HO118.out) hb)
        replace HO124 := Aside0.mk (Kd.V_below (by (with_reducible repeat (first | apply Kd.V_alloc | apply Kd.V_drewN | apply Kd.V_drew)); exact HO124.out) hb)
        replace HO155 := Aside0.mk (Kd.V_below (by (with_reducible repeat (first | apply Kd.V_alloc | apply Kd.V_drewN | apply Kd.V_drew)); exact HO155.out) hb)
        replace HO161 := Aside0.mk (Kd.V_below (by (with_reducible repeat (first | apply Kd.V_alloc | apply Kd.V_drewN | apply Kd.V_drew)); exact HO161.out) hb)
        have HO168 := Aside0.mk (Kd.V_lower (Kd.V_mono (ok' := fun k_ => some k_ ≠ (.slice Ao182 y119.length co182 : Value).ownBlock ∧ some k_ ≠ (.slice Ao191 y150.length co191 : Value).ownBlock ∧ some k_ ≠ (.slice Ao196 y156.length co196 : Value).ownBlock ∧ some k_ ≠ (.slice Ao201 y163.length co201 : Value).ownBlock ∧ k_ ≠ gb108) ho0 (fun k_ hk_ => ⟨(Kd.fresh' (Kd.N_lt (by (with_reducible repeat (first | apply Kd.N_alloc | apply Kd.N_drewN | apply Kd.N_drew)); exact HO121.out)) k_ hk_), (Kd.fresh' (Kd.N_lt (by (with_reducible repeat (first | apply Kd.N_alloc | apply Kd.N_drewN | apply Kd.N_drew)); exact HO152.out)) k_ hk_), (Kd.fresh' (Kd.N_lt (by (with_reducible repeat (first | apply Kd.N_alloc | apply Kd.N_drewN | apply Kd.N_drew)); exact HO158.out)) k_ hk_), (Kd.fresh' (Kd.N_lt (by (with_reducible repeat (first | apply Kd.N_alloc | apply Kd.N_drewN | apply Kd.N_drew)); exact HO165.out)) k_ hk_), (Kd.freshB (g := gb108) (o := .cells #[.int .i64 a3_0, .int .i64 a3_1] 23 (0, 0)) (by (with_reducible repeat (first | refine blk_drewN ?_ _ | refine blk_drew ?_ | refine blk_alloc ?_ _)); exact BK108.out) k_ hk_)⟩)) (below_size (by repeat (first | (with_reducible first | exact HB.out | apply below_alloc | apply pw_below_drewN | apply below_drew1 | refine below_set ?_ GE108.out) | exact HB.out))))
        replace HO121 := Aside0.mk (Kd.N_below (by (with_reducible repeat (first | apply Kd.N_alloc | apply Kd.N_drewN | apply Kd.N_drew)); exact HO121.out) hb)
        replace HO152 := Aside0.mk (Kd.N_below (by (with_reducible repeat (first | apply Kd.N_alloc | apply Kd.N_drewN | apply Kd.N_drew)); exact HO152.out) hb)
        replace HO158 := Aside0.mk (Kd.N_below (by (with_reducible repeat (first | apply Kd.N_alloc | apply Kd.N_drewN | apply Kd.N_drew)); exact HO158.out) hb)
        replace HO165 := Aside0.mk (Kd.N_below (by (with_reducible repeat (first | apply Kd.N_alloc | apply Kd.N_drewN | apply Kd.N_drew)); exact HO165.out) hb)
        replace BK108 := bkB BK108 hb
        replace HB := sBg HB GE108 hb
        (try clear hb)
        (try clear hb2)
        (try clear hk)
        (try clear hi)
        (try clear ho0)
        obtain ⟨Ao203, co203, eo203⟩ := Kd.V_slice HO168.out
        (first | subst eo203 | (injection eo203 with f1_ f2_ f3_; have f4_ := f1_.symm; have f5_ := f3_.symm; clear f1_ f2_ f3_; subst f4_; subst f5_))
        refine hK.out _ _ ⟨(blk_cell BK108.out 0).trans rfl, (blk_cell BK108.out 1).trans rfl⟩ (fun hHeld => ?_)
        clear hK K
        refine norm_ (a' := ?_) ?_ ?_
        rotate_left
        ·show Act.put _ (some 66) _ = _
         simp only [Act.put, List.setIfInBounds_toArray, List.set_cons_zero, List.set_cons_succ, i64_w, i32_w]
         rfl
        refine one_ (i := 34) (N := some 68) (bA 44 34359738367) rfl rfl (one_of HT_.out (by kernel_rfl)) (by decide) (fun K hK => ?_)
        refine goes_ Try.func36 (by kernel_rfl) rfl #[.slice Ao203 t166.length co203, .slice Ao185 t122.length co185] (by rfl) rfl rfl (by (try simp only [List.map_toArray, List.map_cons, List.map_nil]); first | done | rfl | (simp only [List.length_drop, List.length_take]; rfl)) ?_
        with_reducible refine (folkmootref01_Same.calls k _ _ t166 _ _ t122 true _ ?side1 ?side2 ?side3 ?side4 A168.out).mono ?_
        (case side1 => exact uC (Kd.V_reads' HO168.out).2.2)
        (case side2 => exact (Kd.V_reads' HO168.out).2.1)
        (case side3 => exact uC (Kd.V_reads' HO124.out).2.2)
        (case side4 => exact (Kd.V_reads' HO124.out).2.1)
        rintro e w' ⟨rfl, ⟨nd, rfl⟩⟩
        refine ⟨_, rfl, ?_⟩
        refine hK.out _ _ ⟨(blk_cell BK108.out 0).trans rfl, (blk_cell BK108.out 1).trans rfl⟩ (fun hHeld => ?_)
        clear hK K
        refine norm_ (a' := ?_) ?_ ?_
        rotate_left
        ·show Act.put _ (some 68) _ = _
         simp only [Act.put, List.setIfInBounds_toArray, List.set_cons_zero, List.set_cons_succ, i64_w, i32_w]
         rfl
        refine pY 35 (some 69) (bA 44 68719476735) HT_ ?_
        refine pY 36 (some 70) (bA 44 137438953471) HT_ ?_
        refine pY 37 (some 71) (bA 44 274877906943) HT_ ?_
        refine one_ (i := 38) (N := some 72) (bA 44 549755813887) rfl rfl (one_of HT_.out (by kernel_rfl)) (by decide) (fun K hK => ?_)
        refine goes_ Try.func35 (by kernel_rfl) rfl #[.slice Ao185 t122.length co185] (by rfl) rfl rfl (by (try simp only [List.map_toArray, List.map_cons, List.map_nil]); first | done | rfl | (simp only [List.length_drop, List.length_take]; rfl)) ?_
        with_reducible refine (folkmootref01_List.calls k _ _ t122 true _ ?side1 ?side2 A170.out).mono ?_
        (case side1 => exact uC (Kd.V_reads' HO124.out).2.2)
        (case side2 => exact (Kd.V_reads' HO124.out).2.1)
        rintro e w204 ⟨rfl, hb⟩
        refine ⟨_, rfl, ?_⟩
        replace HO112 := Aside0.mk (Kd.V_below (by (with_reducible repeat (first | apply Kd.V_alloc | apply Kd.V_drewN | apply Kd.V_drew)); exact HO112.out) hb)
        replace HO115 := Aside0.mk (Kd.V_below (by (with_reducible repeat (first | apply Kd.V_alloc | apply Kd.V_drewN | apply Kd.V_drew)); exact HO115.out) hb)
        replace HO118 := Aside0.mk (Kd.V_below (by (with_reducible repeat (first | apply Kd.V_alloc | apply Kd.V_drewN | apply Kd.V_drew)); exact HO118.out) hb)
        replace HO121 := Aside0.mk (Kd.N_below (by (with_reducible repeat (first | apply Kd.N_alloc | apply Kd.N_drewN | apply Kd.N_drew)); exact HO121.out) hb)
        replace HO124 := Aside0.mk (Kd.V_below (by (with_reducible repeat (first | apply Kd.V_alloc | apply Kd.V_drewN | apply Kd.V_drew)); exact HO124.out) hb)
        replace HO152 := Aside0.mk (Kd.N_below (by (with_reducible repeat (first | apply Kd.N_alloc | apply Kd.N_drewN | apply Kd.N_drew)); exact HO152.out) hb)
        replace HO155 := Aside0.mk (Kd.V_below (by (with_reducible repeat (first | apply Kd.V_alloc | apply Kd.V_drewN | apply Kd.V_drew)); exact HO155.out) hb)
        replace HO158 := Aside0.mk (Kd.N_below (by (with_reducible repeat (first | apply Kd.N_alloc | apply Kd.N_drewN | apply Kd.N_drew)); exact HO158.out) hb)
        replace HO161 := Aside0.mk (Kd.V_below (by (with_reducible repeat (first | apply Kd.V_alloc | apply Kd.V_drewN | apply Kd.V_drew)); exact HO161.out) hb)
        replace HO165 := Aside0.mk (Kd.N_below (by (with_reducible repeat (first | apply Kd.N_alloc | apply Kd.N_drewN | apply Kd.N_drew)); exact HO165.out) hb)
        replace HO168 := Aside0.mk (Kd.V_below (by (with_reducible repeat (first | apply Kd.V_alloc | apply Kd.V_drewN | apply Kd.V_drew)); exact HO168.out) hb)
        replace BK108 := bkB BK108 hb
        replace HB := sBg HB GE108 hb
        (try clear hb)
        (try clear hb2)
        (try clear hk)
        (try clear hi)
        refine hK.out _ _ ⟨(blk_cell BK108.out 0).trans rfl, (blk_cell BK108.out 1).trans rfl⟩ (fun hHeld => ?_)
        clear hK K
        refine norm_ (a' := ?_) ?_ ?_
        rotate_left
        ·show Act.put _ (some 72) _ = _
         simp only [Act.put, List.setIfInBounds_toArray, List.set_cons_zero, List.set_cons_succ, i64_w, i32_w]
         rfl
        refine pY 39 (some 73) (bA 44 1099511627775) HT_ ?_
        refine pY 40 (some 74) (bA 44 2199023255551) HT_ ?_
        refine one_ (i := 41) (N := some 75) (bA 44 4398046511103) rfl rfl (one_of HT_.out (by kernel_rfl)) (by decide) (fun K hK => ?_)
        refine goes_ Try.func18 (by kernel_rfl) rfl #[] (by rfl) rfl rfl (by (try simp only [List.map_toArray, List.map_cons, List.map_nil]); first | done | rfl | (simp only [List.length_drop, List.length_take]; rfl)) ?_
        with_reducible refine (folkmootlaw01_live.calls  t171 _ A172.out).mono ?_
        rintro e w205 ⟨rfl, hb⟩
        refine ⟨_, rfl, ?_⟩
        replace HO112 := Aside0.mk (Kd.V_below (by (with_reducible repeat (first | apply Kd.V_alloc | apply Kd.V_drewN | apply Kd.V_drew)); exact HO112.out) hb)
        replace HO115 := Aside0.mk (Kd.V_below (by (with_reducible repeat (first | apply Kd.V_alloc | apply Kd.V_drewN | apply Kd.V_drew)); exact HO115.out) hb)
        replace HO118 := Aside0.mk (Kd.V_below (by (with_reducible repeat (first | apply Kd.V_alloc | apply Kd.V_drewN | apply Kd.V_drew)); exact HO118.out) hb)
        replace HO121 := Aside0.mk (Kd.N_below (by (with_reducible repeat (first | apply Kd.N_alloc | apply Kd.N_drewN | apply Kd.N_drew)); exact HO121.out) hb)
        replace HO124 := Aside0.mk (Kd.V_below (by (with_reducible repeat (first | apply Kd.V_alloc | apply Kd.V_drewN | apply Kd.V_drew)); exact HO124.out) hb)
        replace HO152 := Aside0.mk (Kd.N_below (by (with_reducible repeat (first | apply Kd.N_alloc | apply Kd.N_drewN | apply Kd.N_drew)); exact HO152.out) hb)
        replace HO155 := Aside0.mk (Kd.V_below (by (with_reducible repeat (first | apply Kd.V_alloc | apply Kd.V_drewN | apply Kd.V_drew)); exact HO155.out) hb)
        replace HO158 := Aside0.mk (Kd.N_below (by (with_reducible repeat (first | apply Kd.N_alloc | apply Kd.N_drewN | apply Kd.N_drew)); exact HO158.out) hb)
        replace HO161 := Aside0.mk (Kd.V_below (by (with_reducible repeat (first | apply Kd.V_alloc | apply Kd.V_drewN | apply Kd.V_drew)); exact HO161.out) hb)
        replace HO165 := Aside0.mk (Kd.N_below (by (with_reducible repeat (first | apply Kd.N_alloc | apply Kd.N_drewN | apply Kd.N_drew)); exact HO165.out) hb)
        replace HO168 := Aside0.mk (Kd.V_below (by (with_reducible repeat (first | apply Kd.V_alloc | apply Kd.V_drewN | apply Kd.V_drew)); exact HO168.out) hb)
        replace BK108 := bkB BK108 hb
        replace HB := sBg HB GE108 hb
        (try clear hb)
        (try clear hb2)
        (try clear hk)
        (try clear hi)
        refine hK.out _ _ ⟨(blk_cell BK108.out 0).trans rfl, (blk_cell BK108.out 1).trans rfl⟩ (fun hHeld => ?_)
        clear hK K
        refine norm_ (a' := ?_) ?_ ?_
        rotate_left
        ·show Act.put _ (some 75) _ = _
         simp only [Act.put, List.setIfInBounds_toArray, List.set_cons_zero, List.set_cons_succ, i64_w, i32_w]
         rfl
        refine pY 42 (some 76) (bA 44 8796093022207) HT_ ?_
        refine pY 43 (some 8) (bA 44 17592186044415) HT_ ?_
        refine done_ (done_of HT_.out (by kernel_rfl)) ?_
        try go_wp2
        go_ret
        exact ⟨by first | rfl | (exact congrArg (fun b_ => Ending.returned (Value.bool b_)) hrt_.out) | (simp [errW_none, errW_some] <;> rfl) | (simp [*, errW_none, errW_some] <;> rfl), by repeat (first | (with_reducible first | exact HB.out | apply below_alloc | apply pw_below_drewN | apply below_drew1 | refine below_set ?_ GE108.out) | exact HB.out)⟩
       ·replace c171 := Bool.eq_false_iff.mpr c171
        subst c171
        have H1 : (some false) = some true := by rw [if_neg (show ¬ (false = true) by decide)] at H; exact H
        exact absurd H1 (by simp)
      ·replace c169 := Bool.eq_false_iff.mpr c169
       subst c169
       have H1 : (some false) = some true := by rw [if_neg (show ¬ (false = true) by decide)] at H; exact H
       exact absurd H1 (by simp)
     ·replace c166 := Bool.eq_false_iff.mpr c166
      subst c166
      have H1 : (some false) = some true := by rw [if_neg (show ¬ (false = true) by decide)] at H; exact H
      exact absurd H1 (by simp)
    ·rw [if_neg c162] at H
     have c162b0 : (t125 == true) = false := by simpa using c162
     (try (have c162e : ¬ (t125 = true) := by simpa using c162))
     (try (have c162b1 : decide (t125 = true) = false := by simpa using c162))
     (try (have c162b2 : (t125 == true) = false := by simpa using c162))
     (try (have c162b3 : ¬ (t125 = true) := by simpa using c162))
     clear c162
     exact absurd H (by simp)
   ·replace c161 := Bool.eq_false_iff.mpr c161
    subst c161
    have H1 : ((stamp_Has.f t116 a3_0 a3_1).bind fun t172 => (if (t125 == t172) = true then ((stamp_Merge.f (([t113, t110] : List (List (S23))))).bind fun t176 => ((stamp_Merge.f (([t116, t176] : List (List (S23))))).bind fun t182 => ((folkmootref01_Same.f k t122 t182).bind fun t185 => (if t185 = true then ((stamp_Merge.f (([t122, t110] : List (List (S23))))).bind fun t189 => ((folkmootref01_Same.f k t189 t122).bind fun t192 => (if t192 = true then ((folkmootref01_List.f k t122).bind fun t193 => (if t193 = true then ((folkmootlaw01_live.f).bind fun t194 => (some t194)) else (some false))) else (some false)))) else (some false))))) else (some false))) = some true := by rw [if_neg (show ¬ (false = true) by decide)] at H; exact H
    clear H
    have H := H1
    clear H1
    replace H := Option.bind_eq_some_iff.mp H
    obtain ⟨t172, A3110, H⟩ := H
    replace H : (if (t125 == t172) = true then ((stamp_Merge.f (([t113, t110] : List (List (S23))))).bind fun t176 => ((stamp_Merge.f (([t116, t176] : List (List (S23))))).bind fun t182 => ((folkmootref01_Same.f k t122 t182).bind fun t185 => (if t185 = true then ((stamp_Merge.f (([t122, t110] : List (List (S23))))).bind fun t189 => ((folkmootref01_Same.f k t189 t122).bind fun t192 => (if t192 = true then ((folkmootref01_List.f k t122).bind fun t193 => (if t193 = true then ((folkmootlaw01_live.f).bind fun t194 => (some t194)) else (some false))) else (some false)))) else (some false))))) else (some false)) = some true := H
    have A311 := Aside0.mk A3110
    clear A3110
    by_cases c312 : (t125 == t172) = true
    ·rw [if_pos c312] at H
     have c312b0 : (t125 == t172) = true := c312
     (try (have c312e : (t125 = t172) := by simpa using c312))
     (try (have c312b1 : decide (t125 = t172) = true := by simpa using c312))
     (try (have c312b2 : (t125 == t172) = true := by simpa using c312))
     clear c312
     obtain ⟨y173, hy173⟩ : ∃ y_ : List (List (S23)), y_ = (([t113, t110] : List (List (S23)))) := ⟨_, rfl⟩
     replace H : ((stamp_Merge.f y173).bind fun t176 => ((stamp_Merge.f (([t116, t176] : List (List (S23))))).bind fun t182 => ((folkmootref01_Same.f k t122 t182).bind fun t185 => (if t185 = true then ((stamp_Merge.f (([t122, t110] : List (List (S23))))).bind fun t189 => ((folkmootref01_Same.f k t189 t122).bind fun t192 => (if t192 = true then ((folkmootref01_List.f k t122).bind fun t193 => (if t193 = true then ((folkmootlaw01_live.f).bind fun t194 => (some t194)) else (some false))) else (some false)))) else (some false))))) = some true := by first | (rw [hy173]; with_reducible exact H) | (have H2_ := (Option.bind_some _ _).symm.trans H; rw [hy173]; with_reducible exact H2_) | (have H2_ := (Option.bind_some _ _).symm.trans H; with_reducible exact H2_) | with_reducible exact H | (rw [hy173]; exact H) | exact H
     have Ny173 := Aside0.mk hy173
     clear hy173
     replace H := Option.bind_eq_some_iff.mp H
     obtain ⟨t176, A3130, H⟩ := H
     replace H : ((stamp_Merge.f (([t116, t176] : List (List (S23))))).bind fun t182 => ((folkmootref01_Same.f k t122 t182).bind fun t185 => (if t185 = true then ((stamp_Merge.f (([t122, t110] : List (List (S23))))).bind fun t189 => ((folkmootref01_Same.f k t189 t122).bind fun t192 => (if t192 = true then ((folkmootref01_List.f k t122).bind fun t193 => (if t193 = true then ((folkmootlaw01_live.f).bind fun t194 => (some t194)) else (some false))) else (some false)))) else (some false)))) = some true := H
     have A313 := Aside0.mk A3130
     clear A3130
     obtain ⟨y179, hy179⟩ : ∃ y_ : List (List (S23)), y_ = (([t116, t176] : List (List (S23)))) := ⟨_, rfl⟩
     replace H : ((stamp_Merge.f y179).bind fun t182 => ((folkmootref01_Same.f k t122 t182).bind fun t185 => (if t185 = true then ((stamp_Merge.f (([t122, t110] : List (List (S23))))).bind fun t189 => ((folkmootref01_Same.f k t189 t122).bind fun t192 => (if t192 = true then ((folkmootref01_List.f k t122).bind fun t193 => (if t193 = true then ((folkmootlaw01_live.f).bind fun t194 => (some t194)) else (some false))) else (some false)))) else (some false)))) = some true := by first | (rw [hy179]; with_reducible exact H) | (have H2_ := (Option.bind_some _ _).symm.trans H; rw [hy179]; with_reducible exact H2_) | (have H2_ := (Option.bind_some _ _).symm.trans H; with_reducible exact H2_) | with_reducible exact H | (rw [hy179]; exact H) | exact H
     have Ny179 := Aside0.mk hy179
     clear hy179
     replace H := Option.bind_eq_some_iff.mp H
     obtain ⟨t182, A3140, H⟩ := H
     replace H : ((folkmootref01_Same.f k t122 t182).bind fun t185 => (if t185 = true then ((stamp_Merge.f (([t122, t110] : List (List (S23))))).bind fun t189 => ((folkmootref01_Same.f k t189 t122).bind fun t192 => (if t192 = true then ((folkmootref01_List.f k t122).bind fun t193 => (if t193 = true then ((folkmootlaw01_live.f).bind fun t194 => (some t194)) else (some false))) else (some false)))) else (some false))) = some true := H
     have A314 := Aside0.mk A3140
     clear A3140
     replace H := Option.bind_eq_some_iff.mp H
     obtain ⟨t185, A3150, H⟩ := H
     replace H : (if t185 = true then ((stamp_Merge.f (([t122, t110] : List (List (S23))))).bind fun t189 => ((folkmootref01_Same.f k t189 t122).bind fun t192 => (if t192 = true then ((folkmootref01_List.f k t122).bind fun t193 => (if t193 = true then ((folkmootlaw01_live.f).bind fun t194 => (some t194)) else (some false))) else (some false)))) else (some false)) = some true := H
     have A315 := Aside0.mk A3150
     clear A3150
     by_cases c316 : t185 = true
     ·subst c316
      have H1 : ((stamp_Merge.f (([t122, t110] : List (List (S23))))).bind fun t189 => ((folkmootref01_Same.f k t189 t122).bind fun t192 => (if t192 = true then ((folkmootref01_List.f k t122).bind fun t193 => (if t193 = true then ((folkmootlaw01_live.f).bind fun t194 => (some t194)) else (some false))) else (some false)))) = some true := by rw [if_pos rfl] at H; exact H
      clear H
      have H := H1
      clear H1
      obtain ⟨y186, hy186⟩ : ∃ y_ : List (List (S23)), y_ = (([t122, t110] : List (List (S23)))) := ⟨_, rfl⟩
      replace H : ((stamp_Merge.f y186).bind fun t189 => ((folkmootref01_Same.f k t189 t122).bind fun t192 => (if t192 = true then ((folkmootref01_List.f k t122).bind fun t193 => (if t193 = true then ((folkmootlaw01_live.f).bind fun t194 => (some t194)) else (some false))) else (some false)))) = some true := by first | (rw [hy186]; with_reducible exact H) | (have H2_ := (Option.bind_some _ _).symm.trans H; rw [hy186]; with_reducible exact H2_) | (have H2_ := (Option.bind_some _ _).symm.trans H; with_reducible exact H2_) | with_reducible exact H | (rw [hy186]; exact H) | exact H
      have Ny186 := Aside0.mk hy186
      clear hy186
      replace H := Option.bind_eq_some_iff.mp H
      obtain ⟨t189, A3170, H⟩ := H
      replace H : ((folkmootref01_Same.f k t189 t122).bind fun t192 => (if t192 = true then ((folkmootref01_List.f k t122).bind fun t193 => (if t193 = true then ((folkmootlaw01_live.f).bind fun t194 => (some t194)) else (some false))) else (some false))) = some true := H
      have A317 := Aside0.mk A3170
      clear A3170
      replace H := Option.bind_eq_some_iff.mp H
      obtain ⟨t192, A3180, H⟩ := H
      replace H : (if t192 = true then ((folkmootref01_List.f k t122).bind fun t193 => (if t193 = true then ((folkmootlaw01_live.f).bind fun t194 => (some t194)) else (some false))) else (some false)) = some true := H
      have A318 := Aside0.mk A3180
      clear A3180
      by_cases c319 : t192 = true
      ·subst c319
       have H1 : ((folkmootref01_List.f k t122).bind fun t193 => (if t193 = true then ((folkmootlaw01_live.f).bind fun t194 => (some t194)) else (some false))) = some true := by rw [if_pos rfl] at H; exact H
       clear H
       have H := H1
       clear H1
       replace H := Option.bind_eq_some_iff.mp H
       obtain ⟨t193, A3200, H⟩ := H
       replace H : (if t193 = true then ((folkmootlaw01_live.f).bind fun t194 => (some t194)) else (some false)) = some true := H
       have A320 := Aside0.mk A3200
       clear A3200
       by_cases c321 : t193 = true
       ·subst c321
        have H1 : ((folkmootlaw01_live.f).bind fun t194 => (some t194)) = some true := by rw [if_pos rfl] at H; exact H
        clear H
        have H := H1
        clear H1
        replace H := Option.bind_eq_some_iff.mp H
        obtain ⟨t194, A3220, H⟩ := H
        replace H : (some t194) = some true := H
        have A322 := Aside0.mk A3220
        clear A3220
        have hrt_ := Aside0.mk (Option.some.inj H)
        clear H
        go_enter Try.func11, Try.ntmps11
        try go_wp2_with (first | ((with_reducible refine gate_dst (N := 7) rfl ?_); (try (refine gate_guard (by rfl) ?_; dsimp only)); refine box_event ?hg (N := 7) ?hd (cs := #[.int .i64 a3_0, .int .i64 a3_1]) (t := 23) ?hr ?_; (case hd => rfl); (case hg => rfl); (case hr => first | (go_simp; done) | (go_simp; rfl)); intro gb108 hg w323 hbox hb; have BK108 := Aside0.mk (hbox); have GW108 := Aside0.mk ((by rw [hg]; exact (below_size (uB HB)) : w.heap.size ≤ gb108)); have GE108 := Aside0.mk ((by rw [hg]; exact (below_size (uB HB)) : w.heap.size ≤ gb108)); replace HB := sB HB hb; clear hb hbox hg) | ((with_reducible refine gate_callee (f := 33) rfl ?_); refine goesL_ (some 24) rfl rfl Try.func33 (by kernel_rfl) rfl #[.slice A0 l0.length c0] rfl (by (try simp only [List.map_toArray, List.map_cons, List.map_nil]); first | done | rfl | (simp only [List.length_drop, List.length_take]; rfl)) ?_; (with_reducible refine (stamp_Sort.callsV _ _ l0 t110 _ ?side1 ?side2 A9.out).mono ?_); (case side1 => exact uC (Kd.C_below HR0.out HB.out)); (case side2 => exact HC0.out); rintro e w324 ⟨v111, rfl, ho0, hb⟩; refine ⟨_, rfl, ?_⟩; have HO112 := Aside0.mk (Kd.V_lower (Kd.V_mono (ok' := fun k_ => k_ ≠ gb108) ho0 (fun k_ hk_ => (Kd.freshB (g := gb108) (o := .cells #[.int .i64 a3_0, .int .i64 a3_1] 23 (0, 0)) (by (with_reducible repeat (first | refine blk_drewN ?_ _ | refine blk_drew ?_ | refine blk_alloc ?_ _)); exact BK108.out) k_ hk_))) (below_size (by repeat (first | (with_reducible first | exact HB.out | apply below_alloc | apply pw_below_drewN | apply below_drew1 | refine below_set ?_ GE108.out) | exact HB.out)))); replace BK108 := bkB BK108 hb; replace HB := sBg HB GE108 hb; (try clear hb); (try clear hb2); (try clear hk); (try clear hi); (try clear ho0)) | ((with_reducible refine gate_callee (f := 33) rfl ?_); refine goesL_ (some 26) rfl rfl Try.func33 (by kernel_rfl) rfl #[.slice A1 l1.length c1] rfl (by (try simp only [List.map_toArray, List.map_cons, List.map_nil]); first | done | rfl | (simp only [List.length_drop, List.length_take]; rfl)) ?_; (with_reducible refine (stamp_Sort.callsV _ _ l1 t113 _ ?side1 ?side2 A10.out).mono ?_); (case side1 => exact uC (Kd.C_below HR1.out HB.out)); (case side2 => exact HC1.out); rintro e w325 ⟨v114, rfl, ho0, hb⟩; refine ⟨_, rfl, ?_⟩; replace HO112 := Aside0.mk (Kd.V_below (by (with_reducible repeat (first | apply Kd.V_alloc | apply Kd.V_drewN | apply Kd.V_drew)); exact HO112.out) hb); have HO115 := Aside0.mk (Kd.V_lower (Kd.V_mono (ok' := fun k_ => k_ ≠ gb108) ho0 (fun k_ hk_ => (Kd.freshB (g := gb108) (o := .cells #[.int .i64 a3_0, .int .i64 a3_1] 23 (0, 0)) (by (with_reducible repeat (first | refine blk_drewN ?_ _ | refine blk_drew ?_ | refine blk_alloc ?_ _)); exact BK108.out) k_ hk_))) (below_size (by repeat (first | (with_reducible first | exact HB.out | apply below_alloc | apply pw_below_drewN | apply below_drew1 | refine below_set ?_ GE108.out) | exact HB.out)))); replace BK108 := bkB BK108 hb; replace HB := sBg HB GE108 hb; (try clear hb); (try clear hb2); (try clear hk); (try clear hi); (try clear ho0)) | ((with_reducible refine gate_callee (f := 33) rfl ?_); refine goesL_ (some 28) rfl rfl Try.func33 (by kernel_rfl) rfl #[.slice A2 l2.length c2] rfl (by (try simp only [List.map_toArray, List.map_cons, List.map_nil]); first | done | rfl | (simp only [List.length_drop, List.length_take]; rfl)) ?_; (with_reducible refine (stamp_Sort.callsV _ _ l2 t116 _ ?side1 ?side2 A11.out).mono ?_); (case side1 => exact uC (Kd.C_below HR2.out HB.out)); (case side2 => exact HC2.out); rintro e w326 ⟨v117, rfl, ho0, hb⟩; refine ⟨_, rfl, ?_⟩; replace HO112 := Aside0.mk (Kd.V_below (by (with_reducible repeat (first | apply Kd.V_alloc | apply Kd.V_drewN | apply Kd.V_drew)); exact HO112.out) hb); replace HO115 := Aside0.mk (Kd.V_below (by (with_reducible repeat (first | apply Kd.V_alloc | apply Kd.V_drewN | apply Kd.V_drew)); exact HO115.out) hb); have HO118 := Aside0.mk (Kd.V_lower (Kd.V_mono (ok' := fun k_ => k_ ≠ gb108) ho0 (fun k_ hk_ => (Kd.freshB (g := gb108) (o := .cells #[.int .i64 a3_0, .int .i64 a3_1] 23 (0, 0)) (by (with_reducible repeat (first | refine blk_drewN ?_ _ | refine blk_drew ?_ | refine blk_alloc ?_ _)); exact BK108.out) k_ hk_))) (below_size (by repeat (first | (with_reducible first | exact HB.out | apply below_alloc | apply pw_below_drewN | apply below_drew1 | refine below_set ?_ GE108.out) | exact HB.out)))); replace BK108 := bkB BK108 hb; replace HB := sBg HB GE108 hb; (try clear hb); (try clear hb2); (try clear hk); (try clear hi); (try clear ho0); obtain ⟨Ao327, co327, eo327⟩ := Kd.V_slice HO112.out; subst eo327; obtain ⟨Ao328, co328, eo328⟩ := Kd.V_slice HO115.out; subst eo328; obtain ⟨Ao329, co329, eo329⟩ := Kd.V_slice HO118.out; subst eo329) | ((with_reducible refine gate_dst (N := 32) rfl ?_); (try (refine gate_guard (by rfl) ?_; dsimp only)); refine Kd.N_lit (Kd.slice 23 k23) _ 31 ?hg (N' := 32) ?hd (xs := ([t110, t113, t116] : List (List (S23)))) (inner := [.slice Ao327 t110.length co327, .slice Ao328 t113.length co328, .slice Ao329 t116.length co329]) (ok := (fun k_ => k_ ≠ gb108)) (okp := (fun k_ => k_ ≠ gb108)) ?hr ?hp (fun _ hk => hk) ((show ∀ k_, w326.heap.size ≤ k_ → (fun k_ => k_ ≠ gb108) k_ from fun k_ hk => Kd.freshB (g := gb108) (o := .cells #[.int .i64 a3_0, .int .i64 a3_1] 23 (0, 0)) (by (with_reducible repeat (first | refine blk_drewN ?_ _ | refine blk_drew ?_ | refine blk_alloc ?_ _)); exact BK108.out) k_ hk) _ (Nat.le_refl _)) (Below.refl _ _) (Nat.le_refl _) (by simp) ?_; (case hd => rfl); (case hg => rfl); (case hr => first | (go_simp; done) | (go_simp; rfl)); (case hp => exact (Reps.one (show Kd.FK (Kd.slice 23 k23) _ _ t110 [.slice Ao327 t110.length co327] from (Kd.FK_slice_mk (Kd.V_reads' (Kd.V_mono (ok' := (fun k_ => k_ ≠ gb108)) (HO112.out) (fun k_ hk => hk))).2.1 (Kd.V_F (Kd.V_mono (e := 0) (base := 0) (ok' := (fun k_ => k_ ≠ gb108)) (HO112.out) (fun k_ hk => hk))))) (Reps.one (show Kd.FK (Kd.slice 23 k23) _ _ t113 [.slice Ao328 t113.length co328] from (Kd.FK_slice_mk (Kd.V_reads' (Kd.V_mono (ok' := (fun k_ => k_ ≠ gb108)) (HO115.out) (fun k_ hk => hk))).2.1 (Kd.V_F (Kd.V_mono (e := 0) (base := 0) (ok' := (fun k_ => k_ ≠ gb108)) (HO115.out) (fun k_ hk => hk))))) (Reps.one (show Kd.FK (Kd.slice 23 k23) _ _ t116 [.slice Ao329 t116.length co329] from (Kd.FK_slice_mk (Kd.V_reads' (Kd.V_mono (ok' := (fun k_ => k_ ≠ gb108)) (HO118.out) (fun k_ hk => hk))).2.1 (Kd.V_F (Kd.V_mono (e := 0) (base := 0) (ok' := (fun k_ => k_ ≠ gb108)) (HO118.out) (fun k_ hk => hk))))) (Reps.none _ _))))); intro v120 w330 ho331 hb hg_ hnew_; clear hg_ hnew_; (first | rw [← Ny119.out] at ho331 | (simp only [Int.reduceToNat] at ho331; rw [← Ny119.out] at ho331)); replace HO112 := Aside0.mk (Kd.V_elder' (by (with_reducible repeat (first | apply Kd.V_alloc | apply Kd.V_drewN | apply Kd.V_drew)); exact HO112.out) (Kd.N_base ho331) hb); replace HO115 := Aside0.mk (Kd.V_elder' (by (with_reducible repeat (first | apply Kd.V_alloc | apply Kd.V_drewN | apply Kd.V_drew)); exact HO115.out) (Kd.N_base ho331) hb); replace HO118 := Aside0.mk (Kd.V_elder' (by (with_reducible repeat (first | apply Kd.V_alloc | apply Kd.V_drewN | apply Kd.V_drew)); exact HO118.out) (Kd.N_base ho331) hb); have HO121 := Aside0.mk (Kd.N_lower ho331 (below_size (by repeat (first | (with_reducible first | exact HB.out | apply below_alloc | apply pw_below_drewN | apply below_drew1 | refine below_set ?_ GE108.out) | exact HB.out)))); replace BK108 := bkB BK108 hb; replace HB := sBg HB GE108 hb; clear hb ho331; obtain ⟨Ao332, co332, eo332⟩ := Kd.N_slice HO121.out; subst eo332) | ((with_reducible refine gate_callee (f := 38) rfl ?_); refine goesL_ (some 33) rfl rfl Try.func38 (by kernel_rfl) rfl #[.slice Ao332 y119.length co332] rfl (by (try simp only [List.map_toArray, List.map_cons, List.map_nil]); first | done | rfl | (simp only [List.length_drop, List.length_take]; rfl)) ?_; (with_reducible refine (stamp_Merge.callsV _ _ y119 t122 _ ?side1 ?side2 A12.out).mono ?_); (case side1 => exact uC (Kd.N_reads' HO121.out).2.2); (case side2 => exact (Kd.N_reads' HO121.out).2.1); rintro e w333 ⟨v123, rfl, ho0, hb⟩; refine ⟨_, rfl, ?_⟩; replace HO112 := Aside0.mk (Kd.V_below (by (with_reducible repeat (first | apply Kd.V_alloc | apply Kd.V_drewN | apply Kd.V_drew)); exact HO112.out) hb); replace HO115 := Aside0.mk (Kd.V_below (by (with_reducible repeat (first | apply Kd.V_alloc | apply Kd.V_drewN | apply Kd.V_drew)); exact HO115.out) hb); replace HO118 := Aside0.mk (Kd.V_below (by (with_reducible repeat (first | apply Kd.V_alloc | apply Kd.V_drewN | apply Kd.V_drew)); exact HO118.out) hb); have HO124 := Aside0.mk (Kd.V_lower (Kd.V_mono (ok' := fun k_ => some k_ ≠ (.slice Ao332 y119.length co332 : Value).ownBlock ∧ k_ ≠ gb108) ho0 (fun k_ hk_ => ⟨(Kd.fresh' (Kd.N_lt (by (with_reducible repeat (first | apply Kd.N_alloc | apply Kd.N_drewN | apply Kd.N_drew)); exact HO121.out)) k_ hk_), (Kd.freshB (g := gb108) (o := .cells #[.int .i64 a3_0, .int .i64 a3_1] 23 (0, 0)) (by (with_reducible repeat (first | refine blk_drewN ?_ _ | refine blk_drew ?_ | refine blk_alloc ?_ _)); exact BK108.out) k_ hk_)⟩)) (below_size (by repeat (first | (with_reducible first | exact HB.out | apply below_alloc | apply pw_below_drewN | apply below_drew1 | refine below_set ?_ GE108.out) | exact HB.out)))); replace HO121 := Aside0.mk (Kd.N_below (by (with_reducible repeat (first | apply Kd.N_alloc | apply Kd.N_drewN | apply Kd.N_drew)); exact HO121.out) hb); replace BK108 := bkB BK108 hb; replace HB := sBg HB GE108 hb; (try clear hb); (try clear hb2); (try clear hk); (try clear hi); (try clear ho0)))
        replace HO112 := Aside0.mk (Kd.V_drew HO112.out)
        replace HO115 := Aside0.mk (Kd.V_drew HO115.out)
        replace HO118 := Aside0.mk (Kd.V_drew HO118.out)
        replace HO121 := Aside0.mk (Kd.N_drew HO121.out)
        replace HO124 := Aside0.mk (Kd.V_drew HO124.out)
        replace BK108 := Aside0.mk (blk_drew BK108.out)
        replace HB := Aside0.mk (below_drew1 HB.out)
        obtain ⟨Ao335, co335, eo335⟩ := Kd.V_slice HO124.out
        (first | subst eo335 | (injection eo335 with f1_ f2_ f3_; have f4_ := f1_.symm; have f5_ := f3_.symm; clear f1_ f2_ f3_; subst f4_; subst f5_))
        refine start_ (n := 44) (S := fun w' => w'.cell? ⟨gb108, 0, none⟩ = some (.int .i64 a3_0) ∧ w'.cell? ⟨gb108, 1, none⟩ = some (.int .i64 a3_1)) (ds := []) (bA 44 0) (by kernel_rfl) rfl rfl ⟨(blk_cell BK108.out 0).trans rfl, (blk_cell BK108.out 1).trans rfl⟩ (fun hHeld => ?_); refine with_tabW folkmootlaw01_StampMerges.tab5 folkmootlaw01_StampMerges.bits5 (fun HT_ HW_ => ?_)
        generalize w333.drew = w334 at HO112 HO115 HO118 HO121 HO124 BK108 HB hHeld ⊢
        refine pY 0 (some 34) (bA 44 1) HT_ ?_
        refine pY 3 (some 37) (bA 44 9) HT_ ?_
        refine take_ (i := 1) (N := some 35) (v := ?_) (a' := ?_) (bA 44 11) rfl rfl (take_ofW HT_.out HW_.out (by kernel_rfl)) (fun _ _ _ h => h) (Or.inl ⟨by rfl, ?_⟩) hHeld ?_ ?_
        rotate_left
        ·rintro w' ⟨s0, s1⟩
         go_simp
         with_reducible rfl
        rotate_left
        ·simp only [Act.put, List.setIfInBounds_toArray, List.set_cons_zero, List.set_cons_succ, i64_w, i32_w]
         rfl
        refine take_ (i := 4) (N := some 38) (v := ?_) (a' := ?_) (bA 44 27) rfl rfl (take_ofW HT_.out HW_.out (by kernel_rfl)) (fun _ _ _ h => h) (Or.inl ⟨by rfl, ?_⟩) hHeld ?_ ?_
        rotate_left
        ·rintro w' ⟨s0, s1⟩
         go_simp
         with_reducible rfl
        rotate_left
        ·simp only [Act.put, List.setIfInBounds_toArray, List.set_cons_zero, List.set_cons_succ, i64_w, i32_w]
         rfl
        refine one_ (i := 2) (N := some 36) (bA 44 31) rfl rfl (one_of HT_.out (by kernel_rfl)) (by decide) (fun K hK => ?_)
        refine goes_ Try.func34 (by kernel_rfl) rfl #[.slice Ao335 t122.length co335, .agg #[.int .i64 a3_0, .int .i64 a3_1]] (by rfl) rfl rfl (by (try simp only [List.map_toArray, List.map_cons, List.map_nil]); first | done | rfl | (simp only [List.length_drop, List.length_take]; rfl)) ?_
        with_reducible refine (stamp_Has.calls _ _ t122 a3_0 a3_1 t125 _ ?side1 ?side2 A13.out).mono ?_
        (case side1 => exact uC (Kd.V_reads' HO124.out).2.2)
        (case side2 => exact (Kd.V_reads' HO124.out).2.1)
        rintro e w336 ⟨rfl, hb⟩
        refine ⟨_, rfl, ?_⟩
        replace HO112 := Aside0.mk (Kd.V_below (by (with_reducible repeat (first | apply Kd.V_alloc | apply Kd.V_drewN | apply Kd.V_drew)); exact HO112.out) hb)
        replace HO115 := Aside0.mk (Kd.V_below (by (with_reducible repeat (first | apply Kd.V_alloc | apply Kd.V_drewN | apply Kd.V_drew)); exact HO115.out) hb)
        replace HO118 := Aside0.mk (Kd.V_below (by (with_reducible repeat (first | apply Kd.V_alloc | apply Kd.V_drewN | apply Kd.V_drew)); exact HO118.out) hb)
        replace HO121 := Aside0.mk (Kd.N_below (by (with_reducible repeat (first | apply Kd.N_alloc | apply Kd.N_drewN | apply Kd.N_drew)); exact HO121.out) hb)
        replace HO124 := Aside0.mk (Kd.V_below (by (with_reducible repeat (first | apply Kd.V_alloc | apply Kd.V_drewN | apply Kd.V_drew)); exact HO124.out) hb)
        replace BK108 := bkB BK108 hb
        replace HB := sBg HB GE108 hb
        (try clear hb)
        (try clear hb2)
        (try clear hk)
        (try clear hi)
        refine hK.out _ _ ⟨(blk_cell BK108.out 0).trans rfl, (blk_cell BK108.out 1).trans rfl⟩ (fun hHeld => ?_)
        clear hK K
        refine norm_ (a' := ?_) ?_ ?_
        rotate_left
        ·show Act.put _ (some 36) _ = _
         simp only [Act.put, List.setIfInBounds_toArray, List.set_cons_zero, List.set_cons_succ, i64_w, i32_w]
         rfl
        refine one_ (i := 5) (N := some 39) (bA 44 63) rfl rfl (one_of HT_.out (by kernel_rfl)) (by decide) (fun K hK => ?_)
        refine goes_ Try.func34 (by kernel_rfl) rfl #[.slice Ao327 t110.length co327, .agg #[.int .i64 a3_0, .int .i64 a3_1]] (by rfl) rfl rfl (by (try simp only [List.map_toArray, List.map_cons, List.map_nil]); first | done | rfl | (simp only [List.length_drop, List.length_take]; rfl)) ?_
        with_reducible refine (stamp_Has.calls _ _ t110 a3_0 a3_1 false _ ?side1 ?side2 A14.out).mono ?_
        (case side1 => exact uC (Kd.V_reads' HO112.out).2.2)
        (case side2 => exact (Kd.V_reads' HO112.out).2.1)
        rintro e w337 ⟨rfl, hb⟩
        refine ⟨_, rfl, ?_⟩
        replace HO112 := Aside0.mk (Kd.V_below (by (with_reducible repeat (first | apply Kd.V_alloc | apply Kd.V_drewN | apply Kd.V_drew)); exact HO112.out) hb)
        replace HO115 := Aside0.mk (Kd.V_below (by (with_reducible repeat (first | apply Kd.V_alloc | apply Kd.V_drewN | apply Kd.V_drew)); exact HO115.out) hb)
        replace HO118 := Aside0.mk (Kd.V_below (by (with_reducible repeat (first | apply Kd.V_alloc | apply Kd.V_drewN | apply Kd.V_drew)); exact HO118.out) hb)
        replace HO121 := Aside0.mk (Kd.N_below (by (with_reducible repeat (first | apply Kd.N_alloc | apply Kd.N_drewN | apply Kd.N_drew)); exact HO121.out) hb)
        replace HO124 := Aside0.mk (Kd.V_below (by (with_reducible repeat (first | apply Kd.V_alloc | apply Kd.V_drewN | apply Kd.V_drew)); exact HO124.out) hb)
        replace BK108 := bkB BK108 hb
        replace HB := sBg HB GE108 hb
        (try clear hb)
        (try clear hb2)
        (try clear hk)
        (try clear hi)
        refine hK.out _ _ ⟨(blk_cell BK108.out 0).trans rfl, (blk_cell BK108.out 1).trans rfl⟩ (fun hHeld => ?_)
        clear hK K
        refine norm_ (a' := ?_) ?_ ?_
        rotate_left
        ·show Act.put _ (some 39) _ = _
         simp only [Act.put, List.setIfInBounds_toArray, List.set_cons_zero, List.set_cons_succ, i64_w, i32_w]
         rfl
        refine pY 6 (some 40) (bA 44 127) HT_ ?_
        refine pY 7 (some 41) (bA 44 255) HT_ ?_
        refine take_ (i := 8) (N := some 42) (v := ?_) (a' := ?_) (bA 44 511) rfl rfl (take_ofW HT_.out HW_.out (by kernel_rfl)) (fun _ _ _ h => h) (Or.inl ⟨by rfl, ?_⟩) hHeld ?_ ?_
        rotate_left
        ·rintro w' ⟨s0, s1⟩
         go_simp
         with_reducible rfl
        rotate_left
        ·simp only [Act.put, List.setIfInBounds_toArray, List.set_cons_zero, List.set_cons_succ, i64_w, i32_w]
         rfl
        refine one_ (i := 9) (N := some 43) (bA 44 1023) rfl rfl (one_of HT_.out (by kernel_rfl)) (by decide) (fun K hK => ?_)
        refine goes_ Try.func34 (by kernel_rfl) rfl #[.slice Ao328 t113.length co328, .agg #[.int .i64 a3_0, .int .i64 a3_1]] (by rfl) rfl rfl (by (try simp only [List.map_toArray, List.map_cons, List.map_nil]); first | done | rfl | (simp only [List.length_drop, List.length_take]; rfl)) ?_
        with_reducible refine (stamp_Has.calls _ _ t113 a3_0 a3_1 false _ ?side1 ?side2 A160.out).mono ?_
        (case side1 => exact uC (Kd.V_reads' HO115.out).2.2)
        (case side2 => exact (Kd.V_reads' HO115.out).2.1)
        rintro e w338 ⟨rfl, hb⟩
        refine ⟨_, rfl, ?_⟩
        replace HO112 := Aside0.mk (Kd.V_below (by (with_reducible repeat (first | apply Kd.V_alloc | apply Kd.V_drewN | apply Kd.V_drew)); exact HO112.out) hb)
        replace HO115 := Aside0.mk (Kd.V_below (by (with_reducible repeat (first | apply Kd.V_alloc | apply Kd.V_drewN | apply Kd.V_drew)); exact HO115.out) hb)
        replace HO118 := Aside0.mk (Kd.V_below (by (with_reducible repeat (first | apply Kd.V_alloc | apply Kd.V_drewN | apply Kd.V_drew)); exact HO118.out) hb)
        replace HO121 := Aside0.mk (Kd.N_below (by (with_reducible repeat (first | apply Kd.N_alloc | apply Kd.N_drewN | apply Kd.N_drew)); exact HO121.out) hb)
        replace HO124 := Aside0.mk (Kd.V_below (by (with_reducible repeat (first | apply Kd.V_alloc | apply Kd.V_drewN | apply Kd.V_drew)); exact HO124.out) hb)
        replace BK108 := bkB BK108 hb
        replace HB := sBg HB GE108 hb
        (try clear hb)
        (try clear hb2)
        (try clear hk)
        (try clear hi)
        refine hK.out _ _ ⟨(blk_cell BK108.out 0).trans rfl, (blk_cell BK108.out 1).trans rfl⟩ (fun hHeld => ?_)
        clear hK K
        refine norm_ (a' := ?_) ?_ ?_
        rotate_left
        ·show Act.put _ (some 43) _ = _
         simp only [Act.put, List.setIfInBounds_toArray, List.set_cons_zero, List.set_cons_succ, i64_w, i32_w]
         rfl
        refine pY 10 (some 44) (bA 44 2047) HT_ ?_
        refine pY 11 (some 45) (bA 44 4095) HT_ ?_
        refine pY 12 (some 46) (bA 44 8191) HT_ ?_
        refine take_ (i := 13) (N := some 47) (v := ?_) (a' := ?_) (bA 44 16383) rfl rfl (take_ofW HT_.out HW_.out (by kernel_rfl)) (fun _ _ _ h => h) (Or.inl ⟨by rfl, ?_⟩) hHeld ?_ ?_
        rotate_left
        ·rintro w' ⟨s0, s1⟩
         go_simp
         with_reducible rfl
        rotate_left
        ·simp only [Act.put, List.setIfInBounds_toArray, List.set_cons_zero, List.set_cons_succ, i64_w, i32_w]
         rfl
        refine one_ (i := 14) (N := some 48) (bA 44 32767) rfl rfl (one_of HT_.out (by kernel_rfl)) (by decide) (fun K hK => ?_)
        refine goes_ Try.func34 (by kernel_rfl) rfl #[.slice Ao329 t116.length co329, .agg #[.int .i64 a3_0, .int .i64 a3_1]] (by rfl) rfl rfl (by (try simp only [List.map_toArray, List.map_cons, List.map_nil]); first | done | rfl | (simp only [List.length_drop, List.length_take]; rfl)) ?_
        with_reducible refine (stamp_Has.calls _ _ t116 a3_0 a3_1 t172 _ ?side1 ?side2 A311.out).mono ?_
        (case side1 => exact uC (Kd.V_reads' HO118.out).2.2)
        (case side2 => exact (Kd.V_reads' HO118.out).2.1)
        rintro e w339 ⟨rfl, hb⟩
        refine ⟨_, rfl, ?_⟩
        replace HO112 := Aside0.mk (Kd.V_below (by (with_reducible repeat (first | apply Kd.V_alloc | apply Kd.V_drewN | apply Kd.V_drew)); exact HO112.out) hb)
        replace HO115 := Aside0.mk (Kd.V_below (by (with_reducible repeat (first | apply Kd.V_alloc | apply Kd.V_drewN | apply Kd.V_drew)); exact HO115.out) hb)
        replace HO118 := Aside0.mk (Kd.V_below (by (with_reducible repeat (first | apply Kd.V_alloc | apply Kd.V_drewN | apply Kd.V_drew)); exact HO118.out) hb)
        replace HO121 := Aside0.mk (Kd.N_below (by (with_reducible repeat (first | apply Kd.N_alloc | apply Kd.N_drewN | apply Kd.N_drew)); exact HO121.out) hb)
        replace HO124 := Aside0.mk (Kd.V_below (by (with_reducible repeat (first | apply Kd.V_alloc | apply Kd.V_drewN | apply Kd.V_drew)); exact HO124.out) hb)
        replace BK108 := bkB BK108 hb
        replace HB := sBg HB GE108 hb
        (try clear hb)
        (try clear hb2)
        (try clear hk)
        (try clear hi)
        refine hK.out _ _ ⟨(blk_cell BK108.out 0).trans rfl, (blk_cell BK108.out 1).trans rfl⟩ (fun hHeld => ?_)
        clear hK K
        refine norm_ (a' := ?_) ?_ ?_
        rotate_left
        ·show Act.put _ (some 48) _ = _
         simp only [Act.put, List.setIfInBounds_toArray, List.set_cons_zero, List.set_cons_succ, i64_w, i32_w]
         rfl
        refine pY 15 (some 49) (bA 44 65535) HT_ ?_
        refine pY 16 (some 50) (bA 44 131071) HT_ ?_
        refine pY 17 (some 51) (bA 44 262143) HT_ ?_
        refine pY 18 (some 52) (bA 44 524287) HT_ ?_
        refine pY 19 (some 53) (bA 44 1048575) HT_ ?_
        refine pY 20 (some 54) (bA 44 2097151) HT_ ?_
        refine pY 21 (some 55) (bA 44 4194303) HT_ ?_
        refine one_ (i := 22) (N := some 56) (bA 44 8388607) rfl rfl (one_of HT_.out (by kernel_rfl)) (by decide) (fun K hK => ?_)
        refine Kd.N_lit_step (Kd.slice 23 k23) _ 31 ?hg (N' := 56) ?hd (xs := ([t113, t110] : List (List (S23)))) (inner := [.slice Ao328 t113.length co328, .slice Ao327 t110.length co327]) (ok := (fun k_ => some k_ ≠ (.slice Ao332 y119.length co332 : Value).ownBlock ∧ k_ ≠ gb108)) (okp := (fun k_ => some k_ ≠ (.slice Ao332 y119.length co332 : Value).ownBlock ∧ k_ ≠ gb108)) ?hr ?hp (fun _ hk => hk) ((show ∀ k_, w339.heap.size ≤ k_ → (fun k_ => some k_ ≠ (.slice Ao332 y119.length co332 : Value).ownBlock ∧ k_ ≠ gb108) k_ from fun k_ hk => ⟨Kd.fresh' (Kd.N_lt (by (with_reducible repeat (first | apply Kd.N_alloc | apply Kd.N_drewN | apply Kd.N_drew)); exact HO121.out)) k_ hk, Kd.freshB (g := gb108) (o := .cells #[.int .i64 a3_0, .int .i64 a3_1] 23 (0, 0)) (by (with_reducible repeat (first | refine blk_drewN ?_ _ | refine blk_drew ?_ | refine blk_alloc ?_ _)); exact BK108.out) k_ hk⟩) _ (Nat.le_refl _)) (Below.refl _ _) (Nat.le_refl _) (by simp) ?_; (case hd => rfl); (case hg => rfl); (case hr => first | (go_simp; done) | (go_simp; rfl)); (case hp => exact (Reps.one (show Kd.FK (Kd.slice 23 k23) _ _ t113 [.slice Ao328 t113.length co328] from (Kd.FK_slice_mk (Kd.V_reads' (Kd.V_mono (ok' := (fun k_ => some k_ ≠ (.slice Ao332 y119.length co332 : Value).ownBlock ∧ k_ ≠ gb108)) (HO115.out) (fun k_ hk => ⟨hk.2, hk.1⟩))).2.1 (Kd.V_F (Kd.V_mono (e := 0) (base := 0) (ok' := (fun k_ => some k_ ≠ (.slice Ao332 y119.length co332 : Value).ownBlock ∧ k_ ≠ gb108)) (HO115.out) (fun k_ hk => ⟨hk.2, hk.1⟩))))) (Reps.one (show Kd.FK (Kd.slice 23 k23) _ _ t110 [.slice Ao327 t110.length co327] from (Kd.FK_slice_mk (Kd.V_reads' (Kd.V_mono (ok' := (fun k_ => some k_ ≠ (.slice Ao332 y119.length co332 : Value).ownBlock ∧ k_ ≠ gb108)) (HO112.out) (fun k_ hk => ⟨hk.2, hk.1⟩))).2.1 (Kd.V_F (Kd.V_mono (e := 0) (base := 0) (ok' := (fun k_ => some k_ ≠ (.slice Ao332 y119.length co332 : Value).ownBlock ∧ k_ ≠ gb108)) (HO112.out) (fun k_ hk => ⟨hk.2, hk.1⟩))))) (Reps.none _ _))))
        intro v174 w340 ho341 hb hg_ hnew_
        clear hg_ hnew_
        (first | rw [← Ny173.out] at ho341 | (simp only [Int.reduceToNat] at ho341; rw [← Ny173.out] at ho341))
        replace HO112 := Aside0.mk (Kd.V_elder' (by (with_reducible repeat (first | apply Kd.V_alloc | apply Kd.V_drewN | apply Kd.V_drew)); exact HO112.out) (Kd.N_base ho341) hb)
        replace HO115 := Aside0.mk (Kd.V_elder' (by (with_reducible repeat (first | apply Kd.V_alloc | apply Kd.V_drewN | apply Kd.V_drew)); exact HO115.out) (Kd.N_base ho341) hb)
        replace HO118 := Aside0.mk (Kd.V_elder' (by (with_reducible repeat (first | apply Kd.V_alloc | apply Kd.V_drewN | apply Kd.V_drew)); exact HO118.out) (Kd.N_base ho341) hb)
        replace HO121 := Aside0.mk (Kd.N_elder' (by (with_reducible repeat (first | apply Kd.N_alloc | apply Kd.N_drewN | apply Kd.N_drew)); exact HO121.out) (Kd.N_base ho341) hb)
        replace HO124 := Aside0.mk (Kd.V_elder' (by (with_reducible repeat (first | apply Kd.V_alloc | apply Kd.V_drewN | apply Kd.V_drew)); exact HO124.out) (Kd.N_base ho341) hb)
        have HO175 := Aside0.mk (Kd.N_lower ho341 (below_size (by repeat (first | (with_reducible first | exact HB.out | apply below_alloc | apply pw_below_drewN | apply below_drew1 | refine below_set ?_ GE108.out) | exact HB.out))))
        replace BK108 := bkB BK108 hb
        replace HB := sBg HB GE108 hb
        clear hb ho341
        obtain ⟨Ao342, co342, eo342⟩ := Kd.N_slice HO175.out
        (first | subst eo342 | (injection eo342 with f1_ f2_ f3_; have f4_ := f1_.symm; have f5_ := f3_.symm; clear f1_ f2_ f3_; subst f4_; subst f5_))
        refine hK.out _ _ ⟨(blk_cell BK108.out 0).trans rfl, (blk_cell BK108.out 1).trans rfl⟩ (fun hHeld => ?_)
        clear hK K
        refine norm_ (a' := ?_) ?_ ?_
        rotate_left
        ·show Act.put _ (some 56) _ = _
         simp only [Act.put, List.setIfInBounds_toArray, List.set_cons_zero, List.set_cons_succ, i64_w, i32_w]
         rfl
        refine one_ (i := 23) (N := some 57) (bA 44 16777215) rfl rfl (one_of HT_.out (by kernel_rfl)) (by decide) (fun K hK => ?_)
        refine goes_ Try.func38 (by kernel_rfl) rfl #[.slice Ao342 y173.length co342] (by rfl) rfl rfl (by (try simp only [List.map_toArray, List.map_cons, List.map_nil]); first | done | rfl | (simp only [List.length_drop, List.length_take]; rfl)) ?_
        with_reducible refine (stamp_Merge.callsV _ _ y173 t176 _ ?side1 ?side2 A313.out).mono ?_
        (case side1 => exact uC (Kd.N_reads' HO175.out).2.2)
        (case side2 => exact (Kd.N_reads' HO175.out).2.1)
        rintro e w343 ⟨v177, rfl, ho0, hb⟩
        refine ⟨_, rfl, ?_⟩
        replace HO112 := Aside0.mk (Kd.V_below (by (with_reducible repeat (first | apply Kd.V_alloc | apply Kd.V_drewN | apply Kd.V_drew)); exact HO112.out) hb)
        replace HO115 := Aside0.mk (Kd.V_below (by (with_reducible repeat (first | apply Kd.V_alloc | apply Kd.V_drewN | apply Kd.V_drew)); exact HO115.out) hb)
        replace HO118 := Aside0.mk (Kd.V_below (by (with_reducible repeat (first | apply Kd.V_alloc | apply Kd.V_drewN | apply Kd.V_drew)); exact HO118.out) hb)
        replace HO124 := Aside0.mk (Kd.V_below (by (with_reducible repeat (first | apply Kd.V_alloc | apply Kd.V_drewN | apply Kd.V_drew)); exact HO124.out) hb)
        have HO178 := Aside0.mk (Kd.V_lower (Kd.V_mono (ok' := fun k_ => some k_ ≠ (.slice Ao332 y119.length co332 : Value).ownBlock ∧ some k_ ≠ (.slice Ao342 y173.length co342 : Value).ownBlock ∧ k_ ≠ gb108) ho0 (fun k_ hk_ => ⟨(Kd.fresh' (Kd.N_lt (by (with_reducible repeat (first | apply Kd.N_alloc | apply Kd.N_drewN | apply Kd.N_drew)); exact HO121.out)) k_ hk_), (Kd.fresh' (Kd.N_lt (by (with_reducible repeat (first | apply Kd.N_alloc | apply Kd.N_drewN | apply Kd.N_drew)); exact HO175.out)) k_ hk_), (Kd.freshB (g := gb108) (o := .cells #[.int .i64 a3_0, .int .i64 a3_1] 23 (0, 0)) (by (with_reducible repeat (first | refine blk_drewN ?_ _ | refine blk_drew ?_ | refine blk_alloc ?_ _)); exact BK108.out) k_ hk_)⟩)) (below_size (by repeat (first | (with_reducible first | exact HB.out | apply below_alloc | apply pw_below_drewN | apply below_drew1 | refine below_set ?_ GE108.out) | exact HB.out))))
        replace HO121 := Aside0.mk (Kd.N_below (by (with_reducible repeat (first | apply Kd.N_alloc | apply Kd.N_drewN | apply Kd.N_drew)); exact HO121.out) hb)
        replace HO175 := Aside0.mk (Kd.N_below (by (with_reducible repeat (first | apply Kd.N_alloc | apply Kd.N_drewN | apply Kd.N_drew)); exact HO175.out) hb)
        replace BK108 := bkB BK108 hb
        replace HB := sBg HB GE108 hb
        (try clear hb)
        (try clear hb2)
        (try clear hk)
        (try clear hi)
        (try clear ho0)
        obtain ⟨Ao344, co344, eo344⟩ := Kd.V_slice HO178.out
        (first | subst eo344 | (injection eo344 with f1_ f2_ f3_; have f4_ := f1_.symm; have f5_ := f3_.symm; clear f1_ f2_ f3_; subst f4_; subst f5_))
        refine hK.out _ _ ⟨(blk_cell BK108.out 0).trans rfl, (blk_cell BK108.out 1).trans rfl⟩ (fun hHeld => ?_)
        clear hK K
        refine norm_ (a' := ?_) ?_ ?_
        rotate_left
        ·show Act.put _ (some 57) _ = _
         simp only [Act.put, List.setIfInBounds_toArray, List.set_cons_zero, List.set_cons_succ, i64_w, i32_w]
         rfl
        refine one_ (i := 24) (N := some 58) (bA 44 33554431) rfl rfl (one_of HT_.out (by kernel_rfl)) (by decide) (fun K hK => ?_)
        refine Kd.N_lit_step (Kd.slice 23 k23) _ 31 ?hg (N' := 58) ?hd (xs := ([t116, t176] : List (List (S23)))) (inner := [.slice Ao329 t116.length co329, .slice Ao344 t176.length co344]) (ok := (fun k_ => some k_ ≠ (.slice Ao332 y119.length co332 : Value).ownBlock ∧ some k_ ≠ (.slice Ao342 y173.length co342 : Value).ownBlock ∧ k_ ≠ gb108)) (okp := (fun k_ => some k_ ≠ (.slice Ao332 y119.length co332 : Value).ownBlock ∧ some k_ ≠ (.slice Ao342 y173.length co342 : Value).ownBlock ∧ k_ ≠ gb108)) ?hr ?hp (fun _ hk => hk) ((show ∀ k_, w343.heap.size ≤ k_ → (fun k_ => some k_ ≠ (.slice Ao332 y119.length co332 : Value).ownBlock ∧ some k_ ≠ (.slice Ao342 y173.length co342 : Value).ownBlock ∧ k_ ≠ gb108) k_ from fun k_ hk => ⟨Kd.fresh' (Kd.N_lt (by (with_reducible repeat (first | apply Kd.N_alloc | apply Kd.N_drewN | apply Kd.N_drew)); exact HO121.out)) k_ hk, Kd.fresh' (Kd.N_lt (by (with_reducible repeat (first | apply Kd.N_alloc | apply Kd.N_drewN | apply Kd.N_drew)); exact HO175.out)) k_ hk, Kd.freshB (g := gb108) (o := .cells #[.int .i64 a3_0, .int .i64 a3_1] 23 (0, 0)) (by (with_reducible repeat (first | refine blk_drewN ?_ _ | refine blk_drew ?_ | refine blk_alloc ?_ _)); exact BK108.out) k_ hk⟩) _ (Nat.le_refl _)) (Below.refl _ _) (Nat.le_refl _) (by simp) ?_; (case hd => rfl); (case hg => rfl); (case hr => first | (go_simp; done) | (go_simp; rfl)); (case hp => exact (Reps.one (show Kd.FK (Kd.slice 23 k23) _ _ t116 [.slice Ao329 t116.length co329] from (Kd.FK_slice_mk (Kd.V_reads' (Kd.V_mono (ok' := (fun k_ => some k_ ≠ (.slice Ao332 y119.length co332 : Value).ownBlock ∧ some k_ ≠ (.slice Ao342 y173.length co342 : Value).ownBlock ∧ k_ ≠ gb108)) (HO118.out) (fun k_ hk => ⟨hk.1.2, ⟨hk.2, hk.1.1⟩⟩))).2.1 (Kd.V_F (Kd.V_mono (e := 0) (base := 0) (ok' := (fun k_ => some k_ ≠ (.slice Ao332 y119.length co332 : Value).ownBlock ∧ some k_ ≠ (.slice Ao342 y173.length co342 : Value).ownBlock ∧ k_ ≠ gb108)) (HO118.out) (fun k_ hk => ⟨hk.1.2, ⟨hk.2, hk.1.1⟩⟩))))) (Reps.one (show Kd.FK (Kd.slice 23 k23) _ _ t176 [.slice Ao344 t176.length co344] from (Kd.FK_slice_mk (Kd.V_reads' (Kd.V_mono (ok' := (fun k_ => some k_ ≠ (.slice Ao332 y119.length co332 : Value).ownBlock ∧ some k_ ≠ (.slice Ao342 y173.length co342 : Value).ownBlock ∧ k_ ≠ gb108)) (HO178.out) (fun k_ hk => ⟨hk.1, ⟨hk.2.1, hk.2.2⟩⟩))).2.1 (Kd.V_F (Kd.V_mono (e := 0) (base := 0) (ok' := (fun k_ => some k_ ≠ (.slice Ao332 y119.length co332 : Value).ownBlock ∧ some k_ ≠ (.slice Ao342 y173.length co342 : Value).ownBlock ∧ k_ ≠ gb108)) (HO178.out) (fun k_ hk => ⟨hk.1, ⟨hk.2.1, hk.2.2⟩⟩))))) (Reps.none _ _))))
        intro v180 w345 ho346 hb hg_ hnew_
        clear hg_ hnew_
        (first | rw [← Ny179.out] at ho346 | (simp only [Int.reduceToNat] at ho346; rw [← Ny179.out] at ho346))
        replace HO112 := Aside0.mk (Kd.V_elder' (by (with_reducible repeat (first | apply Kd.V_alloc | apply Kd.V_drewN | apply Kd.V_drew)); exact HO112.out) (Kd.N_base ho346) hb)
        replace HO115 := Aside0.mk (Kd.V_elder' (by (with_reducible repeat (first | apply Kd.V_alloc | apply Kd.V_drewN | apply Kd.V_drew)); exact HO115.out) (Kd.N_base ho346) hb)
        replace HO118 := Aside0.mk (Kd.V_elder' (by (with_reducible repeat (first | apply Kd.V_alloc | apply Kd.V_drewN | apply Kd.V_drew)); exact HO118.out) (Kd.N_base ho346) hb)
        replace HO121 := Aside0.mk (Kd.N_elder' (by (with_reducible repeat (first | apply Kd.N_alloc | apply Kd.N_drewN | apply Kd.N_drew)); exact HO121.out) (Kd.N_base ho346) hb)
        replace HO124 := Aside0.mk (Kd.V_elder' (by (with_reducible repeat (first | apply Kd.V_alloc | apply Kd.V_drewN | apply Kd.V_drew)); exact HO124.out) (Kd.N_base ho346) hb)
        replace HO175 := Aside0.mk (Kd.N_elder' (by (with_reducible repeat (first | apply Kd.N_alloc | apply Kd.N_drewN | apply Kd.N_drew)); exact HO175.out) (Kd.N_base ho346) hb)
        replace HO178 := Aside0.mk (Kd.V_elder' (by (with_reducible repeat (first | apply Kd.V_alloc | apply Kd.V_drewN | apply Kd.V_drew)); exact HO178.out) (Kd.N_base ho346) hb)
        have HO181 := Aside0.mk (Kd.N_lower ho346 (below_size (by repeat (first | (with_reducible first | exact HB.out | apply below_alloc | apply pw_below_drewN | apply below_drew1 | refine below_set ?_ GE108.out) | exact HB.out))))
        replace BK108 := bkB BK108 hb
        replace HB := sBg HB GE108 hb
        clear hb ho346
        obtain ⟨Ao347, co347, eo347⟩ := Kd.N_slice HO181.out
        (first | subst eo347 | (injection eo347 with f1_ f2_ f3_; have f4_ := f1_.symm; have f5_ := f3_.symm; clear f1_ f2_ f3_; subst f4_; subst f5_))
        refine hK.out _ _ ⟨(blk_cell BK108.out 0).trans rfl, (blk_cell BK108.out 1).trans rfl⟩ (fun hHeld => ?_)
        clear hK K
        refine norm_ (a' := ?_) ?_ ?_
        rotate_left
        ·show Act.put _ (some 58) _ = _
         simp only [Act.put, List.setIfInBounds_toArray, List.set_cons_zero, List.set_cons_succ, i64_w, i32_w]
         rfl
        refine one_ (i := 25) (N := some 59) (bA 44 67108863) rfl rfl (one_of HT_.out (by kernel_rfl)) (by decide) (fun K hK => ?_)
        refine goes_ Try.func38 (by kernel_rfl) rfl #[.slice Ao347 y179.length co347] (by rfl) rfl rfl (by (try simp only [List.map_toArray, List.map_cons, List.map_nil]); first | done | rfl | (simp only [List.length_drop, List.length_take]; rfl)) ?_
        with_reducible refine (stamp_Merge.callsV _ _ y179 t182 _ ?side1 ?side2 A314.out).mono ?_
        (case side1 => exact uC (Kd.N_reads' HO181.out).2.2)
        (case side2 => exact (Kd.N_reads' HO181.out).2.1)
        rintro e w348 ⟨v183, rfl, ho0, hb⟩
        refine ⟨_, rfl, ?_⟩
        replace HO112 := Aside0.mk (Kd.V_below (by (with_reducible repeat (first | apply Kd.V_alloc | apply Kd.V_drewN | apply Kd.V_drew)); exact HO112.out) hb)
        replace HO115 := Aside0.mk (Kd.V_below (by (with_reducible repeat (first | apply Kd.V_alloc | apply Kd.V_drewN | apply Kd.V_drew)); exact HO115.out) hb)
        replace HO118 := Aside0.mk (Kd.V_below (by (with_reducible repeat (first | apply Kd.V_alloc | apply Kd.V_drewN | apply Kd.V_drew)); exact HO118.out) hb)
        replace HO124 := Aside0.mk (Kd.V_below (by (with_reducible repeat (first | apply Kd.V_alloc | apply Kd.V_drewN | apply Kd.V_drew)); exact HO124.out) hb)
        replace HO178 := Aside0.mk (Kd.V_below (by (with_reducible repeat (first | apply Kd.V_alloc | apply Kd.V_drewN | apply Kd.V_drew)); exact HO178.out) hb)
        have HO184 := Aside0.mk (Kd.V_lower (Kd.V_mono (ok' := fun k_ => some k_ ≠ (.slice Ao332 y119.length co332 : Value).ownBlock ∧ some k_ ≠ (.slice Ao342 y173.length co342 : Value).ownBlock ∧ some k_ ≠ (.slice Ao347 y179.length co347 : Value).ownBlock ∧ k_ ≠ gb108) ho0 (fun k_ hk_ => ⟨(Kd.fresh' (Kd.N_lt (by (with_reducible repeat (first | apply Kd.N_alloc | apply Kd.N_drewN | apply Kd.N_drew)); exact HO121.out)) k_ hk_), (Kd.fresh' (Kd.N_lt (by (with_reducible repeat (first | apply Kd.N_alloc | apply Kd.N_drewN | apply Kd.N_drew)); exact HO175.out)) k_ hk_), (Kd.fresh' (Kd.N_lt (by (with_reducible repeat (first | apply Kd.N_alloc | apply Kd.N_drewN | apply Kd.N_drew)); exact HO181.out)) k_ hk_), (Kd.freshB (g := gb108) (o := .cells #[.int .i64 a3_0, .int .i64 a3_1] 23 (0, 0)) (by (with_reducible repeat (first | refine blk_drewN ?_ _ | refine blk_drew ?_ | refine blk_alloc ?_ _)); exact BK108.out) k_ hk_)⟩)) (below_size (by repeat (first | (with_reducible first | exact HB.out | apply below_alloc | apply pw_below_drewN | apply below_drew1 | refine below_set ?_ GE108.out) | exact HB.out))))
        replace HO121 := Aside0.mk (Kd.N_below (by (with_reducible repeat (first | apply Kd.N_alloc | apply Kd.N_drewN | apply Kd.N_drew)); exact HO121.out) hb)
        replace HO175 := Aside0.mk (Kd.N_below (by (with_reducible repeat (first | apply Kd.N_alloc | apply Kd.N_drewN | apply Kd.N_drew)); exact HO175.out) hb)
        replace HO181 := Aside0.mk (Kd.N_below (by (with_reducible repeat (first | apply Kd.N_alloc | apply Kd.N_drewN | apply Kd.N_drew)); exact HO181.out) hb)
        replace BK108 := bkB BK108 hb
        replace HB := sBg HB GE108 hb
        (try clear hb)
        (try clear hb2)
        (try clear hk)
        (try clear hi)
        (try clear ho0)
        obtain ⟨Ao349, co349, eo349⟩ := Kd.V_slice HO184.out
        (first | subst eo349 | (injection eo349 with f1_ f2_ f3_; have f4_ := f1_.symm; have f5_ := f3_.symm; clear f1_ f2_ f3_; subst f4_; subst f5_))
        refine hK.out _ _ ⟨(blk_cell BK108.out 0).trans rfl, (blk_cell BK108.out 1).trans rfl⟩ (fun hHeld => ?_)
        clear hK K
        refine norm_ (a' := ?_) ?_ ?_
        rotate_left
        ·show Act.put _ (some 59) _ = _
         simp only [Act.put, List.setIfInBounds_toArray, List.set_cons_zero, List.set_cons_succ, i64_w, i32_w]
         rfl
        refine one_ (i := 26) (N := some 60) (bA 44 134217727) rfl rfl (one_of HT_.out (by kernel_rfl)) (by decide) (fun K hK => ?_)
        refine goes_ Try.func36 (by kernel_rfl) rfl #[.slice Ao335 t122.length co335, .slice Ao349 t182.length co349] (by rfl) rfl rfl (by (try simp only [List.map_toArray, List.map_cons, List.map_nil]); first | done | rfl | (simp only [List.length_drop, List.length_take]; rfl)) ?_
        with_reducible refine (folkmootref01_Same.calls k _ _ t122 _ _ t182 true _ ?side1 ?side2 ?side3 ?side4 A315.out).mono ?_
        (case side1 => exact uC (Kd.V_reads' HO124.out).2.2)
        (case side2 => exact (Kd.V_reads' HO124.out).2.1)
        (case side3 => exact uC (Kd.V_reads' HO184.out).2.2)
        (case side4 => exact (Kd.V_reads' HO184.out).2.1)
        rintro e w' ⟨rfl, ⟨nd, rfl⟩⟩
        refine ⟨_, rfl, ?_⟩
        refine hK.out _ _ ⟨(blk_cell BK108.out 0).trans rfl, (blk_cell BK108.out 1).trans rfl⟩ (fun hHeld => ?_)
        clear hK K
        refine norm_ (a' := ?_) ?_ ?_
        rotate_left
        ·show Act.put _ (some 60) _ = _
         simp only [Act.put, List.setIfInBounds_toArray, List.set_cons_zero, List.set_cons_succ, i64_w, i32_w]
         rfl
        refine pY 27 (some 61) (bA 44 268435455) HT_ ?_
        refine pY 28 (some 62) (bA 44 536870911) HT_ ?_
        refine pY 29 (some 63) (bA 44 1073741823) HT_ ?_
        refine pY 30 (some 64) (bA 44 2147483647) HT_ ?_
        refine pY 33 (some 67) (bA 44 10737418239) HT_ ?_
        refine one_ (i := 31) (N := some 65) (bA 44 12884901887) rfl rfl (one_of HT_.out (by kernel_rfl)) (by decide) (fun K hK => ?_)
        refine Kd.N_lit_step (Kd.slice 23 k23) _ 31 ?hg (N' := 65) ?hd (xs := ([t122, t110] : List (List (S23)))) (inner := [.slice Ao335 t122.length co335, .slice Ao327 t110.length co327]) (ok := (fun k_ => some k_ ≠ (.slice Ao332 y119.length co332 : Value).ownBlock ∧ some k_ ≠ (.slice Ao342 y173.length co342 : Value).ownBlock ∧ some k_ ≠ (.slice Ao347 y179.length co347 : Value).ownBlock ∧ k_ ≠ gb108)) (okp := (fun k_ => some k_ ≠ (.slice Ao332 y119.length co332 : Value).ownBlock ∧ some k_ ≠ (.slice Ao342 y173.length co342 : Value).ownBlock ∧ some k_ ≠ (.slice Ao347 y179.length co347 : Value).ownBlock ∧ k_ ≠ gb108)) ?hr ?hp (fun _ hk => hk) ((show ∀ k_, w348.heap.size ≤ k_ → (fun k_ => some k_ ≠ (.slice Ao332 y119.length co332 : Value).ownBlock ∧ some k_ ≠ (.slice Ao342 y173.length co342 : Value).ownBlock ∧ some k_ ≠ (.slice Ao347 y179.length co347 : Value).ownBlock ∧ k_ ≠ gb108) k_ from fun k_ hk => ⟨Kd.fresh' (Kd.N_lt (by (with_reducible repeat (first | apply Kd.N_alloc | apply Kd.N_drewN | apply Kd.N_drew)); exact HO121.out)) k_ hk, Kd.fresh' (Kd.N_lt (by (with_reducible repeat (first | apply Kd.N_alloc | apply Kd.N_drewN | apply Kd.N_drew)); exact HO175.out)) k_ hk, Kd.fresh' (Kd.N_lt (by (with_reducible repeat (first | apply Kd.N_alloc | apply Kd.N_drewN | apply Kd.N_drew)); exact HO181.out)) k_ hk, Kd.freshB (g := gb108) (o := .cells #[.int .i64 a3_0, .int .i64 a3_1] 23 (0, 0)) (by (with_reducible repeat (first | refine blk_drewN ?_ _ | refine blk_drew ?_ | refine blk_alloc ?_ _)); exact BK108.out) k_ hk⟩) _ (Nat.le_refl _)) (Below.refl _ _) (Nat.le_refl _) (by simp) ?_; (case hd => rfl); (case hg => rfl); (case hr => first | (go_simp; done) | (go_simp; rfl)); (case hp => exact (Reps.one (show Kd.FK (Kd.slice 23 k23) _ _ t122 [.slice Ao335 t122.length co335] from (Kd.FK_slice_mk (Kd.V_reads' (Kd.V_mono (ok' := (fun k_ => some k_ ≠ (.slice Ao332 y119.length co332 : Value).ownBlock ∧ some k_ ≠ (.slice Ao342 y173.length co342 : Value).ownBlock ∧ some k_ ≠ (.slice Ao347 y179.length co347 : Value).ownBlock ∧ k_ ≠ gb108)) (HO124.out) (fun k_ hk => ⟨hk.1.1.1, ⟨hk.1.2, ⟨hk.2, hk.1.1.2⟩⟩⟩))).2.1 (Kd.V_F (Kd.V_mono (e := 0) (base := 0) (ok' := (fun k_ => some k_ ≠ (.slice Ao332 y119.length co332 : Value).ownBlock ∧ some k_ ≠ (.slice Ao342 y173.length co342 : Value).ownBlock ∧ some k_ ≠ (.slice Ao347 y179.length co347 : Value).ownBlock ∧ k_ ≠ gb108)) (HO124.out) (fun k_ hk => ⟨hk.1.1.1, ⟨hk.1.2, ⟨hk.2, hk.1.1.2⟩⟩⟩))))) (Reps.one (show Kd.FK (Kd.slice 23 k23) _ _ t110 [.slice Ao327 t110.length co327] from (Kd.FK_slice_mk (Kd.V_reads' (Kd.V_mono (ok' := (fun k_ => some k_ ≠ (.slice Ao332 y119.length co332 : Value).ownBlock ∧ some k_ ≠ (.slice Ao342 y173.length co342 : Value).ownBlock ∧ some k_ ≠ (.slice Ao347 y179.length co347 : Value).ownBlock ∧ k_ ≠ gb108)) (HO112.out) (fun k_ hk => ⟨hk.1.1.2, ⟨hk.1.2, ⟨hk.2, hk.1.1.1⟩⟩⟩))).2.1 (Kd.V_F (Kd.V_mono (e := 0) (base := 0) (ok' := (fun k_ => some k_ ≠ (.slice Ao332 y119.length co332 : Value).ownBlock ∧ some k_ ≠ (.slice Ao342 y173.length co342 : Value).ownBlock ∧ some k_ ≠ (.slice Ao347 y179.length co347 : Value).ownBlock ∧ k_ ≠ gb108)) (HO112.out) (fun k_ hk => ⟨hk.1.1.2, ⟨hk.1.2, ⟨hk.2, hk.1.1.1⟩⟩⟩))))) (Reps.none _ _))))
        intro v187 w350 ho351 hb hg_ hnew_
        clear hg_ hnew_
        (first | rw [← Ny186.out] at ho351 | (simp only [Int.reduceToNat] at ho351; rw [← Ny186.out] at ho351))
        replace HO112 := Aside0.mk (Kd.V_elder' (by (with_reducible repeat (first | apply Kd.V_alloc | apply Kd.V_drewN | apply Kd.V_drew)); exact HO112.out) (Kd.N_base ho351) hb)
        replace HO115 := Aside0.mk (Kd.V_elder' (by (with_reducible repeat (first | apply Kd.V_alloc | apply Kd.V_drewN | apply Kd.V_drew)); exact HO115.out) (Kd.N_base ho351) hb)
        replace HO118 := Aside0.mk (Kd.V_elder' (by (with_reducible repeat (first | apply Kd.V_alloc | apply Kd.V_drewN | apply Kd.V_drew)); exact HO118.out) (Kd.N_base ho351) hb)
        replace HO121 := Aside0.mk (Kd.N_elder' (by (with_reducible repeat (first | apply Kd.N_alloc | apply Kd.N_drewN | apply Kd.N_drew)); exact HO121.out) (Kd.N_base ho351) hb)
        replace HO124 := Aside0.mk (Kd.V_elder' (by (with_reducible repeat (first | apply Kd.V_alloc | apply Kd.V_drewN | apply Kd.V_drew)); exact HO124.out) (Kd.N_base ho351) hb)
        replace HO175 := Aside0.mk (Kd.N_elder' (by (with_reducible repeat (first | apply Kd.N_alloc | apply Kd.N_drewN | apply Kd.N_drew)); exact HO175.out) (Kd.N_base ho351) hb)
        replace HO178 := Aside0.mk (Kd.V_elder' (by (with_reducible repeat (first | apply Kd.V_alloc | apply Kd.V_drewN | apply Kd.V_drew)); exact HO178.out) (Kd.N_base ho351) hb)
        replace HO181 := Aside0.mk (Kd.N_elder' (by (with_reducible repeat (first | apply Kd.N_alloc | apply Kd.N_drewN | apply Kd.N_drew)); exact HO181.out) (Kd.N_base ho351) hb)
        replace HO184 := Aside0.mk (Kd.V_elder' (by (with_reducible repeat (first | apply Kd.V_alloc | apply Kd.V_drewN | apply Kd.V_drew)); exact HO184.out) (Kd.N_base ho351) hb)
        have HO188 := Aside0.mk (Kd.N_lower ho351 (below_size (by repeat (first | (with_reducible first | exact HB.out | apply below_alloc | apply pw_below_drewN | apply below_drew1 | refine below_set ?_ GE108.out) | exact HB.out))))
        replace BK108 := bkB BK108 hb
        replace HB := sBg HB GE108 hb
        clear hb ho351
        obtain ⟨Ao352, co352, eo352⟩ := Kd.N_slice HO188.out
        (first | subst eo352 | (injection eo352 with f1_ f2_ f3_; have f4_ := f1_.symm; have f5_ := f3_.symm; clear f1_ f2_ f3_; subst f4_; subst f5_))
        refine hK.out _ _ ⟨(blk_cell BK108.out 0).trans rfl, (blk_cell BK108.out 1).trans rfl⟩ (fun hHeld => ?_)
        clear hK K
        refine norm_ (a' := ?_) ?_ ?_
        rotate_left
        ·show Act.put _ (some 65) _ = _
         simp only [Act.put, List.setIfInBounds_toArray, List.set_cons_zero, List.set_cons_succ, i64_w, i32_w]
         rfl
        refine one_ (i := 32) (N := some 66) (bA 44 17179869183) rfl rfl (one_of HT_.out (by kernel_rfl)) (by decide) (fun K hK => ?_)
        refine goes_ Try.func38 (by kernel_rfl) rfl #[.slice Ao352 y186.length co352] (by rfl) rfl rfl (by (try simp only [List.map_toArray, List.map_cons, List.map_nil]); first | done | rfl | (simp only [List.length_drop, List.length_take]; rfl)) ?_
        with_reducible refine (stamp_Merge.callsV _ _ y186 t189 _ ?side1 ?side2 A317.out).mono ?_
        (case side1 => exact uC (Kd.N_reads' HO188.out).2.2)
        (case side2 => exact (Kd.N_reads' HO188.out).2.1)
        rintro e w353 ⟨v190, rfl, ho0, hb⟩
        refine ⟨_, rfl, ?_⟩
        replace HO112 := Aside0.mk (Kd.V_below (by (with_reducible repeat (first | apply Kd.V_alloc | apply Kd.V_drewN | apply Kd.V_drew)); exact HO112.out) hb)
        replace HO115 := Aside0.mk (Kd.V_below (by (with_reducible repeat (first | apply Kd.V_alloc | apply Kd.V_drewN | apply Kd.V_drew)); exact HO115.out) hb)
        replace HO118 := Aside0.mk (Kd.V_below (by (with_reducible repeat (first | apply Kd.V_alloc | apply Kd.V_drewN | apply Kd.V_drew)); exact HO118.out) hb)
        replace HO124 := Aside0.mk (Kd.V_below (by (with_reducible repeat (first | apply Kd.V_alloc | apply Kd.V_drewN | apply Kd.V_drew)); exact HO124.out) hb)
        replace HO178 := Aside0.mk (Kd.V_below (by (with_reducible repeat (first | apply Kd.V_alloc | apply Kd.V_drewN | apply Kd.V_drew)); exact HO178.out) hb)
        replace HO184 := Aside0.mk (Kd.V_below (by (with_reducible repeat (first | apply Kd.V_alloc | apply Kd.V_drewN | apply Kd.V_drew)); exact HO184.out) hb)
        have HO191 := Aside0.mk (Kd.V_lower (Kd.V_mono (ok' := fun k_ => some k_ ≠ (.slice Ao332 y119.length co332 : Value).ownBlock ∧ some k_ ≠ (.slice Ao342 y173.length co342 : Value).ownBlock ∧ some k_ ≠ (.slice Ao347 y179.length co347 : Value).ownBlock ∧ some k_ ≠ (.slice Ao352 y186.length co352 : Value).ownBlock ∧ k_ ≠ gb108) ho0 (fun k_ hk_ => ⟨(Kd.fresh' (Kd.N_lt (by (with_reducible repeat (first | apply Kd.N_alloc | apply Kd.N_drewN | apply Kd.N_drew)); exact HO121.out)) k_ hk_), (Kd.fresh' (Kd.N_lt (by (with_reducible repeat (first | apply Kd.N_alloc | apply Kd.N_drewN | apply Kd.N_drew)); exact HO175.out)) k_ hk_), (Kd.fresh' (Kd.N_lt (by (with_reducible repeat (first | apply Kd.N_alloc | apply Kd.N_drewN | apply Kd.N_drew)); exact HO181.out)) k_ hk_), (Kd.fresh' (Kd.N_lt (by (with_reducible repeat (first | apply Kd.N_alloc | apply Kd.N_drewN | apply Kd.N_drew)); exact HO188.out)) k_ hk_), (Kd.freshB (g := gb108) (o := .cells #[.int .i64 a3_0, .int .i64 a3_1] 23 (0, 0)) (by (with_reducible repeat (first | refine blk_drewN ?_ _ | refine blk_drew ?_ | refine blk_alloc ?_ _)); exact BK108.out) k_ hk_)⟩)) (below_size (by repeat (first | (with_reducible first | exact HB.out | apply below_alloc | apply pw_below_drewN | apply below_drew1 | refine below_set ?_ GE108.out) | exact HB.out))))
        replace HO121 := Aside0.mk (Kd.N_below (by (with_reducible repeat (first | apply Kd.N_alloc | apply Kd.N_drewN | apply Kd.N_drew)); exact HO121.out) hb)
        replace HO175 := Aside0.mk (Kd.N_below (by (with_reducible repeat (first | apply Kd.N_alloc | apply Kd.N_drewN | apply Kd.N_drew)); exact HO175.out) hb)
        replace HO181 := Aside0.mk (Kd.N_below (by (with_reducible repeat (first | apply Kd.N_alloc | apply Kd.N_drewN | apply Kd.N_drew)); exact HO181.out) hb)
        replace HO188 := Aside0.mk (Kd.N_below (by (with_reducible repeat (first | apply Kd.N_alloc | apply Kd.N_drewN | apply Kd.N_drew)); exact HO188.out) hb)
        replace BK108 := bkB BK108 hb
        replace HB := sBg HB GE108 hb
        (try clear hb)
        (try clear hb2)
        (try clear hk)
        (try clear hi)
        (try clear ho0)
        obtain ⟨Ao354, co354, eo354⟩ := Kd.V_slice HO191.out
        (first | subst eo354 | (injection eo354 with f1_ f2_ f3_; have f4_ := f1_.symm; have f5_ := f3_.symm; clear f1_ f2_ f3_; subst f4_; subst f5_))
        refine hK.out _ _ ⟨(blk_cell BK108.out 0).trans rfl, (blk_cell BK108.out 1).trans rfl⟩ (fun hHeld => ?_)
        clear hK K
        refine norm_ (a' := ?_) ?_ ?_
        rotate_left
        ·show Act.put _ (some 66) _ = _
         simp only [Act.put, List.setIfInBounds_toArray, List.set_cons_zero, List.set_cons_succ, i64_w, i32_w]
         rfl
        refine one_ (i := 34) (N := some 68) (bA 44 34359738367) rfl rfl (one_of HT_.out (by kernel_rfl)) (by decide) (fun K hK => ?_)
        refine goes_ Try.func36 (by kernel_rfl) rfl #[.slice Ao354 t189.length co354, .slice Ao335 t122.length co335] (by rfl) rfl rfl (by (try simp only [List.map_toArray, List.map_cons, List.map_nil]); first | done | rfl | (simp only [List.length_drop, List.length_take]; rfl)) ?_
        with_reducible refine (folkmootref01_Same.calls k _ _ t189 _ _ t122 true _ ?side1 ?side2 ?side3 ?side4 A318.out).mono ?_
        (case side1 => exact uC (Kd.V_reads' HO191.out).2.2)
        (case side2 => exact (Kd.V_reads' HO191.out).2.1)
        (case side3 => exact uC (Kd.V_reads' HO124.out).2.2)
        (case side4 => exact (Kd.V_reads' HO124.out).2.1)
        rintro e w' ⟨rfl, ⟨nd, rfl⟩⟩
        refine ⟨_, rfl, ?_⟩
        refine hK.out _ _ ⟨(blk_cell BK108.out 0).trans rfl, (blk_cell BK108.out 1).trans rfl⟩ (fun hHeld => ?_)
        clear hK K
        refine norm_ (a' := ?_) ?_ ?_
        rotate_left
        ·show Act.put _ (some 68) _ = _
         simp only [Act.put, List.setIfInBounds_toArray, List.set_cons_zero, List.set_cons_succ, i64_w, i32_w]
         rfl
        refine pY 35 (some 69) (bA 44 68719476735) HT_ ?_
        refine pY 36 (some 70) (bA 44 137438953471) HT_ ?_
        refine pY 37 (some 71) (bA 44 274877906943) HT_ ?_
        refine one_ (i := 38) (N := some 72) (bA 44 549755813887) rfl rfl (one_of HT_.out (by kernel_rfl)) (by decide) (fun K hK => ?_)
        refine goes_ Try.func35 (by kernel_rfl) rfl #[.slice Ao335 t122.length co335] (by rfl) rfl rfl (by (try simp only [List.map_toArray, List.map_cons, List.map_nil]); first | done | rfl | (simp only [List.length_drop, List.length_take]; rfl)) ?_
        with_reducible refine (folkmootref01_List.calls k _ _ t122 true _ ?side1 ?side2 A320.out).mono ?_
        (case side1 => exact uC (Kd.V_reads' HO124.out).2.2)
        (case side2 => exact (Kd.V_reads' HO124.out).2.1)
        rintro e w355 ⟨rfl, hb⟩
        refine ⟨_, rfl, ?_⟩
        replace HO112 := Aside0.mk (Kd.V_below (by (with_reducible repeat (first | apply Kd.V_alloc | apply Kd.V_drewN | apply Kd.V_drew)); exact HO112.out) hb)
        replace HO115 := Aside0.mk (Kd.V_below (by (with_reducible repeat (first | apply Kd.V_alloc | apply Kd.V_drewN | apply Kd.V_drew)); exact HO115.out) hb)
        replace HO118 := Aside0.mk (Kd.V_below (by (with_reducible repeat (first | apply Kd.V_alloc | apply Kd.V_drewN | apply Kd.V_drew)); exact HO118.out) hb)
        replace HO121 := Aside0.mk (Kd.N_below (by (with_reducible repeat (first | apply Kd.N_alloc | apply Kd.N_drewN | apply Kd.N_drew)); exact HO121.out) hb)
        replace HO124 := Aside0.mk (Kd.V_below (by (with_reducible repeat (first | apply Kd.V_alloc | apply Kd.V_drewN | apply Kd.V_drew)); exact HO124.out) hb)
        replace HO175 := Aside0.mk (Kd.N_below (by (with_reducible repeat (first | apply Kd.N_alloc | apply Kd.N_drewN | apply Kd.N_drew)); exact HO175.out) hb)
        replace HO178 := Aside0.mk (Kd.V_below (by (with_reducible repeat (first | apply Kd.V_alloc | apply Kd.V_drewN | apply Kd.V_drew)); exact HO178.out) hb)
        replace HO181 := Aside0.mk (Kd.N_below (by (with_reducible repeat (first | apply Kd.N_alloc | apply Kd.N_drewN | apply Kd.N_drew)); exact HO181.out) hb)
        replace HO184 := Aside0.mk (Kd.V_below (by (with_reducible repeat (first | apply Kd.V_alloc | apply Kd.V_drewN | apply Kd.V_drew)); exact HO184.out) hb)
        replace HO188 := Aside0.mk (Kd.N_below (by (with_reducible repeat (first | apply Kd.N_alloc | apply Kd.N_drewN | apply Kd.N_drew)); exact HO188.out) hb)
        replace HO191 := Aside0.mk (Kd.V_below (by (with_reducible repeat (first | apply Kd.V_alloc | apply Kd.V_drewN | apply Kd.V_drew)); exact HO191.out) hb)
        replace BK108 := bkB BK108 hb
        replace HB := sBg HB GE108 hb
        (try clear hb)
        (try clear hb2)
        (try clear hk)
        (try clear hi)
        refine hK.out _ _ ⟨(blk_cell BK108.out 0).trans rfl, (blk_cell BK108.out 1).trans rfl⟩ (fun hHeld => ?_)
        clear hK K
        refine norm_ (a' := ?_) ?_ ?_
        rotate_left
        ·show Act.put _ (some 72) _ = _
         simp only [Act.put, List.setIfInBounds_toArray, List.set_cons_zero, List.set_cons_succ, i64_w, i32_w]
         rfl
        refine pY 39 (some 73) (bA 44 1099511627775) HT_ ?_
        refine pY 40 (some 74) (bA 44 2199023255551) HT_ ?_
        refine one_ (i := 41) (N := some 75) (bA 44 4398046511103) rfl rfl (one_of HT_.out (by kernel_rfl)) (by decide) (fun K hK => ?_)
        refine goes_ Try.func18 (by kernel_rfl) rfl #[] (by rfl) rfl rfl (by (try simp only [List.map_toArray, List.map_cons, List.map_nil]); first | done | rfl | (simp only [List.length_drop, List.length_take]; rfl)) ?_
        with_reducible refine (folkmootlaw01_live.calls  t194 _ A322.out).mono ?_
        rintro e w356 ⟨rfl, hb⟩
        refine ⟨_, rfl, ?_⟩
        replace HO112 := Aside0.mk (Kd.V_below (by (with_reducible repeat (first | apply Kd.V_alloc | apply Kd.V_drewN | apply Kd.V_drew)); exact HO112.out) hb)
        replace HO115 := Aside0.mk (Kd.V_below (by (with_reducible repeat (first | apply Kd.V_alloc | apply Kd.V_drewN | apply Kd.V_drew)); exact HO115.out) hb)
        replace HO118 := Aside0.mk (Kd.V_below (by (with_reducible repeat (first | apply Kd.V_alloc | apply Kd.V_drewN | apply Kd.V_drew)); exact HO118.out) hb)
        replace HO121 := Aside0.mk (Kd.N_below (by (with_reducible repeat (first | apply Kd.N_alloc | apply Kd.N_drewN | apply Kd.N_drew)); exact HO121.out) hb)
        replace HO124 := Aside0.mk (Kd.V_below (by (with_reducible repeat (first | apply Kd.V_alloc | apply Kd.V_drewN | apply Kd.V_drew)); exact HO124.out) hb)
        replace HO175 := Aside0.mk (Kd.N_below (by (with_reducible repeat (first | apply Kd.N_alloc | apply Kd.N_drewN | apply Kd.N_drew)); exact HO175.out) hb)
        replace HO178 := Aside0.mk (Kd.V_below (by (with_reducible repeat (first | apply Kd.V_alloc | apply Kd.V_drewN | apply Kd.V_drew)); exact HO178.out) hb)
        replace HO181 := Aside0.mk (Kd.N_below (by (with_reducible repeat (first | apply Kd.N_alloc | apply Kd.N_drewN | apply Kd.N_drew)); exact HO181.out) hb)
        replace HO184 := Aside0.mk (Kd.V_below (by (with_reducible repeat (first | apply Kd.V_alloc | apply Kd.V_drewN | apply Kd.V_drew)); exact HO184.out) hb)
        replace HO188 := Aside0.mk (Kd.N_below (by (with_reducible repeat (first | apply Kd.N_alloc | apply Kd.N_drewN | apply Kd.N_drew)); exact HO188.out) hb)
        replace HO191 := Aside0.mk (Kd.V_below (by (with_reducible repeat (first | apply Kd.V_alloc | apply Kd.V_drewN | apply Kd.V_drew)); exact HO191.out) hb)
        replace BK108 := bkB BK108 hb
        replace HB := sBg HB GE108 hb
        (try clear hb)
        (try clear hb2)
        (try clear hk)
        (try clear hi)
        refine hK.out _ _ ⟨(blk_cell BK108.out 0).trans rfl, (blk_cell BK108.out 1).trans rfl⟩ (fun hHeld => ?_)
        clear hK K
        refine norm_ (a' := ?_) ?_ ?_
        rotate_left
        ·show Act.put _ (some 75) _ = _
         simp only [Act.put, List.setIfInBounds_toArray, List.set_cons_zero, List.set_cons_succ, i64_w, i32_w]
         rfl
        refine pY 42 (some 76) (bA 44 8796093022207) HT_ ?_
        refine pY 43 (some 8) (bA 44 17592186044415) HT_ ?_
        refine done_ (done_of HT_.out (by kernel_rfl)) ?_
        try go_wp2
        go_ret
        exact ⟨by first | rfl | (exact congrArg (fun b_ => Ending.returned (Value.bool b_)) hrt_.out) | (simp [errW_none, errW_some] <;> rfl) | (simp [*, errW_none, errW_some] <;> rfl), by repeat (first | (with_reducible first | exact HB.out | apply below_alloc | apply pw_below_drewN | apply below_drew1 | refine below_set ?_ GE108.out) | exact HB.out)⟩
       ·replace c321 := Bool.eq_false_iff.mpr c321
        subst c321
        have H1 : (some false) = some true := by rw [if_neg (show ¬ (false = true) by decide)] at H; exact H
        exact absurd H1 (by simp)
      ·replace c319 := Bool.eq_false_iff.mpr c319
       subst c319
       have H1 : (some false) = some true := by rw [if_neg (show ¬ (false = true) by decide)] at H; exact H
       exact absurd H1 (by simp)
     ·replace c316 := Bool.eq_false_iff.mpr c316
      subst c316
      have H1 : (some false) = some true := by rw [if_neg (show ¬ (false = true) by decide)] at H; exact H
      exact absurd H1 (by simp)
    ·rw [if_neg c312] at H
     have c312b0 : (t125 == t172) = false := by simpa using c312
     (try (have c312e : ¬ (t125 = t172) := by simpa using c312))
     (try (have c312b1 : decide (t125 = t172) = false := by simpa using c312))
     (try (have c312b2 : (t125 == t172) = false := by simpa using c312))
     (try (have c312b3 : ¬ (t125 = t172) := by simpa using c312))
     clear c312
     exact absurd H (by simp)
end Go.Proofs.Ytnhdjaegkccmaaa.P
namespace Go.Proofs.Ytnhdjaegkccmaaa.P
open Go.RowKit Go.Proofs.YtnhdjaegkccmaaaW.PrintWords
set_option linter.unusedVariables false
set_option linter.unusedSimpArgs false
theorem stampMerges_pure (l m n : List Stp) (a0 a1 : Int) (hl : l.length ≤ 140737488351232) (hm : m.length ≤ 140737488351232) (hn : n.length ≤ 140737488351232) : ∃ k, folkmootlaw01_StampMerges.f k l m n a0 a1 = some true := by
  refine Ev.rounds (g := fun k => folkmootlaw01_StampMerges.f k l m n a0 a1) ?_
  unfold folkmootlaw01_StampMerges.f
  by_cases h : (wrap64 ((wrap64 ((l.length : Int) + (m.length : Int))) + (n.length : Int))) > 60
  · simp only [if_pos h, slive_f, Option.bind_some]
    exact Ev.val _
  · have h60 : l.length + m.length + n.length ≤ 60 := by
      rw [wrap_in (x := (l.length : Int) + (m.length : Int)) (by omega) (by omega), wrap_in (by omega) (by omega)] at h
      omega
    have la := sortL_len l
    have lb := sortL_len m
    have lc := sortL_len n
    have ra := sortL_ris l
    have rb := sortL_ris m
    have rc := sortL_ris n
    simp only [if_neg h, ssort_f l (by omega), ssort_f m (by omega), ssort_f n (by omega), Option.bind_some]
    clear h
    generalize sortL l = a at *
    generalize sortL m = b at *
    generalize sortL n = c at *
    have f1 : ([a, b, c] : List (List Stp)).flatten.length < 4398046511104 := by simp; omega
    have hX := smerge_f [a, b, c] f1
    have rX := sortL_ris ([a, b, c] : List (List Stp)).flatten
    have lX := sortL_len ([a, b, c] : List (List Stp)).flatten
    have mX : ∀ x, x ∈ sortL ([a, b, c] : List (List Stp)).flatten ↔ x ∈ a ∨ x ∈ b ∨ x ∈ c := fun x => by rw [sortL_mem]; simp
    have lX2 : (sortL ([a, b, c] : List (List Stp)).flatten).length ≤ 60 := Nat.le_trans lX (by simp only [List.flatten_cons, List.flatten_nil, List.length_append, List.length_nil]; omega)
    generalize sortL ([a, b, c] : List (List Stp)).flatten = X at hX rX lX mX lX2
    have hY := smerge_f [b, a] (by simp; omega)
    have mY : ∀ x, x ∈ sortL ([b, a] : List (List Stp)).flatten ↔ x ∈ b ∨ x ∈ a := fun x => by rw [sortL_mem]; simp
    have lY := sortL_len ([b, a] : List (List Stp)).flatten
    have lY2 : (sortL ([b, a] : List (List Stp)).flatten).length ≤ 60 := Nat.le_trans lY (by simp only [List.flatten_cons, List.flatten_nil, List.length_append, List.length_nil]; omega)
    generalize sortL ([b, a] : List (List Stp)).flatten = Y at hY mY lY lY2
    have hZ := smerge_f [c, Y] (by simp; omega)
    have eZ : sortL ([c, Y] : List (List Stp)).flatten = X := sortL_of rX fun x => by
      rw [mX]; simp [mY]; grind
    rw [eZ] at hZ
    have hU := smerge_f [X, a] (by simp; omega)
    have eU : sortL ([X, a] : List (List Stp)).flatten = X := sortL_of rX fun x => by
      simp [mX]; grind
    rw [eU] at hU
    have hs : ∀ q : List Stp, q.length ≤ 60 → stamp_Has.f q a0 a1 = some (hasL q ⟨a0, a1⟩) := fun q hq => shas_f q ⟨a0, a1⟩ (by omega)
    have hh : hasL X ⟨a0, a1⟩ = (hasL a ⟨a0, a1⟩ || (hasL b ⟨a0, a1⟩ || hasL c ⟨a0, a1⟩)) := by
      rw [Bool.eq_iff_iff, Bool.or_eq_true, Bool.or_eq_true, hasL_iff rX, hasL_iff ra, hasL_iff rb, hasL_iff rc, mX]
    have eS := rsame_ev X (by omega)
    have eL := rlist_ev rX (by omega)
    simp only [hX, hY, hZ, hU, Option.bind_some, hs X lX2, hs a (by omega), hs b (by omega), hs c (by omega), hh]
    have tail : Ev (fun k => (folkmootref01_Same.f k X X).bind fun t139 => (if t139 = true then ((folkmootref01_Same.f k X X).bind fun t146 => (if t146 = true then ((folkmootref01_List.f k X).bind fun t147 => (if t147 = true then ((folkmootlaw01_live.f).bind fun t148 => (some t148)) else (some false))) else (some false))) else (some false))) true := by
      refine Ev.bind eS ?_
      simp only [if_true]
      refine Ev.bind eS ?_
      simp only [if_true]
      refine Ev.bind eL ?_
      simp only [if_true, slive_f, Option.bind_some]
      exact Ev.val _
    cases hasL a ⟨a0, a1⟩ with
    | true =>
      simp only [if_true, Bool.true_or, beq_self_eq_true]
      exact tail
    | false =>
      cases hasL b ⟨a0, a1⟩ with
      | true =>
        simp only [Bool.false_eq_true, if_false, if_true, Bool.true_or, Bool.false_or, beq_self_eq_true]
        exact tail
      | false =>
        simp only [Bool.false_eq_true, if_false, Bool.false_or, beq_self_eq_true, if_true]
        exact tail
end Go.Proofs.Ytnhdjaegkccmaaa.P
