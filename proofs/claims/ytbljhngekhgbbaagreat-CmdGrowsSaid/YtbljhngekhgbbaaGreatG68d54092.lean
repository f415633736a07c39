/- Texts of the proofs of CmdEnds, CmdFirst, CmdGrows, CmdPlays, merged (Op). -/
import Derived.ProofKit
import Derived.OpenShut
import Derived.Lib.SmallJoins
import Derived.Deep.Slices
import Derived.Deep.Fields
import Derived.ChangeSame
import Derived.SizedLaws
import Derived.Below
import Derived.Test.YtbljhngekhgbbaaGreatGb3b707fa
import Derived.Test.YtbljhngekhgbbaaGreatGb43ee308
import Derived.Test.YtbljhngekhgbbaaGreatG9c20b58a
import Derived.Test.YtbljhngekhgbbaaGreatG6e0496cb
import Derived.Test.YtbljhngekhgbbaaGreatG20caf6cc
import Derived.Test.YtbljhngekhgbbaaGreatGf0b3007f
import Derived.Test.YtbljhngekhgbbaaGreatG0f2df3e7
import Derived.Test.YtbljhngekhgbbaaGreatG7be370e0
import Derived.Test.YtbljhngekhgbbaaGreatG15131814
set_option linter.unusedSimpArgs false
set_option linter.unusedVariables false
namespace Go.Proofs.YtbljhngekhgbbaaGreat
open Go.RowKit Go.ChangeShapes Go.WideShapes Go.Deep Go.Joins
set_option linter.unusedVariables false
set_option linter.unusedSectionVars false
section
variable {H : Type} {enc : TypeId × Value → H} {P : Program} {w : World} {base : Nat}
/-- a reading within the form's own reach -/
def Sz (P : Program) (t : TypeId) (d : DataW H) : Prop := (d.weights P t).all (fun x => decide (x ≤ reachBytes)) = true
theorem sz_each {ts : List TypeId} {ds : List (DataW H)} (h : (DataW.weightsEach P ts ds).all (fun x => decide (x ≤ reachBytes)) = true) {j : Nat} {t : TypeId} {d : DataW H} (ht : ts[j]? = some t) (hd : ds[j]? = some d) : Sz P t d := by
  unfold Sz
  rw [List.all_eq_true] at h ⊢
  exact fun n hn => h n (DataW.weights_mem_each ht hd n hn)
theorem sz_mem {e : TypeId} {l : List (DataW H)} {d : DataW H} (h : ∀ n ∈ DataW.weightsAll P e l, n ≤ reachBytes) (hd : d ∈ l) : Sz P e d := by
  unfold Sz
  rw [List.all_eq_true]
  intro n hn
  refine decide_eq_true (h n ?_)
  clear h
  induction l with
  | nil => cases hd
  | cons a l ih =>
    unfold DataW.weightsAll
    rcases List.mem_cons.1 hd with rfl | hd
    · exact List.mem_append_left _ hn
    · exact List.mem_append_right _ (ih hd)
theorem sz_slice {t e : TypeId} {elems spare : List (DataW H)} (ht : P.underlying t = some (.slice e)) (h : Sz P t (.slice elems spare)) : (elems.length + spare.length) * P.bytesOf e ≤ reachBytes ∧ (∀ d ∈ elems, Sz P e d) ∧ ∀ d ∈ spare, Sz P e d := by
  unfold Sz at h
  simp only [DataW.weights, ht, List.all_eq_true, List.mem_cons, List.mem_append, decide_eq_true_eq] at h
  exact ⟨h _ (.inl rfl), fun d hd => sz_mem (fun n hn => h n (.inr (.inl hn))) hd, fun d hd => sz_mem (fun n hn => h n (.inr (.inr hn))) hd⟩
theorem sz_string {t : TypeId} {bytes : List UInt8} (h : Sz (H := H) P t (.lit (.string bytes))) : bytes.length ≤ reachBytes := by
  unfold Sz at h
  simpa [DataW.weights] using h
theorem trod_field {t : TypeId} {fs : Array Field} {fuel : Nat} {cs : List Value} {y : DataW H × List MemPlace} {spare : Nat → Bool} {held : Bool} (ht : P.underlying t = some (.struct fs)) (h : DataW.trod enc P w base spare held fuel t cs = some y) (hz : Sz P t y.1) (j : Nat) (ft : TypeId) (off k : Nat)
    (hj : (fs[j]?).map (fun f => (f.type, f.offset)) = some (ft, off)) (hk : P.cellsOf ft = k) : ∃ (n : Nat) (y' : DataW H × List MemPlace), DataW.trod enc P w base spare held n ft ((cs.drop off).take k) = some y' ∧ Sz P ft y'.1 := by
  obtain ⟨ys, n', _, hy, hlen, hyl, hf⟩ := DataW.trod_struct ht h
  cases hfj : fs[j]? with
  | none => rw [hfj] at hj; simp at hj
  | some f =>
    rw [hfj] at hj
    simp only [Option.map_some, Option.some.injEq, Prod.mk.injEq] at hj
    obtain ⟨rfl, rfl⟩ := hj
    have h1 := hf j f hfj
    rw [hk] at h1
    have hjl : j < ys.length := by rw [hyl]; exact (Array.getElem?_eq_some_iff.1 hfj).1
    refine ⟨n', _, h1.trans (List.getElem?_eq_getElem hjl), ?_⟩
    rw [hy] at hz
    unfold Sz at hz
    simp only [DataW.weights, ht] at hz
    refine sz_each hz (j := j) ?_ ?_
    · rw [List.getElem?_map, Array.getElem?_toList, hfj]; rfl
    · rw [List.getElem?_map, List.getElem?_eq_getElem hjl]; rfl
end
section
variable {α : Type}
theorem flatG_get {rows : List (List α)} {k : Nat} (hk : ∀ r ∈ rows, r.length = k) : ∀ {i : Nat} {r : List α}, rows[i]? = some r → ∀ j, j < k → rows.flatten[i * k + j]? = r[j]? := by
  induction rows with
  | nil => intro i r h; simp at h
  | cons x rows ih =>
    intro i r h j hj
    have hx := hk x (by simp)
    cases i with
    | zero =>
      simp at h
      subst h
      rw [List.flatten_cons, Nat.zero_mul, Nat.zero_add, List.getElem?_append_left (by omega)]
    | succ i =>
      rw [List.flatten_cons, List.getElem?_append_right (by rw [hx, Nat.add_mul]; omega), hx]
      have : (i + 1) * k + j - k = i * k + j := by rw [Nat.add_mul]; omega
      rw [this]
      exact ih (fun r hr => hk r (by simp [hr])) (by simpa using h) j hj
theorem flatG_len {rows : List (List α)} {k : Nat} (hk : ∀ r ∈ rows, r.length = k) : rows.flatten.length = rows.length * k := by
  induction rows with
  | nil => simp
  | cons x rows ih => rw [List.flatten_cons, List.length_append, ih (fun r hr => hk r (by simp [hr])), hk x (by simp), List.length_cons, Nat.add_mul]; omega
theorem addA (a : Addr) (i j : Nat) : (a.add i).add j = a.add (i + j) := add_of_add a i j
end
abbrev allG : Addr → Prop := fun _ => True
/-- cells of a type, read as data -/
structure Opens (P : Program) (t : TypeId) {α : Type} (en : α → List PV) (good : α → Prop) : Prop where
  len : ∀ x, (en x).length = P.cellsOf t
  op : ∀ {H : Type} (enc : TypeId × Value → H) (w : World) (base n : Nat) (cs : List Value) (y : DataW H × List MemPlace), DataW.trod enc P w base (fun _ => true) true n t cs = some y → Sz P t y.1 → ∃ x : α, RepL w allG noIds (en x) cs ∧ good x
section
variable {P : Program} {t e : TypeId}
theorem repL1 {w : World} {p : PV} {v : Value} (h : RepP w allG noIds p v) : RepL w allG noIds [p] [v] := RepL.cons_.2 ⟨h, RepL.nil_⟩
theorem opens_int (ht : P.underlying t = some (.int .i64)) (hc : P.cellsOf t = 1) : Opens P t (fun a : Int => [pI a]) (fun a => (Lit.int .i64 a).wf = true) := ⟨fun x => hc.symm, fun enc w base n cs y h _ => by
  obtain ⟨a, rfl, _, hw⟩ := DataW.trod_int ht h
  exact ⟨a, repL1 (.lit rfl), hw⟩⟩
theorem opens_num (ht : P.underlying t = some (.int .u64)) (hc : P.cellsOf t = 1) : Opens P t (fun a : Int => [pN a]) (fun a => (Lit.int .u64 a).wf = true) := ⟨fun x => hc.symm, fun enc w base n cs y h _ => by
  obtain ⟨a, rfl, _, hw⟩ := DataW.trod_int ht h
  exact ⟨a, repL1 (.lit rfl), hw⟩⟩
theorem opens_text (ht : P.underlying t = some .string) (hc : P.cellsOf t = 1) : Opens P t (fun a : ByteArray => [pT a]) (fun a => a.size ≤ reachBytes) := ⟨fun x => hc.symm, fun enc w base n cs y h hz => by
  obtain ⟨s, rfl, rfl, _⟩ := DataW.trod_string ht h
  have := sz_string hz
  rw [Array.length_toList] at this
  exact ⟨s, repL1 (.lit rfl), this⟩⟩
theorem opens_list {T : Ty} {good : T.El → Prop} (h : Opens P e (encEl T) good) (ht : P.underlying t = some (.slice e)) (hc : P.cellsOf t = 1) (hs : 0 < T.w) (hB : 1 ≤ P.bytesOf e) : Opens P t (fun l : List T.El => [.dat T l]) (fun l => l.length ≤ reachBytes ∧ ∀ x ∈ l, good x) := ⟨fun x => hc.symm, fun enc w base fuel cs y hy hz => by
  have hC : P.cellsOf e = T.w := by rw [← h.len (dfl T), enc_len]
  rcases open_slice ht hy with ⟨hcs, _⟩ | ⟨a, len, cap, m, n, D, Pl, hcs, _, hl, hm, hmm, hy2, hx⟩
  · subst hcs
    exact ⟨[], repL1 (.dat (Nat.zero_le _) rfl (.sl0 (fun h => by cases h) (fun _ => rfl))), Nat.zero_le _, fun _ h => by cases h⟩
  · subst hcs
    simp only [if_true] at hmm
    subst hmm
    rw [hC] at hx
    rw [hy2] at hz
    obtain ⟨hz0, hz1, hz2⟩ := sz_slice ht hz
    rw [List.length_map, List.length_map, List.length_range, List.length_range] at hz0
    have hmul : (len + (m - len)) * 1 ≤ (len + (m - len)) * P.bytesOf e := Nat.mul_le_mul_left _ hB
    have hzD : ∀ i, i < m → Sz P e (D i) := by
      intro i hi
      by_cases hil : i < len
      · exact hz1 _ (List.mem_map.2 ⟨i, List.mem_range.2 hil, rfl⟩)
      · exact hz2 _ (List.mem_map.2 ⟨i - len, List.mem_range.2 (by omega), by congr 1; omega⟩)
    have hrow : ∀ i, i < len → ∃ q : T.El × List Value, (∀ j u, q.2[j]? = some u → w.cell? ((a.add (i * T.w)).add j) = some u) ∧ q.2.length = T.w ∧ RepL w allG noIds (encEl T q.1) q.2 ∧ good q.1 := by
      intro i hi
      obtain ⟨cs, h1, h2⟩ := hx i (by omega)
      obtain ⟨x, hr, hg⟩ := h.op _ _ _ _ _ _ h2 (hzD i (by omega))
      obtain ⟨_, hlen, hat⟩ := World.cells?_some h1
      refine ⟨(x, cs), fun j u hu => ?_, hlen, hr, hg⟩
      have h9 : j < cs.length := (List.getElem?_eq_some_iff.1 hu).1
      rw [hat j (by omega)]
      exact hu
    obtain ⟨F, hF⟩ : ∃ F : Nat → T.El × List Value, ∀ i, i < len → (∀ j u, (F i).2[j]? = some u → w.cell? ((a.add (i * T.w)).add j) = some u) ∧ (F i).2.length = T.w ∧ RepL w allG noIds (encEl T (F i).1) (F i).2 ∧ good (F i).1 := by
      refine ⟨fun i => if h : i < len then Classical.choose (hrow i h) else (dfl T, []), fun i hi => ?_⟩
      simp only [dif_pos hi]
      exact Classical.choose_spec (hrow i hi)
    have hlen : ((List.range len).map fun i => (F i).1).length = len := by simp
    have hrows : encs T ((List.range len).map fun i => (F i).1) = (List.range len).map fun i => encEl T (F i).1 := by unfold encs; rw [List.map_map]; rfl
    have k1 : ∀ r ∈ (List.range len).map fun i => encEl T (F i).1, r.length = T.w := fun r hr => by
      obtain ⟨i, _, rfl⟩ := List.mem_map.1 hr
      exact enc_len T _
    have k2 : ∀ r ∈ (List.range len).map fun i => (F i).2, r.length = T.w := fun r hr => by
      obtain ⟨i, hi, rfl⟩ := List.mem_map.1 hr
      exact (hF i (List.mem_range.1 hi)).2.1
    have hus : ((List.range len).map fun i => (F i).2).flatten.length = len * T.w := by rw [flatG_len k2]; simp
    have hat : ∀ j, j < len * T.w → j / T.w < len ∧ j % T.w < T.w ∧ j / T.w * T.w + j % T.w = j := fun j hj =>
      ⟨Nat.div_lt_of_lt_mul (by rw [Nat.mul_comm]; exact hj), Nat.mod_lt _ hs, Nat.div_add_mod' j _⟩
    have hget : ∀ j, j < len * T.w → ((List.range len).map fun i => (F i).2).flatten[j]? = (F (j / T.w)).2[j % T.w]? := fun j hj => by
      obtain ⟨h1, h2, h3⟩ := hat j hj
      have := flatG_get k2 (i := j / T.w) (r := (F (j / T.w)).2) (by rw [List.getElem?_map, List.getElem?_range h1]; rfl) (j % T.w) h2
      rwa [h3] at this
    have hgetP : ∀ j, j < len * T.w → ((List.range len).map fun i => encEl T (F i).1).flatten[j]? = (encEl T (F (j / T.w)).1)[j % T.w]? := fun j hj => by
      obtain ⟨h1, h2, h3⟩ := hat j hj
      have := flatG_get k1 (i := j / T.w) (r := encEl T (F (j / T.w)).1) (by rw [List.getElem?_map, List.getElem?_range h1]; rfl) (j % T.w) h2
      rwa [h3] at this
    refine ⟨(List.range len).map fun i => (F i).1, repL1 (.dat (rows := (List.range len).map fun i => encEl T (F i).1) ?_ hrows ?_), ?_, fun x hx => ?_⟩
    · rw [hlen]
      have : reachBytes ≤ maxLen := by decide
      omega
    · have := RepP.sl (w := w) (G := allG) (β := noIds) (x := false) (c := m) (k := T.w) (rows := (List.range len).map fun i => encEl T (F i).1) (us := ((List.range len).map fun i => (F i).2).flatten) (a := a) (by simpa using hl) (fun h => by cases h) k1 (by rw [hus, flatG_len k1]; simp) (fun j u hu => ?_) (fun j p u hp hu => ?_)
      · simpa using this
      · have hj : j < len * T.w := by rw [← hus]; exact (List.getElem?_eq_some_iff.1 hu).1
        rw [hget j hj] at hu
        obtain ⟨h1, h2, h3⟩ := hat j hj
        have := (hF _ h1).1 _ u hu
        rw [addA, h3] at this
        exact ⟨this, trivial⟩
      · have hj : j < len * T.w := by rw [← hus]; exact (List.getElem?_eq_some_iff.1 hu).1
        rw [hget j hj] at hu
        rw [hgetP j hj] at hp
        exact (hF _ (hat j hj).1).2.2.1.2 _ p u hp hu
    · rw [hlen]; omega
    · obtain ⟨i, hi, rfl⟩ := List.mem_map.1 hx
      exact (hF i (List.mem_range.1 hi)).2.2.2⟩
/-- the fields of a struct from one on -/
structure OpensF (P : Program) (t : TypeId) (fs : Array Field) (j off : Nat) {α : Type} (en : α → List PV) (good : α → Prop) : Prop where
  len : ∀ x, off + (en x).length = P.cellsOf t
  op : ∀ {H : Type} (enc : TypeId × Value → H) (w : World) (base n : Nat) (cs : List Value) (y : DataW H × List MemPlace), DataW.trod enc P w base (fun _ => true) true n t cs = some y → Sz P t y.1 → ∃ x : α, RepL w allG noIds (en x) (cs.drop off) ∧ good x
theorem opensF_nil {fs : Array Field} {off : Nat} (ht : P.underlying t = some (.struct fs)) (hc : P.cellsOf t = off) : OpensF P t fs fs.size off (fun _ : Unit => []) (fun _ => True) := ⟨fun _ => by rw [hc]; rfl, fun enc w base n cs y h _ => by
  obtain ⟨ys, n', _, _, hlen, _⟩ := DataW.trod_struct ht h
  refine ⟨(), ?_, trivial⟩
  rw [List.drop_eq_nil_of_le (by omega)]
  exact RepL.nil_⟩
theorem opensF_cons {fs : Array Field} {j off k : Nat} {ft : TypeId} {α γ : Type} {e1 : α → List PV} {e2 : γ → List PV} {g1 : α → Prop} {g2 : γ → Prop} (ht : P.underlying t = some (.struct fs)) (h1 : Opens P ft e1 g1) (h2 : OpensF P t fs (j + 1) (off + k) e2 g2)
    (hj : (fs[j]?).map (fun f => (f.type, f.offset)) = some (ft, off)) (hk : P.cellsOf ft = k) : OpensF P t fs j off (fun x : α × γ => e1 x.1 ++ e2 x.2) (fun x => g1 x.1 ∧ g2 x.2) := ⟨fun x => by
    rw [List.length_append, h1.len, hk, ← Nat.add_assoc]; exact h2.len x.2, fun enc w base n cs y h hz => by
  obtain ⟨m, y', h3, h4⟩ := trod_field ht h hz j ft off k hj hk
  obtain ⟨x, hx, gx⟩ := h1.op _ _ _ _ _ _ h3 h4
  obtain ⟨z, hz', gz⟩ := h2.op _ _ _ _ _ _ h hz
  refine ⟨(x, z), ?_, gx, gz⟩
  have : cs.drop off = (cs.drop off).take k ++ cs.drop (off + k) := by rw [← List.drop_drop, List.take_append_drop]
  rw [this]
  exact hx.append hz'⟩
theorem opens_struct {fs : Array Field} {α γ : Type} {e1 : α → List PV} {g1 : α → Prop} {e2 : γ → List PV} {g2 : γ → Prop} (h : OpensF P t fs 0 0 e1 g1) (f : α → γ) (he : ∀ x, e2 (f x) = e1 x) (hi : ∀ y, (e2 y).length = P.cellsOf t) (hg : ∀ x, g1 x → g2 (f x)) : Opens P t e2 g2 := ⟨hi, fun enc w base n cs y hy hz => by
  obtain ⟨x, hx, gx⟩ := h.op _ _ _ _ _ _ hy hz
  exact ⟨f x, by rw [he]; simpa using hx, hg x gx⟩⟩
variable {H : Type} {enc : TypeId × Value → H} {w : World} {base b0 : Nat} {r : Reach} {v : Value} {d : DataW H} {p : List MemPlace}
theorem arg_struct {fs : Array Field} {α : Type} {en : α → List PV} {good : α → Prop} (ho : Opens P t en good) (ht : P.underlying t = some (.struct fs)) (hv : Value.okWide P w r b0 t v) (h : DataW.Trod enc P w base (fun _ => true) true t v d p) (hz : Sz P t d) : ∃ x : α, RepT w allG noIds (.agg (en x)) v ∧ good x := by
  obtain ⟨cs, rfl, _⟩ := okWide_struct ht hv
  obtain ⟨fuel, hf⟩ := h
  obtain ⟨x, hx, gx⟩ := ho.op _ _ _ _ _ _ hf hz
  exact ⟨x, .agg hx, gx⟩
theorem arg_one {α : Type} {en : α → PV} {good : α → Prop} (ho : Opens P t (fun x : α => [en x]) good) (hv : v.cells = #[v]) (h : DataW.Trod enc P w base (fun _ => true) true t v d p) (hz : Sz P t d) : ∃ x : α, RepT w allG noIds (.one (en x)) v ∧ good x := by
  obtain ⟨fuel, hf⟩ := h
  rw [hv] at hf
  obtain ⟨x, hx, gx⟩ := ho.op _ _ _ _ _ _ hf hz
  exact ⟨x, .one (RepL.cons_.1 hx).1, gx⟩
/-- what a law's contract says of its call -/
theorem law_call {f : FuncId} {ts : List TV} {args : List Value} (h : CallsTo P f ts (kB.enc true)) (ha : RepTs w allG noIds ts args) : Calls P f args.toArray w fun e w' => e = .returned (.bool true) ∧ Below w.heap.size w w' := by
  have hM : MemI w allG noIds [] 0 := ⟨fun id _ => rfl, fun id row h => by simp at h, fun i j ri rj Oi Oj h => by simp at h, fun _ _ => trivial, fun _ _ => trivial⟩
  have hn : ∀ b, ¬ owned noIds [] b := fun b ⟨id, row, O, h, _⟩ => by simp at h
  have hg : gOf allG noIds [] = allG := by funext p; exact propext ⟨fun _ => trivial, fun _ => ⟨trivial, hn _⟩⟩
  refine (h [] 0 w allG noIds args hM (by rw [hg]; exact ha)).mono ?_
  rintro e w' ⟨v, β', rfl, hs, hr⟩
  refine ⟨?_, (hs.ext.to_ext hn).below⟩
  have : v = .bool true := by
    cases hr with
    | one hp => cases hp; rfl
  rw [this]
end
end Go.Proofs.YtbljhngekhgbbaaGreat
