/- Texts of the proofs of CmdEnds, CmdFirst, CmdGrows, CmdPlays, merged (AmU, AmV, AmW, AmX, AmWa, AmWb, AmXa, AmXb, AmXc). -/
import Derived.Orders
import Derived.Test.YtbljhngekhgbbaaGreatGb3b707fa
import Derived.Test.YtbljhngekhgbbaaGreatGb43ee308
import Derived.Test.YtbljhngekhgbbaaGreatG9c20b58a
import Derived.Test.YtbljhngekhgbbaaGreatG6e0496cb
import Derived.Test.YtbljhngekhgbbaaGreatG20caf6cc
import Derived.Test.YtbljhngekhgbbaaGreatGf0b3007f
set_option linter.unusedSimpArgs false
set_option linter.unusedVariables false
namespace Go.Proofs.YtbljhngekhgbbaaGreat
open Go.RowKit
set_option linter.unusedVariables false
set_option linter.unusedSectionVars false
/-- the row that a value leads to -/
def idOf : Option TV → Option Nat
  | some (.one (.box id _)) => some id
  | some (.one (.elp id _ _)) => some id
  | some (.one (.osl id _ _)) => some id
  | _ => none
/-- the row of the store that an operation reads -/
def SSt.reads (st : SSt) (o : Oper) : Option Nat := match o.op with
  | .load _ x => idOf (st.eval x)
  | .slice _ x _ _ _ => idOf (st.eval x)
  | .indexAddr _ x _ => idOf (st.eval x)
  | .binOp _ _ x _ _ => idOf (st.eval x)
  | .convert _ _ x => idOf (st.eval x)
  | _ => none
/-- does an operation leave the store as it is, whatever the store? -/
def valB (o : Oper) : Option Ans → Bool
  | some (.pure _) => true
  | some (.eff _ _ _) => false
  | some .mem => false
  | some .lst => false
  | none => match o.op with
    | .alloc _ | .box _ _ | .store _ _ _ => false
    | .call { callee := .builtin .append, args := _, argTypes := _ } => false
    | .call { callee := .builtin .clear, args := _, argTypes := _ } => false
    | .call { callee := .builtin .copy, args := _, argTypes := _ } => false
    | _ => true
/-- two that look at the same temporaries' values -/
structure SSt.alike (L S : SSt) (ops : Array Oper) (o : Oper) : Prop where
  env : ∀ t ∈ o.looksAt ops, L.get t = S.get t
  row : ∀ id, S.reads o = some id → L.boxes.lookup id = S.boxes.lookup id
section
variable {P : Program} {N : Nat} {L S : SSt} {ops : Array Oper} {o : Oper}
theorem alike_eval (h : L.alike S ops o) {x : Operand} (hx : x ∈ o.op.operands.toList) : L.eval x = S.eval x := by
  cases x with
  | tmp t =>
    refine h.env t ?_
    unfold Oper.looksAt
    refine List.mem_append_left _ (List.mem_filterMap.2 ⟨_, hx, rfl⟩)
  | _ => rfl
theorem alike_val (h : L.alike S ops o) {x : Operand} (hx : x ∈ o.op.operands.toList) : L.val x = S.val x := by
  unfold SSt.val
  rw [alike_eval h hx]
theorem alike_valsO (h : L.alike S ops o) : ∀ {xs : List Operand}, (∀ x ∈ xs, x ∈ o.op.operands.toList) → L.valsO xs = S.valsO xs
  | [], _ => rfl
  | x :: xs, hx => by
    simp only [SSt.valsO]
    rw [alike_val h (hx x (by simp)), alike_valsO h (fun y hy => hx y (by simp [hy]))]
theorem alike_evals (h : L.alike S ops o) : ∀ {xs : List Operand}, (∀ x ∈ xs, x ∈ o.op.operands.toList) → L.evals xs = S.evals xs
  | [], _ => rfl
  | x :: xs, hx => by
    simp only [SSt.evals]
    rw [alike_eval h (hx x (by simp)), alike_evals h (fun y hy => hx y (by simp [hy]))]
theorem alike_parts (h : L.alike S ops o) : ∀ {xs : List (Nat × Operand)}, (∀ x ∈ xs, x.2 ∈ o.op.operands.toList) → L.parts xs = S.parts xs
  | [], _ => rfl
  | (i, x) :: xs, hx => by
    simp only [SSt.parts]
    rw [alike_eval h (hx (i, x) (by simp)), alike_parts h (fun y hy => hx y (by simp [hy]))]
theorem alike_guard (h : L.alike S ops o) : L.guard ops o = S.guard ops o := by
  unfold SSt.guard
  cases hg : o.guard with
  | none => rfl
  | some q =>
    obtain ⟨j, want⟩ := q
    dsimp only
    cases hd : (ops[j]?).bind (·.dst) with
    | none => rfl
    | some d =>
      have : L.get d = S.get d := h.env d (by
        unfold Oper.looksAt
        refine List.mem_append_right _ ?_
        rw [hg]
        simp [hd])
      dsimp only
      rw [this]
theorem alike_callee (h : L.alike S ops o) : L.callee o = S.callee o := by
  obtain ⟨dst, op, ty, pos, after, guard⟩ := o
  unfold SSt.callee
  cases op with
  | call c =>
    obtain ⟨callee, args, ts⟩ := c
    cases callee with
    | value f =>
      dsimp only
      rw [alike_eval h (x := f) (by simp [Op.operands, Call.operands]), alike_evals h (xs := args.toList) (fun x hx => by simp [Op.operands, Call.operands] at hx ⊢; exact .inr hx)]
    | _ => rfl
  | _ => rfl
theorem alike_sopV (h : L.alike S ops o) : sopV P L o = sopV P S o := by
  obtain ⟨dst, op, ty, pos, after, guard⟩ := o
  unfold sopV
  cases op with
  | move x => exact alike_eval h (by simp [Op.operands])
  | assign x => exact alike_eval h (by simp [Op.operands])
  | pick c x y => dsimp only; rw [alike_eval h (x := c) (by simp [Op.operands]), alike_eval h (x := x) (by simp [Op.operands]), alike_eval h (x := y) (by simp [Op.operands])]
  | load t x =>
    have hx := alike_eval h (x := x) (by simp [Op.operands])
    have hr := h.row
    simp only [SSt.reads] at hr
    dsimp only
    rw [hx]
    split
    · rfl
    · rename_i hv; rw [hr _ (by rw [hv]; rfl)]
    · rename_i hv; rw [hr _ (by rw [hv]; rfl)]
    · rfl
  | binOp op t x y yt => dsimp only; rw [alike_val h (x := x) (by simp [Op.operands]), alike_val h (x := y) (by simp [Op.operands])]
  | unOp op t x => dsimp only; rw [alike_val h (x := x) (by simp [Op.operands])]
  | convert s d x => dsimp only; rw [alike_val h (x := x) (by simp [Op.operands])]
  | index t x i =>
    have hx := alike_eval h (x := x) (by simp [Op.operands])
    have hi := alike_val h (x := i) (by simp [Op.operands])
    have hv := alike_val h (x := x) (by simp [Op.operands])
    simp only [SSt.nat?, hx, hi, hv]
  | slice t x lo hi mx =>
    have hx := alike_eval h (x := x) (by simp [Op.operands])
    have hr := h.row
    simp only [SSt.reads] at hr
    have e1 : ∀ {y : Operand}, y ∈ (Op.slice t x lo hi mx).operands.toList → L.nat? y = S.nat? y := fun {y} hy => by simp only [SSt.nat?, alike_val h hy]
    have e2 : ∀ (d : Nat) (y : Option Operand), (∀ z, y = some z → z ∈ (Op.slice t x lo hi mx).operands.toList) → L.nat?? d y = S.nat?? d y := fun d y hy => by
      cases y with
      | none => rfl
      | some z => exact e1 (hy z rfl)
    have h0 : L.nat?? 0 lo = S.nat?? 0 lo := e2 0 lo (by rintro z rfl; simp [Op.operands])
    have h1 : ∀ d, L.nat?? d hi = S.nat?? d hi := fun d => e2 d hi (by rintro z rfl; simp [Op.operands])
    dsimp only
    rw [h0]
    congr 1
    funext l
    rw [hx]
    split
    · simp only [h1]
      cases mx with
      | none => rfl
      | some m => simp only [e1 (y := m) (by simp [Op.operands])]
    · rename_i hv
      simp only [h1, hr _ (by rw [hv]; rfl)]
    · simp only [h1]
    · rfl
  | fieldAddr s x f => dsimp only; rw [alike_eval h (x := x) (by simp [Op.operands])]
  | field s x f => dsimp only; rw [alike_eval h (x := x) (by simp [Op.operands])]
  | indexAddr t x i =>
    have hx := alike_eval h (x := x) (by simp [Op.operands])
    have hi := alike_val h (x := i) (by simp [Op.operands])
    have hr := h.row
    simp only [SSt.reads] at hr
    simp only [SSt.nat?, hi, hx]
    congr 1
    funext i
    split
    · rfl
    · congr 1
      funext e
      congr 1
      funext k
      split
      · rfl
      · rename_i hv; rw [hr _ (by rw [hv]; rfl)]
      · rfl
  | extract x i => dsimp only; rw [alike_eval h (x := x) (by simp [Op.operands])]
  | nilCheck x => dsimp only; rw [alike_eval h (x := x) (by simp [Op.operands])]
  | makeFunc fn first cap =>
    have hp : ∀ {xs : List Operand}, (∀ x ∈ xs, x ∈ (Op.makeFunc fn first cap).operands.toList) → L.pvs xs = S.pvs xs := by
      intro xs
      induction xs with
      | nil => intro _; rfl
      | cons x xs ih =>
        intro hx
        simp only [SSt.pvs]
        rw [alike_eval h (hx x (by simp)), ih (fun y hy => hx y (by simp [hy]))]
    dsimp only
    rw [hp (xs := first.toList) (fun x hx => by simp [Op.operands] at hx ⊢; exact .inl hx), hp (xs := cap.toList) (fun x hx => by simp [Op.operands] at hx ⊢; exact .inr hx)]
  | call c =>
    obtain ⟨callee, args, ts⟩ := c
    cases callee with
    | builtin b =>
      cases b with
      | len =>
        dsimp only
        congr 1
        funext t
        cases hx : args[0]? with
        | none => rfl
        | some x =>
          have hm : x ∈ args := Array.mem_of_getElem? hx
          dsimp only [Option.bind_some]
          rw [alike_eval h (x := x) (by simp [Op.operands, Call.operands]; exact hm)]
      | min => dsimp only; rw [alike_valsO h (xs := args.toList) (fun x hx => by simp [Op.operands, Call.operands] at hx ⊢; exact hx)]
      | max => dsimp only; rw [alike_valsO h (xs := args.toList) (fun x hx => by simp [Op.operands, Call.operands] at hx ⊢; exact hx)]
      | _ => rfl
    | _ => rfl
  | _ => rfl
theorem alike_notNil (h : L.alike S ops o) {x : Operand} (hx : x ∈ o.op.operands.toList) (hr : ∀ id, idOf (S.eval x) = some id → L.boxes.lookup id = S.boxes.lookup id) (t : TypeId) (v : Value) : L.notNil P t x v = S.notNil P t x v := by
  unfold SSt.notNil
  split
  · rw [alike_eval h hx]
    congr 1
    split
    · rfl
    · rename_i hv; rw [hr _ (by rw [hv]; rfl)]
    · rfl
  · rw [alike_eval h hx]
  · rw [alike_eval h hx]
  · rfl
theorem alike_sopV2 (h : L.alike S ops o) : sopV2 P L o = sopV2 P S o := by
  obtain ⟨dst, op, ty, pos, after, guard⟩ := o
  unfold sopV2
  have hr := h.row
  simp only [SSt.reads] at hr
  cases op with
  | binOp op t x y yt =>
    dsimp only at hr
    have e := alike_notNil (P := P) h (x := x) (by simp [Op.operands]) hr t
    cases op <;> cases y <;> first | rfl | simp only [e]
  | _ => rfl
theorem alike_optV (h : L.alike S ops o) : ∀ (y : Option Operand), (∀ z, y = some z → z ∈ o.op.operands.toList) → optV L y = optV S y
  | none, _ => rfl
  | some z, hz => by
    unfold optV
    dsimp only
    rw [alike_val h (hz z rfl)]
theorem alike_sopD (h : L.alike S ops o) : sopD P L o = sopD P S o := by
  obtain ⟨dst, op, ty, pos, after, guard⟩ := o
  unfold sopD
  cases op with
  | indexAddr t x i => dsimp only; rw [alike_eval h (x := x) (by simp [Op.operands]), alike_val h (x := i) (by simp [Op.operands])]
  | binOp op t x y yt => cases op <;> first | rfl | (dsimp only; rw [alike_eval h (x := x) (by simp [Op.operands]), alike_eval h (x := y) (by simp [Op.operands])])
  | slice t x lo hi mx =>
    have h0 := alike_optV h lo (by rintro z rfl; simp [Op.operands])
    have h1 := alike_optV h hi (by rintro z rfl; simp [Op.operands])
    dsimp only
    rw [alike_eval h (x := x) (by simp [Op.operands]), h0, h1]
  | call c =>
    obtain ⟨callee, args, ts⟩ := c
    cases callee with
    | builtin b =>
      cases b with
      | len =>
        dsimp only
        split
        · rename_i x t h1 h2
          have e1 := alike_eval h (x := x) (by simp [Op.operands, Call.operands]; exact Array.mem_def.2 (by rw [h1]; simp))
          rw [e1]
        · rfl
      | _ => rfl
    | _ => rfl
  | _ => rfl
theorem alike_sopB (h : L.alike S ops o) : sopB P L o = sopB P S o := by
  obtain ⟨dst, op, ty, pos, after, guard⟩ := o
  unfold sopB
  have hr := h.row
  simp only [SSt.reads] at hr
  cases op with
  | convert s d x =>
    dsimp only at hr ⊢
    have hx := alike_eval h (x := x) (by simp [Op.operands])
    have : L.rows? x = S.rows? x := by
      unfold SSt.rows?
      rw [hx]
      split
      · rfl
      · rename_i hv; rw [hr _ (by rw [hv]; rfl)]
      · rfl
    rw [this]
  | _ => rfl
theorem alike_sopI (h : L.alike S ops o) : sopI P L o = sopI P S o := by
  obtain ⟨dst, op, ty, pos, after, guard⟩ := o
  unfold sopI
  cases op with
  | call c =>
    obtain ⟨callee, args, ts⟩ := c
    cases callee with
    | value f =>
      dsimp only
      rw [alike_eval h (x := f) (by simp [Op.operands, Call.operands]), alike_valsO h (xs := args.toList) (fun x hx => by simp [Op.operands, Call.operands] at hx ⊢; exact .inr hx)]
    | _ => rfl
  | _ => rfl
theorem alike_sopW (h : L.alike S ops o) : sopW P L o = sopW P S o := by
  unfold sopW sopW1 sopW0
  rw [alike_sopD h, alike_sopV h, alike_sopV2 h, alike_sopB h, alike_sopI h]
theorem alike_sopM (h : L.alike S ops o) (hp : valB o none = true) : sopM P L o = (sopM P S o).map fun q => (q.1, L.boxes, L.next) := by
  obtain ⟨dst, op, ty, pos, after, guard⟩ := o
  unfold sopM
  cases op with
  | build t parts =>
    dsimp only
    rw [alike_parts h (xs := parts.toList) (fun x hx => by simp [Op.operands]; exact ⟨x.1, by simpa using hx⟩)]
    cases S.parts parts.toList with
    | none => rfl
    | some ps =>
      cases zeroP P t with
      | none => rfl
      | some z =>
        cases placesP P t with
        | none => rfl
        | some pl =>
          dsimp only [Option.bind_some]
          cases fillP (pl[·]?) z ps <;> rfl
  | buildSlice t len parts =>
    dsimp only
    rw [alike_parts h (xs := parts.toList) (fun x hx => by simp [Op.operands]; exact ⟨x.1, by simpa using hx⟩)]
    cases elemD P t with
    | none => rfl
    | some e =>
      dsimp only [Option.bind_some]
      cases sizeP P e with
      | none => rfl
      | some k =>
        dsimp only [Option.bind_some]
        cases zeroP P e with
        | none => rfl
        | some z =>
          dsimp only [Option.bind_some]
          cases S.parts parts.toList with
          | none => rfl
          | some ps =>
            dsimp only [Option.bind_some]
            split
            · cases fillR k (List.replicate len z) ps with
              | none => rfl
              | some rows =>
                dsimp only [Option.bind_some]
                split <;> rfl
            · rfl
  | alloc t => simp [valB] at hp
  | box t x => simp [valB] at hp
  | store t x y => simp [valB] at hp
  | _ => rfl
end
end Go.Proofs.YtbljhngekhgbbaaGreat
namespace Go.Proofs.YtbljhngekhgbbaaGreat
open Go.RowKit
set_option linter.unusedVariables false
set_option linter.unusedSectionVars false
set_option linter.unusedSimpArgs false
def edgeB (o : Oper) (j : Nat) : Bool := o.after.any fun e => e.on == j && Region.binds .any e
/-- does i come behind j, by one of its edges or over others? -/
def pathB (ops : Array Oper) : Nat → Nat → Nat → Bool
  | 0, _, _ => false
  | f + 1, i, j => match ops[i]? with
    | none => false
    | some o => edgeB o j || o.after.any fun e => Region.binds .any e && decide (j < e.on) && pathB ops f e.on j
/-- does operation j turn the store? -/
def effB (ops : Array Oper) (D : List (Nat × Ans)) (j : Nat) : Bool := match ops[j]? with
  | none => false
  | some q => !valB q (D.lookup j)
def drawAt (ops : Array Oper) (D : List (Nat × Ans)) (i : Nat) (o : Oper) : Bool :=
  (o.after.all fun e => !Region.binds .any e || decide (e.on < i)) &&
  (valB o (D.lookup i) || (List.range i).all fun j => !effB ops D j || pathB ops 8 i j || (List.range i).any fun k => decide (j < k) && effB ops D k) &&
  (List.range ops.size).all fun j => match ops[j]? with
    | none => true
    | some q => j == i || match q.dst with
      | none => true
      | some d => !(o.dst == some d) && (!(o.looksAt ops).contains d || (if j < i then edgeB o j else edgeB q i))
def drawOk (ops : Array Oper) (D : List (Nat × Ans)) : Bool := (List.range ops.size).all fun i => match ops[i]? with
  | none => true
  | some o => drawAt ops D i o
/-- may operation i come when just those that turn the store below m are done? -/
def possB (ops : Array Oper) (D : List (Nat × Ans)) (i : Nat) (o : Oper) (m : Nat) : Bool := (m == 0 || effB ops D (m - 1)) && (decide (i < m) || (List.range i).any fun j => decide (m ≤ j) && effB ops D j) && (List.range ops.size).all fun j => match ops[j]? with
  | none => true
  | some q => valB q (D.lookup j) || (if j < m then !edgeB q i else !edgeB o j)
section
variable {P : Program} {N : Nat} {C : Ctx} {ops : Array Oper} {Q : Exit → SSt → Prop}
theorem step_val {S S' : SSt} {o : Oper} {c : Option Ans} {ck : List Ask1} (hp : valB o c = true) (e : stepF P N ops S o c = some (S', ck)) :
    ∃ tv, S' = S.put o.dst tv ∧ ∀ L : SSt, L.alike S ops o → stepF P N ops L o c = some (L.put o.dst tv, ck) := by
  unfold stepF at e
  split at e
  · rename_i hd
    split at e
    · rename_i hg
      obtain ⟨rfl, rfl⟩ := Prod.mk.inj (Option.some.inj e)
      refine ⟨.tup [], rfl, fun L hL => ?_⟩
      unfold stepF
      rw [if_pos hd, alike_guard hL, hg]
    · rename_i hg
      split at e
      · simp [valB] at hp
      · simp [valB] at hp
      · rename_i r
        split at e
        · rename_i g ts hcal
          split at e
          · rename_i hen
            obtain ⟨rfl, rfl⟩ := Prod.mk.inj (Option.some.inj e)
            refine ⟨r, rfl, fun L hL => ?_⟩
            unfold stepF
            rw [if_pos hd, alike_guard hL, hg]
            dsimp only
            rw [alike_callee hL, hcal]
            dsimp only
            rw [if_pos hen]
          · cases e
        · cases e
      · simp [valB] at hp
      · split at e
        · rename_i tv hv
          obtain ⟨rfl, rfl⟩ := Prod.mk.inj (Option.some.inj e)
          refine ⟨tv, rfl, fun L hL => ?_⟩
          unfold stepF
          rw [if_pos hd, alike_guard hL, hg]
          dsimp only
          rw [alike_sopW hL, hv]
        · rename_i hv
          split at e
          · rename_i tv bx n' hm
            obtain ⟨rfl, rfl⟩ := Prod.mk.inj (Option.some.inj e)
            have hself := alike_sopM (P := P) (L := S) (S := S) (ops := ops) (o := o) ⟨fun _ _ => rfl, fun _ _ => rfl⟩ hp
            rw [hm] at hself
            simp only [Option.map_some, Option.some.injEq, Prod.mk.injEq, true_and] at hself
            obtain ⟨rfl, rfl⟩ := hself
            refine ⟨tv, rfl, fun L hL => ?_⟩
            unfold stepF
            rw [if_pos hd, alike_guard hL, hg]
            dsimp only
            rw [alike_sopW hL, hv]
            dsimp only
            rw [alike_sopM hL hp, hm]
            rfl
          · split at e
            · rename_i tv bx n2 hm
              exfalso
              obtain ⟨dst, op, ty, pos, after, guard⟩ := o
              unfold sopE at hm
              split at hm
              · rename_i q hq
                unfold sopA at hq
                dsimp only at hq
                split at hq
                · simp [valB] at hp
                · cases hq
              · split at hm
                · rename_i q hq
                  unfold sopC at hq
                  dsimp only at hq
                  split at hq
                  · simp [valB] at hp
                  · simp [valB] at hp
                  · cases hq
                · unfold sopS at hm
                  dsimp only at hm
                  split at hm
                  · simp [valB] at hp
                  · cases hm
            · cases e
    · cases e
  · cases e
theorem alikeE_dest {L S : SSt} {o : Oper} (h : L.alike S ops o) (hb : L.boxes = S.boxes) {x : Operand} (hx : x ∈ o.op.operands.toList) (e : TypeId) (k : Nat) : L.dest? x e k = S.dest? x e k := by
  unfold SSt.dest?
  rw [alike_eval h hx, hb]
theorem alikeE_rows {L S : SSt} {o : Oper} (h : L.alike S ops o) (hb : L.boxes = S.boxes) {x : Operand} (hx : x ∈ o.op.operands.toList) : L.rows? x = S.rows? x := by
  unfold SSt.rows?
  rw [alike_eval h hx, hb]
theorem alikeE_sopA {L S : SSt} {o : Oper} (h : L.alike S ops o) (hb : L.boxes = S.boxes) (hn : L.next = S.next) : sopA P L o = sopA P S o := by
  obtain ⟨dst, op, ty, pos, after, guard⟩ := o
  unfold sopA
  cases op with
  | call c =>
    obtain ⟨callee, args, ts⟩ := c
    cases callee with
    | builtin b =>
      cases b with
      | append =>
        dsimp only
        split
        · rename_i s x t t' h1 h2
          have e1 := alikeE_dest h hb (x := s) (by simp [Op.operands, Call.operands]; exact Array.mem_def.2 (by rw [h1]; simp))
          have e2 := alikeE_rows h hb (x := x) (by simp [Op.operands, Call.operands]; exact Array.mem_def.2 (by rw [h1]; simp))
          simp only [appS, e1, e2, hb, hn]
        · rfl
      | _ => rfl
    | _ => rfl
  | _ => rfl
theorem alikeE_sopM {L S : SSt} {o : Oper} (h : L.alike S ops o) (hb : L.boxes = S.boxes) (hn : L.next = S.next) : sopM P L o = sopM P S o := by
  by_cases hp : valB o none = true
  · rw [alike_sopM h hp, hb, hn]
    have := alike_sopM (P := P) (L := S) (S := S) (ops := ops) (o := o) ⟨fun _ _ => rfl, fun _ _ => rfl⟩ hp
    exact this.symm
  · obtain ⟨dst, op, ty, pos, after, guard⟩ := o
    cases op with
    | alloc t => simp only [sopM, hb, hn]
    | box t x => simp only [sopM, alike_eval h (x := x) (by simp [Op.operands]), hb, hn]
    | store t x y => simp only [sopM, alike_eval h (x := x) (by simp [Op.operands]), alike_eval h (x := y) (by simp [Op.operands]), hb, hn]
    | call c => rfl
    | _ => simp [valB] at hp
theorem alikeE_sopC {L S : SSt} {o : Oper} (h : L.alike S ops o) (hb : L.boxes = S.boxes) (hn : L.next = S.next) : sopC P L o = sopC P S o := by
  obtain ⟨dst, op, ty, pos, after, guard⟩ := o
  unfold sopC
  cases op with
  | call c =>
    obtain ⟨callee, args, ts⟩ := c
    cases callee with
    | builtin b =>
      cases b with
      | clear =>
        dsimp only
        split
        · rename_i x t h1 h2
          have e1 := alike_eval h (x := x) (by simp [Op.operands, Call.operands]; exact Array.mem_def.2 (by rw [h1]; simp))
          simp only [e1, hb, hn]
        · rfl
      | copy =>
        dsimp only
        split
        · rename_i x y t rest h1 h2
          have e1 := alike_eval h (x := x) (by simp [Op.operands, Call.operands]; exact Array.mem_def.2 (by rw [h1]; simp))
          have e2 := alikeE_rows h hb (x := y) (by simp [Op.operands, Call.operands]; exact Array.mem_def.2 (by rw [h1]; simp))
          simp only [e1, e2, hb, hn]
        · rfl
      | _ => rfl
    | _ => rfl
  | _ => rfl
theorem alikeE_sopS {L S : SSt} {o : Oper} (h : L.alike S ops o) (hb : L.boxes = S.boxes) (hn : L.next = S.next) : sopS P L o = sopS P S o := by
  obtain ⟨dst, op, ty, pos, after, guard⟩ := o
  unfold sopS
  cases op with
  | call c =>
    obtain ⟨callee, args, ts⟩ := c
    cases callee with
    | builtin b =>
      cases b with
      | append =>
        dsimp only
        split
        · rename_i s x t u h1 h2
          have e1 := alike_eval h (x := s) (by simp [Op.operands, Call.operands]; exact Array.mem_def.2 (by rw [h1]; simp))
          have e2 := alike_eval h (x := x) (by simp [Op.operands, Call.operands]; exact Array.mem_def.2 (by rw [h1]; simp))
          simp only [e1, e2, hb, hn]
        · rfl
      | _ => rfl
    | _ => rfl
  | _ => rfl
theorem alikeE_sopE {L S : SSt} {o : Oper} (h : L.alike S ops o) (hb : L.boxes = S.boxes) (hn : L.next = S.next) : sopE P L o = sopE P S o := by
  unfold sopE
  rw [alikeE_sopA h hb hn, alikeE_sopC h hb hn, alikeE_sopS h hb hn, hn]
theorem alike_fz {L S : SSt} {o : Oper} (h : L.alike S ops o) (hb : L.boxes = S.boxes) (hn : L.next = S.next) : ∀ (ids : List Nat), (L.fzAll ids).boxes = (S.fzAll ids).boxes ∧ (L.fzAll ids).next = (S.fzAll ids).next ∧ (L.fzAll ids).alike (S.fzAll ids) ops o := by
  intro ids
  induction ids generalizing L S with
  | nil => exact ⟨hb, hn, h⟩
  | cons id ids ih =>
    unfold SSt.fzAll
    rw [hb]
    split
    · rename_i e k rows hl
      have e1 : (L.freeze id rows).boxes = (S.freeze id rows).boxes := by unfold SSt.freeze; rw [hb]
      refine ih ⟨fun t ht => ?_, fun i _ => by rw [e1]⟩ e1 hn
      unfold SSt.get SSt.freeze
      dsimp only
      rw [lookup_map, lookup_map]
      exact congrArg _ (h.env t ht)
    · exact ih h hb hn
theorem alike_fzIds {L S : SSt} {o : Oper} (h : L.alike S ops o) : L.fzIds o = S.fzIds o := by
  obtain ⟨dst, op, ty, pos, after, guard⟩ := o
  unfold SSt.fzIds
  cases op with
  | buildSlice t len parts =>
    dsimp only
    congr 1
    refine List.map_congr_left fun x hx => ?_
    rw [alike_eval h (x := x.2) (by simp [Op.operands]; exact ⟨x.1, by simpa using hx⟩)]
  | store t x y => dsimp only; rw [alike_eval h (x := x) (by simp [Op.operands]), alike_eval h (x := y) (by simp [Op.operands])]
  | _ => rfl
theorem alikeE_sopZ {L S : SSt} {o : Oper} (h : L.alike S ops o) (hb : L.boxes = S.boxes) (hn : L.next = S.next) : sopZ P L o = sopZ P S o := by
  unfold sopZ
  rw [alike_fzIds h]
  obtain ⟨a1, a2, a3⟩ := alike_fz h hb hn (S.fzIds o)
  exact alikeE_sopM a3 a1 a2
theorem alikeE_sopL {L S : SSt} {o : Oper} (h : L.alike S ops o) (hb : L.boxes = S.boxes) (hn : L.next = S.next) : sopL P L o = sopL P S o := by
  obtain ⟨dst, op, ty, pos, after, guard⟩ := o
  unfold sopL
  cases op with
  | call c =>
    obtain ⟨callee, args, ts⟩ := c
    cases callee with
    | builtin b =>
      cases b with
      | append =>
        dsimp only
        split
        · rename_i s x t t' h1 h2
          have e1 := alike_eval h (x := s) (by simp [Op.operands, Call.operands]; exact Array.mem_def.2 (by rw [h1]; simp))
          have e2 := alike_eval h (x := x) (by simp [Op.operands, Call.operands]; exact Array.mem_def.2 (by rw [h1]; simp))
          simp only [SSt.tyL, SSt.dstL, SSt.srcL, e1, e2, hb, hn]
        · rfl
      | _ => rfl
    | _ => rfl
  | _ => rfl
theorem alikeE_sopL1 {L S : SSt} {o : Oper} (h : L.alike S ops o) (hb : L.boxes = S.boxes) (hn : L.next = S.next) : sopL1 P L o = sopL1 P S o := by
  unfold sopL1
  rw [alikeE_sopL h hb hn]
theorem step_eff {S S' : SSt} {o : Oper} {c : Option Ans} {ck : List Ask1} (e : stepF P N ops S o c = some (S', ck)) :
    ∃ tv bx n', S' = (({ S with boxes := bx, next := n' } : SSt)).put o.dst tv ∧ ∀ L : SSt, L.alike S ops o → L.boxes = S.boxes → L.next = S.next → stepF P N ops L o c = some ((({ L with boxes := bx, next := n' } : SSt)).put o.dst tv, ck) := by
  unfold stepF at e
  split at e
  · rename_i hd
    split at e
    · rename_i hg
      obtain ⟨rfl, rfl⟩ := Prod.mk.inj (Option.some.inj e)
      refine ⟨.tup [], S.boxes, S.next, rfl, fun L hL hb hn => ?_⟩
      unfold stepF
      rw [if_pos hd, alike_guard hL, hg, ← hb, ← hn]
    · rename_i hg
      split at e
      · split at e
        · cases e
        · rename_i hv
          obtain ⟨⟨tv, bx, n2⟩, hm, e⟩ := Option.map_eq_some_iff.1 e
          obtain ⟨rfl, rfl⟩ := Prod.mk.inj e
          refine ⟨tv, bx, n2, rfl, fun L hL hb hn => ?_⟩
          unfold stepF
          rw [if_pos hd, alike_guard hL, hg]
          dsimp only
          rw [alike_sopW hL, hv]
          dsimp only
          rw [alikeE_sopZ hL hb hn, hm]
          rfl
      · obtain ⟨⟨tv, bx, n2⟩, hm, e⟩ := Option.map_eq_some_iff.1 e
        obtain ⟨rfl, rfl⟩ := Prod.mk.inj e
        refine ⟨tv, bx, n2, rfl, fun L hL hb hn => ?_⟩
        unfold stepF
        rw [if_pos hd, alike_guard hL, hg]
        dsimp only
        rw [alikeE_sopL1 hL hb hn, hm]
        rfl
      · rename_i r
        split at e
        · rename_i g ts hcal
          split at e
          · rename_i hen
            obtain ⟨rfl, rfl⟩ := Prod.mk.inj (Option.some.inj e)
            refine ⟨r, S.boxes, S.next, rfl, fun L hL hb hn => ?_⟩
            unfold stepF
            rw [if_pos hd, alike_guard hL, hg]
            dsimp only
            rw [alike_callee hL, hcal]
            dsimp only
            rw [if_pos hen, ← hb, ← hn]
          · cases e
        · cases e
      · rename_i r σ' n'
        split at e
        · rename_i g ts hcal
          split at e
          · rename_i hen
            obtain ⟨rfl, rfl⟩ := Prod.mk.inj (Option.some.inj e)
            refine ⟨r, σ', n', rfl, fun L hL hb hn => ?_⟩
            unfold stepF
            rw [if_pos hd, alike_guard hL, hg]
            dsimp only
            rw [alike_callee hL, hcal]
            dsimp only
            rw [if_pos hen, hb, hn]
          · cases e
        · cases e
      · split at e
        · rename_i tv hv
          obtain ⟨rfl, rfl⟩ := Prod.mk.inj (Option.some.inj e)
          refine ⟨tv, S.boxes, S.next, rfl, fun L hL hb hn => ?_⟩
          unfold stepF
          rw [if_pos hd, alike_guard hL, hg]
          dsimp only
          rw [alike_sopW hL, hv, ← hb, ← hn]
        · rename_i hv
          split at e
          · rename_i tv bx n' hm
            obtain ⟨rfl, rfl⟩ := Prod.mk.inj (Option.some.inj e)
            refine ⟨tv, bx, n', rfl, fun L hL hb hn => ?_⟩
            unfold stepF
            rw [if_pos hd, alike_guard hL, hg]
            dsimp only
            rw [alike_sopW hL, hv]
            dsimp only
            rw [alikeE_sopM hL hb hn, hm]
          · rename_i hm0
            split at e
            · rename_i tv bx n2 hm
              obtain ⟨rfl, rfl⟩ := Prod.mk.inj (Option.some.inj e)
              refine ⟨tv, bx, n2, rfl, fun L hL hb hn => ?_⟩
              unfold stepF
              rw [if_pos hd, alike_guard hL, hg]
              dsimp only
              rw [alike_sopW hL, hv]
              dsimp only
              rw [alikeE_sopM hL hb hn, hm0]
              dsimp only
              rw [alikeE_sopE hL hb hn, hm]
            · cases e
    · cases e
  · cases e
theorem unl_set (l : Array Bool) (i : Nat) (h : l[i]? = some false) : (l.setIfInBounds i true).toList.count false + 1 = l.toList.count false := by
  have hi := (Array.getElem?_eq_some_iff.1 h).1
  rw [Array.toList_setIfInBounds]
  have hi' : i < l.toList.length := by simpa using hi
  have hv : l.toList[i] = false := by
    have := (Array.getElem?_eq_some_iff.1 h).2
    simpa using this
  have e := List.count_set (l := l.toList) (a := true) (b := false) hi'
  rw [hv] at e
  have hpos : 0 < l.toList.count false := List.count_pos_iff.2 (by rw [← hv]; exact List.getElem_mem hi')
  have e1 : (if (false == false) = true then 1 else 0) = 1 := rfl
  have e2 : (if (true == false) = true then 1 else 0) = 0 := rfl
  rw [e1, e2] at e
  omega
end
end Go.Proofs.YtbljhngekhgbbaaGreat
namespace Go.Proofs.YtbljhngekhgbbaaGreat
open Go.RowKit
set_option linter.unusedVariables false
set_option linter.unusedSectionVars false
set_option linter.unusedSimpArgs false
section
variable {P : Program} {N : Nat} {C : Ctx} {ops : Array Oper} {Q : Exit → SSt → Prop}
theorem InvC.sub {L S : SSt} {β : Ids} {a : Act} {w : World} (h : InvC N C β L a w) (he : ∀ t tv, S.get t = some tv → L.get t = some tv) (hb : L.boxes = S.boxes) (hn : L.next = S.next) : InvC N C β S a w := by
  obtain ⟨h1, h2, h3⟩ := h
  refine ⟨⟨h1.defers, h1.size, h1.ext, by rw [← hb, ← hn]; exact h1.mem, by rw [← hb]; exact h1.own, fun t tv ht => ?_⟩, h2, by rw [← hn]; exact h3⟩
  obtain ⟨v, hv, hr⟩ := h1.env t tv (he t tv ht)
  refine ⟨v, hv, ?_⟩
  show RepT w (gOf C.H β S.boxes) β tv v
  rw [← hb]
  exact hr
theorem InvC.drew {L : SSt} {β : Ids} {a : Act} {w : World} (h : InvC N C β L a w) : InvC N C β L a { w with drawn := w.drawn + 1 } :=
  h.step (MStep.grow h.1.mem ((Ext.refl w).drew) (Nat.le_refl _))
set_option maxHeartbeats 1000000 in
/-- from a state in which some are done -/
theorem draw_any {st sn : SSt} {s : Nat → SSt} {D : List (Nat × Ans)} (hd : drawOk ops D = true) (hs0 : s 0 = st) (hsn : s ops.size = sn)
    (hst : ∀ (k : Nat) (o : Oper), ops[k]? = some o → ∃ ck, stepF P N ops (s k) o (D.lookup k) = some (s (k + 1), ck) ∧ ∀ q ∈ ck, q.ok P)
    (hread : ∀ (i : Nat) (o : Oper), ops[i]? = some o → valB o (D.lookup i) = true → ∀ id, (s i).reads o = some id → ∀ m, m ≤ ops.size → possB ops D i o m = true → (s m).boxes.lookup id = (s i).boxes.lookup id) (hQ : Q .normal sn) :
    ∀ (fuel : Nat) (l : Array Bool) (L : SSt) (β : Ids) (a : Act) (w : World), l.size = ops.size → l.toList.count false = fuel →
      (∀ (i : Nat) (o : Oper), l[i]? = some true → ops[i]? = some o → ∀ e ∈ o.after, Region.binds .any e = true → l[e.on]? = some true) →
      (∀ (i : Nat) (o : Oper) (t : Nat), l[i]? = some true → ops[i]? = some o → o.dst = some t → L.get t = (s (i + 1)).get t) →
      (∀ (t : Nat), (∀ (i : Nat) (o : Oper), l[i]? = some true → ops[i]? = some o → o.dst ≠ some t) → L.get t = st.get t) →
      (∃ m, m ≤ ops.size ∧ (m = 0 ∨ effB ops D (m - 1) = true) ∧ (∀ j, j < m → effB ops D j = true → l[j]? = some true) ∧ (∀ j, m ≤ j → effB ops D j = true → l[j]? ≠ some true) ∧ L.boxes = (s m).boxes ∧ L.next = (s m).next) → InvC N C β L a w →
      wpAny P .any ops (fun e a' w' => ∃ st' β', InvC N C β' st' a' w' ∧ Q e st') fuel l a w := by
  have hat : ∀ (i : Nat) (o : Oper), ops[i]? = some o → drawAt ops D i o = true := by
    intro i o ho
    have hi := (Array.getElem?_eq_some_iff.1 ho).1
    have := List.all_eq_true.1 hd i (List.mem_range.2 hi)
    rw [ho] at this
    exact this
  have hlex : ∀ (i : Nat) (o : Oper), ops[i]? = some o → ∀ e ∈ o.after, Region.binds .any e = true → e.on < i := by
    intro i o ho e he hb
    have h := hat i o ho
    unfold drawAt at h
    simp only [Bool.and_eq_true] at h
    have := List.all_eq_true.1 (by have := h.1.1; rwa [← Array.all_toList] at this) e (by simpa using he)
    simpa [hb] using this
  have hpair : ∀ (i : Nat) (o : Oper) (j : Nat) (q : Oper) (d : Nat), ops[i]? = some o → ops[j]? = some q → j ≠ i → q.dst = some d → o.dst ≠ some d ∧ (d ∈ o.looksAt ops → (j < i → edgeB o j = true) ∧ (i < j → edgeB q i = true)) := by
    intro i o j q d ho hq hne hqd
    have h := hat i o ho
    have hj := (Array.getElem?_eq_some_iff.1 hq).1
    unfold drawAt at h
    simp only [Bool.and_eq_true] at h
    have h2 := List.all_eq_true.1 h.2 j (List.mem_range.2 hj)
    rw [hq] at h2
    simp only [hqd, Bool.or_eq_true, Bool.and_eq_true, beq_iff_eq, hne, false_or, Bool.not_eq_true', beq_eq_false_iff_ne, ne_eq] at h2
    refine ⟨h2.1, fun hm => ?_⟩
    rcases h2.2 with h3 | h3
    · rw [List.contains_iff_mem.2 hm] at h3; cases h3
    · exact ⟨fun hlt => by rwa [if_pos hlt] at h3, fun hlt => by rwa [if_neg (by omega)] at h3⟩
  have hedge : ∀ (o : Oper) (j : Nat), edgeB o j = true → ∃ e ∈ o.after, Region.binds .any e = true ∧ e.on = j := by
    intro o j h
    unfold edgeB at h
    rw [← Array.any_toList] at h
    obtain ⟨e, he, h2⟩ := List.any_eq_true.1 h
    simp only [Bool.and_eq_true, beq_iff_eq] at h2
    exact ⟨e, by simpa using he, h2.2, h2.1⟩
  have hop : ∀ (k : Nat), k < ops.size → ∃ o : Oper, ops[k]? = some o := fun k hk => ⟨_, Array.getElem?_eq_getElem hk⟩
  have heff : ∀ (k : Nat), effB ops D k = true → ∃ o : Oper, ops[k]? = some o ∧ valB o (D.lookup k) = false := by
    intro k hk
    unfold effB at hk
    split at hk
    · cases hk
    · rename_i q hq; exact ⟨q, hq, by simpa using hk⟩
  have heff' : ∀ (k : Nat) (o : Oper), ops[k]? = some o → valB o (D.lookup k) = false → effB ops D k = true := by
    intro k o ho h
    unfold effB
    rw [ho]
    simp [h]
  have hpath : ∀ (l : Array Bool), (∀ (i : Nat) (o : Oper), l[i]? = some true → ops[i]? = some o → ∀ e ∈ o.after, Region.binds .any e = true → l[e.on]? = some true) → ∀ (f i j : Nat), pathB ops f i j = true →
      (∀ (o : Oper), ops[i]? = some o → ∀ e ∈ o.after, Region.binds .any e = true → l[e.on]? = some true) → l[j]? = some true := by
    intro l hcl f
    induction f with
    | zero => intro i j h; simp [pathB] at h
    | succ f ih =>
      intro i j h hed
      simp only [pathB] at h
      split at h
      · cases h
      · rename_i o ho
        rw [Bool.or_eq_true] at h
        rcases h with h | h
        · obtain ⟨e, he, hb, hon⟩ := hedge o j h
          rw [← hon]
          exact hed o ho e he hb
        · rw [← Array.any_toList] at h
          obtain ⟨e, he, h2⟩ := List.any_eq_true.1 h
          simp only [Bool.and_eq_true] at h2
          have hd := hed o ho e (by simpa using he) h2.1.1
          exact ih e.on j h2.2 fun o' ho' => hcl e.on o' hd ho'
  -- those that turn the store come one behind the other
  have hchain : ∀ (l : Array Bool), (∀ (i : Nat) (o : Oper), l[i]? = some true → ops[i]? = some o → ∀ e ∈ o.after, Region.binds .any e = true → l[e.on]? = some true) → ∀ (n i j : Nat), i - j ≤ n → j < i → effB ops D i = true → effB ops D j = true →
      (∀ (o : Oper), ops[i]? = some o → ∀ e ∈ o.after, Region.binds .any e = true → l[e.on]? = some true) → l[j]? = some true := by
    intro l hcl n
    induction n with
    | zero => intro i j h1 h2; omega
    | succ n ih =>
      intro i j hn hji hei hej hed
      obtain ⟨o, ho, hov⟩ := heff i hei
      have h := hat i o ho
      unfold drawAt at h
      simp only [Bool.and_eq_true, Bool.or_eq_true, hov, Bool.false_eq_true, false_or] at h
      have h2 := List.all_eq_true.1 h.1.2 j (List.mem_range.2 hji)
      simp only [hej, Bool.or_eq_true, Bool.not_true, Bool.false_eq_true, false_or] at h2
      rcases h2 with h2 | h2
      · exact hpath l hcl 8 i j h2 hed
      · obtain ⟨k, hk, h3⟩ := List.any_eq_true.1 h2
        simp only [Bool.and_eq_true, decide_eq_true_eq] at h3
        have hki := List.mem_range.1 hk
        have hlk := ih i k (by omega) hki hei h3.2 hed
        exact ih k j (by omega) h3.1 h3.2 hej fun o' ho' e he hb => hcl k o' hlk ho' e he hb
  -- the states in their own order
  have hput : ∀ (k : Nat) (o : Oper), ops[k]? = some o → ∃ tv bx n', s (k + 1) = (({ s k with boxes := bx, next := n' } : SSt)).put o.dst tv := by
    intro k o ho
    obtain ⟨ck, h1, _⟩ := hst k o ho
    obtain ⟨tv, bx, n', h2, _⟩ := step_eff h1
    exact ⟨tv, bx, n', h2⟩
  have hget : ∀ (k : Nat) (o : Oper) (t : Nat), ops[k]? = some o → o.dst ≠ some t → (s (k + 1)).get t = (s k).get t := by
    intro k o t ho hne
    obtain ⟨tv, bx, n', h2⟩ := hput k o ho
    rw [h2]
    cases hd : o.dst with
    | none => rfl
    | some d =>
      rw [SSt.get_put, if_neg (fun e => hne (by rw [hd, e]))]
      rfl
  have hvalm : ∀ (k : Nat), k < ops.size → effB ops D k = false → (s (k + 1)).boxes = (s k).boxes ∧ (s (k + 1)).next = (s k).next := by
    intro k hk hv
    obtain ⟨o, ho⟩ := hop k hk
    obtain ⟨ck, h1, _⟩ := hst k o ho
    have : valB o (D.lookup k) = true := by
      cases h : valB o (D.lookup k) with
      | true => rfl
      | false => rw [heff' k o ho h] at hv; cases hv
    obtain ⟨tv, h2, _⟩ := step_val this h1
    rw [h2, SSt.put_boxes, SSt.put_next]
    exact ⟨rfl, rfl⟩
  have hsame : ∀ (d m : Nat), m + d ≤ ops.size → (∀ j, m ≤ j → j < m + d → effB ops D j = false) → (s (m + d)).boxes = (s m).boxes ∧ (s (m + d)).next = (s m).next := by
    intro d m
    induction d with
    | zero => intro _ _; exact ⟨rfl, rfl⟩
    | succ d ih =>
      intro h1 h2
      obtain ⟨e1, e2⟩ := ih (by omega) fun j a b => h2 j a (by omega)
      obtain ⟨f1, f2⟩ := hvalm (m + d) (by omega) (h2 (m + d) (by omega) (by omega))
      exact ⟨by rw [← e1, ← f1, Nat.add_assoc], by rw [← e2, ← f2, Nat.add_assoc]⟩
  have hseq : ∀ (i : Nat), i ≤ ops.size → (∀ (t : Nat), (∀ (j : Nat) (o : Oper), j < i → ops[j]? = some o → o.dst ≠ some t) → (s i).get t = st.get t) ∧ (∀ (j : Nat) (o : Oper) (t : Nat), j < i → ops[j]? = some o → o.dst = some t → (s i).get t = (s (j + 1)).get t) := by
    intro i
    induction i with
    | zero => intro _; exact ⟨fun t _ => by rw [hs0], fun j o t hj => by omega⟩
    | succ i ih =>
      intro hi
      obtain ⟨h1, h2⟩ := ih (by omega)
      obtain ⟨o, ho⟩ := hop i (by omega)
      refine ⟨fun t ht => ?_, fun j q t hj hq hqd => ?_⟩
      · rw [hget i o t ho (ht i o (by omega) ho)]
        exact h1 t fun j q hj hq => ht j q (by omega) hq
      · by_cases e : j = i
        · subst e; rfl
        · have hne : o.dst ≠ some t := (hpair i o j q t ho hq e hqd).1
          rw [hget i o t ho hne]
          exact h2 j q t (by omega) hq hqd
  intro fuel
  induction fuel with
  | zero =>
    intro l L β a w hl hc hcl he1 he2 hm hi
    have hall : ∀ i, i < ops.size → l[i]? = some true := by
      intro i hlt
      have hlt' : i < l.toList.length := by simpa [hl] using hlt
      have : l.toList[i] ≠ false := fun e => by
        have := List.count_pos_iff.2 (e ▸ List.getElem_mem hlt' : false ∈ l.toList)
        omega
      rw [Array.getElem?_eq_getElem (by omega)]
      simpa using this
    obtain ⟨m, hm1, _, _, hm3, hm4, hm5⟩ := hm
    obtain ⟨f1, f2⟩ := hsame (ops.size - m) m (by omega) fun j a b => by
      cases h : effB ops D j with
      | false => rfl
      | true => exact absurd (hall j (by omega)) (hm3 j a h)
    rw [show m + (ops.size - m) = ops.size by omega, hsn] at f1 f2
    refine ⟨?_, sn, β, hi.sub (fun t tv ht => ?_) (hm4.trans f1.symm) (hm5.trans f2.symm), hQ⟩
    · refine List.eq_nil_iff_forall_not_mem.2 fun i hm => ?_
      unfold Region.ready at hm
      obtain ⟨h1, h2⟩ := List.mem_filter.1 hm
      have := hall i (List.mem_range.1 h1)
      simp [Array.getD_eq_getD_getElem?, this] at h2
    · obtain ⟨q1, q2⟩ := hseq ops.size (Nat.le_refl _)
      rw [hsn] at q1 q2
      by_cases hw : ∃ (j : Nat) (o : Oper), ops[j]? = some o ∧ o.dst = some t
      · obtain ⟨j, o, ho, hod⟩ := hw
        have hj := (Array.getElem?_eq_some_iff.1 ho).1
        rw [he1 j o t (hall j hj) ho hod, ← q2 j o t hj ho hod]
        exact ht
      · rw [he2 t fun j o _ ho hod => hw ⟨j, o, ho, hod⟩, ← q1 t fun j o _ ho hod => hw ⟨j, o, ho, hod⟩]
        exact ht
  | succ fuel ih =>
    intro l L β a w hl hc hcl he1 he2 hmm hi
    refine ⟨fun hr => ?_, fun i hm => ?_⟩
    · -- something can be done
      exfalso
      have hex : ∃ i : Nat, i < ops.size ∧ l[i]? = some false := by
        have hpos : false ∈ l.toList := List.count_pos_iff.1 (by omega)
        obtain ⟨i, hlt, e⟩ := List.getElem_of_mem hpos
        have hlt' : i < l.size := by simpa using hlt
        exact ⟨i, by omega, by rw [Array.getElem?_eq_getElem hlt']; simpa using e⟩
      obtain ⟨i, ⟨hlt, hf⟩, hmin⟩ := exists_min hex
      obtain ⟨o, ho⟩ := hop i hlt
      have hmem : i ∈ Region.ready .any ops l := by
        unfold Region.ready
        refine List.mem_filter.2 ⟨List.mem_range.2 hlt, ?_⟩
        simp only [Array.getD_eq_getD_getElem?, hf, ho, Option.getD_some, Bool.not_false, Bool.true_and, Option.map_some]
        rw [← Array.all_toList]
        refine List.all_eq_true.2 fun e he => ?_
        cases hbd : Region.binds .any e with
        | false => rfl
        | true =>
          have hlt2 := hlex i o ho e (by simpa using he) hbd
          have : l[e.on]? = some true := by
            have hs : e.on < l.size := by omega
            rw [Array.getElem?_eq_getElem hs]
            cases hv : l[e.on] with
            | true => rfl
            | false =>
              have := hmin e.on ⟨by omega, by rw [Array.getElem?_eq_getElem hs, hv]⟩
              omega
          simp [this]
      rw [hr] at hmem
      cases hmem
    · unfold Region.ready at hm
      obtain ⟨h1, h2⟩ := List.mem_filter.1 hm
      have hlt := List.mem_range.1 h1
      obtain ⟨o, ho⟩ := hop i hlt
      simp only [Bool.and_eq_true, Bool.not_eq_true', ho, Option.map_some, Option.getD_some] at h2
      obtain ⟨hf0, hed0⟩ := h2
      have hf : l[i]? = some false := by
        have hs : i < l.size := by omega
        rw [Array.getD_eq_getD_getElem?, Array.getElem?_eq_getElem hs, Option.getD_some] at hf0
        rw [Array.getElem?_eq_getElem hs, hf0]
      have hed : ∀ e ∈ o.after, Region.binds .any e = true → l[e.on]? = some true := by
        intro e he hbd
        rw [← Array.all_toList] at hed0
        have := List.all_eq_true.1 hed0 e (by simpa using he)
        rw [hbd] at this
        simp only [Bool.not_true, Bool.false_or, Array.getD_eq_getD_getElem?] at this
        cases hv : l[e.on]? with
        | none => rw [hv] at this; cases this
        | some b => rw [hv] at this; simpa using this
      obtain ⟨q1, q2⟩ := hseq i (by omega)
      obtain ⟨m, hm1, hm0, hm2, hm3, hm4, hm5⟩ := hmm
      have henv : ∀ t ∈ o.looksAt ops, L.get t = (s i).get t := by
        intro t ht
        by_cases hw : ∃ (j : Nat) (q : Oper), j ≠ i ∧ ops[j]? = some q ∧ q.dst = some t
        · obtain ⟨j, q, hne, hq, hqd⟩ := hw
          obtain ⟨hod, hre⟩ := hpair i o j q t ho hq hne hqd
          obtain ⟨r1, r2⟩ := hre ht
          by_cases hji : j < i
          · obtain ⟨e, he, hbd, hon⟩ := hedge o j (r1 hji)
            have hlj : l[j]? = some true := by rw [← hon]; exact hed e he hbd
            rw [he1 j q t hlj hq hqd, q2 j q t hji hq hqd]
          · have hij : i < j := by omega
            obtain ⟨e, he, hbd, hon⟩ := hedge q i (r2 hij)
            have hnl : l[j]? ≠ some true := fun hlj => by
              have := hcl j q hlj hq e he hbd
              rw [hon, hf] at this
              cases this
            have uniq : ∀ (k : Nat) (p : Oper), ops[k]? = some p → p.dst = some t → k = j := by
              intro k p hp hpd
              by_cases e : k = j
              · exact e
              · exact absurd hqd (hpair j q k p t hq hp e hpd).1
            rw [he2 t fun k p hk hp hpd => hnl (by rw [← uniq k p hp hpd]; exact hk), q1 t fun k p hk hp hpd => by have := uniq k p hp hpd; omega]
        · have hno : ∀ (k : Nat) (p : Oper), ops[k]? = some p → p.dst = some t → k = i := fun k p hp hpd => by
            by_cases e : k = i
            · exact e
            · exact absurd ⟨k, p, e, hp, hpd⟩ hw
          have z1 : L.get t = st.get t := he2 t fun k p hk hp hpd => by rw [hno k p hp hpd, hf] at hk; cases hk
          have z2 : (s i).get t = st.get t := q1 t fun k p hk hp hpd => by have := hno k p hp hpd; omega
          rw [z1, z2]
      obtain ⟨ck, hstep, hck⟩ := hst i o ho
      have hcount := unl_set l i hf
      have hset : ∀ (k : Nat), (l.setIfInBounds i true)[k]? = some true ↔ (k = i ∨ l[k]? = some true) := by
        intro k
        rw [Array.getElem?_setIfInBounds]
        by_cases e : i = k
        · subst e; simp [show i < l.size by omega]
        · rw [if_neg e]
          constructor
          · exact .inr
          · rintro (h | h)
            · exact absurd h.symm e
            · exact h
      -- what is done next
      have fin : ∀ (tv : TV) (bx : Store) (n' : Nat), s (i + 1) = (({ s i with boxes := (s (i + 1)).boxes, next := (s (i + 1)).next } : SSt)).put o.dst tv → stepF P N ops L o (D.lookup i) = some ((({ L with boxes := bx, next := n' } : SSt)).put o.dst tv, ck) →
          (∃ m, m ≤ ops.size ∧ (m = 0 ∨ effB ops D (m - 1) = true) ∧ (∀ j, j < m → effB ops D j = true → (l.setIfInBounds i true)[j]? = some true) ∧ (∀ j, m ≤ j → effB ops D j = true → (l.setIfInBounds i true)[j]? ≠ some true) ∧ bx = (s m).boxes ∧ n' = (s m).next) →
          wpOp P ops (fun e a' w' => ∃ st' β', InvC N C β' st' a' w' ∧ Q e st') i (wpAny P .any ops (fun e a' w' => ∃ st' β', InvC N C β' st' a' w' ∧ Q e st') fuel (l.setIfInBounds i true)) a w := by
        intro tv bx n' hS hL hmx
        have hs := step_ok (R := fun e a' w' => ∃ st' β', InvC N C β' st' a' w' ∧ Q e st') hL hck hi (K := wpAny P .any ops (fun e a' w' => ∃ st' β', InvC N C β' st' a' w' ∧ Q e st') fuel (l.setIfInBounds i true)) (fun a' w' β' hi' _ _ => by
          refine ih _ _ β' a' w' (by simp [hl]) (by omega) ?_ ?_ ?_ ?_ hi'
          · intro k p hk hp e he hbd
            refine (hset _).2 (.inr ?_)
            rcases (hset k).1 hk with rfl | hk
            · rw [ho] at hp
              obtain rfl := Option.some.inj hp
              exact hed e he hbd
            · exact hcl k p hk hp e he hbd
          · intro k p t hk hp hpd
            rcases (hset k).1 hk with rfl | hk
            · rw [ho] at hp
              obtain rfl := Option.some.inj hp
              rw [hS, hpd, SSt.get_put, SSt.get_put, if_pos rfl, if_pos rfl]
            · have hne : k ≠ i := fun e => by rw [e, hf] at hk; cases hk
              have hod := (hpair i o k p t ho hp hne hpd).1
              have e0 := he1 k p t hk hp hpd
              rw [← e0]
              cases hdd : o.dst with
              | none => rfl
              | some d => rw [SSt.get_put, if_neg (fun e => hod (by rw [hdd, e]))]; rfl
          · intro t hno
            have hod := hno i o ((hset i).2 (.inl rfl)) ho
            rw [← he2 t fun k p hk hp => hno k p ((hset k).2 (.inr hk)) hp]
            cases hdd : o.dst with
            | none => rfl
            | some d => rw [SSt.get_put, if_neg (fun e => hod (by rw [hdd, e]))]; rfl
          · obtain ⟨m', a1, a2, a3, a4, a5, a6⟩ := hmx
            exact ⟨m', a1, a2, a3, a4, by rw [SSt.put_boxes]; exact a5, by rw [SSt.put_next]; exact a6⟩)
        unfold wpOp
        rw [ho]
        dsimp only
        by_cases hw : Region.wanted o (yielded ops a.tmps) = true
        · rw [if_pos hw] at hs ⊢
          exact .inl hs
        · rw [if_neg hw] at hs ⊢
          exact hs
      cases hv : valB o (D.lookup i) with
      | true =>
        obtain ⟨tv, hS, hL⟩ := step_val hv hstep
        have hne : effB ops D i = false := by unfold effB; rw [ho]; simp [hv]
        obtain ⟨v1, v2⟩ := hvalm i hlt hne
        refine fin tv L.boxes L.next (by rw [v1, v2]; exact hS) (hL L ⟨henv, fun id hid => ?_⟩) ⟨m, hm1, hm0, fun j hj he => (hset j).2 (.inr (hm2 j hj he)), fun j hj he hk => ?_, hm4, hm5⟩
        · rw [hm4]
          by_cases hno : m ≤ i ∧ ∀ j, m ≤ j → j < i → effB ops D j = false
          · have := (hsame (i - m) m (by omega) fun j a b => hno.2 j a (by omega)).1
            rw [show m + (i - m) = i by omega] at this
            rw [this]
          refine hread i o ho hv id hid m hm1 ?_
          unfold possB
          rw [Bool.and_eq_true]
          rw [Bool.and_eq_true]
          refine ⟨⟨by rcases hm0 with h | h <;> simp [h], ?_⟩, List.all_eq_true.2 fun j hj => ?_⟩
          · rw [Bool.or_eq_true, decide_eq_true_eq, List.any_eq_true]
            by_cases hlt2 : i < m
            · exact .inl hlt2
            · right
              have hex : ∃ j, m ≤ j ∧ j < i ∧ effB ops D j = true := by
                refine Classical.byContradiction fun hc => hno ⟨by omega, fun j a b => ?_⟩
                cases h : effB ops D j with
                | false => rfl
                | true => exact absurd ⟨j, a, b, h⟩ hc
              obtain ⟨j, a, b, h⟩ := hex
              exact ⟨j, List.mem_range.2 b, by simp [a, h]⟩
          have hjl := List.mem_range.1 hj
          obtain ⟨q, hq⟩ := hop j hjl
          rw [hq]
          dsimp only
          rw [Bool.or_eq_true]
          cases hqv : valB q (D.lookup j) with
          | true => exact .inl rfl
          | false =>
            right
            have hej := heff' j q hq hqv
            by_cases hjm : j < m
            · rw [if_pos hjm, Bool.not_eq_true']
              cases hE : edgeB q i with
              | false => rfl
              | true =>
                obtain ⟨e, he, hb, hon⟩ := hedge q i hE
                have := hcl j q (hm2 j hjm hej) hq e he hb
                rw [hon, hf] at this
                cases this
            · rw [if_neg hjm, Bool.not_eq_true']
              cases hE : edgeB o j with
              | false => rfl
              | true =>
                obtain ⟨e, he, hb, hon⟩ := hedge o j hE
                have := hed e he hb
                rw [hon] at this
                exact absurd this (hm3 j (by omega) hej)
        · rcases (hset j).1 hk with rfl | hk
          · rw [hne] at he; cases he
          · exact hm3 j hj he hk
      | false =>
        obtain ⟨tv, bx, n', hS, hL⟩ := step_eff hstep
        have hei := heff' i o ho hv
        have hmi : m ≤ i := by
          refine Nat.le_of_not_lt fun h => ?_
          have := hm2 i h hei
          rw [hf] at this
          cases this
        have hbelow : ∀ j, j < i → effB ops D j = true → l[j]? = some true := fun j hj he => hchain l hcl (i - j) i j (Nat.le_refl _) hj hei he fun o' ho' => by
          rw [ho] at ho'
          obtain rfl := Option.some.inj ho'
          exact hed
        obtain ⟨f1, f2⟩ := hsame (i - m) m (by omega) fun j a b => by
          cases h : effB ops D j with
          | false => rfl
          | true => exact absurd (hbelow j (by omega) h) (hm3 j a h)
        rw [show m + (i - m) = i by omega] at f1 f2
        have g1 : (s (i + 1)).boxes = bx := by rw [hS, SSt.put_boxes]
        have g2 : (s (i + 1)).next = n' := by rw [hS, SSt.put_next]
        have hab : L.boxes = (s i).boxes := hm4.trans f1.symm
        have han : L.next = (s i).next := hm5.trans f2.symm
        refine fin tv bx n' (by rw [g1, g2]; exact hS) (hL L ⟨henv, fun id _ => by rw [hab]⟩ hab han) ⟨i + 1, by omega, .inr (by simpa using hei), fun j hj he => (hset j).2 ?_, fun j hj he hk => ?_, g1.symm, g2.symm⟩
        · by_cases e : j = i
          · exact .inl e
          · exact .inr (hbelow j (by omega) he)
        · rcases (hset j).1 hk with rfl | hk
          · omega
          · exact hm3 j (by omega) he hk
theorem SW.draw {id : Nat} {st : SSt} (D : List (Nat × Ans)) (s : Nat → SSt) (hm : P.follows .mixedOrders = true) (hd : drawOk ops D = true) (hs0 : s 0 = st)
    (hst : ∀ (k : Nat) (o : Oper), ops[k]? = some o → ∃ ck, stepF P N ops (s k) o (D.lookup k) = some (s (k + 1), ck) ∧ ∀ q ∈ ck, q.ok P)
    (hread : ∀ (i : Nat) (o : Oper), ops[i]? = some o → valB o (D.lookup i) = true → ∀ id, (s i).reads o = some id → ∀ m, m ≤ ops.size → possB ops D i o m = true → (s m).boxes.lookup id = (s i).boxes.lookup id) (h : Q .normal (s ops.size)) :
    SW P N C (.region id ops true) Q st := fun β a w hi => by
  refine wp_region_any hm ?_
  have hfalse : ∀ (i : Nat), (Array.replicate ops.size false)[i]? ≠ some true := by
    intro i h
    rw [Array.getElem?_replicate] at h
    split at h <;> cases h
  exact draw_any (D := D) hd hs0 rfl hst hread h ops.size (Array.replicate ops.size false) st β a _ (by simp) (by simp) (fun i o hi => absurd hi (hfalse i)) (fun i o t hi => absurd hi (hfalse i)) (fun t _ => rfl)
    ⟨0, Nat.zero_le _, .inl rfl, fun j hj => by omega, fun j _ _ => hfalse j, by rw [hs0], by rw [hs0]⟩ hi.drew
end
end Go.Proofs.YtbljhngekhgbbaaGreat
namespace Go.Proofs.YtbljhngekhgbbaaGreat
open Go.RowKit
set_option linter.unusedVariables false
set_option linter.unusedSectionVars false
set_option linter.unusedSimpArgs false
def litSame : Value → Value → Bool
  | .bool a, .bool b => a == b
  | .int k a, .int l b => k == l && a == b
  | .string a, .string b => a.data.toList == b.data.toList
  | .pointer none, .pointer none => true
  | .nilFunc, .nilFunc => true
  | .nilIface, .nilIface => true
  | .map none, .map none => true
  | _, _ => false
mutual
def PV.same : PV → PV → Bool
  | .lit a, .lit b => litSame a b
  | .sl x a, .sl y b => x == y && PV.sameR a b
  | .ptr a m, .ptr b n => PV.sames a b && m == n
  | .box i m, .box j n => i == j && m == n
  | .osl i m k, .osl j n l => i == j && m == n && k == l
  | .elp i m k, .elp j n l => i == j && m == n && k == l
  | _, _ => false
def PV.sames : List PV → List PV → Bool
  | [], [] => true
  | x :: xs, y :: ys => PV.same x y && PV.sames xs ys
  | _, _ => false
def PV.sameR : List (List PV) → List (List PV) → Bool
  | [], [] => true
  | x :: xs, y :: ys => PV.sames x y && PV.sameR xs ys
  | _, _ => false
end
theorem litSame_eq {a b : Value} (h : litSame a b = true) : a = b := by
  unfold litSame at h
  split at h
  · simp at h; rw [h]
  · simp at h; rw [h.1, h.2]
  · rename_i a b
    have : a.data.toList = b.data.toList := by simpa using h
    have : a.data = b.data := Array.ext' this
    cases a; cases b; simp_all
  · rfl
  · rfl
  · rfl
  · rfl
  · cases h
mutual
theorem PV.same_eq : ∀ {p q : PV}, PV.same p q = true → p = q
  | .lit a, q, h => by
    cases q <;> simp only [PV.same, Bool.false_eq_true] at h
    rw [litSame_eq h]
  | .sl x a, q, h => by
    cases q <;> simp only [PV.same, Bool.false_eq_true, Bool.and_eq_true, beq_iff_eq] at h
    rw [h.1, PV.sameR_eq h.2]
  | .ptr a m, q, h => by
    cases q <;> simp only [PV.same, Bool.false_eq_true, Bool.and_eq_true, beq_iff_eq] at h
    rw [h.2, PV.sames_eq h.1]
  | .box i m, q, h => by
    cases q <;> simp only [PV.same, Bool.false_eq_true, Bool.and_eq_true, beq_iff_eq] at h
    rw [h.1, h.2]
  | .osl i m k, q, h => by
    cases q <;> simp only [PV.same, Bool.false_eq_true, Bool.and_eq_true, beq_iff_eq] at h
    rw [h.1.1, h.1.2, h.2]
  | .elp i m k, q, h => by
    cases q <;> simp only [PV.same, Bool.false_eq_true, Bool.and_eq_true, beq_iff_eq] at h
    rw [h.1.1, h.1.2, h.2]
  | .clo _ _ _, q, h => by cases q <;> simp only [PV.same, Bool.false_eq_true] at h
  | .dat _ _, q, h => by cases q <;> simp only [PV.same, Bool.false_eq_true] at h
theorem PV.sames_eq : ∀ {p q : List PV}, PV.sames p q = true → p = q
  | [], q, h => by cases q <;> simp only [PV.sames, Bool.false_eq_true] at h; rfl
  | x :: xs, q, h => by
    cases q <;> simp only [PV.sames, Bool.false_eq_true, Bool.and_eq_true] at h
    rw [PV.same_eq h.1, PV.sames_eq h.2]
theorem PV.sameR_eq : ∀ {p q : List (List PV)}, PV.sameR p q = true → p = q
  | [], q, h => by cases q <;> simp only [PV.sameR, Bool.false_eq_true] at h; rfl
  | x :: xs, q, h => by
    cases q <;> simp only [PV.sameR, Bool.false_eq_true, Bool.and_eq_true] at h
    rw [PV.sames_eq h.1, PV.sameR_eq h.2]
end
def rowSame : Option Row → Option Row → Bool
  | some (.var a), some (.var b) => PV.sames a b
  | some (.own e k a), some (.own f l b) => e == f && k == l && PV.sameR a b
  | none, none => true
  | _, _ => false
theorem rowSame_eq {a b : Option Row} (h : rowSame a b = true) : a = b := by
  unfold rowSame at h
  split at h
  · rw [PV.sames_eq h]
  · simp only [Bool.and_eq_true, beq_iff_eq] at h
    rw [h.1.1, h.1.2, PV.sameR_eq h.2]
  · rfl
  · cases h
def evOpsD (P : Program) (F : CallF) (N : Nat) (ops : Array Oper) : List Oper → Nat → SSt → Option (SSt × List SSt × List (Nat × Ans))
  | [], _, st => some (st, [st], [])
  | o :: rest, i, st => (evStepD P F N ops st o).bind fun s => (evOpsD P F N ops rest (i + 1) s.1).map fun q => (q.1, st :: q.2.1, match s.2 with
    | some c => (i, c) :: q.2.2
    | none => q.2.2)
/-- operation j leaves row id as it is -/
def awayL (S : SSt) (o : Oper) (id : Nat) : Bool := match o.op with
  | .call { callee := .builtin .append, args := args, argTypes := _ } => match args.toList with
    | [s, _] => !(id == S.next) && match idOf (S.eval s) with
      | some b => b != id
      | none => true
    | _ => false
  | _ => false
def awayB (ops : Array Oper) (D : List (Nat × Ans)) (l : List SSt) (id j : Nat) : Bool := !effB ops D j || match ops[j]?, l[j]? with
  | some o, some S => match D.lookup j with
    | none => (match o.op with
      | .store _ x _ => (match idOf (S.eval x) with
        | some b => b != id
        | none => false)
      | .alloc _ => !(id == S.next)
      | .box _ _ => !(id == S.next)
      | _ => false)
    | some .lst => awayL S o id
    | _ => false
  | _, _ => false
def keptB (ops : Array Oper) (D : List (Nat × Ans)) (l : List SSt) (id a b : Nat) : Bool := (List.range ops.size).all fun j => Nat.blt j a || Nat.ble b j || awayB ops D l id j
def readsOk (ops : Array Oper) (D : List (Nat × Ans)) (l : List SSt) : Bool := (List.range ops.size).all fun i => match ops[i]?, l[i]? with
  | some o, some S => match S.reads o with
    | none => true
    | some id => (List.range (ops.size + 1)).all fun m => !possB ops D i o m || (if i ≤ m then keptB ops D l id i m else keptB ops D l id m i) || match l[m]? with
      | some T => rowSame (T.boxes.lookup id) (S.boxes.lookup id)
      | none => false
  | _, _ => false
section
variable {P : Program} {F : CallF} {N n : Nat} {C : Ctx} {ops : Array Oper} {Q : Exit → SSt → Prop}
theorem evOpsD_ok (hF : FOk P F) : ∀ {rest : List Oper} {i : Nat} {st sn : SSt} {l : List SSt} {D : List (Nat × Ans)}, evOpsD P F N ops rest i st = some (sn, l, D) →
    l.length = rest.length + 1 ∧ l[0]? = some st ∧ l[rest.length]? = some sn ∧ (∀ k v, (k, v) ∈ D → i ≤ k) ∧ ∀ k o, rest[k]? = some o → ∃ s s', l[k]? = some s ∧ l[k + 1]? = some s' ∧ ∃ ck, stepF P N ops s o (D.lookup (i + k)) = some (s', ck) ∧ ∀ q ∈ ck, q.ok P
  | [], i, st, sn, l, D, e => by
    simp only [evOpsD, Option.some.injEq, Prod.mk.injEq] at e
    obtain ⟨rfl, rfl, rfl⟩ := e
    exact ⟨rfl, rfl, rfl, fun k v h => by simp at h, fun k o h => by simp at h⟩
  | o :: rest, i, st, sn, l, D, e => by
    simp only [evOpsD, Option.bind_eq_some_iff, Option.map_eq_some_iff, Prod.mk.injEq] at e
    obtain ⟨s, hs, ⟨sn', l', D'⟩, hq, rfl, rfl, hD⟩ := e
    dsimp only at hD
    obtain ⟨a1, a2, a3, a4, a5⟩ := evOpsD_ok hF hq
    obtain ⟨ck, c1, c2⟩ := evStepD_ok hF hs
    have hlk0 : D'.lookup i = none := by
      have : ∀ (C' : List (Nat × Ans)), (∀ k v, (k, v) ∈ C' → i + 1 ≤ k) → C'.lookup i = none := by
        intro C'
        induction C' with
        | nil => intro _; rfl
        | cons x C' ihC =>
          intro hx
          obtain ⟨k, v⟩ := x
          rw [List.lookup_cons]
          have h1 := hx k v (by simp)
          have : (i == k) = false := by simp; omega
          rw [this]
          exact ihC fun k v h => hx k v (by simp [h])
      exact this D' a4
    have hlook : D.lookup i = s.2 ∧ ∀ k, D.lookup (i + 1 + k) = D'.lookup (i + 1 + k) := by
      cases h2 : s.2 with
      | none => rw [h2] at hD; subst hD; exact ⟨hlk0, fun k => rfl⟩
      | some c =>
        rw [h2] at hD
        subst hD
        refine ⟨by rw [List.lookup_cons]; simp, fun k => ?_⟩
        rw [List.lookup_cons]
        have : (i + 1 + k == i) = false := by simp; omega
        rw [this]
    refine ⟨by simp [a1], rfl, by simpa using a3, fun k v h => ?_, fun k p hp => ?_⟩
    · have : (k, v) ∈ D' ∨ k = i := by
        cases h2 : s.2 with
        | none => rw [h2] at hD; subst hD; exact .inl h
        | some c =>
          rw [h2] at hD
          subst hD
          rcases List.mem_cons.1 h with e | h
          · exact .inr (Prod.mk.inj e).1
          · exact .inl h
      rcases this with h | h
      · have := a4 k v h; omega
      · omega
    · cases k with
      | zero =>
        simp at hp
        subst hp
        refine ⟨st, s.1, rfl, by simpa using a2, ck, ?_, c2⟩
        rw [Nat.add_zero, hlook.1]
        exact c1
      | succ k =>
        obtain ⟨t, t', b1, b2, b3⟩ := a5 k p (by simpa using hp)
        refine ⟨t, t', by simpa using b1, by simpa using b2, ?_⟩
        rw [show i + (k + 1) = i + 1 + k by omega, hlook.2]
        exact b3
theorem away_step {S S' : SSt} {o : Oper} {ck : List Ask1} {b id : Nat} {t : TypeId} {x y : Operand} (ho : o.op = .store t x y) (hb : idOf (S.eval x) = some b) (hne : b ≠ id) (e : stepF P N ops S o none = some (S', ck)) : S'.boxes.lookup id = S.boxes.lookup id := by
  have hM : ∀ (T : SSt) (tv : TV) (σ' : Store) (n' : Nat), T.boxes.lookup id = S.boxes.lookup id → idOf (T.eval x) = some b → sopM P T o = some (tv, σ', n') → σ'.lookup id = S.boxes.lookup id := by
    intro T tv σ' n' hT hTb h
    obtain ⟨dst, op, ty, pos, after, guard⟩ := o
    simp only at ho
    subst ho
    unfold sopM at h
    dsimp only at h
    obtain ⟨v, hv, h⟩ := Option.bind_eq_some_iff.1 h
    obtain ⟨cs, hcs, h⟩ := Option.bind_eq_some_iff.1 h
    split at h
    rotate_left
    · cases h
    have fin : ∀ (b' : Nat) (row : Row), b' = b → σ' = Store.set T.boxes b' row → σ'.lookup id = S.boxes.lookup id := by
      rintro b' row rfl rfl
      rw [lookup_set, if_neg (fun e => hne e.symm), hT]
    split at h
    · rename_i b' off hx
      rw [hx] at hTb
      split at h
      · split at h
        · simp only [Option.some.injEq, Prod.mk.injEq] at h
          exact fin b' _ (Option.some.inj hTb) h.2.1.symm
        · cases h
      · cases h
    · rename_i b' i off hx
      rw [hx] at hTb
      split at h
      · obtain ⟨r, hr, h⟩ := Option.bind_eq_some_iff.1 h
        split at h
        · simp only [Option.some.injEq, Prod.mk.injEq] at h
          exact fin b' _ (Option.some.inj hTb) h.2.1.symm
        · cases h
      · cases h
    · cases h
  have hW : sopW P S o = none := by
    obtain ⟨dst, op, ty, pos, after, guard⟩ := o
    simp only at ho
    subst ho
    rfl
  have hcal : S.callee o = none := by
    obtain ⟨dst, op, ty, pos, after, guard⟩ := o
    simp only at ho
    subst ho
    rfl
  have hE : sopE P S o = none := by
    obtain ⟨dst, op, ty, pos, after, guard⟩ := o
    simp only at ho
    subst ho
    rfl
  unfold stepF at e
  split at e
  · split at e
    · obtain ⟨rfl, rfl⟩ := Prod.mk.inj (Option.some.inj e)
      rw [SSt.put_boxes]
    · simp only at e
      rw [hW] at e
      dsimp only at e
      split at e
      · rename_i tv bx n' hm
        obtain ⟨rfl, rfl⟩ := Prod.mk.inj (Option.some.inj e)
        rw [SSt.put_boxes]
        exact hM S _ _ _ rfl hb hm
      · rw [hE] at e
        cases e
    · cases e
  · cases e
theorem away_lst {S S' : SSt} {o : Oper} {ck : List Ask1} {id : Nat} (h : awayL S o id = true) (e : stepF P N ops S o (some .lst) = some (S', ck)) : S'.boxes.lookup id = S.boxes.lookup id := by
  unfold stepF at e
  split at e
  rotate_left
  · cases e
  split at e
  · obtain ⟨rfl, rfl⟩ := Prod.mk.inj (Option.some.inj e)
    rw [SSt.put_boxes]
  · obtain ⟨⟨tv, bx, n'⟩, hm, e⟩ := Option.map_eq_some_iff.1 e
    obtain ⟨rfl, rfl⟩ := Prod.mk.inj e
    rw [SSt.put_boxes]
    show bx.lookup id = S.boxes.lookup id
    unfold sopL1 at hm
    split at hm
    rotate_left
    · cases hm
    rename_i q hq
    obtain rfl := Option.some.inj hm
    obtain ⟨dst, op, ty, pos, after, guard⟩ := o
    unfold sopL at hq
    unfold awayL at h
    dsimp only at hq h
    split at hq
    rotate_left
    · cases hq
    rename_i args ts
    dsimp only at h
    split at hq
    rotate_left
    · cases hq
    rename_i s x t t' h1 h2
    rw [h1] at h
    simp only [Bool.and_eq_true, Bool.not_eq_true', beq_eq_false_iff_ne] at h
    obtain ⟨hne, hid⟩ := h
    split at hq
    rotate_left
    · cases hq
    split at hq
    rotate_left
    · cases hq
    obtain ⟨el, -, hq⟩ := Option.bind_eq_some_iff.1 hq
    obtain ⟨by_, -, hq⟩ := Option.bind_eq_some_iff.1 hq
    split at hq
    rotate_left
    · cases hq
    obtain ⟨⟨c, d, l⟩, hd, hq⟩ := Option.bind_eq_some_iff.1 hq
    obtain ⟨ys, -, hq⟩ := Option.map_eq_some_iff.1 hq
    simp only [Prod.mk.injEq] at hq
    obtain ⟨-, -, rfl, -⟩ := hq
    have e1 : (id == S.next) = false := by simpa using hne
    rw [List.lookup_cons, e1]
    dsimp only
    cases d with
    | none => rfl
    | some b =>
      have hb : idOf (S.eval s) = some b := by
        unfold SSt.dstL at hd
        split at hd
        · cases hd
        · rename_i b0 m hs
          rw [hs]
          split at hd
          · split at hd
            · split at hd
              · simp only [Option.some.injEq, Prod.mk.injEq] at hd
                obtain ⟨-, rfl, -⟩ := hd
                rfl
              · cases hd
            · cases hd
          · split at hd
            · obtain ⟨l', -, hd⟩ := Option.map_eq_some_iff.1 hd
              simp only [Prod.mk.injEq, Option.some.injEq] at hd
              obtain ⟨-, rfl, -⟩ := hd
              rfl
            · cases hd
          · cases hd
        · cases hd
      rw [hb] at hid
      have hbi : b ≠ id := by simpa using hid
      show (Store.rm S.boxes b).lookup id = _
      rw [lookup_rm, if_neg (fun h => hbi h.symm)]
  · cases e
theorem away_new {S S' : SSt} {o : Oper} {ck : List Ask1} {id : Nat} (hop : (∃ e, o.op = .alloc e) ∨ ∃ e x, o.op = .box e x) (hid : id ≠ S.next) (e : stepF P N ops S o none = some (S', ck)) : S'.boxes.lookup id = S.boxes.lookup id := by
  have hE : sopE P S o = none := by
    rcases hop with ⟨t, h⟩ | ⟨t, x, h⟩ <;> simp only [sopE, sopA, sopC, sopS, h]
  have hlk : ∀ (row : Row), List.lookup id ((S.next, row) :: S.boxes) = S.boxes.lookup id := fun row => by
    have : (id == S.next) = false := by simpa using hid
    rw [List.lookup_cons, this]
  unfold stepF at e
  split at e
  rotate_left
  · cases e
  split at e
  · cases e
    rw [SSt.put_boxes]
  · dsimp only at e
    split at e
    · cases e
      rw [SSt.put_boxes]
    · split at e
      · rename_i tv bx n' hm
        cases e
        rw [SSt.put_boxes]
        show bx.lookup id = _
        unfold sopM at hm
        rcases hop with ⟨t, h⟩ | ⟨t, x, h⟩
        · rw [h] at hm
          obtain ⟨z, _, hm⟩ := Option.map_eq_some_iff.1 hm
          cases hm
          exact hlk _
        · rw [h] at hm
          obtain ⟨v, _, hm⟩ := Option.bind_eq_some_iff.1 hm
          obtain ⟨cs, _, hm⟩ := Option.map_eq_some_iff.1 hm
          cases hm
          exact hlk _
      · rw [hE] at e
        cases e
  · cases e
/-- row id is as it was, from state a to state b -/
theorem kept_ok {l : List SSt} {D : List (Nat × Ans)} {id : Nat} (hst : ∀ k o, ops[k]? = some o → ∃ s s', l[k]? = some s ∧ l[k + 1]? = some s' ∧ ∃ ck, stepF P N ops s o (D.lookup k) = some (s', ck)) {a b : Nat} (hb : b ≤ ops.size) (h : keptB ops D l id a b = true) :
    ∀ n, a + n ≤ b → ∀ S T, l[a]? = some S → l[a + n]? = some T → T.boxes.lookup id = S.boxes.lookup id := by
  intro n
  induction n with
  | zero => intro _ S T hS hT; rw [Nat.add_zero, hS] at hT; obtain rfl := Option.some.inj hT; rfl
  | succ n ih =>
    intro hn S T hS hT
    have hlt : a + n < ops.size := by omega
    obtain ⟨o, ho⟩ : ∃ o : Oper, ops[a + n]? = some o := ⟨_, Array.getElem?_eq_getElem hlt⟩
    obtain ⟨s, s', h1, h2, ck, h3⟩ := hst (a + n) o ho
    rw [Nat.add_assoc] at h2
    rw [hT] at h2
    obtain rfl := Option.some.inj h2
    rw [← ih (by omega) S s hS h1]
    have hk := List.all_eq_true.1 h (a + n) (List.mem_range.2 hlt)
    have e1 : Nat.blt (a + n) a = false := by
      rw [Bool.eq_false_iff]; intro h; have : a + n < a := by simpa using h
      omega
    have e2 : Nat.ble b (a + n) = false := by
      rw [Bool.eq_false_iff]; intro h; have := Nat.le_of_ble_eq_true h
      omega
    rw [e1, e2, Bool.false_or, Bool.false_or] at hk
    unfold awayB at hk
    cases he : effB ops D (a + n) with
    | false =>
      have hv : valB o (D.lookup (a + n)) = true := by
        unfold effB at he
        rw [ho] at he
        simpa using he
      obtain ⟨tv, h4, _⟩ := step_val hv h3
      rw [h4, SSt.put_boxes]
    | true =>
      rw [he, ho, h1] at hk
      simp only [Bool.not_true, Bool.false_or] at hk
      split at hk
      · rename_i hd
        rw [hd] at h3
        split at hk
        · rename_i t x y hop
          split at hk
          · rename_i b' hb'
            exact away_step hop hb' (by simpa using hk) h3
          · cases hk
        · rename_i t hop
          exact away_new (.inl ⟨_, hop⟩) (by simpa using hk) h3
        · rename_i t x hop
          exact away_new (.inr ⟨_, _, hop⟩) (by simpa using hk) h3
        · cases hk
      · rename_i hd
        rw [hd] at h3
        exact away_lst hk h3
      · cases hk
theorem SW.evd (hF : FOk P F) {id : Nat} {st sn : SSt} {l : List SSt} {D : List (Nat × Ans)} (hm : P.follows .mixedOrders = true) (e : evOpsD P F N ops ops.toList 0 st = some (sn, l, D)) (hd : drawOk ops D = true) (hr : readsOk ops D l = true) (h : Q .normal sn) :
    SW P N C (.region id ops true) Q st := by
  obtain ⟨a1, a2, a3, a4, a5⟩ := evOpsD_ok hF e
  have hget : ∀ k t, l[k]? = some t → l.getD k st = t := fun k t h => by rw [List.getD_eq_getElem?_getD, h]; rfl
  refine SW.draw D (fun k => l.getD k st) hm hd (hget 0 st a2) (fun k o ho => ?_) (fun i o ho hv id hid m hmm hp => ?_) (by rw [Array.length_toList] at a3; rw [hget _ _ a3]; exact h)
  · obtain ⟨s, s', b1, b2, b3⟩ := a5 k o (by rw [Array.getElem?_toList]; exact ho)
    rw [hget _ _ b1, hget _ _ b2]
    rw [Nat.zero_add] at b3
    exact b3
  · have hi := (Array.getElem?_eq_some_iff.1 ho).1
    have hlt : ∀ k, k ≤ ops.size → ∃ t, l[k]? = some t := fun k hk => ⟨_, List.getElem?_eq_getElem (by rw [a1, Array.length_toList]; omega)⟩
    obtain ⟨S, hS⟩ := hlt i (by omega)
    obtain ⟨T, hT⟩ := hlt m hmm
    rw [hget _ _ hS] at hid ⊢
    rw [hget _ _ hT]
    have h1 := List.all_eq_true.1 hr i (List.mem_range.2 hi)
    rw [ho, hS] at h1
    dsimp only at h1
    rw [hid] at h1
    dsimp only at h1
    have h2 := List.all_eq_true.1 h1 m (List.mem_range.2 (by omega))
    rw [hp, hT] at h2
    simp only [Bool.not_true, Bool.false_or, Bool.or_eq_true] at h2
    have hst' : ∀ k o, ops[k]? = some o → ∃ s s', l[k]? = some s ∧ l[k + 1]? = some s' ∧ ∃ ck, stepF P N ops s o (D.lookup k) = some (s', ck) := fun k o ho => by
      obtain ⟨s, s', b1, b2, ck, b3, _⟩ := a5 k o (by rw [Array.getElem?_toList]; exact ho)
      rw [Nat.zero_add] at b3
      exact ⟨s, s', b1, b2, ck, b3⟩
    rcases h2 with h2 | h2
    · split at h2
      · rename_i him
        exact kept_ok hst' hmm h2 (m - i) (by omega) S T hS (by rw [show i + (m - i) = m by omega]; exact hT)
      · rename_i him
        exact (kept_ok hst' (Nat.le_of_lt hi) h2 (i - m) (by omega) T S hT (by rw [show m + (i - m) = i by omega]; exact hS)).symm
    · exact rowSame_eq h2
end
end Go.Proofs.YtbljhngekhgbbaaGreat
namespace Go.Proofs.YtbljhngekhgbbaaGreat
open Go.RowKit
set_option linter.unusedVariables false
set_option linter.unusedSectionVars false
set_option linter.unusedSimpArgs false
def drawAtN (ops : Array Oper) (D : List (Nat × Ans)) (ia i : Nat) (o : Oper) : Bool :=
  (o.after.all fun e => !Region.binds .any e || decide (e.on < i)) &&
  (valB o (D.lookup i) || (List.range i).all fun j => !effB ops D j || pathB ops 8 i j || (List.range i).any fun k => decide (j < k) && effB ops D k) &&
  (List.range ia).all fun j => match ops[j]? with
    | none => true
    | some q => j == i || match q.dst with
      | none => true
      | some d => !(o.dst == some d) && (!(o.looksAt ops).contains d || (if j < i then edgeB o j else edgeB q i))
/-- the last but one makes a variable, the last fills it -/
def drawOkA (ops : Array Oper) (D : List (Nat × Ans)) (ia d : Nat) : Bool :=
  (match ops[ia + 1]? with
    | some ol => ops.size == ia + 2 && ol.dst.isNone && (List.range (ia + 1)).all fun j => edgeB ol j
    | none => false) &&
  (List.range ia).all fun i => match ops[i]? with
    | none => true
    | some o => drawAtN ops D ia i o && !(o.dst == some d) && !(o.looksAt ops).contains d
def hide (H : Addr → Prop) (b : Nat) : Addr → Prop := fun p => H p ∧ p.block ≠ b
section
variable {P : Program} {N : Nat} {C : Ctx} {ops : Array Oper} {Q : Exit → SSt → Prop}
/-- what is so when some of the first ia are done -/
structure Jm (ops : Array Oper) (D : List (Nat × Ans)) (ia d : Nat) (s : Nat → SSt) (st : SSt) (l : Array Bool) (L : SSt) : Prop where
  he1 : ∀ (i : Nat) (o : Oper) (t : Nat), i < ia → l[i]? = some true → ops[i]? = some o → o.dst = some t → L.get t = (s (i + 1)).get t
  he2 : ∀ (t : Nat), t ≠ d → (∀ (i : Nat) (o : Oper), i < ia → l[i]? = some true → ops[i]? = some o → o.dst ≠ some t) → L.get t = st.get t
  hm : ∃ m, m ≤ ia ∧ (m = 0 ∨ effB ops D (m - 1) = true) ∧ (∀ j, j < m → effB ops D j = true → l[j]? = some true) ∧ (∀ j, m ≤ j → j < ia → effB ops D j = true → l[j]? ≠ some true) ∧ L.boxes = (s m).boxes ∧ L.next = (s m).next
set_option maxHeartbeats 1000000 in
theorem step_pre {ia d : Nat} {st : SSt} {s : Nat → SSt} {D : List (Nat × Ans)} (hsz : ia ≤ ops.size) (hd : ((List.range ia).all fun i => match ops[i]? with
    | none => true
    | some o => drawAtN ops D ia i o) = true) (hlook : ∀ (i : Nat) (o : Oper), i < ia → ops[i]? = some o → ∀ t ∈ o.looksAt ops, t ≠ d) (hs0 : s 0 = st)
    (hst : ∀ (k : Nat) (o : Oper), k < ia → ops[k]? = some o → ∃ ck, stepF P N ops (s k) o (D.lookup k) = some (s (k + 1), ck) ∧ ∀ q ∈ ck, q.ok P)
    (hread : ∀ (i : Nat) (o : Oper), i < ia → ops[i]? = some o → valB o (D.lookup i) = true → ∀ id, (s i).reads o = some id → ∀ m, m ≤ ia → possB ops D i o m = true → (s m).boxes.lookup id = (s i).boxes.lookup id)
    {l : Array Bool} {L : SSt} (hl : l.size = ops.size) (hcl : ∀ (i : Nat) (o : Oper), l[i]? = some true → ops[i]? = some o → ∀ e ∈ o.after, Region.binds .any e = true → l[e.on]? = some true)
    (hJ : Jm ops D ia d s st l L) {i : Nat} {o : Oper} (hlt : i < ia) (ho : ops[i]? = some o) (hf : l[i]? = some false) (hed : ∀ e ∈ o.after, Region.binds .any e = true → l[e.on]? = some true) :
    ∃ L' ck, stepF P N ops L o (D.lookup i) = some (L', ck) ∧ (∀ q ∈ ck, q.ok P) ∧ Jm ops D ia d s st (l.setIfInBounds i true) L' := by
  have hat : ∀ (i : Nat) (o : Oper), i < ia → ops[i]? = some o → drawAtN ops D ia i o = true := by
    intro i o hi ho
    have := List.all_eq_true.1 hd i (List.mem_range.2 hi)
    rw [ho] at this
    exact this
  have hlex : ∀ (i : Nat) (o : Oper), i < ia → ops[i]? = some o → ∀ e ∈ o.after, Region.binds .any e = true → e.on < i := by
    intro i o hi ho e he hb
    have h := hat i o hi ho
    unfold drawAtN at h
    simp only [Bool.and_eq_true] at h
    have := List.all_eq_true.1 (by have := h.1.1; rwa [← Array.all_toList] at this) e (by simpa using he)
    simpa [hb] using this
  have hpair : ∀ (i : Nat) (o : Oper) (j : Nat) (q : Oper) (d : Nat), i < ia → j < ia → ops[i]? = some o → ops[j]? = some q → j ≠ i → q.dst = some d → o.dst ≠ some d ∧ (d ∈ o.looksAt ops → (j < i → edgeB o j = true) ∧ (i < j → edgeB q i = true)) := by
    intro i o j q d hi hj ho hq hne hqd
    have h := hat i o hi ho
    unfold drawAtN at h
    simp only [Bool.and_eq_true] at h
    have h2 := List.all_eq_true.1 h.2 j (List.mem_range.2 hj)
    rw [hq] at h2
    simp only [hqd, Bool.or_eq_true, Bool.and_eq_true, beq_iff_eq, hne, false_or, Bool.not_eq_true', beq_eq_false_iff_ne, ne_eq] at h2
    refine ⟨h2.1, fun hm => ?_⟩
    rcases h2.2 with h3 | h3
    · rw [List.contains_iff_mem.2 hm] at h3; cases h3
    · exact ⟨fun hlt => by rwa [if_pos hlt] at h3, fun hlt => by rwa [if_neg (by omega)] at h3⟩
  have hedge : ∀ (o : Oper) (j : Nat), edgeB o j = true → ∃ e ∈ o.after, Region.binds .any e = true ∧ e.on = j := by
    intro o j h
    unfold edgeB at h
    rw [← Array.any_toList] at h
    obtain ⟨e, he, h2⟩ := List.any_eq_true.1 h
    simp only [Bool.and_eq_true, beq_iff_eq] at h2
    exact ⟨e, by simpa using he, h2.2, h2.1⟩
  have hop : ∀ (k : Nat), k < ia → ∃ o : Oper, ops[k]? = some o := fun k hk => ⟨_, Array.getElem?_eq_getElem (show k < ops.size by omega)⟩
  have heff : ∀ (k : Nat), effB ops D k = true → ∃ o : Oper, ops[k]? = some o ∧ valB o (D.lookup k) = false := by
    intro k hk
    unfold effB at hk
    split at hk
    · cases hk
    · rename_i q hq; exact ⟨q, hq, by simpa using hk⟩
  have heff' : ∀ (k : Nat) (o : Oper), ops[k]? = some o → valB o (D.lookup k) = false → effB ops D k = true := by
    intro k o ho h
    unfold effB
    rw [ho]
    simp [h]
  have hpath : ∀ (l : Array Bool), (∀ (i : Nat) (o : Oper), l[i]? = some true → ops[i]? = some o → ∀ e ∈ o.after, Region.binds .any e = true → l[e.on]? = some true) → ∀ (f i j : Nat), pathB ops f i j = true →
      (∀ (o : Oper), ops[i]? = some o → ∀ e ∈ o.after, Region.binds .any e = true → l[e.on]? = some true) → l[j]? = some true := by
    intro l hcl f
    induction f with
    | zero => intro i j h; simp [pathB] at h
    | succ f ih =>
      intro i j h hed
      simp only [pathB] at h
      split at h
      · cases h
      · rename_i o ho
        rw [Bool.or_eq_true] at h
        rcases h with h | h
        · obtain ⟨e, he, hb, hon⟩ := hedge o j h
          rw [← hon]
          exact hed o ho e he hb
        · rw [← Array.any_toList] at h
          obtain ⟨e, he, h2⟩ := List.any_eq_true.1 h
          simp only [Bool.and_eq_true] at h2
          have hd := hed o ho e (by simpa using he) h2.1.1
          exact ih e.on j h2.2 fun o' ho' => hcl e.on o' hd ho'
  -- those that turn the store come one behind the other
  have hchain : ∀ (l : Array Bool), (∀ (i : Nat) (o : Oper), l[i]? = some true → ops[i]? = some o → ∀ e ∈ o.after, Region.binds .any e = true → l[e.on]? = some true) → ∀ (n i j : Nat), i < ia → i - j ≤ n → j < i → effB ops D i = true → effB ops D j = true →
      (∀ (o : Oper), ops[i]? = some o → ∀ e ∈ o.after, Region.binds .any e = true → l[e.on]? = some true) → l[j]? = some true := by
    intro l hcl n
    induction n with
    | zero => intro i j h0 h1 h2; omega
    | succ n ih =>
      intro i j hia hn hji hei hej hed
      obtain ⟨o, ho, hov⟩ := heff i hei
      have h := hat i o hia ho
      unfold drawAtN at h
      simp only [Bool.and_eq_true, Bool.or_eq_true, hov, Bool.false_eq_true, false_or] at h
      have h2 := List.all_eq_true.1 h.1.2 j (List.mem_range.2 hji)
      simp only [hej, Bool.or_eq_true, Bool.not_true, Bool.false_eq_true, false_or] at h2
      rcases h2 with h2 | h2
      · exact hpath l hcl 8 i j h2 hed
      · obtain ⟨k, hk, h3⟩ := List.any_eq_true.1 h2
        simp only [Bool.and_eq_true, decide_eq_true_eq] at h3
        have hki := List.mem_range.1 hk
        have hlk := ih i k hia (by omega) hki hei h3.2 hed
        exact ih k j (by omega) (by omega) h3.1 h3.2 hej fun o' ho' e he hb => hcl k o' hlk ho' e he hb
  -- the states in their own order
  have hput : ∀ (k : Nat) (o : Oper), k < ia → ops[k]? = some o → ∃ tv bx n', s (k + 1) = (({ s k with boxes := bx, next := n' } : SSt)).put o.dst tv := by
    intro k o hk ho
    obtain ⟨ck, h1, _⟩ := hst k o hk ho
    obtain ⟨tv, bx, n', h2, _⟩ := step_eff h1
    exact ⟨tv, bx, n', h2⟩
  have hget : ∀ (k : Nat) (o : Oper) (t : Nat), k < ia → ops[k]? = some o → o.dst ≠ some t → (s (k + 1)).get t = (s k).get t := by
    intro k o t hk ho hne
    obtain ⟨tv, bx, n', h2⟩ := hput k o hk ho
    rw [h2]
    cases hd : o.dst with
    | none => rfl
    | some d =>
      rw [SSt.get_put, if_neg (fun e => hne (by rw [hd, e]))]
      rfl
  have hvalm : ∀ (k : Nat), k < ia → effB ops D k = false → (s (k + 1)).boxes = (s k).boxes ∧ (s (k + 1)).next = (s k).next := by
    intro k hk hv
    obtain ⟨o, ho⟩ := hop k hk
    obtain ⟨ck, h1, _⟩ := hst k o hk ho
    have : valB o (D.lookup k) = true := by
      cases h : valB o (D.lookup k) with
      | true => rfl
      | false => rw [heff' k o ho h] at hv; cases hv
    obtain ⟨tv, h2, _⟩ := step_val this h1
    rw [h2, SSt.put_boxes, SSt.put_next]
    exact ⟨rfl, rfl⟩
  have hsame : ∀ (d m : Nat), m + d ≤ ia → (∀ j, m ≤ j → j < m + d → effB ops D j = false) → (s (m + d)).boxes = (s m).boxes ∧ (s (m + d)).next = (s m).next := by
    intro d m
    induction d with
    | zero => intro _ _; exact ⟨rfl, rfl⟩
    | succ d ih =>
      intro h1 h2
      obtain ⟨e1, e2⟩ := ih (by omega) fun j a b => h2 j a (by omega)
      obtain ⟨f1, f2⟩ := hvalm (m + d) (by omega) (h2 (m + d) (by omega) (by omega))
      exact ⟨by rw [← e1, ← f1, Nat.add_assoc], by rw [← e2, ← f2, Nat.add_assoc]⟩
  have hseq : ∀ (i : Nat), i ≤ ia → (∀ (t : Nat), (∀ (j : Nat) (o : Oper), j < i → ops[j]? = some o → o.dst ≠ some t) → (s i).get t = st.get t) ∧ (∀ (j : Nat) (o : Oper) (t : Nat), j < i → ops[j]? = some o → o.dst = some t → (s i).get t = (s (j + 1)).get t) := by
    intro i
    induction i with
    | zero => intro _; exact ⟨fun t _ => by rw [hs0], fun j o t hj => by omega⟩
    | succ i ih =>
      intro hi
      obtain ⟨h1, h2⟩ := ih (by omega)
      obtain ⟨o, ho⟩ := hop i (by omega)
      refine ⟨fun t ht => ?_, fun j q t hj hq hqd => ?_⟩
      · rw [hget i o t (by omega) ho (ht i o (by omega) ho)]
        exact h1 t fun j q hj hq => ht j q (by omega) hq
      · by_cases e : j = i
        · subst e; rfl
        · have hne : o.dst ≠ some t := (hpair i o j q t (by omega) (by omega) ho hq e hqd).1
          rw [hget i o t (by omega) ho hne]
          exact h2 j q t (by omega) hq hqd
  obtain ⟨he1, he2, m, hm1, hm0, hm2, hm3, hm4, hm5⟩ := hJ
  obtain ⟨q1, q2⟩ := hseq i (by omega)
  have henv : ∀ t ∈ o.looksAt ops, L.get t = (s i).get t := by
    intro t ht
    have htd := hlook i o hlt ho t ht
    by_cases hw : ∃ (j : Nat) (q : Oper), j < ia ∧ j ≠ i ∧ ops[j]? = some q ∧ q.dst = some t
    · obtain ⟨j, q, hjia, hne, hq, hqd⟩ := hw
      obtain ⟨hod, hre⟩ := hpair i o j q t hlt hjia ho hq hne hqd
      obtain ⟨r1, r2⟩ := hre ht
      by_cases hji : j < i
      · obtain ⟨e, he, hbd, hon⟩ := hedge o j (r1 hji)
        have hlj : l[j]? = some true := by rw [← hon]; exact hed e he hbd
        rw [he1 j q t hjia hlj hq hqd, q2 j q t hji hq hqd]
      · have hij : i < j := by omega
        obtain ⟨e, he, hbd, hon⟩ := hedge q i (r2 hij)
        have hnl : l[j]? ≠ some true := fun hlj => by
          have := hcl j q hlj hq e he hbd
          rw [hon, hf] at this
          cases this
        have uniq : ∀ (k : Nat) (p : Oper), k < ia → ops[k]? = some p → p.dst = some t → k = j := by
          intro k p hk hp hpd
          by_cases e : k = j
          · exact e
          · exact absurd hqd (hpair j q k p t hjia hk hq hp e hpd).1
        rw [he2 t htd fun k p hka hk hp hpd => hnl (by rw [← uniq k p hka hp hpd]; exact hk), q1 t fun k p hk hp hpd => by have := uniq k p (by omega) hp hpd; omega]
    · have hno : ∀ (k : Nat) (p : Oper), k < ia → ops[k]? = some p → p.dst = some t → k = i := fun k p hka hp hpd => by
        by_cases e : k = i
        · exact e
        · exact absurd ⟨k, p, hka, e, hp, hpd⟩ hw
      have z1 : L.get t = st.get t := he2 t htd fun k p hka hk hp hpd => by rw [hno k p hka hp hpd, hf] at hk; cases hk
      have z2 : (s i).get t = st.get t := q1 t fun k p hk hp hpd => by have := hno k p (by omega) hp hpd; omega
      rw [z1, z2]
  obtain ⟨ck, hstep, hck⟩ := hst i o hlt ho
  have hset : ∀ (k : Nat), (l.setIfInBounds i true)[k]? = some true ↔ (k = i ∨ l[k]? = some true) := by
    intro k
    rw [Array.getElem?_setIfInBounds]
    by_cases e : i = k
    · subst e; simp [show i < l.size by omega]
    · rw [if_neg e]
      constructor
      · exact .inr
      · rintro (h | h)
        · exact absurd h.symm e
        · exact h
  have fin : ∀ (tv : TV) (bx : Store) (n' : Nat), s (i + 1) = (({ s i with boxes := (s (i + 1)).boxes, next := (s (i + 1)).next } : SSt)).put o.dst tv → stepF P N ops L o (D.lookup i) = some ((({ L with boxes := bx, next := n' } : SSt)).put o.dst tv, ck) →
      (∃ m, m ≤ ia ∧ (m = 0 ∨ effB ops D (m - 1) = true) ∧ (∀ j, j < m → effB ops D j = true → (l.setIfInBounds i true)[j]? = some true) ∧ (∀ j, m ≤ j → j < ia → effB ops D j = true → (l.setIfInBounds i true)[j]? ≠ some true) ∧ bx = (s m).boxes ∧ n' = (s m).next) →
      ∃ L' ck, stepF P N ops L o (D.lookup i) = some (L', ck) ∧ (∀ q ∈ ck, q.ok P) ∧ Jm ops D ia d s st (l.setIfInBounds i true) L' := by
    intro tv bx n' hS hL hmx
    refine ⟨_, ck, hL, hck, fun k p t hka hk hp hpd => ?_, fun t htd hno => ?_, ?_⟩
    · rcases (hset k).1 hk with rfl | hk
      · rw [ho] at hp
        obtain rfl := Option.some.inj hp
        rw [hS, hpd, SSt.get_put, SSt.get_put, if_pos rfl, if_pos rfl]
      · have hne : k ≠ i := fun e => by rw [e, hf] at hk; cases hk
        have hod := (hpair i o k p t hlt hka ho hp hne hpd).1
        have e0 := he1 k p t hka hk hp hpd
        rw [← e0]
        cases hdd : o.dst with
        | none => rfl
        | some d => rw [SSt.get_put, if_neg (fun e => hod (by rw [hdd, e]))]; rfl
    · have hod := hno i o hlt ((hset i).2 (.inl rfl)) ho
      rw [← he2 t htd fun k p hka hk hp => hno k p hka ((hset k).2 (.inr hk)) hp]
      cases hdd : o.dst with
      | none => rfl
      | some d => rw [SSt.get_put, if_neg (fun e => hod (by rw [hdd, e]))]; rfl
    · obtain ⟨m', a1, a2, a3, a4, a5, a6⟩ := hmx
      exact ⟨m', a1, a2, a3, a4, by rw [SSt.put_boxes]; exact a5, by rw [SSt.put_next]; exact a6⟩
  cases hv : valB o (D.lookup i) with
  | true =>
    obtain ⟨tv, hS, hL⟩ := step_val hv hstep
    have hne : effB ops D i = false := by unfold effB; rw [ho]; simp [hv]
    obtain ⟨v1, v2⟩ := hvalm i hlt hne
    refine fin tv L.boxes L.next (by rw [v1, v2]; exact hS) (hL L ⟨henv, fun id hid => ?_⟩) ⟨m, hm1, hm0, fun j hj he => (hset j).2 (.inr (hm2 j hj he)), fun j hj hja he hk => ?_, hm4, hm5⟩
    · rw [hm4]
      by_cases hno : m ≤ i ∧ ∀ j, m ≤ j → j < i → effB ops D j = false
      · have := (hsame (i - m) m (by omega) fun j a b => hno.2 j a (by omega)).1
        rw [show m + (i - m) = i by omega] at this
        rw [this]
      refine hread i o hlt ho hv id hid m hm1 ?_
      unfold possB
      rw [Bool.and_eq_true]
      rw [Bool.and_eq_true]
      refine ⟨⟨by rcases hm0 with h | h <;> simp [h], ?_⟩, List.all_eq_true.2 fun j hj => ?_⟩
      · rw [Bool.or_eq_true, decide_eq_true_eq, List.any_eq_true]
        by_cases hlt2 : i < m
        · exact .inl hlt2
        · right
          have hex : ∃ j, m ≤ j ∧ j < i ∧ effB ops D j = true := by
            refine Classical.byContradiction fun hc => hno ⟨by omega, fun j a b => ?_⟩
            cases h : effB ops D j with
            | false => rfl
            | true => exact absurd ⟨j, a, b, h⟩ hc
          obtain ⟨j, a, b, h⟩ := hex
          exact ⟨j, List.mem_range.2 b, by simp [a, h]⟩
      have hjl := List.mem_range.1 hj
      obtain ⟨q, hq⟩ : ∃ q : Oper, ops[j]? = some q := ⟨_, Array.getElem?_eq_getElem hjl⟩
      rw [hq]
      dsimp only
      rw [Bool.or_eq_true]
      cases hqv : valB q (D.lookup j) with
      | true => exact .inl rfl
      | false =>
        right
        have hej := heff' j q hq hqv
        by_cases hjm : j < m
        · rw [if_pos hjm, Bool.not_eq_true']
          cases hE : edgeB q i with
          | false => rfl
          | true =>
            obtain ⟨e, he, hb, hon⟩ := hedge q i hE
            have := hcl j q (hm2 j hjm hej) hq e he hb
            rw [hon, hf] at this
            cases this
        · rw [if_neg hjm, Bool.not_eq_true']
          cases hE : edgeB o j with
          | false => rfl
          | true =>
            obtain ⟨e, he, hb, hon⟩ := hedge o j hE
            have := hed e he hb
            rw [hon] at this
            have hei := hlex i o hlt ho e he hb
            exact absurd this (hm3 j (by omega) (by omega) hej)
    · rcases (hset j).1 hk with rfl | hk
      · rw [hne] at he; cases he
      · exact hm3 j hj hja he hk
  | false =>
    obtain ⟨tv, bx, n', hS, hL⟩ := step_eff hstep
    have hei := heff' i o ho hv
    have hmi : m ≤ i := by
      refine Nat.le_of_not_lt fun h => ?_
      have := hm2 i h hei
      rw [hf] at this
      cases this
    have hbelow : ∀ j, j < i → effB ops D j = true → l[j]? = some true := fun j hj he => hchain l hcl (i - j) i j hlt (Nat.le_refl _) hj hei he fun o' ho' => by
      rw [ho] at ho'
      obtain rfl := Option.some.inj ho'
      exact hed
    obtain ⟨f1, f2⟩ := hsame (i - m) m (by omega) fun j a b => by
      cases h : effB ops D j with
      | false => rfl
      | true => exact absurd (hbelow j (by omega) h) (hm3 j a (by omega) h)
    rw [show m + (i - m) = i by omega] at f1 f2
    have g1 : (s (i + 1)).boxes = bx := by rw [hS, SSt.put_boxes]
    have g2 : (s (i + 1)).next = n' := by rw [hS, SSt.put_next]
    have hab : L.boxes = (s i).boxes := hm4.trans f1.symm
    have han : L.next = (s i).next := hm5.trans f2.symm
    refine fin tv bx n' (by rw [g1, g2]; exact hS) (hL L ⟨henv, fun id _ => by rw [hab]⟩ hab han) ⟨i + 1, by omega, .inr (by simpa using hei), fun j hj he => (hset j).2 ?_, fun j hj hja he hk => ?_, g1.symm, g2.symm⟩
    · by_cases e : j = i
      · exact .inl e
      · exact .inr (hbelow j (by omega) he)
    · rcases (hset j).1 hk with rfl | hk
      · omega
      · exact hm3 j (by omega) hja he hk
end
end Go.Proofs.YtbljhngekhgbbaaGreat
namespace Go.Proofs.YtbljhngekhgbbaaGreat
open Go.RowKit
set_option linter.unusedVariables false
set_option linter.unusedSectionVars false
set_option linter.unusedSimpArgs false
section
variable {P : Program} {N : Nat} {C : Ctx} {ops : Array Oper} {Q : Exit → SSt → Prop}
abbrev Ctx.hid (C : Ctx) (b : Nat) : Ctx := { C with H := hide C.H b }
theorem InvC.hideNew {L : SSt} {β : Ids} {a : Act} {w : World} {d : Nat} {us : List Value} {ty : TypeId} {v : Value} (h : InvC N C β L a w) (hd : d < N) :
    InvC N (C.hid w.heap.size) β (L.put (some d) .bad) (a.put (some d) v) (w.alloc (.cells us.toArray ty (0, 0))) := by
  have hbl : ∀ q u, w.cell? q = some u → q.block < w.heap.size := fun q u hq => World.block_lt_of_cell? w q hq
  have hblk : ∀ b, b < w.heap.size → (w.alloc (.cells us.toArray ty (0, 0))).heap[b]? = w.heap[b]? := fun b hb => Below.heap_alloc w _ b hb
  have hext : ExtB (owned β L.boxes) w (w.alloc (.cells us.toArray ty (0, 0))) := ⟨rfl, rfl, rfl, (by show w.heap.size ≤ (w.heap.push _).size; rw [Array.size_push]; exact Nat.le_succ _), fun b hb _ => hblk b hb⟩
  have hk : ∀ q u, w.cell? q = some u → gOf C.H β L.boxes q → (w.alloc (.cells us.toArray ty (0, 0))).cell? q = some u ∧ gOf (hide C.H w.heap.size) β L.boxes q := fun q u hq hg =>
    ⟨by rw [World.cell?_of_block (hblk _ (hbl q u hq))]; exact hq, ⟨hg.1, Nat.ne_of_lt (hbl q u hq)⟩, hg.2⟩
  have hsz : (w.alloc (.cells us.toArray ty (0, 0))).heap.size = w.heap.size + 1 := by show (w.heap.push _).size = _; rw [Array.size_push]
  have h1 : InvC N (C.hid w.heap.size) β L a (w.alloc (.cells us.toArray ty (0, 0))) := by
    obtain ⟨⟨i1, i2, i3, i4, i5, i6⟩, i7, i8⟩ := h
    refine ⟨⟨i1, i2, i3.trans hext i5, ⟨i4.dom, fun id row hr => ?_, i4.inj, fun p hp => ⟨i4.new p (by omega), by omega⟩, fun p hp => ⟨i4.inH p hp, by have := i4.lt hp; omega⟩⟩, i5, fun t tv ht => ?_⟩, i7, i8⟩
    · obtain ⟨O, k1, k2⟩ := i4.row id row hr
      exact ⟨O, k1, k2.turn (fun hz => hblk _ (k2.lt hz)) hk⟩
    · obtain ⟨u, hu, hrep⟩ := i6 t tv ht
      exact ⟨u, hu, hrep.mono hk⟩
  exact h1.put .bad (fun x hx => by cases hx; exact hd)
theorem InvC.activate {L : SSt} {β : Ids} {a : Act} {w : World} {d b : Nat} {us : List Value} {ty : TypeId} (h : InvC N (C.hid b) β L a w) (hb : w.heap[b]? = some (.cells us.toArray ty (0, 0))) (hu : ∀ u ∈ us, u.oneCell' = true) (hW : C.W.heap.size ≤ b)
    (hH : ∀ p : Addr, p.block = b → C.H p) (ht : a.tmps[d]? = some (.pointer (some ⟨b, 0, none⟩))) : ∃ β', InvC N C β' ⟨(d, .one (.box L.next 0)) :: L.env, (L.next, .var (us.map ofCell)) :: L.boxes, L.next + 1⟩ a w := by
  obtain ⟨⟨i1, i2, i3, i4, i5, i6⟩, i7, i8⟩ := h
  have hmore : ∀ i o, β i = some o → (fun i => if i = L.next then some (⟨b, 0, 0, false⟩ : Own) else β i) i = some o := fun i o hi => by
    show (if i = L.next then _ else β i) = _
    split
    · rename_i e; rw [e, i4.dom _ (Nat.le_refl _)] at hi; cases hi
    · exact hi
  have hno : ∀ bb, owned β L.boxes bb → bb ≠ b := fun bb ho e => by
    have := (i4.inH ⟨bb, 0, none⟩ ho).2
    exact this e
  have hlk : ∀ i row, List.lookup i ((L.next, Row.var (us.map ofCell)) :: L.boxes) = some row → (i = L.next ∧ row = .var (us.map ofCell)) ∨ (i ≠ L.next ∧ L.boxes.lookup i = some row) := fun i row hi => by
    rw [List.lookup_cons] at hi
    by_cases e : i = L.next
    · subst e; simp at hi; exact .inl ⟨rfl, hi.symm⟩
    · have e' : (i == L.next) = false := by simpa using e
      rw [e'] at hi
      exact .inr ⟨e, hi⟩
  have hown : ∀ bb, owned (fun i => if i = L.next then some (⟨b, 0, 0, false⟩ : Own) else β i) ((L.next, Row.var (us.map ofCell)) :: L.boxes) bb → bb = b ∨ owned β L.boxes bb := by
    rintro bb ⟨i, row, O, h1, h2, h3, h4⟩
    rcases hlk i row h1 with ⟨rfl, rfl⟩ | ⟨hne, h5⟩
    · simp at h2; subst h2; exact .inl h4.symm
    · have h2' : β i = some O := by simpa [hne] using h2
      exact .inr ⟨i, row, O, h5, h2', h3, h4⟩
  have hk : ∀ q u, w.cell? q = some u → gOf (hide C.H b) β L.boxes q → w.cell? q = some u ∧ gOf C.H (fun i => if i = L.next then some (⟨b, 0, 0, false⟩ : Own) else β i) ((L.next, Row.var (us.map ofCell)) :: L.boxes) q := fun q u hq hg => ⟨hq, hg.1.1, fun ho => by
    rcases hown _ ho with h | h
    · exact hg.1.2 h
    · exact hg.2 h⟩
  refine ⟨fun i => if i = L.next then some ⟨b, 0, 0, false⟩ else β i, ⟨i1, i2, i3, ⟨fun id hid => ?_, fun id row hr => ?_, fun i j ri rj Oi Oj hi hj bi bj zi zj e => ?_, fun p hp => (i4.new p hp).1, fun p hp => ?_⟩, fun bb hbb => ?_, fun t tv htt => ?_⟩, fun i hi => ?_, ?_⟩
  · have hid' : L.next + 1 ≤ id := hid
    show (if id = L.next then _ else β id) = none
    rw [if_neg (by omega)]
    exact i4.dom id (by omega)
  · rcases hlk id row hr with ⟨rfl, rfl⟩ | ⟨hne, h5⟩
    · exact ⟨⟨b, 0, 0, false⟩, by simp, rfl, ty, us, hb, rep_ofCells hu⟩
    · obtain ⟨O, k1, k2⟩ := i4.row id row h5
      exact ⟨O, hmore _ _ k1, (k2.turn (fun _ => rfl) hk).more hmore⟩
  · rcases hlk i ri hi with ⟨rfl, rfl⟩ | ⟨hne, h5⟩ <;> rcases hlk j rj hj with ⟨rfl, rfl⟩ | ⟨hne', h6⟩
    · rfl
    · simp at bi
      have bj' : β j = some Oj := by simpa [hne'] using bj
      subst bi
      exact absurd e.symm (hno Oj.b ⟨j, rj, Oj, h6, bj', zj, rfl⟩)
    · simp at bj
      have bi' : β i = some Oi := by simpa [hne] using bi
      subst bj
      exact absurd e (hno Oi.b ⟨i, ri, Oi, h5, bi', zi, rfl⟩)
    · have bi' : β i = some Oi := by simpa [hne] using bi
      have bj' : β j = some Oj := by simpa [hne'] using bj
      exact i4.inj i j ri rj Oi Oj h5 h6 bi' bj' zi zj e
  · rcases hown _ hp with h | h
    · exact hH p h
    · exact (i4.inH p h).1
  · rcases hown _ hbb with h | h
    · rw [h]; exact .inl hW
    · exact i5 bb h
  · unfold SSt.get at htt
    rw [List.lookup_cons] at htt
    by_cases e : t = d
    · subst e
      simp at htt
      subst htt
      exact ⟨_, ht, .one (RepP.box (O := ⟨b, 0, 0, false⟩) (off := 0) (by simp) rfl)⟩
    · have e' : (t == d) = false := by simpa using e
      rw [e'] at htt
      obtain ⟨u, hu', hrep⟩ := i6 t tv htt
      exact ⟨u, hu', (hrep.mono hk).more hmore⟩
  · have : i < L.next := Nat.lt_of_lt_of_le hi i8
    show (if i = L.next then _ else β i) = _
    rw [if_neg (by omega)]
    exact i7 i hi
  · exact Nat.le_succ_of_le i8
/-- all that come ahead are done -/
theorem Jm.full {ia d : Nat} {st : SSt} {s : Nat → SSt} {D : List (Nat × Ans)} (hsz : ia ≤ ops.size) (hd : ((List.range ia).all fun i => match ops[i]? with
    | none => true
    | some o => drawAtN ops D ia i o) = true) (hs0 : s 0 = st)
    (hst : ∀ (k : Nat) (o : Oper), k < ia → ops[k]? = some o → ∃ ck, stepF P N ops (s k) o (D.lookup k) = some (s (k + 1), ck) ∧ ∀ q ∈ ck, q.ok P) {l : Array Bool} {L : SSt} (hJ : Jm ops D ia d s st l L) (hall : ∀ i, i < ia → l[i]? = some true) :
    (∀ t, t ≠ d → L.get t = (s ia).get t) ∧ L.boxes = (s ia).boxes ∧ L.next = (s ia).next := by
  have hat : ∀ (i : Nat) (o : Oper), i < ia → ops[i]? = some o → drawAtN ops D ia i o = true := by
    intro i o hi ho
    have := List.all_eq_true.1 hd i (List.mem_range.2 hi)
    rw [ho] at this
    exact this
  have hlex : ∀ (i : Nat) (o : Oper), i < ia → ops[i]? = some o → ∀ e ∈ o.after, Region.binds .any e = true → e.on < i := by
    intro i o hi ho e he hb
    have h := hat i o hi ho
    unfold drawAtN at h
    simp only [Bool.and_eq_true] at h
    have := List.all_eq_true.1 (by have := h.1.1; rwa [← Array.all_toList] at this) e (by simpa using he)
    simpa [hb] using this
  have hpair : ∀ (i : Nat) (o : Oper) (j : Nat) (q : Oper) (d : Nat), i < ia → j < ia → ops[i]? = some o → ops[j]? = some q → j ≠ i → q.dst = some d → o.dst ≠ some d ∧ (d ∈ o.looksAt ops → (j < i → edgeB o j = true) ∧ (i < j → edgeB q i = true)) := by
    intro i o j q d hi hj ho hq hne hqd
    have h := hat i o hi ho
    unfold drawAtN at h
    simp only [Bool.and_eq_true] at h
    have h2 := List.all_eq_true.1 h.2 j (List.mem_range.2 hj)
    rw [hq] at h2
    simp only [hqd, Bool.or_eq_true, Bool.and_eq_true, beq_iff_eq, hne, false_or, Bool.not_eq_true', beq_eq_false_iff_ne, ne_eq] at h2
    refine ⟨h2.1, fun hm => ?_⟩
    rcases h2.2 with h3 | h3
    · rw [List.contains_iff_mem.2 hm] at h3; cases h3
    · exact ⟨fun hlt => by rwa [if_pos hlt] at h3, fun hlt => by rwa [if_neg (by omega)] at h3⟩
  have hedge : ∀ (o : Oper) (j : Nat), edgeB o j = true → ∃ e ∈ o.after, Region.binds .any e = true ∧ e.on = j := by
    intro o j h
    unfold edgeB at h
    rw [← Array.any_toList] at h
    obtain ⟨e, he, h2⟩ := List.any_eq_true.1 h
    simp only [Bool.and_eq_true, beq_iff_eq] at h2
    exact ⟨e, by simpa using he, h2.2, h2.1⟩
  have hop : ∀ (k : Nat), k < ia → ∃ o : Oper, ops[k]? = some o := fun k hk => ⟨_, Array.getElem?_eq_getElem (show k < ops.size by omega)⟩
  have heff : ∀ (k : Nat), effB ops D k = true → ∃ o : Oper, ops[k]? = some o ∧ valB o (D.lookup k) = false := by
    intro k hk
    unfold effB at hk
    split at hk
    · cases hk
    · rename_i q hq; exact ⟨q, hq, by simpa using hk⟩
  have heff' : ∀ (k : Nat) (o : Oper), ops[k]? = some o → valB o (D.lookup k) = false → effB ops D k = true := by
    intro k o ho h
    unfold effB
    rw [ho]
    simp [h]
  have hpath : ∀ (l : Array Bool), (∀ (i : Nat) (o : Oper), l[i]? = some true → ops[i]? = some o → ∀ e ∈ o.after, Region.binds .any e = true → l[e.on]? = some true) → ∀ (f i j : Nat), pathB ops f i j = true →
      (∀ (o : Oper), ops[i]? = some o → ∀ e ∈ o.after, Region.binds .any e = true → l[e.on]? = some true) → l[j]? = some true := by
    intro l hcl f
    induction f with
    | zero => intro i j h; simp [pathB] at h
    | succ f ih =>
      intro i j h hed
      simp only [pathB] at h
      split at h
      · cases h
      · rename_i o ho
        rw [Bool.or_eq_true] at h
        rcases h with h | h
        · obtain ⟨e, he, hb, hon⟩ := hedge o j h
          rw [← hon]
          exact hed o ho e he hb
        · rw [← Array.any_toList] at h
          obtain ⟨e, he, h2⟩ := List.any_eq_true.1 h
          simp only [Bool.and_eq_true] at h2
          have hd := hed o ho e (by simpa using he) h2.1.1
          exact ih e.on j h2.2 fun o' ho' => hcl e.on o' hd ho'
  -- those that turn the store come one behind the other
  have hchain : ∀ (l : Array Bool), (∀ (i : Nat) (o : Oper), l[i]? = some true → ops[i]? = some o → ∀ e ∈ o.after, Region.binds .any e = true → l[e.on]? = some true) → ∀ (n i j : Nat), i < ia → i - j ≤ n → j < i → effB ops D i = true → effB ops D j = true →
      (∀ (o : Oper), ops[i]? = some o → ∀ e ∈ o.after, Region.binds .any e = true → l[e.on]? = some true) → l[j]? = some true := by
    intro l hcl n
    induction n with
    | zero => intro i j h0 h1 h2; omega
    | succ n ih =>
      intro i j hia hn hji hei hej hed
      obtain ⟨o, ho, hov⟩ := heff i hei
      have h := hat i o hia ho
      unfold drawAtN at h
      simp only [Bool.and_eq_true, Bool.or_eq_true, hov, Bool.false_eq_true, false_or] at h
      have h2 := List.all_eq_true.1 h.1.2 j (List.mem_range.2 hji)
      simp only [hej, Bool.or_eq_true, Bool.not_true, Bool.false_eq_true, false_or] at h2
      rcases h2 with h2 | h2
      · exact hpath l hcl 8 i j h2 hed
      · obtain ⟨k, hk, h3⟩ := List.any_eq_true.1 h2
        simp only [Bool.and_eq_true, decide_eq_true_eq] at h3
        have hki := List.mem_range.1 hk
        have hlk := ih i k hia (by omega) hki hei h3.2 hed
        exact ih k j (by omega) (by omega) h3.1 h3.2 hej fun o' ho' e he hb => hcl k o' hlk ho' e he hb
  -- the states in their own order
  have hput : ∀ (k : Nat) (o : Oper), k < ia → ops[k]? = some o → ∃ tv bx n', s (k + 1) = (({ s k with boxes := bx, next := n' } : SSt)).put o.dst tv := by
    intro k o hk ho
    obtain ⟨ck, h1, _⟩ := hst k o hk ho
    obtain ⟨tv, bx, n', h2, _⟩ := step_eff h1
    exact ⟨tv, bx, n', h2⟩
  have hget : ∀ (k : Nat) (o : Oper) (t : Nat), k < ia → ops[k]? = some o → o.dst ≠ some t → (s (k + 1)).get t = (s k).get t := by
    intro k o t hk ho hne
    obtain ⟨tv, bx, n', h2⟩ := hput k o hk ho
    rw [h2]
    cases hd : o.dst with
    | none => rfl
    | some d =>
      rw [SSt.get_put, if_neg (fun e => hne (by rw [hd, e]))]
      rfl
  have hvalm : ∀ (k : Nat), k < ia → effB ops D k = false → (s (k + 1)).boxes = (s k).boxes ∧ (s (k + 1)).next = (s k).next := by
    intro k hk hv
    obtain ⟨o, ho⟩ := hop k hk
    obtain ⟨ck, h1, _⟩ := hst k o hk ho
    have : valB o (D.lookup k) = true := by
      cases h : valB o (D.lookup k) with
      | true => rfl
      | false => rw [heff' k o ho h] at hv; cases hv
    obtain ⟨tv, h2, _⟩ := step_val this h1
    rw [h2, SSt.put_boxes, SSt.put_next]
    exact ⟨rfl, rfl⟩
  have hsame : ∀ (d m : Nat), m + d ≤ ia → (∀ j, m ≤ j → j < m + d → effB ops D j = false) → (s (m + d)).boxes = (s m).boxes ∧ (s (m + d)).next = (s m).next := by
    intro d m
    induction d with
    | zero => intro _ _; exact ⟨rfl, rfl⟩
    | succ d ih =>
      intro h1 h2
      obtain ⟨e1, e2⟩ := ih (by omega) fun j a b => h2 j a (by omega)
      obtain ⟨f1, f2⟩ := hvalm (m + d) (by omega) (h2 (m + d) (by omega) (by omega))
      exact ⟨by rw [← e1, ← f1, Nat.add_assoc], by rw [← e2, ← f2, Nat.add_assoc]⟩
  have hseq : ∀ (i : Nat), i ≤ ia → (∀ (t : Nat), (∀ (j : Nat) (o : Oper), j < i → ops[j]? = some o → o.dst ≠ some t) → (s i).get t = st.get t) ∧ (∀ (j : Nat) (o : Oper) (t : Nat), j < i → ops[j]? = some o → o.dst = some t → (s i).get t = (s (j + 1)).get t) := by
    intro i
    induction i with
    | zero => intro _; exact ⟨fun t _ => by rw [hs0], fun j o t hj => by omega⟩
    | succ i ih =>
      intro hi
      obtain ⟨h1, h2⟩ := ih (by omega)
      obtain ⟨o, ho⟩ := hop i (by omega)
      refine ⟨fun t ht => ?_, fun j q t hj hq hqd => ?_⟩
      · rw [hget i o t (by omega) ho (ht i o (by omega) ho)]
        exact h1 t fun j q hj hq => ht j q (by omega) hq
      · by_cases e : j = i
        · subst e; rfl
        · have hne : o.dst ≠ some t := (hpair i o j q t (by omega) (by omega) ho hq e hqd).1
          rw [hget i o t (by omega) ho hne]
          exact h2 j q t (by omega) hq hqd
  obtain ⟨he1, he2, m, hm1, hm0, hm2, hm3, hm4, hm5⟩ := hJ
  obtain ⟨q1, q2⟩ := hseq ia (Nat.le_refl _)
  obtain ⟨f1, f2⟩ := hsame (ia - m) m (by omega) fun j a b => by
    cases h : effB ops D j with
    | false => rfl
    | true => exact absurd (hall j (by omega)) (hm3 j a (by omega) h)
  rw [show m + (ia - m) = ia by omega] at f1 f2
  refine ⟨fun t htd => ?_, hm4.trans f1.symm, hm5.trans f2.symm⟩
  by_cases hw : ∃ (j : Nat) (o : Oper), j < ia ∧ ops[j]? = some o ∧ o.dst = some t
  · obtain ⟨j, o, hj, ho, hod⟩ := hw
    rw [he1 j o t hj (hall j hj) ho hod, ← q2 j o t hj ho hod]
  · rw [he2 t htd fun j o hj _ ho hod => hw ⟨j, o, hj, ho, hod⟩, ← q1 t fun j o hj ho hod => hw ⟨j, o, hj, ho, hod⟩]
/-- what the variable's cells hold while it waits -/
def Pend (C : Ctx) (d b : Nat) (us : List Value) (a : Act) (w : World) : Prop :=
  a.tmps[d]? = some (.pointer (some ⟨b, 0, none⟩)) ∧ (∃ ty, w.heap[b]? = some (.cells us.toArray ty (0, 0))) ∧ C.W.heap.size ≤ b ∧ ∀ p : Addr, p.block = b → C.H p
set_option maxHeartbeats 1000000 in
theorem draw_alloc_step {ia d fuel : Nat} {st sn : SSt} {s : Nat → SSt} {D : List (Nat × Ans)} {e ty : TypeId} {pos : String} {af : Array Edge} {ol : Oper} {c : Option Ans} {ck : List Ask1} {us : List Value} {QQ : Exit → Act → World → Prop} (hsize : ops.size = ia + 2)
    (hall : ∀ (i : Nat) (o : Oper), ops[i]? = some o → ∀ x ∈ o.after, Region.binds .any x = true → x.on < i) (hoa : ops[ia]? = some ⟨some d, .alloc e, ty, pos, af, none⟩) (hol : ops[ia + 1]? = some ol) (hdN : d < N)
    (hrun : ∀ w : World, (execOp (fun _ => undef) ⟨some d, .alloc e, ty, pos, af, none⟩).run P w = .ok (.value (.pointer (some ⟨w.heap.size, 0, none⟩))) (w.alloc (.cells us.toArray e (0, 0)))) (hus : ∀ u ∈ us, u.oneCell' = true) (hold : ol.dst = none)
    (hlast_edge : ∀ j, j < ia + 1 → ∃ e ∈ ol.after, Region.binds .any e = true ∧ e.on = j) (hop : ∀ (k : Nat), k < ops.size → ∃ o : Oper, ops[k]? = some o) (hpre1 : ((List.range ia).all fun i => match ops[i]? with
    | none => true
    | some o => drawAtN ops D ia i o) = true) (hsep : ∀ (i : Nat) (o : Oper), i < ia → ops[i]? = some o → o.dst ≠ some d ∧ ∀ t ∈ o.looksAt ops, t ≠ d)
    (hs0 : s 0 = st) (hst : ∀ (k : Nat) (o : Oper), k < ia → ops[k]? = some o → ∃ ck, stepF P N ops (s k) o (D.lookup k) = some (s (k + 1), ck) ∧ ∀ q ∈ ck, q.ok P)
    (hread : ∀ (i : Nat) (o : Oper), i < ia → ops[i]? = some o → valB o (D.lookup i) = true → ∀ id, (s i).reads o = some id → ∀ m, m ≤ ia → possB ops D i o m = true → (s m).boxes.lookup id = (s i).boxes.lookup id)
    (hlast : stepF P N ops ⟨(d, .one (.box (s ia).next 0)) :: (s ia).env, ((s ia).next, .var (us.map ofCell)) :: (s ia).boxes, (s ia).next + 1⟩ ol c = some (sn, ck)) (hck : ∀ q ∈ ck, q.ok P)
    (hQ : ∀ a w β, InvC N C β sn a w → QQ .normal a w) {l : Array Bool} {L : SSt} {β : Ids} {a : Act} {w : World} (hl : l.size = ops.size) (hc : l.toList.count false = fuel + 1)
    (hcl : ∀ (i : Nat) (o : Oper), l[i]? = some true → ops[i]? = some o → ∀ e ∈ o.after, Region.binds .any e = true → l[e.on]? = some true) (hlf : l[ia + 1]? = some false) (hJ : Jm ops D ia d s st l L)
    (hmode : (l[ia]? = some false ∧ InvC N C β L a w) ∨ (l[ia]? = some true ∧ ∃ b, InvC N (C.hid b) β L a w ∧ Pend C d b us a w))
    (ih : ∀ f, fuel = f + 1 → ∀ (l : Array Bool) (L : SSt) (β : Ids) (a : Act) (w : World), l.size = ops.size → l.toList.count false = f + 1 →
      (∀ (i : Nat) (o : Oper), l[i]? = some true → ops[i]? = some o → ∀ e ∈ o.after, Region.binds .any e = true → l[e.on]? = some true) → l[ia + 1]? = some false → Jm ops D ia d s st l L →
      ((l[ia]? = some false ∧ InvC N C β L a w) ∨ (l[ia]? = some true ∧ ∃ b, InvC N (C.hid b) β L a w ∧ Pend C d b us a w)) → wpAny P .any ops QQ (f + 1) l a w) : wpAny P .any ops QQ (fuel + 1) l a w := by
  refine ⟨fun hr => ?_, fun i hm => ?_⟩
  · exfalso
    have hex : ∃ i : Nat, i < ops.size ∧ l[i]? = some false := ⟨ia + 1, by omega, hlf⟩
    obtain ⟨i, ⟨hlt, hf⟩, hmin⟩ := exists_min hex
    obtain ⟨o, ho⟩ := hop i hlt
    have hmem : i ∈ Region.ready .any ops l := by
      unfold Region.ready
      refine List.mem_filter.2 ⟨List.mem_range.2 hlt, ?_⟩
      simp only [Array.getD_eq_getD_getElem?, hf, ho, Option.getD_some, Bool.not_false, Bool.true_and, Option.map_some]
      rw [← Array.all_toList]
      refine List.all_eq_true.2 fun e he => ?_
      cases hbd : Region.binds .any e with
      | false => rfl
      | true =>
        have hlt2 := hall i o ho e (by simpa using he) hbd
        have : l[e.on]? = some true := by
          have hs : e.on < l.size := by omega
          rw [Array.getElem?_eq_getElem hs]
          cases hv : l[e.on] with
          | true => rfl
          | false =>
            have := hmin e.on ⟨by omega, by rw [Array.getElem?_eq_getElem hs, hv]⟩
            omega
        simp [this]
    rw [hr] at hmem
    cases hmem
  · unfold Region.ready at hm
    obtain ⟨h1, h2⟩ := List.mem_filter.1 hm
    have hlt := List.mem_range.1 h1
    obtain ⟨o, ho⟩ := hop i hlt
    simp only [Bool.and_eq_true, Bool.not_eq_true', ho, Option.map_some, Option.getD_some] at h2
    obtain ⟨hf0, hed0⟩ := h2
    have hf : l[i]? = some false := by
      have hs : i < l.size := by omega
      rw [Array.getD_eq_getD_getElem?, Array.getElem?_eq_getElem hs, Option.getD_some] at hf0
      rw [Array.getElem?_eq_getElem hs, hf0]
    have hed : ∀ e ∈ o.after, Region.binds .any e = true → l[e.on]? = some true := by
      intro e he hbd
      rw [← Array.all_toList] at hed0
      have := List.all_eq_true.1 hed0 e (by simpa using he)
      rw [hbd] at this
      simp only [Bool.not_true, Bool.false_or, Array.getD_eq_getD_getElem?] at this
      cases hv : l[e.on]? with
      | none => rw [hv] at this; cases this
      | some b => rw [hv] at this; simpa using this
    have hcount := unl_set l i hf
    have hset : ∀ (k : Nat), (l.setIfInBounds i true)[k]? = some true ↔ (k = i ∨ l[k]? = some true) := by
      intro k
      rw [Array.getElem?_setIfInBounds]
      by_cases e : i = k
      · subst e; simp [show i < l.size by omega]
      · rw [if_neg e]
        constructor
        · exact .inr
        · rintro (h | h)
          · exact absurd h.symm e
          · exact h
    have hcl' : ∀ (k : Nat) (p : Oper), (l.setIfInBounds i true)[k]? = some true → ops[k]? = some p → ∀ e ∈ p.after, Region.binds .any e = true → (l.setIfInBounds i true)[e.on]? = some true := by
      intro k p hk hp e he hbd
      refine (hset _).2 (.inr ?_)
      rcases (hset k).1 hk with rfl | hk
      · rw [ho] at hp
        obtain rfl := Option.some.inj hp
        exact hed e he hbd
      · exact hcl k p hk hp e he hbd
    have hfalse : ∀ k, k ≠ i → l[k]? = some false → (l.setIfInBounds i true)[k]? = some false := fun k hne hk => by
      rw [Array.getElem?_setIfInBounds, if_neg (fun e => hne e.symm)]; exact hk
    by_cases hi1 : i = ia + 1
    · -- the last one
      subst hi1
      have ho' : ol = o := by rw [hol] at ho; exact Option.some.inj ho
      subst ho'
      have hdone : ∀ j, j < ia + 1 → l[j]? = some true := fun j hj => by
        obtain ⟨x, hx, hb, hon⟩ := hlast_edge j hj
        rw [← hon]; exact hed x hx hb
      obtain ⟨hf1, hf2, hf3⟩ := hJ.full (by omega) hpre1 hs0 hst fun j hj => hdone j (by omega)
      rcases hmode with ⟨hm0, _⟩ | ⟨_, b, hI, hp1, ⟨tyb, hp2⟩, hp3, hp4⟩
      · rw [hdone ia (by omega)] at hm0; cases hm0
      obtain ⟨β', hA⟩ := hI.activate (d := d) hp2 hus hp3 hp4 hp1
      have hB : InvC N C β' ⟨(d, .one (.box (s ia).next 0)) :: (s ia).env, ((s ia).next, .var (us.map ofCell)) :: (s ia).boxes, (s ia).next + 1⟩ a w := by
        rw [← hf2, ← hf3]
        refine hA.sub (fun t tv ht => ?_) rfl rfl
        unfold SSt.get at ht ⊢
        rw [List.lookup_cons] at ht ⊢
        by_cases e : t = d
        · subst e; simpa using ht
        · have e' : (t == d) = false := by simpa using e
          rw [e'] at ht ⊢
          have := hf1 t e
          unfold SSt.get at this
          rw [this]
          exact ht
      have hfuel : fuel = 0 := by
        have h3 : (l.setIfInBounds (ia + 1) true).toList.count false = 0 := by
          refine List.count_eq_zero.2 fun hmm => ?_
          obtain ⟨k, hk, e⟩ := List.getElem_of_mem hmm
          have hk' : k < ops.size := by simpa [hl] using hk
          have h2 : (l.setIfInBounds (ia + 1) true)[k]? = some true := (hset k).2 (by
            by_cases e : k = ia + 1
            · exact .inl e
            · exact .inr (hdone k (by omega)))
          have h3 : (l.setIfInBounds (ia + 1) true).toList[k]? = some false := by rw [List.getElem?_eq_getElem hk, e]
          rw [Array.getElem?_toList, h2] at h3
          cases h3
        omega
      subst hfuel
      have hend : ∀ a' w' β', InvC N C β' sn a' w' → wpAny P .any ops QQ 0 (l.setIfInBounds (ia + 1) true) a' w' := by
        intro a' w' β' hi'
        refine ⟨?_, hQ a' w' β' hi'⟩
        refine List.eq_nil_iff_forall_not_mem.2 fun k hk => ?_
        unfold Region.ready at hk
        obtain ⟨g1, g2⟩ := List.mem_filter.1 hk
        have hkl := List.mem_range.1 g1
        have : (l.setIfInBounds (ia + 1) true)[k]? = some true := (hset k).2 (by
          by_cases e : k = ia + 1
          · exact .inl e
          · exact .inr (hdone k (by omega)))
        simp [Array.getD_eq_getD_getElem?, this] at g2
      have hs := step_ok (R := QQ) hlast hck hB (K := wpAny P .any ops QQ 0 (l.setIfInBounds (ia + 1) true)) (fun a' w' β' hi' _ _ => hend a' w' β' hi')
      unfold wpOp
      rw [hol]
      dsimp only
      by_cases hw : Region.wanted ol (yielded ops a.tmps) = true
      · rw [if_pos hw] at hs ⊢
        exact .inl hs
      · rw [if_neg hw] at hs ⊢
        exact hs
    · have hlf' : (l.setIfInBounds i true)[ia + 1]? = some false := hfalse _ (fun e => hi1 e.symm) hlf
      have hpos : ∃ f, fuel = f + 1 := by
        have : false ∈ (l.setIfInBounds i true).toList := by
          have h3 := hlf'
          rw [← Array.getElem?_toList] at h3
          exact List.mem_of_getElem? h3
        have := List.count_pos_iff.2 this
        exact ⟨fuel - 1, by omega⟩
      obtain ⟨f, rfl⟩ := hpos
      have hcnt : (l.setIfInBounds i true).toList.count false = f + 1 := by omega
      have ih' := ih f rfl (l.setIfInBounds i true)
      by_cases hi2 : i = ia
      · -- the variable is made
        subst hi2
        rw [hoa] at ho
        obtain rfl := Option.some.inj ho
        rcases hmode with ⟨_, hI⟩ | ⟨hm0, _⟩
        rotate_left
        · rw [hf] at hm0; cases hm0
        unfold wpOp
        rw [hoa]
        dsimp only
        rw [if_pos (by unfold Region.wanted; rfl)]
        refine .inl ?_
        refine wp_value (o := ⟨some d, .alloc e, ty, pos, af, none⟩) (v := .pointer (some ⟨w.heap.size, 0, none⟩)) (w' := w.alloc (.cells us.toArray e (0, 0))) (hrun w) ?_
        have hN := hI.hideNew (d := d) (us := us) (ty := e) (v := .pointer (some ⟨w.heap.size, 0, none⟩)) hdN
        refine ih' (L.put (some d) .bad) β _ _ (by simp [hl]) hcnt hcl' hlf' ⟨fun k p t hk hkl hp hpd => ?_, fun t htd hno => ?_, ?_⟩ (.inr ⟨(hset _).2 (.inl rfl), w.heap.size, hN, ?_, ⟨e, ?_⟩, hI.1.ext.size, fun p hp => hI.1.mem.new p (by omega)⟩)
        · have hne := (hsep k p hk hp).1
          rw [SSt.get_put, if_neg (fun e => hne (by rw [hpd, e]))]
          rcases (hset k).1 hkl with rfl | hkl
          · omega
          · exact hJ.he1 k p t hk hkl hp hpd
        · rw [SSt.get_put, if_neg htd]
          exact hJ.he2 t htd fun k p hk hkl hp => hno k p hk ((hset k).2 (.inr hkl)) hp
        · obtain ⟨m, m1, m2, m3, m4, m5, m6⟩ := hJ.hm
          exact ⟨m, m1, m2, fun j hj he => (hset j).2 (.inr (m3 j hj he)), fun j hj hja he hk => by
            rcases (hset j).1 hk with rfl | hk
            · omega
            · exact m4 j hj hja he hk, m5, m6⟩
        · have hsz2 : d < a.tmps.size := by rw [hI.1.size]; exact hdN
          simp [Act.put, hsz2]
        · show (w.heap.push _)[w.heap.size]? = _
          rw [Array.getElem?_push_size]
      · -- one of those ahead
        have hia : i < ia := by omega
        obtain ⟨L', ck', hL, hck', hJ'⟩ := step_pre (P := P) (N := N) (d := d) (by omega) hpre1 (fun k p hk hp => (hsep k p hk hp).2) hs0 hst hread hl hcl hJ hia ho hf hed
        have hdst := (hsep i o hia ho).1
        unfold wpOp
        rw [ho]
        dsimp only
        rcases hmode with ⟨hm0, hI⟩ | ⟨hm0, b, hI, hp1, ⟨tyb, hp2⟩, hp3, hp4⟩
        · have hs := step_ok (R := QQ) hL hck' hI (K := wpAny P .any ops QQ (f + 1) (l.setIfInBounds i true)) (fun a' w' β' hi' _ _ => ih' L' β' a' w' (by simp [hl]) hcnt hcl' hlf' hJ' (.inl ⟨hfalse _ (fun e => hi2 e.symm) hm0, hi'⟩))
          by_cases hw : Region.wanted o (yielded ops a.tmps) = true
          · rw [if_pos hw] at hs ⊢
            exact .inl hs
          · rw [if_neg hw] at hs ⊢
            exact hs
        · have hs := step_ok (R := QQ) hL hck' hI (K := wpAny P .any ops QQ (f + 1) (l.setIfInBounds i true)) (fun a' w' β' hi' ⟨v, hv⟩ hx => by
            refine ih' L' β' a' w' (by simp [hl]) hcnt hcl' hlf' hJ' (.inr ⟨(hset _).2 (.inr hm0), b, hi', ?_, ⟨tyb, ?_⟩, hp3, hp4⟩)
            · rw [hv]
              cases hdd : o.dst with
              | none => exact hp1
              | some x =>
                have hne : x ≠ d := fun e => hdst (by rw [hdd, e])
                simp only [Act.put]
                rw [Array.getElem?_setIfInBounds, if_neg hne]
                exact hp1
            · rw [hx.block b (Array.getElem?_eq_some_iff.1 hp2).1 (fun ho => (hI.1.mem.inH ⟨b, 0, none⟩ ho).2 rfl)]
              exact hp2)
          by_cases hw : Region.wanted o (yielded ops a.tmps) = true
          · rw [if_pos hw] at hs ⊢
            exact .inl hs
          · rw [if_neg hw] at hs ⊢
            exact hs
set_option maxHeartbeats 1000000 in
theorem draw_alloc {ia d : Nat} {st sn : SSt} {s : Nat → SSt} {D : List (Nat × Ans)} {e ty : TypeId} {pos : String} {af : Array Edge} {ol : Oper} {c : Option Ans} {ck : List Ask1} {us : List Value} {QQ : Exit → Act → World → Prop}
    (hd : drawOkA ops D ia d = true) (hall : ∀ (i : Nat) (o : Oper), ops[i]? = some o → ∀ x ∈ o.after, Region.binds .any x = true → x.on < i) (hoa : ops[ia]? = some ⟨some d, .alloc e, ty, pos, af, none⟩) (hol : ops[ia + 1]? = some ol) (hdN : d < N)
    (hrun : ∀ w : World, (execOp (fun _ => undef) ⟨some d, .alloc e, ty, pos, af, none⟩).run P w = .ok (.value (.pointer (some ⟨w.heap.size, 0, none⟩))) (w.alloc (.cells us.toArray e (0, 0)))) (hus : ∀ u ∈ us, u.oneCell' = true)
    (hs0 : s 0 = st) (hst : ∀ (k : Nat) (o : Oper), k < ia → ops[k]? = some o → ∃ ck, stepF P N ops (s k) o (D.lookup k) = some (s (k + 1), ck) ∧ ∀ q ∈ ck, q.ok P)
    (hread : ∀ (i : Nat) (o : Oper), i < ia → ops[i]? = some o → valB o (D.lookup i) = true → ∀ id, (s i).reads o = some id → ∀ m, m ≤ ia → possB ops D i o m = true → (s m).boxes.lookup id = (s i).boxes.lookup id)
    (hlast : stepF P N ops ⟨(d, .one (.box (s ia).next 0)) :: (s ia).env, ((s ia).next, .var (us.map ofCell)) :: (s ia).boxes, (s ia).next + 1⟩ ol c = some (sn, ck)) (hck : ∀ q ∈ ck, q.ok P)
    (hQ : ∀ a w β, InvC N C β sn a w → QQ .normal a w) :
    ∀ (fuel : Nat) (l : Array Bool) (L : SSt) (β : Ids) (a : Act) (w : World), l.size = ops.size → l.toList.count false = fuel + 1 →
      (∀ (i : Nat) (o : Oper), l[i]? = some true → ops[i]? = some o → ∀ e ∈ o.after, Region.binds .any e = true → l[e.on]? = some true) → l[ia + 1]? = some false → Jm ops D ia d s st l L →
      ((l[ia]? = some false ∧ InvC N C β L a w) ∨ (l[ia]? = some true ∧ ∃ b, InvC N (C.hid b) β L a w ∧ Pend C d b us a w)) → wpAny P .any ops QQ (fuel + 1) l a w := by
  unfold drawOkA at hd
  rw [hol] at hd
  simp only [Bool.and_eq_true, beq_iff_eq, Option.isNone_iff_eq_none] at hd
  obtain ⟨⟨⟨hsize, hold⟩, hole⟩, hpre⟩ := hd
  have hpre1 : ((List.range ia).all fun i => match ops[i]? with
    | none => true
    | some o => drawAtN ops D ia i o) = true := by
    refine List.all_eq_true.2 fun i hi => ?_
    have := List.all_eq_true.1 hpre i hi
    cases h : ops[i]? with
    | none => rfl
    | some o =>
      rw [h] at this
      simp only [Bool.and_eq_true] at this
      exact this.1.1
  have hsep : ∀ (i : Nat) (o : Oper), i < ia → ops[i]? = some o → o.dst ≠ some d ∧ ∀ t ∈ o.looksAt ops, t ≠ d := by
    intro i o hi ho
    have := List.all_eq_true.1 hpre i (List.mem_range.2 hi)
    rw [ho] at this
    simp only [Bool.and_eq_true, Bool.not_eq_true', beq_eq_false_iff_ne, ne_eq] at this
    refine ⟨this.1.2, fun t ht e => ?_⟩
    have h2 := this.2
    subst e
    rw [List.contains_iff_mem.2 ht] at h2
    cases h2
  have hlast_edge : ∀ j, j < ia + 1 → ∃ e ∈ ol.after, Region.binds .any e = true ∧ e.on = j := by
    intro j hj
    have h := List.all_eq_true.1 hole j (List.mem_range.2 hj)
    unfold edgeB at h
    rw [← Array.any_toList] at h
    obtain ⟨x, hx, h2⟩ := List.any_eq_true.1 h
    simp only [Bool.and_eq_true, beq_iff_eq] at h2
    exact ⟨x, by simpa using hx, h2.2, h2.1⟩
  have hop : ∀ (k : Nat), k < ops.size → ∃ o : Oper, ops[k]? = some o := fun k hk => ⟨_, Array.getElem?_eq_getElem hk⟩
  intro fuel
  induction fuel with
  | zero =>
    intro l L β a w hl hc hcl hlf hJ hmode
    exact draw_alloc_step (fuel := 0) hsize hall hoa hol hdN hrun hus hold hlast_edge hop hpre1 hsep hs0 hst hread hlast hck hQ hl hc hcl hlf hJ hmode (fun f hf => by omega)
  | succ fuel ih =>
    intro l L β a w hl hc hcl hlf hJ hmode
    exact draw_alloc_step (fuel := fuel + 1) hsize hall hoa hol hdN hrun hus hold hlast_edge hop hpre1 hsep hs0 hst hread hlast hck hQ hl hc hcl hlf hJ hmode (fun f hf => by
      obtain rfl : f = fuel := by omega
      exact ih)
end
end Go.Proofs.YtbljhngekhgbbaaGreat
namespace Go.Proofs.YtbljhngekhgbbaaGreat
open Go.RowKit
set_option linter.unusedVariables false
set_option linter.unusedSectionVars false
set_option linter.unusedSimpArgs false
/-- the zero value's cells -/
def zeroV (P : Program) (t : TypeId) : Option (List Value) := (P.info? t).bind fun i => i.zero.bind fun z => if z.cells.toList.all (·.oneCell') = true then some z.cells.toList else none
def fwdB (ops : Array Oper) : Bool := (List.range ops.size).all fun i => match ops[i]? with
  | none => true
  | some o => o.after.all fun e => !Region.binds .any e || decide (e.on < i)
def readsOkA (ops : Array Oper) (D : List (Nat × Ans)) (l : List SSt) (ia : Nat) : Bool := (List.range ia).all fun i => match ops[i]?, l[i]? with
  | some o, some S => match S.reads o with
    | none => true
    | some id => (List.range (ia + 1)).all fun m => !possB ops D i o m || match l[m]? with
      | some T => rowSame (T.boxes.lookup id) (S.boxes.lookup id)
      | none => false
  | _, _ => false
def allocPat (ops : Array Oper) : Option (Nat × TypeId) := match ops[ops.size - 2]? with
  | some o => match o.dst, o.op, o.guard with
    | some d, .alloc e, none => some (d, e)
    | _, _, _ => none
  | none => none
def evAlloc (P : Program) (F : CallF) (N : Nat) (ops : Array Oper) (st : SSt) : Option SSt := (allocPat ops).bind fun p => (zeroV P p.2).bind fun us => match ops[ops.size - 1]? with
  | some ol => if Nat.ble 2 ops.size = true ∧ Nat.blt p.1 N = true ∧ fwdB ops = true then (evOpsD P F N ops (ops.toList.take (ops.size - 2)) 0 st).bind fun q => if drawOkA ops q.2.2 (ops.size - 2) p.1 = true ∧ readsOkA ops q.2.2 q.2.1 (ops.size - 2) = true then
      (evStepD P F N ops ⟨(p.1, .one (.box q.1.next 0)) :: q.1.env, (q.1.next, .var (us.map ofCell)) :: q.1.boxes, q.1.next + 1⟩ ol).map (·.1) else none else none
  | none => none
def evDraw (P : Program) (F : CallF) (N : Nat) (ops : Array Oper) (st : SSt) : Option SSt := match evAlloc P F N ops st with
  | some s => some s
  | none => (evOpsD P F N ops ops.toList 0 st).bind fun q => if drawOk ops q.2.2 = true ∧ readsOk ops q.2.2 q.2.1 = true then some q.1 else none
section
variable {P : Program} {F : CallF} {N n : Nat} {C : Ctx} {ops : Array Oper} {Q : Exit → SSt → Prop}
theorem zeroV_run {e ty : TypeId} {us : List Value} {d : Nat} {pos : String} {af : Array Edge} (h : zeroV P e = some us) : (∀ u ∈ us, u.oneCell' = true) ∧ ∀ w : World, (execOp (fun _ => undef) ⟨some d, .alloc e, ty, pos, af, none⟩).run P w = .ok (.value (.pointer (some ⟨w.heap.size, 0, none⟩))) (w.alloc (.cells us.toArray e (0, 0))) := by
  unfold zeroV at h
  obtain ⟨i, hi, h⟩ := Option.bind_eq_some_iff.1 h
  obtain ⟨z, hz, h⟩ := Option.bind_eq_some_iff.1 h
  split at h
  · rename_i hc
    obtain rfl := Option.some.inj h
    refine ⟨fun u hu => List.all_eq_true.1 hc u hu, fun w => ?_⟩
    rw [Array.toArray_toList]
    refine ok_w (s := Instr.alloc e true (.tuple #[])) ?_
    simp [Instr.alloc, zeroValue, typeInfo, hi, hz, newVar, newRow]
  · cases h
theorem SW.evAlloc (hF : FOk P F) {id : Nat} {st sn : SSt} (hm : P.follows .mixedOrders = true) (e : evAlloc P F N ops st = some sn) (h : Q .normal sn) : SW P N C (.region id ops true) Q st := by
  unfold Go.Proofs.YtbljhngekhgbbaaGreat.evAlloc at e
  obtain ⟨⟨d, el⟩, hp, e⟩ := Option.bind_eq_some_iff.1 e
  obtain ⟨us, hus, e⟩ := Option.bind_eq_some_iff.1 e
  split at e
  rotate_left
  · cases e
  rename_i ol hol
  split at e
  rotate_left
  · cases e
  rename_i hc
  obtain ⟨hc1, hc2, hc3⟩ := hc
  have hsz : 2 ≤ ops.size := Nat.le_of_ble_eq_true hc1
  have hdN : d < N := by simpa using hc2
  obtain ⟨⟨sa, l, D⟩, hq, e⟩ := Option.bind_eq_some_iff.1 e
  dsimp only at e
  split at e
  rotate_left
  · cases e
  rename_i hcc
  obtain ⟨⟨s1, a1⟩, hs, rfl⟩ := Option.map_eq_some_iff.1 e
  obtain ⟨ck, hlast, hck⟩ := evStepD_ok hF hs
  obtain ⟨k1, k2, k3, k4, k5⟩ := evOpsD_ok hF hq
  have hoa : ∃ ty pos af, ops[ops.size - 2]? = some ⟨some d, .alloc el, ty, pos, af, none⟩ := by
    unfold allocPat at hp
    split at hp
    · rename_i o ho
      obtain ⟨dst, op, ty, pos, af, gd⟩ := o
      dsimp only at hp
      split at hp
      · rename_i h1 h2 h3
        simp only [Option.some.injEq, Prod.mk.injEq] at hp
        obtain ⟨rfl, rfl⟩ := hp
        exact ⟨ty, pos, af, by rw [ho]⟩
      · cases hp
    · cases hp
  obtain ⟨ty, pos, af, hoa⟩ := hoa
  obtain ⟨hone, hrun⟩ := zeroV_run (d := d) (ty := ty) (pos := pos) (af := af) hus
  have hlen : (ops.toList.take (ops.size - 2)).length = ops.size - 2 := by rw [List.length_take, Array.length_toList]; omega
  rw [hlen] at k1 k3
  have hget : ∀ k t, l[k]? = some t → l.getD k st = t := fun k t h => by rw [List.getD_eq_getElem?_getD, h]; rfl
  have hlt : ∀ k, k ≤ ops.size - 2 → ∃ t, l[k]? = some t := fun k hk => ⟨_, List.getElem?_eq_getElem (by rw [k1]; omega)⟩
  intro β a w hi
  refine wp_region_any hm ?_
  have hfalse : ∀ (i : Nat), (Array.replicate ops.size false)[i]? ≠ some true := by
    intro i h
    rw [Array.getElem?_replicate] at h
    split at h <;> cases h
  have hff : ∀ i, i < ops.size → (Array.replicate ops.size false)[i]? = some false := fun i hi => by rw [Array.getElem?_replicate, if_pos hi]
  have hz : ops.size - 2 + 1 = ops.size - 1 := by omega
  have := draw_alloc (P := P) (N := N) (C := C) (ops := ops) (ia := ops.size - 2) (d := d) (st := st) (sn := s1) (s := fun k => l.getD k st) (D := D) (e := el) (ty := ty) (pos := pos) (af := af) (ol := ol) (c := a1) (ck := ck) (us := us)
    (QQ := fun e a' w' => ∃ st' β', InvC N C β' st' a' w' ∧ Q e st') hcc.1 (fun i o ho x hx hb => by
      have hil := (Array.getElem?_eq_some_iff.1 ho).1
      have h1 := List.all_eq_true.1 hc3 i (List.mem_range.2 hil)
      rw [ho] at h1
      dsimp only at h1
      rw [← Array.all_toList] at h1
      have := List.all_eq_true.1 h1 x (by simpa using hx)
      simpa [hb] using this) hoa (by rw [hz]; exact hol) hdN hrun hone (hget 0 st k2) (fun k o hk ho => by
      have hk' : (ops.toList.take (ops.size - 2))[k]? = some o := by rw [List.getElem?_take, if_pos hk, Array.getElem?_toList]; exact ho
      obtain ⟨t, t', b1, b2, b3⟩ := k5 k o hk'
      rw [hget _ _ b1, hget _ _ b2]
      rw [Nat.zero_add] at b3
      exact b3) (fun i o hi ho hv id hid m hmm hps => by
      obtain ⟨S, hS⟩ := hlt i (by omega)
      obtain ⟨T, hT⟩ := hlt m hmm
      rw [hget _ _ hS] at hid ⊢
      rw [hget _ _ hT]
      have h1 := List.all_eq_true.1 hcc.2 i (List.mem_range.2 hi)
      rw [ho, hS] at h1
      dsimp only at h1
      rw [hid] at h1
      dsimp only at h1
      have h2 := List.all_eq_true.1 h1 m (List.mem_range.2 (by omega))
      rw [hps, hT] at h2
      exact rowSame_eq (by simpa using h2)) (by rw [hget _ _ k3]; exact hlast) hck (fun a' w' β' hI => ⟨s1, β', hI, h⟩)
    (ops.size - 1) (Array.replicate ops.size false) st β a { w with drawn := w.drawn + 1 } (by simp) (by simp; omega) (fun i o hi => absurd hi (hfalse i)) (by rw [hz]; exact hff _ (by omega))
    ⟨fun i o t _ hi => absurd hi (hfalse i), fun t _ _ => rfl, 0, Nat.zero_le _, .inl rfl, fun j hj => by omega, fun j _ _ _ => hfalse j, by rw [hget 0 st k2], by rw [hget 0 st k2]⟩ (.inl ⟨hff _ (by omega), hi.drew⟩)
  rw [show ops.size - 1 + 1 = ops.size by omega] at this
  exact this
theorem SW.evDraw (hF : FOk P F) {id : Nat} {st sn : SSt} (hm : P.follows .mixedOrders = true) (e : evDraw P F N ops st = some sn) (h : Q .normal sn) : SW P N C (.region id ops true) Q st := by
  unfold Go.Proofs.YtbljhngekhgbbaaGreat.evDraw at e
  split at e
  · rename_i s hs
    obtain rfl := Option.some.inj e
    exact SW.evAlloc hF hm hs h
  · obtain ⟨⟨s, l, D⟩, hq, e⟩ := Option.bind_eq_some_iff.1 e
    dsimp only at e
    split at e
    · rename_i hc
      obtain rfl := Option.some.inj e
      exact SW.evd hF hm hq hc.1 hc.2 h
    · cases e
end
end Go.Proofs.YtbljhngekhgbbaaGreat
namespace Go.Proofs.YtbljhngekhgbbaaGreat
open Go.RowKit
set_option linter.unusedVariables false
set_option linter.unusedSectionVars false
set_option linter.unusedSimpArgs false
section
variable {w : World} {G : Addr → Prop} {β : Ids} {m : Nat → Nat}
theorem RepP.ren_id {p : PV} {v : Value} (h : RepP w G β p v) : (∀ i o, β i = some o → m i = i) → p.ren m = p := by
  induction h with
  | lit h => exact fun _ => rfl
  | sl0 h hA => exact fun _ => rfl
  | sl h hx hq hl hc hr _ => exact fun _ => rfl
  | ptr hl hc hr _ => exact fun _ => rfl
  | box h hz => intro hm; simp only [PV.ren, hm _ _ h]
  | osl h hz hn => intro hm; simp only [PV.ren, hm _ _ h]
  | osl0 h hz => intro hm; simp only [PV.ren, hm _ _ h]
  | elp h hz => intro hm; simp only [PV.ren, hm _ _ h]
  | clo h1 h2 hf hc i1 i2 =>
    rename_i g first cap fs cs
    intro hm
    have e1 : PV.rens m first = first := by
      rw [PV.rens_eq]
      refine (List.map_congr_left fun p hp => ?_).trans (List.map_id _)
      obtain ⟨i, hi, rfl⟩ := List.getElem_of_mem hp
      have hi' : i < fs.size := by omega
      exact i1 i _ fs[i] (List.getElem?_eq_getElem hi) (Array.getElem?_eq_getElem hi') hm
    have e2 : PV.rens m cap = cap := by
      rw [PV.rens_eq]
      refine (List.map_congr_left fun p hp => ?_).trans (List.map_id _)
      obtain ⟨i, hi, rfl⟩ := List.getElem_of_mem hp
      have hi' : i < cs.size := by omega
      exact i2 i _ cs[i] (List.getElem?_eq_getElem hi) (Array.getElem?_eq_getElem hi') hm
    simp only [PV.ren, e1, e2]
  | dat hn he _ ih => exact fun _ => rfl
theorem RepL.ren_id {ps : List PV} {us : List Value} (h : RepL w G β ps us) (hm : ∀ i o, β i = some o → m i = i) : PV.rens m ps = ps := by
  rw [PV.rens_eq]
  refine (List.map_congr_left fun p hp => ?_).trans (List.map_id _)
  obtain ⟨i, hi, rfl⟩ := List.getElem_of_mem hp
  have hi' : i < us.length := by rw [h.1]; exact hi
  exact (h.2 i _ us[i] (List.getElem?_eq_getElem hi) (List.getElem?_eq_getElem hi')).ren_id hm
theorem RepT.ren_id {t : TV} {v : Value} (h : RepT w G β t v) : (∀ i o, β i = some o → m i = i) → t.ren m = t := by
  induction h with
  | one h => intro hm; simp only [TV.ren, h.ren_id hm]
  | agg h => intro hm; simp only [TV.ren, h.ren_id hm]
  | tup hl h ih =>
    rename_i ts vs
    intro hm
    have : TV.rens m ts = ts := by
      rw [TV.rens_eq]
      refine (List.map_congr_left fun p hp => ?_).trans (List.map_id _)
      obtain ⟨i, hi, rfl⟩ := List.getElem_of_mem hp
      have hi' : i < vs.size := by omega
      exact ih i _ vs[i] (List.getElem?_eq_getElem hi) (Array.getElem?_eq_getElem hi') hm
    simp only [TV.ren, this]
  | bad => exact fun _ => rfl
theorem Row.ren_id {O : Own} {row : Row} (h : row.Stands w G β O) (hm : ∀ i o, β i = some o → m i = i) : row.ren m = row := by
  cases row with
  | var cs =>
    obtain ⟨_, _, us, _, hl⟩ := h
    simp only [Row.ren, hl.ren_id hm]
  | own e k rows => rfl
  | lst e t l => rfl
end
section
variable {N : Nat} {C : Ctx} {β β1 : Ids} {L S : SSt} {a a1 : Act} {w w1 : World}
/-- the same rows, in another order -/
theorem InvC.rows {σ : Store} (h : InvC N C β L a w) (e : ∀ i, σ.lookup i = L.boxes.lookup i) : InvC N C β ⟨L.env, σ, L.next⟩ a w := by
  have ho : owned β σ = owned β L.boxes := by
    funext b
    refine propext ⟨?_, ?_⟩
    · rintro ⟨i, r, O, h1, h2⟩
      exact ⟨i, r, O, by rw [← e]; exact h1, h2⟩
    · rintro ⟨i, r, O, h1, h2⟩
      exact ⟨i, r, O, by rw [e]; exact h1, h2⟩
  have hg : gOf C.H β σ = gOf C.H β L.boxes := by unfold gOf; rw [ho]
  obtain ⟨⟨k1, k2, k3, k4, k5, k6⟩, h2, h3⟩ := h
  refine ⟨⟨k1, k2, k3, ⟨k4.dom, fun i row hr => ?_, fun i j ri rj Oi Oj hi hj => k4.inj i j ri rj Oi Oj (by rw [← e]; exact hi) (by rw [← e]; exact hj), k4.new, fun p hp => k4.inH p (by rw [← ho]; exact hp)⟩, fun b hb => k5 b (by rw [← ho]; exact hb), fun t tv ht => ?_⟩, h2, h3⟩
  · obtain ⟨O, q1, q2⟩ := k4.row i row (by rw [← e]; exact hr)
    exact ⟨O, q1, by rw [hg]; exact q2⟩
  · obtain ⟨v, q1, q2⟩ := k6 t tv ht
    exact ⟨v, q1, by show RepT w (gOf C.H β σ) β tv v; rw [hg]; exact q2⟩
/-- room for ids -/
theorem InvC.bumpN (h : InvC N C β L a w) {n : Nat} (hn : L.next ≤ n) : InvC N C β ⟨L.env, L.boxes, n⟩ a w := by
  obtain ⟨⟨k1, k2, k3, k4, k5, k6⟩, h2, h3⟩ := h
  exact ⟨⟨k1, k2, k3, k4.next hn, k5, k6⟩, h2, Nat.le_trans h3 hn⟩
/-- a variable that came by the next id, told by an id r that was kept free -/
theorem InvC.keepId {r d : Nat} {row : Row} (h : InvC N C β L a w) (hr : r < L.next) (hC : C.n0 ≤ r) (hβ : β r = none) (h1 : InvC N C β1 ⟨(d, .one (.box L.next 0)) :: L.env, (L.next, row) :: L.boxes, L.next + 1⟩ a1 w1)
    (hsame : ∀ i, i < L.next → β1 i = β i) (hrow : ∀ m, row.ren m = row) : ∃ β2, InvC N C β2 ⟨(d, .one (.box r 0)) :: L.env, (r, row) :: L.boxes, L.next⟩ a1 w1 ∧ ∀ i, i < L.next → i ≠ r → β2 i = β i := by
  let m : Nat → Nat := fun i => if i = r then L.next else if i < L.next then i else i + 1
  have hm : ∀ i o, β i = some o → m i = i := fun i o hi => by
    have e1 : i ≠ r := fun e => by rw [e, hβ] at hi; cases hi
    have e2 : i < L.next := by
      refine Nat.lt_of_not_le fun hle => ?_
      rw [h.1.mem.dom i hle] at hi
      cases hi
    simp only [m, if_neg e1, if_pos e2]
  have hlr : L.boxes.lookup r = none := by
    cases e : L.boxes.lookup r with
    | none => rfl
    | some x =>
      obtain ⟨O, q, _⟩ := h.1.mem.row r x e
      rw [hβ] at q; cases q
  have hlt : ∀ i x, L.boxes.lookup i = some x → i < L.next ∧ i ≠ r ∧ m i = i := fun i x hi => by
    obtain ⟨O, q, _⟩ := h.1.mem.row i x hi
    have q1 : i < L.next := Nat.lt_of_not_le fun hle => by rw [h.1.mem.dom i hle] at q; cases q
    have q2 : i ≠ r := fun e => by rw [e, hβ] at q; cases q
    exact ⟨q1, q2, hm i O q⟩
  have hle : SSt.Le m ⟨(d, .one (.box r 0)) :: L.env, (r, row) :: L.boxes, L.next⟩ ⟨(d, .one (.box L.next 0)) :: L.env, (L.next, row) :: L.boxes, L.next + 1⟩ := by
    refine ⟨fun x tv hx => ?_, fun i ro hi => ?_, fun i j ri rj hi hj e => ?_, fun i hi => ?_⟩
    · unfold SSt.get at hx ⊢
      rw [List.lookup_cons] at hx ⊢
      by_cases e : x = d
      · subst e
        simp only [beq_self_eq_true] at hx ⊢
        obtain rfl := Option.some.inj hx
        simp [TV.ren, PV.ren, m]
      · have e' : (x == d) = false := by simpa using e
        rw [e'] at hx ⊢
        dsimp only at hx ⊢
        obtain ⟨v, _, q⟩ := h.1.env x tv hx
        rw [q.ren_id hm]
        exact hx
    · dsimp only at hi ⊢
      rw [List.lookup_cons] at hi
      by_cases e : i = r
      · subst e
        simp only [beq_self_eq_true] at hi
        obtain rfl := Option.some.inj hi
        rw [hrow, show m i = L.next by simp [m], List.lookup_cons]
        simp
      · have e' : (i == r) = false := by simpa using e
        rw [e'] at hi
        dsimp only at hi
        obtain ⟨q1, q2, q3⟩ := hlt i ro hi
        rw [q3, List.lookup_cons]
        have e2 : (i == L.next) = false := by simp; omega
        rw [e2]
        dsimp only
        obtain ⟨O, p1, p2⟩ := h.1.mem.row i ro hi
        rw [Row.ren_id p2 hm]
        exact hi
    · dsimp only at hi hj
      rw [List.lookup_cons] at hi hj
      by_cases e1 : i = r <;> by_cases e2 : j = r
      · rw [e1, e2]
      · have e' : (j == r) = false := by simpa using e2
        rw [e'] at hj
        dsimp only at hj
        obtain ⟨q1, q2, q3⟩ := hlt j rj hj
        rw [q3, e1] at e
        simp only [m, if_pos rfl] at e
        omega
      · have e' : (i == r) = false := by simpa using e1
        rw [e'] at hi
        dsimp only at hi
        obtain ⟨q1, q2, q3⟩ := hlt i ri hi
        rw [q3, e2] at e
        simp only [m, if_pos rfl] at e
        omega
      · have e' : (i == r) = false := by simpa using e1
        have e'' : (j == r) = false := by simpa using e2
        rw [e'] at hi
        rw [e''] at hj
        dsimp only at hi hj
        rw [(hlt i ri hi).2.2, (hlt j rj hj).2.2] at e
        exact e
    · have hi' : L.next ≤ i := hi
      show L.next + 1 ≤ m i
      simp only [m]
      rw [if_neg (by omega), if_neg (by omega)]
      omega
  refine ⟨fun i => β1 (m i), ⟨h1.1.weaken hle, fun i hi => ?_, h.2.2⟩, fun i hi hne => ?_⟩
  · have : m i = i := by simp only [m]; rw [if_neg (by omega), if_pos (by have := h.2.2; omega)]
    show β1 (m i) = _
    rw [this]
    exact h1.2.1 i hi
  · show β1 (m i) = _
    have : m i = i := by simp only [m]; rw [if_neg hne, if_pos hi]
    rw [this, hsame i hi]
end
end Go.Proofs.YtbljhngekhgbbaaGreat
namespace Go.Proofs.YtbljhngekhgbbaaGreat
open Go.RowKit
set_option linter.unusedVariables false
set_option linter.unusedSectionVars false
set_option linter.unusedSimpArgs false
/-- does operation j make a variable? -/
def alB (ops : Array Oper) (D : List (Nat × Ans)) (j : Nat) : Bool := match ops[j]?, D.lookup j with
  | some o, none => o.guard.isNone && o.dst.isSome && match o.op with
    | .alloc _ => true
    | _ => false
  | _, _ => false
/-- how many variables are made ahead of j -/
def rk (ops : Array Oper) (D : List (Nat × Ans)) : Nat → Nat
  | 0 => 0
  | j + 1 => rk ops D j + if alB ops D j = true then 1 else 0
def drawAtM (ops : Array Oper) (D : List (Nat × Ans)) (i : Nat) (o : Oper) : Bool :=
  (o.after.all fun e => !Region.binds .any e || decide (e.on < i)) &&
  (valB o (D.lookup i) || alB ops D i || (List.range i).all fun j => !effB ops D j || pathB ops 8 i j || (List.range i).any fun k => decide (j < k) && effB ops D k && !alB ops D k) &&
  (List.range ops.size).all fun j => match ops[j]? with
    | none => true
    | some q => j == i || match q.dst with
      | none => true
      | some d => !(o.dst == some d) && (!(o.looksAt ops).contains d || (if j < i then edgeB o j else edgeB q i))
/-- M: behind the last new variable; nothing else turns the store ahead of it -/
def drawOkM (ops : Array Oper) (D : List (Nat × Ans)) (M : Nat) : Bool := Nat.ble M ops.size && decide (0 < M) && alB ops D (M - 1) && ((List.range ops.size).all fun i => if i < M then !effB ops D i || alB ops D i else !alB ops D i) && (List.range ops.size).all fun i => match ops[i]? with
  | none => true
  | some o => drawAtM ops D i o
section
variable {P : Program} {N : Nat} {C : Ctx} {ops : Array Oper} {Q : Exit → SSt → Prop}
theorem rk_mono (D : List (Nat × Ans)) : ∀ {i j : Nat}, i ≤ j → rk ops D i ≤ rk ops D j := by
  intro i j h
  induction h with
  | refl => exact Nat.le_refl _
  | step h ih => exact Nat.le_trans ih (Nat.le_add_right _ _)
theorem rk_lt {D : List (Nat × Ans)} {i j : Nat} (h : i < j) (ha : alB ops D i = true) : rk ops D i < rk ops D j := by
  have := rk_mono (ops := ops) D (show i + 1 ≤ j from h)
  have e : rk ops D (i + 1) = rk ops D i + 1 := by simp only [rk, ha, if_true]
  omega
theorem rk_inj {D : List (Nat × Ans)} {i j : Nat} (hi : alB ops D i = true) (hj : alB ops D j = true) (h : rk ops D i = rk ops D j) : i = j := by
  rcases Nat.lt_trichotomy i j with c | c | c
  · have := rk_lt c hi; omega
  · exact c
  · have := rk_lt c hj; omega
theorem cells_ren (m : Nat → Nat) (vs : List Value) : PV.rens m (vs.map ofCell) = vs.map ofCell := by
  rw [PV.rens_eq, List.map_map]
  refine List.map_congr_left fun v _ => ?_
  show (ofCell v).ren m = ofCell v
  unfold ofCell
  split <;> rfl
theorem alB_val {D : List (Nat × Ans)} {j : Nat} (h : alB ops D j = true) : effB ops D j = true := by
  unfold alB at h
  split at h
  · rename_i o h1 h2
    unfold effB
    rw [h1, h2]
    simp only [Bool.and_eq_true] at h
    have h3 := h.2
    split at h3
    · rename_i e hop
      simp [valB, hop]
    · cases h3
  · cases h
/-- what a new variable turns -/
theorem al_step {D : List (Nat × Ans)} {j : Nat} {o : Oper} {S S' : SSt} {ck : List Ask1} (h : alB ops D j = true) (ho : ops[j]? = some o) (e : stepF P N ops S o (D.lookup j) = some (S', ck)) :
    ∃ d row, o.dst = some d ∧ D.lookup j = none ∧ ck = [] ∧ (∀ m, row.ren m = row) ∧ ∀ L : SSt, stepF P N ops L o none = some (⟨(d, .one (.box L.next 0)) :: L.env, (L.next, row) :: L.boxes, L.next + 1⟩, []) ∧ (L = S → S' = ⟨(d, .one (.box L.next 0)) :: L.env, (L.next, row) :: L.boxes, L.next + 1⟩) := by
  unfold alB at h
  rw [ho] at h
  split at h
  rotate_left
  · cases h
  rename_i o' h1 h2
  obtain rfl := Option.some.inj h1
  simp only [Bool.and_eq_true, Option.isNone_iff_eq_none, Option.isSome_iff_exists] at h
  obtain ⟨⟨hg, d, hd⟩, h3⟩ := h
  split at h3
  rotate_left
  · cases h3
  rename_i t hop
  rw [h2] at e
  have hstep : ∀ L : SSt, stepF P N ops L o none = if dstB N o = true then (zeroP P t).map (fun z => (⟨(d, .one (.box L.next 0)) :: L.env, (L.next, .var z) :: L.boxes, L.next + 1⟩, [])) else none := fun L => by
    have hw : sopW P L o = none := by
      obtain ⟨dst, op, ty, pos, af, gd⟩ := o
      dsimp only at hop
      subst hop
      rfl
    have hgd : L.guard ops o = some true := by unfold SSt.guard; rw [hg]
    have hE : sopE P L o = none := by simp only [sopE, sopA, sopC, sopS, hop]
    unfold stepF
    split
    · rw [hgd]
      dsimp only
      rw [hw]
      dsimp only
      have hM : sopM P L o = (zeroP P t).map fun z => (.one (.box L.next 0), (L.next, .var z) :: L.boxes, L.next + 1) := by unfold sopM; rw [hop]
      rw [hM]
      cases zeroP P t with
      | none => simp only [Option.map_none, hE]
      | some z => simp only [Option.map_some, hd]; rfl
    · rfl
  rw [hstep S] at e
  split at e
  rotate_left
  · cases e
  rename_i hN
  obtain ⟨z, hz, e⟩ := Option.map_eq_some_iff.1 e
  obtain ⟨rfl, rfl⟩ := Prod.mk.inj e
  refine ⟨d, .var z, hd, h2, rfl, fun m => ?_, fun L => ⟨?_, fun hL => by subst hL; rfl⟩⟩
  · unfold zeroP at hz
    obtain ⟨inf, _, hz⟩ := Option.bind_eq_some_iff.1 hz
    obtain ⟨v, _, hz⟩ := Option.bind_eq_some_iff.1 hz
    split at hz
    · obtain rfl := Option.some.inj hz
      show Row.var _ = _
      rw [cells_ren]
    · cases hz
  · rw [hstep L, if_pos hN, hz]
    rfl
set_option maxHeartbeats 2000000 in
/-- from a state in which some are done -/
theorem draw_anyM {st sn : SSt} {s : Nat → SSt} {D : List (Nat × Ans)} {M : Nat} (hdM : drawOkM ops D M = true) (hs0 : s 0 = st) (hsn : s ops.size = sn) (hn0 : C.n0 ≤ st.next) (hstn : ∀ i row, st.boxes.lookup i = some row → i < st.next)
    (hst : ∀ (k : Nat) (o : Oper), ops[k]? = some o → ∃ ck, stepF P N ops (s k) o (D.lookup k) = some (s (k + 1), ck) ∧ ∀ q ∈ ck, q.ok P)
    (hreadA : ∀ (i : Nat) (o : Oper), ops[i]? = some o → valB o (D.lookup i) = true → ∀ id, (s i).reads o = some id → (∀ j, effB ops D j = true → alB ops D j = false → edgeB o j = false) →
      (s M).boxes.lookup id = (s i).boxes.lookup id ∧ (id < st.next ∨ ∃ j, alB ops D j = true ∧ id = st.next + rk ops D j ∧ pathB ops 8 i j = true))
    (hread : ∀ (i : Nat) (o : Oper), ops[i]? = some o → valB o (D.lookup i) = true → ∀ id, (s i).reads o = some id → ∀ m, M < m → m ≤ ops.size → possB ops D i o m = true → (s m).boxes.lookup id = (s i).boxes.lookup id) (hQ : Q .normal sn) :
    ∀ (fuel : Nat) (l : Array Bool) (L : SSt) (β : Ids) (a : Act) (w : World), l.size = ops.size → l.toList.count false = fuel →
      (∀ (i : Nat) (o : Oper), l[i]? = some true → ops[i]? = some o → ∀ e ∈ o.after, Region.binds .any e = true → l[e.on]? = some true) →
      (∀ (i : Nat) (o : Oper) (t : Nat), l[i]? = some true → ops[i]? = some o → o.dst = some t → L.get t = (s (i + 1)).get t) →
      (∀ (t : Nat), (∀ (i : Nat) (o : Oper), l[i]? = some true → ops[i]? = some o → o.dst ≠ some t) → L.get t = st.get t) →
      (((∃ j, alB ops D j = true ∧ l[j]? ≠ some true) ∧ (∀ j, effB ops D j = true → alB ops D j = false → l[j]? ≠ some true) ∧ L.next = st.next + rk ops D M ∧
          (∀ j, alB ops D j = true → l[j]? = some true → L.boxes.lookup (st.next + rk ops D j) = (s (j + 1)).boxes.lookup (st.next + rk ops D j)) ∧ (∀ id, id < st.next → L.boxes.lookup id = st.boxes.lookup id) ∧
          (∀ id, st.next ≤ id → (∀ j, alB ops D j = true → l[j]? = some true → id ≠ st.next + rk ops D j) → L.boxes.lookup id = none) ∧ (∀ j, alB ops D j = true → l[j]? ≠ some true → β (st.next + rk ops D j) = none)) ∨
        ((∀ j, alB ops D j = true → l[j]? = some true) ∧ ∃ m, M ≤ m ∧ m ≤ ops.size ∧ (m = M ∨ effB ops D (m - 1) = true) ∧ (∀ j, j < m → effB ops D j = true → l[j]? = some true) ∧ (∀ j, m ≤ j → effB ops D j = true → l[j]? ≠ some true) ∧ L.boxes = (s m).boxes ∧ L.next = (s m).next)) → InvC N C β L a w →
      wpAny P .any ops (fun e a' w' => ∃ st' β', InvC N C β' st' a' w' ∧ Q e st') fuel l a w := by
  have hd : ((List.range ops.size).all fun i => match ops[i]? with
    | none => true
    | some o => drawAtM ops D i o) = true := by
    unfold drawOkM at hdM
    simp only [Bool.and_eq_true] at hdM
    exact hdM.2
  have hMs : M ≤ ops.size ∧ 0 < M ∧ alB ops D (M - 1) = true ∧ (∀ i, i < ops.size → i < M → effB ops D i = true → alB ops D i = true) ∧ ∀ i, M ≤ i → alB ops D i = false := by
    unfold drawOkM at hdM
    simp only [Bool.and_eq_true, decide_eq_true_eq] at hdM
    obtain ⟨⟨⟨⟨h1, h2⟩, h3⟩, h4⟩, _⟩ := hdM
    refine ⟨Nat.le_of_ble_eq_true h1, h2, h3, fun i hi him he => ?_, fun i hi => ?_⟩
    · have := List.all_eq_true.1 h4 i (List.mem_range.2 hi)
      rw [if_pos him, he] at this
      simpa using this
    · by_cases hlt : i < ops.size
      · have := List.all_eq_true.1 h4 i (List.mem_range.2 hlt)
        rw [if_neg (by omega)] at this
        simpa using this
      · unfold alB
        rw [Array.getElem?_eq_none (by omega)]
  obtain ⟨M1, M2, M3, M4, M5⟩ := hMs
  have hat : ∀ (i : Nat) (o : Oper), ops[i]? = some o → drawAtM ops D i o = true := by
    intro i o ho
    have hi := (Array.getElem?_eq_some_iff.1 ho).1
    have := List.all_eq_true.1 hd i (List.mem_range.2 hi)
    rw [ho] at this
    exact this
  have hlex : ∀ (i : Nat) (o : Oper), ops[i]? = some o → ∀ e ∈ o.after, Region.binds .any e = true → e.on < i := by
    intro i o ho e he hb
    have h := hat i o ho
    unfold drawAtM at h
    simp only [Bool.and_eq_true] at h
    have := List.all_eq_true.1 (by have := h.1.1; rwa [← Array.all_toList] at this) e (by simpa using he)
    simpa [hb] using this
  have hpair : ∀ (i : Nat) (o : Oper) (j : Nat) (q : Oper) (d : Nat), ops[i]? = some o → ops[j]? = some q → j ≠ i → q.dst = some d → o.dst ≠ some d ∧ (d ∈ o.looksAt ops → (j < i → edgeB o j = true) ∧ (i < j → edgeB q i = true)) := by
    intro i o j q d ho hq hne hqd
    have h := hat i o ho
    have hj := (Array.getElem?_eq_some_iff.1 hq).1
    unfold drawAtM at h
    simp only [Bool.and_eq_true] at h
    have h2 := List.all_eq_true.1 h.2 j (List.mem_range.2 hj)
    rw [hq] at h2
    simp only [hqd, Bool.or_eq_true, Bool.and_eq_true, beq_iff_eq, hne, false_or, Bool.not_eq_true', beq_eq_false_iff_ne, ne_eq] at h2
    refine ⟨h2.1, fun hm => ?_⟩
    rcases h2.2 with h3 | h3
    · rw [List.contains_iff_mem.2 hm] at h3; cases h3
    · exact ⟨fun hlt => by rwa [if_pos hlt] at h3, fun hlt => by rwa [if_neg (by omega)] at h3⟩
  have hedge : ∀ (o : Oper) (j : Nat), edgeB o j = true → ∃ e ∈ o.after, Region.binds .any e = true ∧ e.on = j := by
    intro o j h
    unfold edgeB at h
    rw [← Array.any_toList] at h
    obtain ⟨e, he, h2⟩ := List.any_eq_true.1 h
    simp only [Bool.and_eq_true, beq_iff_eq] at h2
    exact ⟨e, by simpa using he, h2.2, h2.1⟩
  have hop : ∀ (k : Nat), k < ops.size → ∃ o : Oper, ops[k]? = some o := fun k hk => ⟨_, Array.getElem?_eq_getElem hk⟩
  have heff : ∀ (k : Nat), effB ops D k = true → ∃ o : Oper, ops[k]? = some o ∧ valB o (D.lookup k) = false := by
    intro k hk
    unfold effB at hk
    split at hk
    · cases hk
    · rename_i q hq; exact ⟨q, hq, by simpa using hk⟩
  have heff' : ∀ (k : Nat) (o : Oper), ops[k]? = some o → valB o (D.lookup k) = false → effB ops D k = true := by
    intro k o ho h
    unfold effB
    rw [ho]
    simp [h]
  have hpath : ∀ (l : Array Bool), (∀ (i : Nat) (o : Oper), l[i]? = some true → ops[i]? = some o → ∀ e ∈ o.after, Region.binds .any e = true → l[e.on]? = some true) → ∀ (f i j : Nat), pathB ops f i j = true →
      (∀ (o : Oper), ops[i]? = some o → ∀ e ∈ o.after, Region.binds .any e = true → l[e.on]? = some true) → l[j]? = some true := by
    intro l hcl f
    induction f with
    | zero => intro i j h; simp [pathB] at h
    | succ f ih =>
      intro i j h hed
      simp only [pathB] at h
      split at h
      · cases h
      · rename_i o ho
        rw [Bool.or_eq_true] at h
        rcases h with h | h
        · obtain ⟨e, he, hb, hon⟩ := hedge o j h
          rw [← hon]
          exact hed o ho e he hb
        · rw [← Array.any_toList] at h
          obtain ⟨e, he, h2⟩ := List.any_eq_true.1 h
          simp only [Bool.and_eq_true] at h2
          have hd := hed o ho e (by simpa using he) h2.1.1
          exact ih e.on j h2.2 fun o' ho' => hcl e.on o' hd ho'
  -- those that turn the store, other than new variables, come one behind the other, and behind these
  have hchain : ∀ (l : Array Bool), (∀ (i : Nat) (o : Oper), l[i]? = some true → ops[i]? = some o → ∀ e ∈ o.after, Region.binds .any e = true → l[e.on]? = some true) → ∀ (n i j : Nat), i - j ≤ n → j < i → effB ops D i = true → alB ops D i = false → effB ops D j = true →
      (∀ (o : Oper), ops[i]? = some o → ∀ e ∈ o.after, Region.binds .any e = true → l[e.on]? = some true) → l[j]? = some true := by
    intro l hcl n
    induction n with
    | zero => intro i j h1 h2; omega
    | succ n ih =>
      intro i j hn hji hei hai hej hed
      obtain ⟨o, ho, hov⟩ := heff i hei
      have h := hat i o ho
      unfold drawAtM at h
      simp only [Bool.and_eq_true, Bool.or_eq_true, hov, hai, Bool.false_eq_true, false_or] at h
      have h2 := List.all_eq_true.1 h.1.2 j (List.mem_range.2 hji)
      simp only [hej, Bool.or_eq_true, Bool.not_true, Bool.false_eq_true, false_or] at h2
      rcases h2 with h2 | h2
      · exact hpath l hcl 8 i j h2 hed
      · obtain ⟨k, hk, h3⟩ := List.any_eq_true.1 h2
        simp only [Bool.and_eq_true, decide_eq_true_eq, Bool.not_eq_true'] at h3
        have hki := List.mem_range.1 hk
        have hlk := ih i k (by omega) hki hei hai h3.1.2 hed
        exact ih k j (by omega) h3.1.1 h3.1.2 h3.2 hej fun o' ho' e he hb => hcl k o' hlk ho' e he hb
  -- the states in their own order
  have hput : ∀ (k : Nat) (o : Oper), ops[k]? = some o → ∃ tv bx n', s (k + 1) = (({ s k with boxes := bx, next := n' } : SSt)).put o.dst tv := by
    intro k o ho
    obtain ⟨ck, h1, _⟩ := hst k o ho
    obtain ⟨tv, bx, n', h2, _⟩ := step_eff h1
    exact ⟨tv, bx, n', h2⟩
  have hget : ∀ (k : Nat) (o : Oper) (t : Nat), ops[k]? = some o → o.dst ≠ some t → (s (k + 1)).get t = (s k).get t := by
    intro k o t ho hne
    obtain ⟨tv, bx, n', h2⟩ := hput k o ho
    rw [h2]
    cases hd : o.dst with
    | none => rfl
    | some d =>
      rw [SSt.get_put, if_neg (fun e => hne (by rw [hd, e]))]
      rfl
  have hvalm : ∀ (k : Nat), k < ops.size → effB ops D k = false → (s (k + 1)).boxes = (s k).boxes ∧ (s (k + 1)).next = (s k).next := by
    intro k hk hv
    obtain ⟨o, ho⟩ := hop k hk
    obtain ⟨ck, h1, _⟩ := hst k o ho
    have : valB o (D.lookup k) = true := by
      cases h : valB o (D.lookup k) with
      | true => rfl
      | false => rw [heff' k o ho h] at hv; cases hv
    obtain ⟨tv, h2, _⟩ := step_val this h1
    rw [h2, SSt.put_boxes, SSt.put_next]
    exact ⟨rfl, rfl⟩
  have hsame : ∀ (d m : Nat), m + d ≤ ops.size → (∀ j, m ≤ j → j < m + d → effB ops D j = false) → (s (m + d)).boxes = (s m).boxes ∧ (s (m + d)).next = (s m).next := by
    intro d m
    induction d with
    | zero => intro _ _; exact ⟨rfl, rfl⟩
    | succ d ih =>
      intro h1 h2
      obtain ⟨e1, e2⟩ := ih (by omega) fun j a b => h2 j a (by omega)
      obtain ⟨f1, f2⟩ := hvalm (m + d) (by omega) (h2 (m + d) (by omega) (by omega))
      exact ⟨by rw [← e1, ← f1, Nat.add_assoc], by rw [← e2, ← f2, Nat.add_assoc]⟩
  have hseq : ∀ (i : Nat), i ≤ ops.size → (∀ (t : Nat), (∀ (j : Nat) (o : Oper), j < i → ops[j]? = some o → o.dst ≠ some t) → (s i).get t = st.get t) ∧ (∀ (j : Nat) (o : Oper) (t : Nat), j < i → ops[j]? = some o → o.dst = some t → (s i).get t = (s (j + 1)).get t) := by
    intro i
    induction i with
    | zero => intro _; exact ⟨fun t _ => by rw [hs0], fun j o t hj => by omega⟩
    | succ i ih =>
      intro hi
      obtain ⟨h1, h2⟩ := ih (by omega)
      obtain ⟨o, ho⟩ := hop i (by omega)
      refine ⟨fun t ht => ?_, fun j q t hj hq hqd => ?_⟩
      · rw [hget i o t ho (ht i o (by omega) ho)]
        exact h1 t fun j q hj hq => ht j q (by omega) hq
      · by_cases e : j = i
        · subst e; rfl
        · have hne : o.dst ≠ some t := (hpair i o j q t ho hq e hqd).1
          rw [hget i o t ho hne]
          exact h2 j q t (by omega) hq hqd
  -- the states ahead of M
  have hval : ∀ (k : Nat), k < ops.size → effB ops D k = false → ∀ o, ops[k]? = some o → valB o (D.lookup k) = true := fun k hk he o ho => by
    cases h : valB o (D.lookup k) with
    | true => rfl
    | false => rw [heff' k o ho h] at he; cases he
  have hM : ∀ j, j ≤ M → (s j).next = st.next + rk ops D j ∧ (∀ id, id < st.next → (s j).boxes.lookup id = st.boxes.lookup id) ∧
      (∀ a, alB ops D a = true → a < j → (s j).boxes.lookup (st.next + rk ops D a) = (s (a + 1)).boxes.lookup (st.next + rk ops D a)) := by
    intro j
    induction j with
    | zero => intro _; rw [hs0]; exact ⟨rfl, fun _ _ => rfl, fun a _ h => by omega⟩
    | succ j ih =>
      intro hj
      obtain ⟨i1, i2, i3⟩ := ih (by omega)
      obtain ⟨o, ho⟩ := hop j (by omega)
      obtain ⟨ck, h1, h2⟩ := hst j o ho
      cases ha : alB ops D j with
      | true =>
        obtain ⟨d, row, q1, q2, q3, q4, q5⟩ := al_step ha ho h1
        have hS := (q5 (s j)).2 rfl
        rw [hS]
        refine ⟨by simp only [rk, ha, if_true]; omega, fun id hid => ?_, fun a haa hlt => ?_⟩
        · have : (id == (s j).next) = false := by simp; omega
          show List.lookup id (((s j).next, row) :: (s j).boxes) = _
          rw [List.lookup_cons, this]
          exact i2 id hid
        · by_cases e : a = j
          · subst e; rw [hS]
          · have hlt' : a < j := by omega
            have := rk_lt hlt' haa
            have e2 : ((st.next + rk ops D a) == (s j).next) = false := by simp; omega
            show List.lookup _ (((s j).next, row) :: (s j).boxes) = _
            rw [List.lookup_cons, e2]
            exact i3 a haa hlt'
      | false =>
        have he : effB ops D j = false := by
          cases h : effB ops D j with
          | false => rfl
          | true => rw [M4 j (by omega) (by omega) h] at ha; cases ha
        obtain ⟨e1, e2⟩ := hvalm j (by omega) he
        rw [e1, e2]
        refine ⟨by simp only [rk, ha]; simpa using i1, i2, fun a haa hlt => ?_⟩
        have : a ≠ j := fun e => by rw [e, ha] at haa; cases haa
        exact i3 a haa (by omega)
  have hMn : ∀ j, j ≤ M → ∀ id, st.next + rk ops D j ≤ id → (∀ i, st.next ≤ i → st.boxes.lookup i = none) → (s j).boxes.lookup id = none := by
    intro j
    induction j with
    | zero => intro _ id hid hz; rw [hs0]; exact hz id (by simpa [rk] using hid)
    | succ j ih =>
      intro hj id hid hz
      obtain ⟨o, ho⟩ := hop j (by omega)
      obtain ⟨ck, h1, h2⟩ := hst j o ho
      cases ha : alB ops D j with
      | true =>
        obtain ⟨d, row, q1, q2, q3, q4, q5⟩ := al_step ha ho h1
        have hS := (q5 (s j)).2 rfl
        have e1 : rk ops D (j + 1) = rk ops D j + 1 := by simp only [rk, ha, if_true]
        rw [hS]
        show List.lookup _ (((s j).next, row) :: (s j).boxes) = _
        have : (id == (s j).next) = false := by rw [(hM j (by omega)).1]; simp; omega
        rw [List.lookup_cons, this]
        exact ih (by omega) id (by omega) hz
      | false =>
        have he : effB ops D j = false := by
          cases h : effB ops D j with
          | false => rfl
          | true => rw [M4 j (by omega) (by omega) h] at ha; cases ha
        rw [(hvalm j (by omega) he).1]
        exact ih (by omega) id (by simpa only [rk, ha, Bool.false_eq_true, if_false, Nat.add_zero] using hid) hz
  intro fuel
  induction fuel with
  | zero =>
    intro l L β a w hl hc hcl he1 he2 hm hi
    have hall : ∀ i, i < ops.size → l[i]? = some true := by
      intro i hlt
      have hlt' : i < l.toList.length := by simpa [hl] using hlt
      have : l.toList[i] ≠ false := fun e => by
        have := List.count_pos_iff.2 (e ▸ List.getElem_mem hlt' : false ∈ l.toList)
        omega
      rw [Array.getElem?_eq_getElem (by omega)]
      simpa using this
    rcases hm with ⟨⟨j, ja, jn⟩, _⟩ | ⟨_, m, hMm, hm1, _, _, hm3, hm4, hm5⟩
    · obtain ⟨o, ho, _⟩ := heff j (alB_val ja)
      exact absurd (hall j (Array.getElem?_eq_some_iff.1 ho).1) jn
    obtain ⟨f1, f2⟩ := hsame (ops.size - m) m (by omega) fun j a b => by
      cases h : effB ops D j with
      | false => rfl
      | true => exact absurd (hall j (by omega)) (hm3 j a h)
    rw [show m + (ops.size - m) = ops.size by omega, hsn] at f1 f2
    refine ⟨?_, sn, β, hi.sub (fun t tv ht => ?_) (hm4.trans f1.symm) (hm5.trans f2.symm), hQ⟩
    · refine List.eq_nil_iff_forall_not_mem.2 fun i hm => ?_
      unfold Region.ready at hm
      obtain ⟨h1, h2⟩ := List.mem_filter.1 hm
      have := hall i (List.mem_range.1 h1)
      simp [Array.getD_eq_getD_getElem?, this] at h2
    · obtain ⟨q1, q2⟩ := hseq ops.size (Nat.le_refl _)
      rw [hsn] at q1 q2
      by_cases hw : ∃ (j : Nat) (o : Oper), ops[j]? = some o ∧ o.dst = some t
      · obtain ⟨j, o, ho, hod⟩ := hw
        have hj := (Array.getElem?_eq_some_iff.1 ho).1
        rw [he1 j o t (hall j hj) ho hod, ← q2 j o t hj ho hod]
        exact ht
      · rw [he2 t fun j o _ ho hod => hw ⟨j, o, ho, hod⟩, ← q1 t fun j o _ ho hod => hw ⟨j, o, ho, hod⟩]
        exact ht
  | succ fuel ih =>
    intro l L β a w hl hc hcl he1 he2 hmm hi
    refine ⟨fun hr => ?_, fun i hm => ?_⟩
    · -- something can be done
      exfalso
      have hex : ∃ i : Nat, i < ops.size ∧ l[i]? = some false := by
        have hpos : false ∈ l.toList := List.count_pos_iff.1 (by omega)
        obtain ⟨i, hlt, e⟩ := List.getElem_of_mem hpos
        have hlt' : i < l.size := by simpa using hlt
        exact ⟨i, by omega, by rw [Array.getElem?_eq_getElem hlt']; simpa using e⟩
      obtain ⟨i, ⟨hlt, hf⟩, hmin⟩ := exists_min hex
      obtain ⟨o, ho⟩ := hop i hlt
      have hmem : i ∈ Region.ready .any ops l := by
        unfold Region.ready
        refine List.mem_filter.2 ⟨List.mem_range.2 hlt, ?_⟩
        simp only [Array.getD_eq_getD_getElem?, hf, ho, Option.getD_some, Bool.not_false, Bool.true_and, Option.map_some]
        rw [← Array.all_toList]
        refine List.all_eq_true.2 fun e he => ?_
        cases hbd : Region.binds .any e with
        | false => rfl
        | true =>
          have hlt2 := hlex i o ho e (by simpa using he) hbd
          have : l[e.on]? = some true := by
            have hs : e.on < l.size := by omega
            rw [Array.getElem?_eq_getElem hs]
            cases hv : l[e.on] with
            | true => rfl
            | false =>
              have := hmin e.on ⟨by omega, by rw [Array.getElem?_eq_getElem hs, hv]⟩
              omega
          simp [this]
      rw [hr] at hmem
      cases hmem
    · unfold Region.ready at hm
      obtain ⟨h1, h2⟩ := List.mem_filter.1 hm
      have hlt := List.mem_range.1 h1
      obtain ⟨o, ho⟩ := hop i hlt
      simp only [Bool.and_eq_true, Bool.not_eq_true', ho, Option.map_some, Option.getD_some] at h2
      obtain ⟨hf0, hed0⟩ := h2
      have hf : l[i]? = some false := by
        have hs : i < l.size := by omega
        rw [Array.getD_eq_getD_getElem?, Array.getElem?_eq_getElem hs, Option.getD_some] at hf0
        rw [Array.getElem?_eq_getElem hs, hf0]
      have hed : ∀ e ∈ o.after, Region.binds .any e = true → l[e.on]? = some true := by
        intro e he hbd
        rw [← Array.all_toList] at hed0
        have := List.all_eq_true.1 hed0 e (by simpa using he)
        rw [hbd] at this
        simp only [Bool.not_true, Bool.false_or, Array.getD_eq_getD_getElem?] at this
        cases hv : l[e.on]? with
        | none => rw [hv] at this; cases this
        | some b => rw [hv] at this; simpa using this
      obtain ⟨q1, q2⟩ := hseq i (by omega)
      have henv : ∀ t ∈ o.looksAt ops, L.get t = (s i).get t := by
        intro t ht
        by_cases hw : ∃ (j : Nat) (q : Oper), j ≠ i ∧ ops[j]? = some q ∧ q.dst = some t
        · obtain ⟨j, q, hne, hq, hqd⟩ := hw
          obtain ⟨hod, hre⟩ := hpair i o j q t ho hq hne hqd
          obtain ⟨r1, r2⟩ := hre ht
          by_cases hji : j < i
          · obtain ⟨e, he, hbd, hon⟩ := hedge o j (r1 hji)
            have hlj : l[j]? = some true := by rw [← hon]; exact hed e he hbd
            rw [he1 j q t hlj hq hqd, q2 j q t hji hq hqd]
          · have hij : i < j := by omega
            obtain ⟨e, he, hbd, hon⟩ := hedge q i (r2 hij)
            have hnl : l[j]? ≠ some true := fun hlj => by
              have := hcl j q hlj hq e he hbd
              rw [hon, hf] at this
              cases this
            have uniq : ∀ (k : Nat) (p : Oper), ops[k]? = some p → p.dst = some t → k = j := by
              intro k p hp hpd
              by_cases e : k = j
              · exact e
              · exact absurd hqd (hpair j q k p t hq hp e hpd).1
            rw [he2 t fun k p hk hp hpd => hnl (by rw [← uniq k p hp hpd]; exact hk), q1 t fun k p hk hp hpd => by have := uniq k p hp hpd; omega]
        · have hno : ∀ (k : Nat) (p : Oper), ops[k]? = some p → p.dst = some t → k = i := fun k p hp hpd => by
            by_cases e : k = i
            · exact e
            · exact absurd ⟨k, p, e, hp, hpd⟩ hw
          have z1 : L.get t = st.get t := he2 t fun k p hk hp hpd => by rw [hno k p hp hpd, hf] at hk; cases hk
          have z2 : (s i).get t = st.get t := q1 t fun k p hk hp hpd => by have := hno k p hp hpd; omega
          rw [z1, z2]
      obtain ⟨ck, hstep, hck⟩ := hst i o ho
      have hcount := unl_set l i hf
      have hset : ∀ (k : Nat), (l.setIfInBounds i true)[k]? = some true ↔ (k = i ∨ l[k]? = some true) := by
        intro k
        rw [Array.getElem?_setIfInBounds]
        by_cases e : i = k
        · subst e; simp [show i < l.size by omega]
        · rw [if_neg e]
          constructor
          · exact .inr
          · rintro (h | h)
            · exact absurd h.symm e
            · exact h
      -- what is done next
      have next : ∀ (L' : SSt) (β' : Ids) (a' : Act) (w' : World) (tv : TV), L'.env = (L.put o.dst tv).env → s (i + 1) = (({ s i with boxes := (s (i + 1)).boxes, next := (s (i + 1)).next } : SSt)).put o.dst tv → InvC N C β' L' a' w' →
          (((∃ j, alB ops D j = true ∧ (l.setIfInBounds i true)[j]? ≠ some true) ∧ (∀ j, effB ops D j = true → alB ops D j = false → (l.setIfInBounds i true)[j]? ≠ some true) ∧ L'.next = st.next + rk ops D M ∧
            (∀ j, alB ops D j = true → (l.setIfInBounds i true)[j]? = some true → L'.boxes.lookup (st.next + rk ops D j) = (s (j + 1)).boxes.lookup (st.next + rk ops D j)) ∧ (∀ id, id < st.next → L'.boxes.lookup id = st.boxes.lookup id) ∧
            (∀ id, st.next ≤ id → (∀ j, alB ops D j = true → (l.setIfInBounds i true)[j]? = some true → id ≠ st.next + rk ops D j) → L'.boxes.lookup id = none) ∧ (∀ j, alB ops D j = true → (l.setIfInBounds i true)[j]? ≠ some true → β' (st.next + rk ops D j) = none)) ∨
          ((∀ j, alB ops D j = true → (l.setIfInBounds i true)[j]? = some true) ∧ ∃ m, M ≤ m ∧ m ≤ ops.size ∧ (m = M ∨ effB ops D (m - 1) = true) ∧ (∀ j, j < m → effB ops D j = true → (l.setIfInBounds i true)[j]? = some true) ∧ (∀ j, m ≤ j → effB ops D j = true → (l.setIfInBounds i true)[j]? ≠ some true) ∧ L'.boxes = (s m).boxes ∧ L'.next = (s m).next)) →
          wpAny P .any ops (fun e a' w' => ∃ st' β', InvC N C β' st' a' w' ∧ Q e st') fuel (l.setIfInBounds i true) a' w' := by
        intro L' β' a' w' tv henv' hS hi' hmx
        have hLg : ∀ t, L'.get t = (L.put o.dst tv).get t := fun t => by unfold SSt.get; rw [henv']
        refine ih _ L' β' a' w' (by simp [hl]) (by omega) ?_ ?_ ?_ hmx hi'
        · intro k p hk hp e he hbd
          refine (hset _).2 (.inr ?_)
          rcases (hset k).1 hk with rfl | hk
          · rw [ho] at hp
            obtain rfl := Option.some.inj hp
            exact hed e he hbd
          · exact hcl k p hk hp e he hbd
        · intro k p t hk hp hpd
          rw [hLg]
          rcases (hset k).1 hk with rfl | hk
          · rw [ho] at hp
            obtain rfl := Option.some.inj hp
            rw [hS, hpd, SSt.get_put, SSt.get_put, if_pos rfl, if_pos rfl]
          · have hne : k ≠ i := fun e => by rw [e, hf] at hk; cases hk
            have hod := (hpair i o k p t ho hp hne hpd).1
            have e0 := he1 k p t hk hp hpd
            rw [← e0]
            cases hdd : o.dst with
            | none => rfl
            | some d => rw [SSt.get_put, if_neg (fun e => hod (by rw [hdd, e]))]
        · intro t hno
          rw [hLg]
          have hod := hno i o ((hset i).2 (.inl rfl)) ho
          rw [← he2 t fun k p hk hp => hno k p ((hset k).2 (.inr hk)) hp]
          cases hdd : o.dst with
          | none => rfl
          | some d => rw [SSt.get_put, if_neg (fun e => hod (by rw [hdd, e]))]
      have stepW : ∀ (X : SSt), stepF P N ops L o (D.lookup i) = some (X, ck) → (∀ a' w' β', InvC N C β' X a' w' → (∀ j, j < L.next → β' j = β j) → wpAny P .any ops (fun e a' w' => ∃ st' β', InvC N C β' st' a' w' ∧ Q e st') fuel (l.setIfInBounds i true) a' w') →
          wpOp P ops (fun e a' w' => ∃ st' β', InvC N C β' st' a' w' ∧ Q e st') i (wpAny P .any ops (fun e a' w' => ∃ st' β', InvC N C β' st' a' w' ∧ Q e st') fuel (l.setIfInBounds i true)) a w := by
        intro X hL hK
        have hs := step_ok2 (R := fun e a' w' => ∃ st' β', InvC N C β' st' a' w' ∧ Q e st') hL hck hi (K := wpAny P .any ops (fun e a' w' => ∃ st' β', InvC N C β' st' a' w' ∧ Q e st') fuel (l.setIfInBounds i true)) (fun a' w' β' hi' _ _ hsm => hK a' w' β' hi' hsm)
        unfold wpOp
        rw [ho]
        dsimp only
        by_cases hw : Region.wanted o (yielded ops a.tmps) = true
        · rw [if_pos hw] at hs ⊢
          exact .inl hs
        · rw [if_neg hw] at hs ⊢
          exact hs
      have notNE : (∀ j, effB ops D j = true → alB ops D j = false → l[j]? ≠ some true) → ∀ j, effB ops D j = true → alB ops D j = false → edgeB o j = false := fun h j he ha => by
        cases hE : edgeB o j with
        | false => rfl
        | true =>
          obtain ⟨e, he', hb, hon⟩ := hedge o j hE
          have := hed e he' hb
          rw [hon] at this
          exact absurd this (h j he ha)
      cases hv : valB o (D.lookup i) with
      | true =>
        obtain ⟨tv, hS, hL⟩ := step_val hv hstep
        have hne : effB ops D i = false := by unfold effB; rw [ho]; simp [hv]
        have hnal : alB ops D i = false := by
          cases h : alB ops D i with
          | false => rfl
          | true => rw [alB_val h] at hne; cases hne
        obtain ⟨v1, v2⟩ := hvalm i hlt hne
        have hsi : ∀ j, effB ops D j = true → ((l.setIfInBounds i true)[j]? = some true ↔ l[j]? = some true) := fun j hj => by
          rw [hset j]
          refine ⟨fun h => h.resolve_left fun e => ?_, .inr⟩
          rw [e, hne] at hj; cases hj
        rcases hmm with ⟨p1, p2, p3, p4, p5, p6, p7⟩ | ⟨pa, m, hMm, hm1, hm0, hm2, hm3, hm4, hm5⟩
        · -- not all variables are made
          have hal : L.alike (s i) ops o := ⟨henv, fun id hid => by
            obtain ⟨r1, r2⟩ := hreadA i o ho hv id hid (notNE p2)
            rw [← r1]
            rcases r2 with r2 | ⟨j, j1, j2, j3⟩
            · rw [p5 id r2, (hM M (Nat.le_refl _)).2.1 id r2]
            · have hjd : l[j]? = some true := hpath l hcl 8 i j j3 fun o' ho' => by
                rw [ho] at ho'
                obtain rfl := Option.some.inj ho'
                exact hed
              have hjM : j < M := Nat.lt_of_not_le fun h => by rw [M5 j h] at j1; cases j1
              rw [j2, p4 j j1 hjd, (hM M (Nat.le_refl _)).2.2 j j1 hjM]⟩
          refine stepW _ (hL L hal) fun a' w' β' hi' hsm => next _ β' a' w' tv rfl (by rw [v1, v2]; exact hS) hi' (.inl ?_)
          obtain ⟨j0, ja, jn⟩ := p1
          refine ⟨⟨j0, ja, fun h => jn ((hsi j0 (alB_val ja)).1 h)⟩, fun j hj1 hj2 h => p2 j hj1 hj2 ((hsi j hj1).1 h), by rw [SSt.put_next]; exact p3, fun j hj1 hj2 => by rw [SSt.put_boxes]; exact p4 j hj1 ((hsi j (alB_val hj1)).1 hj2),
            fun id hid => by rw [SSt.put_boxes]; exact p5 id hid, fun id hid h => by rw [SSt.put_boxes]; exact p6 id hid fun j hj1 hj2 => h j hj1 ((hsi j (alB_val hj1)).2 hj2), fun j hj1 hj2 => ?_⟩
          have hjM : j < M := Nat.lt_of_not_le fun h => by rw [M5 j h] at hj1; cases hj1
          rw [hsm _ (by rw [p3]; have := rk_lt hjM hj1; omega)]
          exact p7 j hj1 fun h => hj2 ((hsi j (alB_val hj1)).2 h)
        · have hal : L.alike (s i) ops o := ⟨henv, fun id hid => by
            rw [hm4]
            by_cases hno : m ≤ i ∧ ∀ j, m ≤ j → j < i → effB ops D j = false
            · have := (hsame (i - m) m (by omega) fun j a b => hno.2 j a (by omega)).1
              rw [show m + (i - m) = i by omega] at this
              rw [this]
            by_cases hmM : m = M
            · subst hmM
              refine (hreadA i o ho hv id hid (notNE fun j he ha h => ?_)).1
              by_cases hjM : j < m
              · rw [M4 j (by omega) hjM he] at ha; cases ha
              · exact hm3 j (by omega) he h
            refine hread i o ho hv id hid m (by omega) hm1 ?_
            have hm0' : effB ops D (m - 1) = true := hm0.resolve_left hmM
            unfold possB
            rw [Bool.and_eq_true]
            rw [Bool.and_eq_true]
            refine ⟨⟨by simp [hm0'], ?_⟩, List.all_eq_true.2 fun j hj => ?_⟩
            · rw [Bool.or_eq_true, decide_eq_true_eq, List.any_eq_true]
              by_cases hlt2 : i < m
              · exact .inl hlt2
              · right
                have hex : ∃ j, m ≤ j ∧ j < i ∧ effB ops D j = true := by
                  refine Classical.byContradiction fun hc => hno ⟨by omega, fun j a b => ?_⟩
                  cases h : effB ops D j with
                  | false => rfl
                  | true => exact absurd ⟨j, a, b, h⟩ hc
                obtain ⟨j, a, b, h⟩ := hex
                exact ⟨j, List.mem_range.2 b, by simp [a, h]⟩
            have hjl := List.mem_range.1 hj
            obtain ⟨q, hq⟩ := hop j hjl
            rw [hq]
            dsimp only
            rw [Bool.or_eq_true]
            cases hqv : valB q (D.lookup j) with
            | true => exact .inl rfl
            | false =>
              right
              have hej := heff' j q hq hqv
              by_cases hjm : j < m
              · rw [if_pos hjm, Bool.not_eq_true']
                cases hE : edgeB q i with
                | false => rfl
                | true =>
                  obtain ⟨e, he, hb, hon⟩ := hedge q i hE
                  have := hcl j q (hm2 j hjm hej) hq e he hb
                  rw [hon, hf] at this
                  cases this
              · rw [if_neg hjm, Bool.not_eq_true']
                cases hE : edgeB o j with
                | false => rfl
                | true =>
                  obtain ⟨e, he, hb, hon⟩ := hedge o j hE
                  have := hed e he hb
                  rw [hon] at this
                  exact absurd this (hm3 j (by omega) hej)⟩
          refine stepW _ (hL L hal) fun a' w' β' hi' hsm => next _ β' a' w' tv rfl (by rw [v1, v2]; exact hS) hi' (.inr ⟨fun j hj => (hsi j (alB_val hj)).2 (pa j hj), m, hMm, hm1, hm0, fun j hj he => (hsi j he).2 (hm2 j hj he), fun j hj he h => hm3 j hj he ((hsi j he).1 h), by rw [SSt.put_boxes]; exact hm4, by rw [SSt.put_next]; exact hm5⟩)
      | false =>
        have hei := heff' i o ho hv
        cases hal : alB ops D i with
        | true =>
          -- a variable is made
          have hiM : i < M := Nat.lt_of_not_le fun h => by rw [M5 i h] at hal; cases hal
          rcases hmm with ⟨p1, p2, p3, p4, p5, p6, p7⟩ | ⟨pa, _⟩
          rotate_left
          · have := pa i hal
            rw [hf] at this
            cases this
          obtain ⟨d, row, q1, q2, q3, q4, q5⟩ := al_step hal ho hstep
          have hS := (q5 (s i)).2 rfl
          have hnx := (hM i (Nat.le_of_lt hiM)).1
          have hr : st.next + rk ops D i < L.next := by rw [p3]; have := rk_lt hiM hal; omega
          have hfree : β (st.next + rk ops D i) = none := p7 i hal (by rw [hf]; simp)
          refine stepW _ (by rw [q2, q3]; exact (q5 L).1) fun a' w' β' hi' hsm => ?_
          obtain ⟨β2, k1, k2⟩ := hi.keepId hr (by omega) hfree hi' hsm q4
          have hlkS : (s (i + 1)).boxes.lookup (st.next + rk ops D i) = some row := by
            rw [hS]
            show List.lookup _ (((s i).next, row) :: (s i).boxes) = _
            rw [hnx, List.lookup_cons]
            simp
          have hSput : s (i + 1) = (({ s i with boxes := (s (i + 1)).boxes, next := (s (i + 1)).next } : SSt)).put o.dst (.one (.box (st.next + rk ops D i) 0)) := by
            rw [q1]
            conv => lhs; rw [hS]
            rw [← hnx]
            show _ = SSt.mk _ _ _
            rw [hS]
          have hb2 : ∀ id, ((st.next + rk ops D i, row) :: L.boxes).lookup id = if id = st.next + rk ops D i then some row else L.boxes.lookup id := fun id => by
            rw [List.lookup_cons]
            by_cases e : id = st.next + rk ops D i
            · rw [if_pos e, e]; simp
            · have : (id == st.next + rk ops D i) = false := by simpa using e
              rw [if_neg e, this]
          have g4 : ∀ j, alB ops D j = true → (l.setIfInBounds i true)[j]? = some true → ((st.next + rk ops D i, row) :: L.boxes).lookup (st.next + rk ops D j) = (s (j + 1)).boxes.lookup (st.next + rk ops D j) := fun j hj hjl => by
            rw [hb2]
            by_cases e : j = i
            · rw [e, if_pos rfl, hlkS]
            · rw [if_neg fun h => e (rk_inj hj hal (by omega))]
              exact p4 j hj (((hset j).1 hjl).resolve_left e)
          have g5 : ∀ id, id < st.next → ((st.next + rk ops D i, row) :: L.boxes).lookup id = st.boxes.lookup id := fun id hid => by
            rw [hb2, if_neg (by omega)]
            exact p5 id hid
          have g6 : ∀ id, st.next ≤ id → (∀ j, alB ops D j = true → (l.setIfInBounds i true)[j]? = some true → id ≠ st.next + rk ops D j) → ((st.next + rk ops D i, row) :: L.boxes).lookup id = none := fun id hid h => by
            rw [hb2, if_neg (h i hal ((hset i).2 (.inl rfl)))]
            exact p6 id hid fun j hj hjl => h j hj ((hset j).2 (.inr hjl))
          by_cases hall : ∀ j, alB ops D j = true → (l.setIfInBounds i true)[j]? = some true
          · -- all are made now
            have hlk : ∀ id, (s M).boxes.lookup id = ((st.next + rk ops D i, row) :: L.boxes).lookup id := fun id => by
              by_cases h1 : id < st.next
              · rw [g5 id h1, (hM M (Nat.le_refl _)).2.1 id h1]
              · by_cases h2 : ∃ j, alB ops D j = true ∧ id = st.next + rk ops D j
                · obtain ⟨j, j1, rfl⟩ := h2
                  have hjM : j < M := Nat.lt_of_not_le fun h => by rw [M5 j h] at j1; cases j1
                  rw [g4 j j1 (hall j j1), (hM M (Nat.le_refl _)).2.2 j j1 hjM]
                · have hge : st.next + rk ops D M ≤ id := by
                    refine Nat.le_of_not_lt fun h => h2 ?_
                    have : ∀ k, k ≤ M → id < st.next + rk ops D k → ∃ j, alB ops D j = true ∧ id = st.next + rk ops D j := by
                      intro k
                      induction k with
                      | zero => intro _ h; simp only [rk] at h; omega
                      | succ k ihk =>
                        intro hk h
                        by_cases hak : alB ops D k = true
                        · simp only [rk, hak, if_true] at h
                          by_cases hlt3 : id < st.next + rk ops D k
                          · exact ihk (by omega) hlt3
                          · exact ⟨k, hak, by omega⟩
                        · simp only [rk, hak, if_false] at h
                          exact ihk (by omega) h
                    exact this M (Nat.le_refl _) h
                  rw [hMn M (Nat.le_refl _) id hge fun j hj => ?_, g6 id (by omega) fun j hj _ e => h2 ⟨j, hj, e⟩]
                  cases hx : st.boxes.lookup j with
                  | none => rfl
                  | some x => exact absurd (hstn j x hx) (by omega)
            have hcov := k1.rows (σ := (s M).boxes) hlk
            refine next _ β2 a' w' (.one (.box (st.next + rk ops D i) 0)) (by rw [q1]; rfl) hSput hcov (.inr ⟨hall, M, Nat.le_refl _, M1, .inl rfl, fun j hj he => hall j (M4 j (by omega) hj he), fun j hj he h => ?_, rfl, by rw [p3]; exact (hM M (Nat.le_refl _)).1.symm⟩)
            have hja := M5 j hj
            rcases (hset j).1 h with e | e
            · rw [e, hal] at hja; cases hja
            · exact p2 j he hja e
          · refine next _ β2 a' w' (.one (.box (st.next + rk ops D i) 0)) (by rw [q1]; rfl) hSput k1 (.inl ⟨?_, fun j hj1 hj2 h => ?_, p3, g4, g5, g6, fun j hj1 hj2 => ?_⟩)
            · refine Classical.byContradiction fun hc => hall fun j hj => ?_
              refine Classical.byContradiction fun hn => hc ⟨j, hj, hn⟩
            · rcases (hset j).1 h with e | e
              · rw [e, hal] at hj2; cases hj2
              · exact p2 j hj1 hj2 e
            · have hji : j ≠ i := fun e => hj2 ((hset j).2 (.inl e))
              have hjM : j < M := Nat.lt_of_not_le fun h => by rw [M5 j h] at hj1; cases hj1
              rw [k2 _ (by rw [p3]; have := rk_lt hjM hj1; omega) fun e => hji (rk_inj hj1 hal (by omega))]
              exact p7 j hj1 fun h => hj2 ((hset j).2 (.inr h))
        | false =>
          have hbelow : ∀ j, j < i → effB ops D j = true → l[j]? = some true := fun j hj he => hchain l hcl (i - j) i j (Nat.le_refl _) hj hei hal he fun o' ho' => by
            rw [ho] at ho'
            obtain rfl := Option.some.inj ho'
            exact hed
          have hMi : M ≤ i := Nat.le_of_not_lt fun h => by rw [M4 i hlt h hei] at hal; cases hal
          have halls : ∀ j, alB ops D j = true → l[j]? = some true := fun j hj => hbelow j (by have : j < M := Nat.lt_of_not_le fun h => (by rw [M5 j h] at hj; cases hj); omega) (alB_val hj)
          rcases hmm with ⟨⟨j, ja, jn⟩, _⟩ | ⟨pa, m, hMm, hm1, hm0, hm2, hm3, hm4, hm5⟩
          · exact absurd (halls j ja) jn
          obtain ⟨tv, bx, n', hS, hL⟩ := step_eff hstep
          have hmi : m ≤ i := by
            refine Nat.le_of_not_lt fun h => ?_
            have := hm2 i h hei
            rw [hf] at this
            cases this
          obtain ⟨f1, f2⟩ := hsame (i - m) m (by omega) fun j a b => by
            cases h : effB ops D j with
            | false => rfl
            | true => exact absurd (hbelow j (by omega) h) (hm3 j a h)
          rw [show m + (i - m) = i by omega] at f1 f2
          have g1 : (s (i + 1)).boxes = bx := by rw [hS, SSt.put_boxes]
          have g2 : (s (i + 1)).next = n' := by rw [hS, SSt.put_next]
          have hab : L.boxes = (s i).boxes := hm4.trans f1.symm
          have han : L.next = (s i).next := hm5.trans f2.symm
          refine stepW _ (hL L ⟨henv, fun id _ => by rw [hab]⟩ hab han) fun a' w' β' hi' hsm => next _ β' a' w' tv ?_ (by rw [g1, g2]; exact hS) hi' (.inr ⟨fun j hj => (hset j).2 (.inr (pa j hj)), i + 1, by omega, by omega, .inr (by simpa using hei), fun j hj he => (hset j).2 ?_, fun j hj he hk => ?_, by rw [SSt.put_boxes]; exact g1.symm, by rw [SSt.put_next]; exact g2.symm⟩)
          · cases o.dst <;> rfl
          · by_cases e : j = i
            · exact .inl e
            · exact .inr (hbelow j (by omega) he)
          · rcases (hset j).1 hk with rfl | hk
            · omega
            · exact hm3 j (by omega) he hk
theorem SW.drawM {id : Nat} {st : SSt} (D : List (Nat × Ans)) (s : Nat → SSt) (M : Nat) (hm : P.follows .mixedOrders = true) (hd : drawOkM ops D M = true) (hs0 : s 0 = st)
    (hst : ∀ (k : Nat) (o : Oper), ops[k]? = some o → ∃ ck, stepF P N ops (s k) o (D.lookup k) = some (s (k + 1), ck) ∧ ∀ q ∈ ck, q.ok P)
    (hreadA : ∀ (i : Nat) (o : Oper), ops[i]? = some o → valB o (D.lookup i) = true → ∀ id, (s i).reads o = some id → (∀ j, effB ops D j = true → alB ops D j = false → edgeB o j = false) →
      (s M).boxes.lookup id = (s i).boxes.lookup id ∧ (id < st.next ∨ ∃ j, alB ops D j = true ∧ id = st.next + rk ops D j ∧ pathB ops 8 i j = true))
    (hread : ∀ (i : Nat) (o : Oper), ops[i]? = some o → valB o (D.lookup i) = true → ∀ id, (s i).reads o = some id → ∀ m, M < m → m ≤ ops.size → possB ops D i o m = true → (s m).boxes.lookup id = (s i).boxes.lookup id) (h : Q .normal (s ops.size)) :
    SW P N C (.region id ops true) Q st := fun β a w hi => by
  refine wp_region_any hm ?_
  have hfalse : ∀ (i : Nat), (Array.replicate ops.size false)[i]? ≠ some true := by
    intro i h
    rw [Array.getElem?_replicate] at h
    split at h <;> cases h
  have hstn : ∀ i row, st.boxes.lookup i = some row → i < st.next := fun i row hr => by
    obtain ⟨O, q, _⟩ := hi.1.mem.row i row hr
    exact Nat.lt_of_not_le fun hle => by rw [hi.1.mem.dom i hle] at q; cases q
  have hM2 : 0 < M ∧ alB ops D (M - 1) = true := by
    unfold drawOkM at hd
    simp only [Bool.and_eq_true, decide_eq_true_eq] at hd
    exact ⟨hd.1.1.1.2, hd.1.1.2⟩
  exact draw_anyM (D := D) hd hs0 rfl hi.2.2 hstn hst hreadA hread h ops.size (Array.replicate ops.size false) ⟨st.env, st.boxes, st.next + rk ops D M⟩ β a _ (by simp) (by simp) (fun i o hi => absurd hi (hfalse i)) (fun i o t hi => absurd hi (hfalse i)) (fun t _ => rfl)
    (.inl ⟨⟨M - 1, hM2.2, hfalse _⟩, fun j _ _ => hfalse j, rfl, fun j _ h => absurd h (hfalse j), fun id _ => rfl, fun id hid _ => by
      cases hx : st.boxes.lookup id with
      | none => rfl
      | some x => exact absurd (hstn id x hx) (by omega), fun j hj _ => hi.1.mem.dom _ (Nat.le_add_right _ _)⟩) (hi.bumpN (Nat.le_add_right _ _)).drew
end
end Go.Proofs.YtbljhngekhgbbaaGreat
