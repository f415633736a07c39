/- Texts of the proofs of CmdEnds, CmdFirst, CmdGrows, CmdPlays, merged (Words, AmA, AmB). -/
import Derived.Laws.OwnMore
import Derived.Deep.AppendLies
import Derived.Deep.Draws
import Derived.Laws.Rows
import Derived.Maps.AppendAt
import Derived.RegionTactic
import Derived.OwnWalk
import Derived.Deep.OwnRows
import Derived.Laws.AppendOwn
import Derived.Laws.MakeOwn
import Derived.Laws.Entries
import Derived.Lib.Hide
import Derived.Deep.QuietTactic
import Derived.Test.YtbljhngekhgbbaaGreatGb3b707fa
set_option linter.unusedSimpArgs false
set_option linter.unusedVariables false
namespace Go.Proofs.YtbljhngekhgbbaaGreat
open Go.RowKit
theorem block_of_add (a : Addr) (n : Nat) : (a.add n).block = a.block := by unfold Addr.add; split <;> rfl
theorem add_of_add (a : Addr) (i j : Nat) : (a.add i).add j = a.add (i + j) := by
  unfold Addr.add
  by_cases hi : i = 0 <;> by_cases hj : j = 0 <;> simp [hi, hj, Nat.add_assoc]
section
variable {w w' : World} {B B' size n : Nat} {A : Option Addr} {xs : List Value}
end
section
variable {w w' : World} {g : Nat} {t : TypeId} {cs : Array Value}
end
section
variable {P : Program} (w : World)
end
end Go.Proofs.YtbljhngekhgbbaaGreat
namespace Go.Proofs.YtbljhngekhgbbaaGreat
open Go.RowKit
set_option linter.unusedVariables false
/-- a block of the call's own: its number, for how many elements it has room, how many cells an element has; z: there is none (a slice without elements) -/
structure Own where
  b : Nat
  c : Nat
  k : Nat
  z : Bool
abbrev Ids := Nat → Option Own
def noIds : Ids := fun _ => none
def Own.at (o : Own) (n : Nat) : Addr := (⟨o.b, 0, none⟩ : Addr).add n
structure MStamp where
  time : Int
  node : Int
structure MSpan where
  lo : ByteArray
  hi : ByteArray
structure MShard where
  span : MSpan
  nodes : List Int
structure MDep where
  shard : Int
  ids : List MStamp
structure MOp where
  kind : Int
  key : ByteArray
  to : ByteArray
  num : Int
structure MPair where
  key : ByteArray
  num : Int
structure MWrite where
  key : ByteArray
  num : Int
  gone : Bool
structure MVal where
  gone : Bool
  tm : MStamp
  deps : List MDep
structure MCmd where
  id : MStamp
  ops : List MOp
  phase : Int
  promise : MStamp
  vote : MStamp
  fast : Bool
  seen : List MDep
  bound : MStamp
  has : Bool
  ballot : MStamp
  value : MVal
  ready : Bool
  writes : List MWrite
  pairs : List MPair
structure MTold where
  node : Int
  ops : List MOp
  vote : MStamp
  fast : Bool
  deps : List MDep
  has : Bool
  ballot : MStamp
  value : MVal
structure MAct where
  kind : Int
  ops : List MOp
  a : MStamp
  b : MStamp
  fast : Bool
  deps : List MDep
  value : MVal
  writes : List MWrite
  pairs : List MPair
structure MMsg where
  kind : Int
  src : Int
  dst : Int
  id : MStamp
  ballot : MStamp
  tm : MStamp
  ops : List MOp
  fast : Bool
  deps : List MDep
  has : Bool
  acc : MStamp
  value : MVal
  writes : List MWrite
  pairs : List MPair
inductive Ty where
  | int | byte | text | stamp | span | shard | dep | op | pair | write | cmd | told | act | msg | deps | stamps | spans
  deriving DecidableEq
abbrev Ty.El : Ty → Type
  | .int => Int
  | .byte => UInt8
  | .text => ByteArray
  | .stamp => MStamp
  | .span => MSpan
  | .shard => MShard
  | .dep => MDep
  | .op => MOp
  | .pair => MPair
  | .write => MWrite
  | .cmd => MCmd
  | .told => MTold
  | .act => MAct
  | .msg => MMsg
  | .deps => List MDep
  | .stamps => List MStamp
  | .spans => List MSpan
/-- a value of one cell, told without memory -/
inductive PV where
  | lit (v : Value)                       -- just this value
  | sl (x : Bool) (rows : List (List PV)) -- a slice that is only read: its elements' cells; x: no room behind them
  | ptr (xs : List PV) (off : Nat)        -- into a row of cells that is only read
  | box (id off : Nat)                    -- into a variable
  | osl (id o n : Nat)                    -- a slice of an own row: n elements from element o on
  | elp (id i off : Nat)                  -- into element i of an own row
  | clo (g : Fn) (first cap : List PV)    -- a function with what it has caught
  | dat (t : Ty) (l : List t.El)          -- a slice that is only read: its elements as data
/-- what a temporary holds -/
inductive TV where
  | one (p : PV)
  | agg (ps : List PV)
  | tup (ts : List TV)
  | bad
abbrev pI (n : Int) : PV := .lit (.int .i64 n)
abbrev pB (b : Bool) : PV := .lit (.bool b)
abbrev pT (s : ByteArray) : PV := .lit (.string s)
abbrev pN (n : Int) : PV := .lit (.int .u64 n)
def encVal (v : MVal) : List PV := [pB v.gone, pI v.tm.time, pI v.tm.node, .dat .dep v.deps]
def encCmd (c : MCmd) : List PV := [pI c.id.time, pI c.id.node, .dat .op c.ops, pI c.phase, pI c.promise.time, pI c.promise.node, pI c.vote.time, pI c.vote.node, pB c.fast, .dat .dep c.seen, pI c.bound.time, pI c.bound.node, pB c.has, pI c.ballot.time, pI c.ballot.node,
  pB c.value.gone, pI c.value.tm.time, pI c.value.tm.node, .dat .dep c.value.deps, pB c.ready, .dat .write c.writes, .dat .pair c.pairs]
def encTold (x : MTold) : List PV := [pI x.node, .dat .op x.ops, pI x.vote.time, pI x.vote.node, pB x.fast, .dat .dep x.deps, pB x.has, pI x.ballot.time, pI x.ballot.node, pB x.value.gone, pI x.value.tm.time, pI x.value.tm.node, .dat .dep x.value.deps]
def encAct (x : MAct) : List PV := [pI x.kind, .dat .op x.ops, pI x.a.time, pI x.a.node, pI x.b.time, pI x.b.node, pB x.fast, .dat .dep x.deps, pB x.value.gone, pI x.value.tm.time, pI x.value.tm.node, .dat .dep x.value.deps, .dat .write x.writes, .dat .pair x.pairs]
def encMsg (x : MMsg) : List PV := [pI x.kind, pI x.src, pI x.dst, pI x.id.time, pI x.id.node, pI x.ballot.time, pI x.ballot.node, pI x.tm.time, pI x.tm.node, .dat .op x.ops, pB x.fast, .dat .dep x.deps, pB x.has, pI x.acc.time, pI x.acc.node,
  pB x.value.gone, pI x.value.tm.time, pI x.value.tm.node, .dat .dep x.value.deps, .dat .write x.writes, .dat .pair x.pairs]
/-- an element's cells -/
def encEl : (t : Ty) → t.El → List PV
  | .int, n => [pI n]
  | .byte, b => [.lit (.int .u8 (b.toNat : Int))]
  | .text, s => [pT s]
  | .stamp, s => [pI s.time, pI s.node]
  | .span, s => [pT s.lo, pT s.hi]
  | .shard, s => [pT s.span.lo, pT s.span.hi, .dat .int s.nodes]
  | .dep, d => [pI d.shard, .dat .stamp d.ids]
  | .op, o => [pI o.kind, pT o.key, pT o.to, pN o.num]
  | .pair, p => [pT p.key, pN p.num]
  | .write, w => [pT w.key, pN w.num, pB w.gone]
  | .cmd, c => encCmd c
  | .told, x => encTold x
  | .act, x => encAct x
  | .msg, x => encMsg x
  | .deps, l => [.dat .dep l]
  | .stamps, l => [.dat .stamp l]
  | .spans, l => [.dat .span l]
def encs (t : Ty) (l : List t.El) : List (List PV) := l.map (encEl t)
def dfl : (t : Ty) → t.El
  | .int => (0 : Int)
  | .byte => (0 : UInt8)
  | .text => ByteArray.empty
  | .stamp => (⟨0, 0⟩ : MStamp)
  | .span => (⟨.empty, .empty⟩ : MSpan)
  | .shard => (⟨⟨.empty, .empty⟩, []⟩ : MShard)
  | .dep => (⟨0, []⟩ : MDep)
  | .op => (⟨0, .empty, .empty, 0⟩ : MOp)
  | .pair => (⟨.empty, 0⟩ : MPair)
  | .write => (⟨.empty, 0, false⟩ : MWrite)
  | .cmd => (⟨⟨0, 0⟩, [], 0, ⟨0, 0⟩, ⟨0, 0⟩, false, [], ⟨0, 0⟩, false, ⟨0, 0⟩, ⟨false, ⟨0, 0⟩, []⟩, false, [], []⟩ : MCmd)
  | .told => (⟨0, [], ⟨0, 0⟩, false, [], false, ⟨0, 0⟩, ⟨false, ⟨0, 0⟩, []⟩⟩ : MTold)
  | .act => (⟨0, [], ⟨0, 0⟩, ⟨0, 0⟩, false, [], ⟨false, ⟨0, 0⟩, []⟩, [], []⟩ : MAct)
  | .msg => (⟨0, 0, 0, ⟨0, 0⟩, ⟨0, 0⟩, ⟨0, 0⟩, [], false, [], false, ⟨0, 0⟩, ⟨false, ⟨0, 0⟩, []⟩, [], []⟩ : MMsg)
  | .deps => ([] : List MDep)
  | .stamps => ([] : List MStamp)
  | .spans => ([] : List MSpan)
/-- how many cells an element has -/
def Ty.w (t : Ty) : Nat := (encEl t (dfl t)).length
theorem enc_len (t : Ty) (x : t.El) : (encEl t x).length = t.w := by cases t <;> rfl
theorem encs_all (t : Ty) (l : List t.El) : ∀ r ∈ encs t l, r.length = t.w := by
  intro r hr
  unfold encs at hr
  obtain ⟨x, _, rfl⟩ := List.mem_map.1 hr
  exact enc_len t x
/-- p stands for u in the world w; the cells that it leads to, and that stay, are in G; row id lies in block β id -/
inductive RepP (w : World) (G : Addr → Prop) : Ids → PV → Value → Prop
  | lit {β : Ids} {v : Value} (h : v.oneCell' = true) : RepP w G β (.lit v) v
  | sl0 {β : Ids} {x : Bool} {A : Option Addr} {c : Nat} (hx : x = true → c = 0) (hA : A = none → c = 0) : RepP w G β (.sl x []) (.slice A 0 c)
  | sl {β : Ids} {x : Bool} {c k : Nat} {rows : List (List PV)} {us : List Value} {a : Addr} (h : rows.length ≤ c) (hx : x = true → c = rows.length) (hk : ∀ r ∈ rows, r.length = k) (hl : us.length = rows.flatten.length)
      (hc : ∀ (i : Nat) (u : Value), us[i]? = some u → w.cell? (a.add i) = some u ∧ G (a.add i)) (hr : ∀ (i : Nat) (p : PV) (u : Value), rows.flatten[i]? = some p → us[i]? = some u → RepP w G noIds p u) : RepP w G β (.sl x rows) (.slice (some a) rows.length c)
  | ptr {β : Ids} {xs : List PV} {us : List Value} {off : Nat} {a : Addr} (hl : us.length = xs.length) (hc : ∀ (i : Nat) (u : Value), us[i]? = some u → w.cell? (a.add i) = some u ∧ G (a.add i))
      (hr : ∀ (i : Nat) (p : PV) (u : Value), xs[i]? = some p → us[i]? = some u → RepP w G noIds p u) : RepP w G β (.ptr xs off) (.pointer (some (a.add off)))
  | box {β : Ids} {id off : Nat} {O : Own} (h : β id = some O) (hz : O.z = false) : RepP w G β (.box id off) (.pointer (some (O.at off)))
  | osl {β : Ids} {id o n : Nat} {O : Own} (h : β id = some O) (hz : O.z = false) (hn : o + n ≤ O.c) : RepP w G β (.osl id o n) (.slice (some (O.at (o * O.k))) n (O.c - o))
  | osl0 {β : Ids} {id : Nat} {A : Option Addr} {O : Own} (h : β id = some O) (hz : O.z = true) : RepP w G β (.osl id 0 0) (.slice A 0 0)
  | elp {β : Ids} {id i off : Nat} {O : Own} (h : β id = some O) (hz : O.z = false) : RepP w G β (.elp id i off) (.pointer (some (O.at (i * O.k + off))))
  | clo {β : Ids} {g : Fn} {first cap : List PV} {fs cs : Array Value} (h1 : fs.size = first.length) (h2 : cs.size = cap.length) (hf : ∀ (i : Nat) (p : PV) (u : Value), first[i]? = some p → fs[i]? = some u → RepP w G β p u)
      (hc : ∀ (i : Nat) (p : PV) (u : Value), cap[i]? = some p → cs[i]? = some u → RepP w G β p u) : RepP w G β (.clo g first cap) (.func g fs cs)
  | dat {β : Ids} {t : Ty} {l : List t.El} {rows : List (List PV)} {v : Value} (hn : l.length ≤ maxLen) (he : encs t l = rows) (h : RepP w G β (.sl false rows) v) : RepP w G β (.dat t l) v
/-- cell by cell -/
def RepL (w : World) (G : Addr → Prop) (β : Ids) (ps : List PV) (us : List Value) : Prop := us.length = ps.length ∧ ∀ (i : Nat) (p : PV) (u : Value), ps[i]? = some p → us[i]? = some u → RepP w G β p u
inductive RepT (w : World) (G : Addr → Prop) (β : Ids) : TV → Value → Prop
  | one {p : PV} {v : Value} (h : RepP w G β p v) : RepT w G β (.one p) v
  | agg {ps : List PV} {cs : Array Value} (h : RepL w G β ps cs.toList) : RepT w G β (.agg ps) (.agg cs)
  | tup {ts : List TV} {vs : Array Value} (hl : vs.size = ts.length) (h : ∀ (i : Nat) (t : TV) (v : Value), ts[i]? = some t → vs[i]? = some v → RepT w G β t v) : RepT w G β (.tup ts) (.tuple vs)
  | bad {v : Value} : RepT w G β .bad v
section
variable {w w' : World} {G G' : Addr → Prop} {β β' : Ids}
theorem RepP.oneCell {p : PV} {v : Value} (h : RepP w G β p v) : v.oneCell' = true := by
  cases h with
  | lit h => exact h
  | dat hn he h => cases h <;> rfl
  | _ => rfl
/-- what is read stays -/
theorem RepP.mono {p : PV} {v : Value} (h : RepP w G β p v) (hk : ∀ q u, w.cell? q = some u → G q → w'.cell? q = some u ∧ G' q) : RepP w' G' β p v := by
  induction h with
  | lit h => exact .lit h
  | sl0 h hA => exact .sl0 h hA
  | sl h hx hq hl hc _ ih => exact .sl h hx hq hl (fun i u hu => hk _ _ (hc i u hu).1 (hc i u hu).2) ih
  | ptr hl hc _ ih => exact .ptr hl (fun i u hu => hk _ _ (hc i u hu).1 (hc i u hu).2) ih
  | box h hz => exact .box h hz
  | osl h hz hn => exact .osl h hz hn
  | osl0 h hz => exact .osl0 h hz
  | elp h hz => exact .elp h hz
  | clo h1 h2 _ _ i1 i2 => exact .clo h1 h2 i1 i2
  | dat hn he _ ih => exact .dat hn he ih
theorem RepL.mono {ps : List PV} {us : List Value} (h : RepL w G β ps us) (hk : ∀ q u, w.cell? q = some u → G q → w'.cell? q = some u ∧ G' q) : RepL w' G' β ps us := ⟨h.1, fun i p u h1 h2 => (h.2 i p u h1 h2).mono hk⟩
theorem RepT.mono {t : TV} {v : Value} (h : RepT w G β t v) (hk : ∀ q u, w.cell? q = some u → G q → w'.cell? q = some u ∧ G' q) : RepT w' G' β t v := by
  induction h with
  | one h => exact .one (h.mono hk)
  | agg h => exact .agg (h.mono hk)
  | tup hl _ ih => exact .tup hl ih
  | bad => exact .bad
/-- more ids -/
theorem RepP.more {p : PV} {v : Value} (h : RepP w G β p v) : (∀ i o, β i = some o → β' i = some o) → RepP w G β' p v := by
  induction h with
  | lit h => exact fun _ => .lit h
  | sl0 h hA => exact fun _ => .sl0 h hA
  | sl h hx hq hl hc hr _ => exact fun _ => .sl h hx hq hl hc hr
  | ptr hl hc hr _ => exact fun _ => .ptr hl hc hr
  | box h hz => exact fun hb => .box (hb _ _ h) hz
  | osl h hz hn => exact fun hb => .osl (hb _ _ h) hz hn
  | osl0 h hz => exact fun hb => .osl0 (hb _ _ h) hz
  | elp h hz => exact fun hb => .elp (hb _ _ h) hz
  | clo h1 h2 _ _ i1 i2 => exact fun hb => .clo h1 h2 (fun i p u a b => i1 i p u a b hb) (fun i p u a b => i2 i p u a b hb)
  | dat hn he _ ih => exact fun hb => .dat hn he (ih hb)
theorem RepL.more {ps : List PV} {us : List Value} (h : RepL w G β ps us) (hb : ∀ i o, β i = some o → β' i = some o) : RepL w G β' ps us := ⟨h.1, fun i p u h1 h2 => (h.2 i p u h1 h2).more hb⟩
theorem RepT.more {t : TV} {v : Value} (h : RepT w G β t v) (hb : ∀ i o, β i = some o → β' i = some o) : RepT w G β' t v := by
  induction h with
  | one h => exact .one (h.more hb)
  | agg h => exact .agg (h.more hb)
  | tup hl _ ih => exact .tup hl ih
  | bad => exact .bad
end
mutual
def PV.free : PV → Bool
  | .lit _ => true
  | .sl _ _ => true
  | .ptr _ _ => true
  | .box _ _ => false
  | .osl _ _ _ => false
  | .elp _ _ _ => false
  | .clo _ f c => PV.frees f && PV.frees c
  | .dat _ _ => true
def PV.frees : List PV → Bool
  | [] => true
  | x :: xs => x.free && PV.frees xs
end
mutual
def TV.free : TV → Bool
  | .one p => p.free
  | .agg ps => PV.frees ps
  | .tup ts => TV.frees ts
  | .bad => true
def TV.frees : List TV → Bool
  | [] => true
  | x :: xs => x.free && TV.frees xs
end
theorem PV.frees_get : ∀ {xs : List PV} {i : Nat} {p : PV}, PV.frees xs = true → xs[i]? = some p → p.free = true
  | x :: xs, 0, p, h, e => by
    simp only [PV.frees, Bool.and_eq_true] at h
    simp at e; subst e; exact h.1
  | x :: xs, i + 1, p, h, e => by
    simp only [PV.frees, Bool.and_eq_true] at h
    exact PV.frees_get h.2 (by simpa using e)
theorem TV.frees_get : ∀ {xs : List TV} {i : Nat} {p : TV}, TV.frees xs = true → xs[i]? = some p → p.free = true
  | x :: xs, 0, p, h, e => by
    simp only [TV.frees, Bool.and_eq_true] at h
    simp at e; subst e; exact h.1
  | x :: xs, i + 1, p, h, e => by
    simp only [TV.frees, Bool.and_eq_true] at h
    exact TV.frees_get h.2 (by simpa using e)
section
variable {w : World} {G : Addr → Prop} {β β' : Ids}
theorem RepP.other {p : PV} {v : Value} (h : RepP w G β p v) : p.free = true → RepP w G β' p v := by
  induction h with
  | lit h => exact fun _ => .lit h
  | sl0 h hA => exact fun _ => .sl0 h hA
  | sl h hx hq hl hc hr _ => exact fun _ => .sl h hx hq hl hc hr
  | ptr hl hc hr _ => exact fun _ => .ptr hl hc hr
  | clo h1 h2 _ _ i1 i2 =>
    intro hf
    simp only [PV.free, Bool.and_eq_true] at hf
    exact .clo h1 h2 (fun i p u a b => i1 i p u a b (PV.frees_get hf.1 a)) (fun i p u a b => i2 i p u a b (PV.frees_get hf.2 a))
  | dat hn he _ ih => exact fun _ => .dat hn he (ih rfl)
  | _ => exact fun hf => by simp [PV.free] at hf
theorem RepL.other {ps : List PV} {us : List Value} (h : RepL w G β ps us) (hf : PV.frees ps = true) : RepL w G β' ps us := ⟨h.1, fun i p u h1 h2 => (h.2 i p u h1 h2).other (PV.frees_get hf h1)⟩
theorem RepT.other {t : TV} {v : Value} (h : RepT w G β t v) : t.free = true → RepT w G β' t v := by
  induction h with
  | one h => exact fun hf => .one (h.other (by simpa [TV.free] using hf))
  | agg h => exact fun hf => .agg (h.other (by simpa [TV.free] using hf))
  | tup hl _ ih => exact fun hf => .tup hl (fun i t v h1 h2 => ih i t v h1 h2 (TV.frees_get (by simpa [TV.free] using hf) h1))
  | bad => exact fun _ => .bad
end
mutual
def PV.ren (m : Nat → Nat) : PV → PV
  | .lit v => .lit v
  | .sl x r => .sl x r
  | .ptr xs o => .ptr xs o
  | .box id off => .box (m id) off
  | .osl id o n => .osl (m id) o n
  | .elp id i off => .elp (m id) i off
  | .clo g f c => .clo g (PV.rens m f) (PV.rens m c)
  | .dat t l => .dat t l
def PV.rens (m : Nat → Nat) : List PV → List PV
  | [] => []
  | x :: xs => x.ren m :: PV.rens m xs
end
mutual
def TV.ren (m : Nat → Nat) : TV → TV
  | .one p => .one (p.ren m)
  | .agg ps => .agg (PV.rens m ps)
  | .tup ts => .tup (TV.rens m ts)
  | .bad => .bad
def TV.rens (m : Nat → Nat) : List TV → List TV
  | [] => []
  | x :: xs => x.ren m :: TV.rens m xs
end
theorem PV.rens_eq (m : Nat → Nat) : ∀ xs : List PV, PV.rens m xs = xs.map (PV.ren m)
  | [] => rfl
  | x :: xs => by rw [PV.rens, PV.rens_eq m xs, List.map_cons]
theorem TV.rens_eq (m : Nat → Nat) : ∀ xs : List TV, TV.rens m xs = xs.map (TV.ren m)
  | [] => rfl
  | x :: xs => by rw [TV.rens, TV.rens_eq m xs, List.map_cons]
section
variable {w : World} {G : Addr → Prop} {β : Ids} {m : Nat → Nat}
theorem RepP.ren {p : PV} {v : Value} {β' : Ids} (h : RepP w G β' p v) : (∀ id o, β' id = some o → β (m id) = some o) → RepP w G β (p.ren m) v := by
  induction h with
  | lit h => exact fun _ => .lit h
  | sl0 h hA => exact fun _ => .sl0 h hA
  | sl h hx hq hl hc hr _ => exact fun _ => .sl h hx hq hl hc hr
  | ptr hl hc hr _ => exact fun _ => .ptr hl hc hr
  | box h hz => exact fun hb => .box (hb _ _ h) hz
  | osl h hz hn => exact fun hb => .osl (hb _ _ h) hz hn
  | osl0 h hz => exact fun hb => .osl0 (hb _ _ h) hz
  | elp h hz => exact fun hb => .elp (hb _ _ h) hz
  | clo h1 h2 _ _ i1 i2 =>
    intro hb
    refine .clo (by rw [PV.rens_eq, List.length_map]; exact h1) (by rw [PV.rens_eq, List.length_map]; exact h2) (fun i p u a b => ?_) (fun i p u a b => ?_)
    · rw [PV.rens_eq, List.getElem?_map] at a
      obtain ⟨q, hq, rfl⟩ := Option.map_eq_some_iff.1 a
      exact i1 i q u hq b hb
    · rw [PV.rens_eq, List.getElem?_map] at a
      obtain ⟨q, hq, rfl⟩ := Option.map_eq_some_iff.1 a
      exact i2 i q u hq b hb
  | dat hn he _ ih => exact fun hb => .dat hn he (ih hb)
theorem RepP.sl_any {x : Bool} {rows : List (List PV)} {v : Value} {β' : Ids} (h : RepP w G β' (.sl x rows) v) : RepP w G β (.sl x rows) v := by
  cases h with
  | sl0 h hA => exact .sl0 h hA
  | sl h hx hq hl hc hr => exact .sl h hx hq hl hc hr
theorem RepP.unren : (p : PV) → {v : Value} → RepP w G β (p.ren m) v → RepP w G (fun i => β (m i)) p v
  | .lit v, _, h => by cases h with | lit h => exact .lit h
  | .sl x r, _, h => by
    cases h with
    | sl0 h hA => exact .sl0 h hA
    | sl h hx hq hl hc hr => exact .sl h hx hq hl hc hr
  | .ptr xs o, _, h => by cases h with | ptr hl hc hr => exact .ptr hl hc hr
  | .box id off, _, h => by cases h with | box h hz => exact .box (β := fun i => β (m i)) h hz
  | .osl id o n, _, h => by
    simp only [PV.ren] at h
    cases h with
    | osl h hz hn => exact .osl (β := fun i => β (m i)) h hz hn
    | osl0 h hz => exact .osl0 (β := fun i => β (m i)) h hz
  | .elp id i off, _, h => by cases h with | elp h hz => exact .elp (β := fun i => β (m i)) h hz
  | .dat t l, _, h => by cases h with | dat hn he h => exact .dat hn he h.sl_any
  | .clo g f c, _, h => by
    cases h with
    | clo h1 h2 hf hc =>
      refine .clo (by rw [PV.rens_eq, List.length_map] at h1; exact h1) (by rw [PV.rens_eq, List.length_map] at h2; exact h2) (fun i p u a b => ?_) (fun i p u a b => ?_)
      · have := hf i (p.ren m) u (by rw [PV.rens_eq, List.getElem?_map, a]; rfl) b
        have hs := List.sizeOf_lt_of_mem (List.mem_of_getElem? a)
        exact RepP.unren p this
      · have := hc i (p.ren m) u (by rw [PV.rens_eq, List.getElem?_map, a]; rfl) b
        have hs := List.sizeOf_lt_of_mem (List.mem_of_getElem? a)
        exact RepP.unren p this
termination_by p => SizeOf.sizeOf p
decreasing_by all_goals (simp_wf; omega)
theorem RepL.ren {ps : List PV} {us : List Value} {β' : Ids} (h : RepL w G β' ps us) (hb : ∀ id o, β' id = some o → β (m id) = some o) : RepL w G β (PV.rens m ps) us := by
  refine ⟨by rw [PV.rens_eq, List.length_map]; exact h.1, fun i p u a b => ?_⟩
  rw [PV.rens_eq, List.getElem?_map] at a
  obtain ⟨q, hq, rfl⟩ := Option.map_eq_some_iff.1 a
  exact (h.2 i q u hq b).ren hb
theorem RepL.unren {ps : List PV} {us : List Value} (h : RepL w G β (PV.rens m ps) us) : RepL w G (fun i => β (m i)) ps us :=
  ⟨by have := h.1; rw [PV.rens_eq, List.length_map] at this; exact this, fun i p u a b => RepP.unren p (h.2 i (p.ren m) u (by rw [PV.rens_eq, List.getElem?_map, a]; rfl) b)⟩
theorem RepT.ren {t : TV} {v : Value} {β' : Ids} (h : RepT w G β' t v) (hb : ∀ id o, β' id = some o → β (m id) = some o) : RepT w G β (t.ren m) v := by
  induction h with
  | one h => exact .one (h.ren hb)
  | agg h => exact .agg (h.ren hb)
  | tup hl _ ih =>
    refine .tup (by rw [TV.rens_eq, List.length_map]; exact hl) (fun i t v a b => ?_)
    rw [TV.rens_eq, List.getElem?_map] at a
    obtain ⟨q, hq, rfl⟩ := Option.map_eq_some_iff.1 a
    exact ih i q v hq b
  | bad => exact .bad
theorem RepT.unren : (t : TV) → {v : Value} → RepT w G β (t.ren m) v → RepT w G (fun i => β (m i)) t v
  | .one p, _, h => by cases h with | one h => exact .one (RepP.unren p h)
  | .agg ps, _, h => by cases h with | agg h => exact .agg h.unren
  | .tup ts, _, h => by
    cases h with
    | tup hl h =>
      refine .tup (by rw [TV.rens_eq, List.length_map] at hl; exact hl) (fun i t v a b => ?_)
      have := h i (t.ren m) v (by rw [TV.rens_eq, List.getElem?_map, a]; rfl) b
      have hs := List.sizeOf_lt_of_mem (List.mem_of_getElem? a)
      exact RepT.unren t this
  | .bad, _, h => .bad
termination_by t => SizeOf.sizeOf t
decreasing_by all_goals (simp_wf; omega)
end
def PV.val? : PV → Option Value
  | .lit v => some v
  | _ => none
def vals? : List PV → Option (List Value)
  | [] => some []
  | p :: ps => (p.val?).bind fun v => (vals? ps).map (v :: ·)
def TV.val? : TV → Option Value
  | .one p => p.val?
  | .agg ps => (vals? ps).map fun vs => .agg vs.toArray
  | _ => none
section
variable {w : World} {G : Addr → Prop} {β : Ids}
theorem RepP.val {p : PV} {v u : Value} (h : RepP w G β p v) (e : p.val? = some u) : v = u := by
  cases h <;> simp [PV.val?] at e
  exact e
theorem RepL.nil_ : RepL w G β [] [] := ⟨rfl, fun i p u h => by simp at h⟩
theorem RepL.cons_ {p : PV} {ps : List PV} {u : Value} {us : List Value} : RepL w G β (p :: ps) (u :: us) ↔ RepP w G β p u ∧ RepL w G β ps us := by
  constructor
  · intro h
    exact ⟨h.2 0 p u rfl rfl, by simpa using h.1, fun i q v h1 h2 => h.2 (i + 1) q v (by simpa using h1) (by simpa using h2)⟩
  · rintro ⟨h, hl, hr⟩
    refine ⟨by simp [hl], fun i q v h1 h2 => ?_⟩
    cases i with
    | zero => simp at h1 h2; subst h1; subst h2; exact h
    | succ i => exact hr i q v (by simpa using h1) (by simpa using h2)
theorem RepL.val : ∀ {ps : List PV} {us vs : List Value}, RepL w G β ps us → vals? ps = some vs → us = vs
  | [], us, vs, h, e => by
    have := h.1
    simp [vals?] at e
    subst e
    exact List.eq_nil_of_length_eq_zero (by simpa using this)
  | p :: ps, [], vs, h, e => by have := h.1; simp at this
  | p :: ps, u :: us, vs, h, e => by
    obtain ⟨h1, h2⟩ := RepL.cons_.1 h
    simp only [vals?, Option.bind_eq_some_iff, Option.map_eq_some_iff] at e
    obtain ⟨v, hv, r, hr, rfl⟩ := e
    rw [h1.val hv, h2.val hr]
theorem RepT.val {t : TV} {v u : Value} (h : RepT w G β t v) (e : t.val? = some u) : v = u := by
  cases h with
  | one h => exact h.val (by simpa [TV.val?] using e)
  | agg h =>
    simp only [TV.val?, Option.map_eq_some_iff] at e
    obtain ⟨vs, hv, rfl⟩ := e
    have := h.val hv
    rw [← this]
  | tup => simp [TV.val?] at e
  | bad => simp [TV.val?] at e
/-- parts of a list of cells -/
theorem RepL.get {ps : List PV} {us : List Value} (h : RepL w G β ps us) {i : Nat} {p : PV} (hp : ps[i]? = some p) : ∃ u, us[i]? = some u ∧ RepP w G β p u := by
  have hi := (List.getElem?_eq_some_iff.1 hp).1
  have : i < us.length := by rw [h.1]; exact hi
  exact ⟨us[i], List.getElem?_eq_getElem this, h.2 i p _ hp (List.getElem?_eq_getElem this)⟩
theorem RepL.drop {ps : List PV} {us : List Value} (h : RepL w G β ps us) (k : Nat) : RepL w G β (ps.drop k) (us.drop k) :=
  ⟨by rw [List.length_drop, List.length_drop, h.1], fun i p u h1 h2 => h.2 (k + i) p u (by rw [← List.getElem?_drop]; exact h1) (by rw [← List.getElem?_drop]; exact h2)⟩
theorem RepL.take {ps : List PV} {us : List Value} (h : RepL w G β ps us) (k : Nat) : RepL w G β (ps.take k) (us.take k) := by
  refine ⟨by rw [List.length_take, List.length_take, h.1], fun i p u h1 h2 => ?_⟩
  rw [List.getElem?_take] at h1 h2
  by_cases hi : i < k
  · rw [if_pos hi] at h1 h2; exact h.2 i p u h1 h2
  · rw [if_neg hi] at h1; cases h1
theorem RepL.append {ps qs : List PV} {us vs : List Value} (h : RepL w G β ps us) (k : RepL w G β qs vs) : RepL w G β (ps ++ qs) (us ++ vs) := by
  refine ⟨by rw [List.length_append, List.length_append, h.1, k.1], fun i p u h1 h2 => ?_⟩
  by_cases hi : i < ps.length
  · rw [List.getElem?_append_left hi] at h1
    rw [List.getElem?_append_left (by rw [h.1]; exact hi)] at h2
    exact h.2 i p u h1 h2
  · rw [List.getElem?_append_right (by omega)] at h1
    rw [List.getElem?_append_right (by rw [h.1]; omega)] at h2
    rw [h.1] at h2
    exact k.2 _ p u h1 h2
theorem RepL.one_ {ps : List PV} {us : List Value} (h : RepL w G β ps us) : ∀ u ∈ us, u.oneCell' = true := by
  intro u hu
  obtain ⟨i, hi, rfl⟩ := List.getElem_of_mem hu
  have : i < ps.length := by rw [← h.1]; exact hi
  exact (h.2 i ps[i] us[i] (List.getElem?_eq_getElem this) (List.getElem?_eq_getElem hi)).oneCell
end
/-- a cell's value, told so -/
def ofCell : Value → PV
  | .slice none 0 0 => .sl true []
  | v => .lit v
def ofVal (v : Value) : Option TV :=
  match v with
  | .agg cs => if cs.toList.all (·.oneCell') = true then some (.agg (cs.toList.map ofCell)) else none
  | v => if v.oneCell' = true then some (.one (ofCell v)) else none
section
variable {w : World} {G : Addr → Prop} {β : Ids}
theorem rep_ofCell {v : Value} (h : v.oneCell' = true) : RepP w G β (ofCell v) v := by
  unfold ofCell
  split
  · exact .sl0 (fun _ => rfl) (fun _ => rfl)
  · exact .lit h
theorem rep_ofCells {cs : List Value} (h : ∀ v ∈ cs, v.oneCell' = true) : RepL w G β (cs.map ofCell) cs := by
  refine ⟨by simp, fun i p u h1 h2 => ?_⟩
  rw [List.getElem?_map, h2] at h1
  simp at h1
  subst h1
  exact rep_ofCell (h u (List.mem_of_getElem? h2))
theorem rep_ofVal {v : Value} {t : TV} (h : ofVal v = some t) : RepT w G β t v := by
  unfold ofVal at h
  split at h
  · split at h
    · rename_i hc
      simp at h
      subst h
      exact .agg (rep_ofCells (fun v hv => List.all_eq_true.1 hc v hv))
    · cases h
  · split at h
    · rename_i hc
      simp at h
      subst h
      exact .one (rep_ofCell hc)
    · cases h
end
/-- a run that looks at the program alone -/
def pureRun (P : Program) {α : Type} : Sem α → Option α
  | .pure a => some a
  | .program k => pureRun P (k P)
  | .mark _ k => pureRun P k
  | _ => none
theorem pureRun_ok (P : Program) {α : Type} {s : Sem α} {x : α} (h : pureRun P s = some x) (w : World) : s.run P w = .ok x w := by
  induction s with
  | pure a => simp [pureRun] at h; subst h; rfl
  | program k ih => exact ih P h
  | mark m k ih => exact ih h
  | _ => simp [pureRun] at h
end Go.Proofs.YtbljhngekhgbbaaGreat
namespace Go.Proofs.YtbljhngekhgbbaaGreat
open Go.RowKit
set_option linter.unusedVariables false
inductive Row where
  | var (cells : List PV)                        -- a variable
  | own (e : TypeId) (k : Nat) (rows : List (List PV))     -- what stands behind a slice that may grow and be written
  | lst (e : TypeId) (t : Ty) (l : List t.El)              -- the same, its elements as data
abbrev Store := List (Nat × Row)
def owned (β : Ids) (σ : Store) (b : Nat) : Prop := ∃ id row O, σ.lookup id = some row ∧ β id = some O ∧ O.z = false ∧ O.b = b
/-- the cells that stay -/
def gOf (H : Addr → Prop) (β : Ids) (σ : Store) : Addr → Prop := fun p => H p ∧ ¬ owned β σ p.block
def Row.Stands (w : World) (G : Addr → Prop) (β : Ids) (O : Own) : Row → Prop
  | .var cells => O.z = false ∧ ∃ (ty : TypeId) (us : List Value), w.heap[O.b]? = some (.cells us.toArray ty (0, 0)) ∧ RepL w G β cells us
  | .own e k rows => (O.z = true ∧ rows = []) ∨ (O.z = false ∧ O.k = k ∧ ∃ (cur : Array Value) (us : List Value), w.heap[O.b]? = some (.cells cur e (0, 0)) ∧ cur.size = O.c * O.k ∧ O.c ≤ maxLen ∧ rows.length ≤ O.c ∧ (∀ r ∈ rows, r.length = O.k) ∧
      cur.toList.take (rows.length * O.k) = us ∧ RepL w G noIds rows.flatten us)
  | .lst e t l => (O.z = true ∧ encs t l = []) ∨ (O.z = false ∧ O.k = t.w ∧ ∃ (cur : Array Value) (us : List Value), w.heap[O.b]? = some (.cells cur e (0, 0)) ∧ cur.size = O.c * O.k ∧ O.c ≤ maxLen ∧ (encs t l).length ≤ O.c ∧ (∀ r ∈ encs t l, r.length = O.k) ∧
      cur.toList.take ((encs t l).length * O.k) = us ∧ RepL w G noIds (encs t l).flatten us)
/-- the blocks in X may have been written -/
structure ExtB (X : Nat → Prop) (w w' : World) : Prop where
  os : w'.os = w.os
  tape : w'.tape = w.tape
  output : w'.output = w.output
  size : w.heap.size ≤ w'.heap.size
  block : ∀ b, b < w.heap.size → ¬ X b → w'.heap[b]? = w.heap[b]?
/-- a store stands in a world -/
structure MemI (w : World) (H : Addr → Prop) (β : Ids) (σ : Store) (n : Nat) : Prop where
  dom : ∀ id, n ≤ id → β id = none
  row : ∀ id row, σ.lookup id = some row → ∃ O, β id = some O ∧ row.Stands w (gOf H β σ) β O
  inj : ∀ i j ri rj Oi Oj, σ.lookup i = some ri → σ.lookup j = some rj → β i = some Oi → β j = some Oj → Oi.z = false → Oj.z = false → Oi.b = Oj.b → i = j
  new : ∀ p : Addr, w.heap.size ≤ p.block → H p
  inH : ∀ p : Addr, owned β σ p.block → H p
/-- from one world to the next -/
structure MStep (H : Addr → Prop) (w : World) (β : Ids) (σ : Store) (n : Nat) (w' : World) (β' : Ids) (σ' : Store) (n' : Nat) : Prop where
  more : ∀ i o, β i = some o → β' i = some o
  same : ∀ i, i < n → β' i = β i
  ext : ExtB (owned β σ) w w'
  mem : MemI w' H β' σ' n'
  own : ∀ b, owned β' σ' b → w.heap.size ≤ b ∨ owned β σ b
  next : n ≤ n'
structure SSt where
  env : List (Nat × TV)
  boxes : Store
  next : Nat
def SSt.get (st : SSt) (t : Nat) : Option TV := st.env.lookup t
def SSt.put (st : SSt) (dst : Option Nat) (tv : TV) : SSt := match dst with
  | some d => { st with env := (d, tv) :: st.env }
  | none => st
def SSt.eval (st : SSt) : Operand → Option TV
  | .tmp t => st.get t
  | .const v => ofVal v
  | .func f => some (.one (.lit (.func (.func f) #[] #[])))
  | .global _ => none
abbrev SSt.G (st : SSt) (H : Addr → Prop) (β : Ids) : Addr → Prop := gOf H β st.boxes
structure Inv (ds : List Deferred) (N : Nat) (W : World) (X : Nat → Prop) (H : Addr → Prop) (β : Ids) (st : SSt) (a : Act) (w : World) : Prop where
  defers : a.defers = ds
  size : a.tmps.size = N
  ext : ExtB X W w
  mem : MemI w H β st.boxes st.next
  own : ∀ b, owned β st.boxes b → W.heap.size ≤ b ∨ X b
  env : ∀ t tv, st.get t = some tv → ∃ v, a.tmps[t]? = some v ∧ RepT w (st.G H β) β tv v
section
variable {ds : List Deferred} {N n n' : Nat} {W w w' w2 : World} {X Y : Nat → Prop} {H : Addr → Prop} {β β' β2 : Ids} {st : SSt} {a : Act} {σ σ' σ2 : Store}
theorem ExtB.refl (X : Nat → Prop) (w : World) : ExtB X w w := ⟨rfl, rfl, rfl, Nat.le_refl _, fun _ _ _ => rfl⟩
theorem ExtB.trans (h : ExtB X w w') (k : ExtB Y w' w2) (hy : ∀ b, Y b → w.heap.size ≤ b ∨ X b) : ExtB X w w2 :=
  ⟨k.os.trans h.os, k.tape.trans h.tape, k.output.trans h.output, Nat.le_trans h.size k.size, fun b hb hx => (k.block b (Nat.lt_of_lt_of_le hb h.size) (fun hy' => by
    rcases hy b hy' with h1 | h1
    · omega
    · exact hx h1)).trans (h.block b hb hx)⟩
theorem ExtB.of_ext (h : Ext w w') : ExtB X w w' := ⟨h.os, h.tape, h.output, h.size, fun b hb _ => h.below.block b hb⟩
theorem ExtB.to_ext (h : ExtB X w w') (hx : ∀ b, ¬ X b) : Ext w w' := Ext.of ⟨h.os, h.tape, h.output, h.size, fun b hb => h.block b hb (hx b)⟩
/-- cells of blocks that are not written stay -/
theorem ExtB.cell (h : ExtB X w w') {q : Addr} {u : Value} (hq : w.cell? q = some u) (hx : ¬ X q.block) : w'.cell? q = some u := by
  rw [World.cell?_of_block (h.block q.block (World.block_lt_of_cell? w q hq) hx)]; exact hq
theorem gOf_keep (h : ExtB (owned β σ) w w') (ho : ∀ b, owned β' σ' b → w.heap.size ≤ b ∨ owned β σ b) : ∀ q u, w.cell? q = some u → gOf H β σ q → w'.cell? q = some u ∧ gOf H β' σ' q := by
  intro q u hq hg
  refine ⟨h.cell hq hg.2, hg.1, fun hb => ?_⟩
  rcases ho _ hb with h1 | h1
  · have := World.block_lt_of_cell? w q hq
    omega
  · exact hg.2 h1
theorem MStep.keep (h : MStep H w β σ n w' β' σ' n') : ∀ q u, w.cell? q = some u → gOf H β σ q → w'.cell? q = some u ∧ gOf H β' σ' q := gOf_keep h.ext h.own
theorem MStep.rep (h : MStep H w β σ n w' β' σ' n') {t : TV} {v : Value} (hr : RepT w (gOf H β σ) β t v) : RepT w' (gOf H β' σ') β' t v := (hr.mono h.keep).more h.more
theorem MStep.refl (h : MemI w H β σ n) : MStep H w β σ n w β σ n := ⟨fun _ _ h => h, fun _ _ => rfl, ExtB.refl _ _, h, fun _ h => .inr h, Nat.le_refl _⟩
theorem MStep.trans (h : MStep H w β σ n w' β' σ' n') {n2 : Nat} (k : MStep H w' β' σ' n' w2 β2 σ2 n2) : MStep H w β σ n w2 β2 σ2 n2 :=
  ⟨fun i o hi => k.more i o (h.more i o hi), fun i hi => (k.same i (Nat.lt_of_lt_of_le hi h.next)).trans (h.same i hi), h.ext.trans k.ext h.own, k.mem, fun b hb => by
    rcases k.own b hb with h1 | h1
    · exact .inl (Nat.le_trans h.ext.size h1)
    · exact h.own b h1, Nat.le_trans h.next k.next⟩
theorem Inv.step (h : Inv ds N W X H β st a w) (k : MStep H w β st.boxes st.next w' β' σ' n') : Inv ds N W X H β' { st with boxes := σ', next := n' } a w' := by
  refine ⟨h.defers, h.size, h.ext.trans k.ext h.own, k.mem, fun b hb => ?_, fun t tv ht => ?_⟩
  · rcases k.own b hb with h1 | h1
    · exact .inl (Nat.le_trans h.ext.size h1)
    · exact h.own b h1
  · obtain ⟨v, hv, hr⟩ := h.env t tv ht
    exact ⟨v, hv, k.rep hr⟩
theorem SSt.put_boxes (st : SSt) (d : Option Nat) (tv : TV) : (st.put d tv).boxes = st.boxes := by cases d <;> rfl
theorem SSt.put_next (st : SSt) (d : Option Nat) (tv : TV) : (st.put d tv).next = st.next := by cases d <;> rfl
theorem SSt.get_put (st : SSt) (d t : Nat) (tv : TV) : (st.put (some d) tv).get t = if t = d then some tv else st.get t := by
  unfold SSt.put SSt.get
  simp only [List.lookup_cons]
  by_cases h : t = d
  · subst h; simp
  · have : (t == d) = false := by simpa using h
    simp [this, h]
theorem Inv.eval (h : Inv ds N W X H β st a w) {x : Operand} {tv : TV} (e : st.eval x = some tv) : RepT w (st.G H β) β tv (a.eval x) := by
  cases x with
  | tmp t =>
    obtain ⟨v, hv, hr⟩ := h.env t tv e
    have : a.eval (.tmp t) = v := by simp [Act.eval, Array.getD_eq_getD_getElem?, hv]
    rw [this]; exact hr
  | const v => exact rep_ofVal e
  | func f =>
    simp [SSt.eval] at e
    subst e
    exact .one (.lit rfl)
  | global g => simp [SSt.eval] at e
theorem Inv.put (h : Inv ds N W X H β st a w) {dst : Option Nat} {tv : TV} {v : Value} (hr : RepT w (st.G H β) β tv v) (hd : ∀ d, dst = some d → d < N) : Inv ds N W X H β (st.put dst tv) (a.put dst v) w := by
  cases dst with
  | none => exact h
  | some d =>
    refine ⟨h.defers, by simp [Act.put, h.size], h.ext, h.mem, h.own, fun t u hu => ?_⟩
    rw [SSt.get_put] at hu
    by_cases e : t = d
    · subst e
      rw [if_pos rfl] at hu
      obtain rfl := Option.some.inj hu
      refine ⟨v, ?_, hr⟩
      have := hd t rfl
      simp [Act.put, h.size, this]
    · rw [if_neg e] at hu
      obtain ⟨v', hv, hr'⟩ := h.env t u hu
      refine ⟨v', ?_, hr'⟩
      simp only [Act.put]
      rw [Array.getElem?_setIfInBounds, if_neg (fun he => e he.symm)]
      exact hv
def Row.ren (m : Nat → Nat) : Row → Row
  | .var cs => .var (PV.rens m cs)
  | .own e k rows => .own e k rows
  | .lst e t l => .lst e t l
theorem Row.Stands.mono {G G' : Addr → Prop} {O : Own} {row : Row} (h : row.Stands w G β O) (hk : ∀ q u, w.cell? q = some u → G q → w.cell? q = some u ∧ G' q) : row.Stands w G' β O := by
  cases row with
  | var cs =>
    obtain ⟨hz, ty, us, hh, hl⟩ := h
    exact ⟨hz, ty, us, hh, hl.mono hk⟩
  | own e k rows =>
    rcases h with h | ⟨hz, hk0, cur, us, h1, h2, h3, h4, h5, h6, h7⟩
    · exact .inl h
    · exact .inr ⟨hz, hk0, cur, us, h1, h2, h3, h4, h5, h6, h7.mono hk⟩
  | lst e t l =>
    rcases h with h | ⟨hz, hk0, cur, us, h1, h2, h3, h4, h5, h6, h7⟩
    · exact .inl h
    · exact .inr ⟨hz, hk0, cur, us, h1, h2, h3, h4, h5, h6, h7.mono hk⟩
theorem Row.Stands.unren {G : Addr → Prop} {O : Own} {row : Row} {m : Nat → Nat} (h : (row.ren m).Stands w G β O) : row.Stands w G (fun i => β (m i)) O := by
  cases row with
  | var cs =>
    obtain ⟨hz, ty, us, hh, hl⟩ := h
    exact ⟨hz, ty, us, hh, hl.unren⟩
  | own e k rows => exact h
  | lst e t l => exact h
theorem Row.Stands.more {G : Addr → Prop} {O : Own} {row : Row} (h : row.Stands w G β O) (hb : ∀ i o, β i = some o → β' i = some o) : row.Stands w G β' O := by
  cases row with
  | var cs =>
    obtain ⟨hz, ty, us, hh, hl⟩ := h
    exact ⟨hz, ty, us, hh, hl.more hb⟩
  | own e k rows => exact h
  | lst e t l => exact h
theorem Row.Stands.ren {G : Addr → Prop} {O : Own} {row : Row} {m : Nat → Nat} (h : row.Stands w G β' O) (hb : ∀ id o, β' id = some o → β (m id) = some o) : (row.ren m).Stands w G β O := by
  cases row with
  | var cs =>
    obtain ⟨hz, ty, us, hh, hl⟩ := h
    exact ⟨hz, ty, us, hh, hl.ren hb⟩
  | own e k rows => exact h
  | lst e t l => exact h
/-- in another world, where its block and what its cells lead to are as they were -/
theorem Row.Stands.turn {G G' : Addr → Prop} {O : Own} {row : Row} (h : row.Stands w G β O) (hb : O.z = false → w'.heap[O.b]? = w.heap[O.b]?) (hk : ∀ q u, w.cell? q = some u → G q → w'.cell? q = some u ∧ G' q) : row.Stands w' G' β O := by
  cases row with
  | var cs =>
    obtain ⟨hz, ty, us, hh, hl⟩ := h
    exact ⟨hz, ty, us, by rw [hb hz]; exact hh, hl.mono hk⟩
  | own e k rows =>
    rcases h with h | ⟨hz, hk0, cur, us, h1, h2, h3, h4, h5, h6, h7⟩
    · exact .inl h
    · exact .inr ⟨hz, hk0, cur, us, by rw [hb hz]; exact h1, h2, h3, h4, h5, h6, h7.mono hk⟩
  | lst e t l =>
    rcases h with h | ⟨hz, hk0, cur, us, h1, h2, h3, h4, h5, h6, h7⟩
    · exact .inl h
    · exact .inr ⟨hz, hk0, cur, us, by rw [hb hz]; exact h1, h2, h3, h4, h5, h6, h7.mono hk⟩
theorem Row.Stands.lt {G : Addr → Prop} {O : Own} {row : Row} (h : row.Stands w G β O) (hz : O.z = false) : O.b < w.heap.size := by
  cases row with
  | var cs =>
    obtain ⟨_, ty, us, hh, hl⟩ := h
    exact (Array.getElem?_eq_some_iff.1 hh).1
  | own e k rows =>
    rcases h with h | ⟨_, _, cur, us, h1, _⟩
    · rw [h.1] at hz; cases hz
    · exact (Array.getElem?_eq_some_iff.1 h1).1
  | lst e t l =>
    rcases h with h | ⟨_, _, cur, us, h1, _⟩
    · rw [h.1] at hz; cases hz
    · exact (Array.getElem?_eq_some_iff.1 h1).1
theorem MemI.lt (h : MemI w H β σ n) {b : Nat} (ho : owned β σ b) : b < w.heap.size := by
  obtain ⟨id, row, O, h1, h2, h3, rfl⟩ := ho
  obtain ⟨O', h4, h5⟩ := h.row id row h1
  rw [h2] at h4
  obtain rfl := Option.some.inj h4
  exact h5.lt h3
theorem MemI.next (h : MemI w H β σ n) (hn : n ≤ n') : MemI w H β σ n' := ⟨fun id hi => h.dom id (Nat.le_trans hn hi), h.row, h.inj, h.new, h.inH⟩
/-- s says less than t, its ids are others -/
structure SSt.Le (m : Nat → Nat) (s t : SSt) : Prop where
  env : ∀ x tv, s.get x = some tv → t.get x = some (tv.ren m)
  row : ∀ id row, s.boxes.lookup id = some row → t.boxes.lookup (m id) = some (row.ren m)
  inj : ∀ i j ri rj, s.boxes.lookup i = some ri → s.boxes.lookup j = some rj → m i = m j → i = j
  far : ∀ i, s.next ≤ i → t.next ≤ m i
theorem Inv.weaken {s : SSt} {m : Nat → Nat} (h : Inv ds N W X H β st a w) (hs : s.Le m st) : Inv ds N W X H (fun i => β (m i)) s a w := by
  have ho : ∀ b, owned (fun i => β (m i)) s.boxes b → owned β st.boxes b := by
    rintro b ⟨id, row, O, h1, h2, h3, h4⟩
    exact ⟨m id, row.ren m, O, hs.row _ _ h1, h2, h3, h4⟩
  have hk : ∀ q u, w.cell? q = some u → gOf H β st.boxes q → w.cell? q = some u ∧ gOf H (fun i => β (m i)) s.boxes q := fun q u h1 h2 => ⟨h1, h2.1, fun hb => h2.2 (ho _ hb)⟩
  refine ⟨h.defers, h.size, h.ext, ⟨fun id hi => h.mem.dom _ (hs.far id hi), fun id row hr => ?_, fun i j ri rj Oi Oj hi hj bi bj zi zj e => ?_, h.mem.new, fun p hp => h.mem.inH p (ho _ hp)⟩, fun b hb => h.own b (ho b hb), fun t tv ht => ?_⟩
  · obtain ⟨O, h1, h2⟩ := h.mem.row _ _ (hs.row id row hr)
    exact ⟨O, h1, (h2.unren).mono hk⟩
  · exact hs.inj i j ri rj hi hj (h.mem.inj _ _ _ _ Oi Oj (hs.row _ _ hi) (hs.row _ _ hj) bi bj zi zj e)
  · obtain ⟨v, hv, hr⟩ := h.env t _ (hs.env t tv ht)
    exact ⟨v, hv, (RepT.unren tv hr).mono hk⟩
end
end Go.Proofs.YtbljhngekhgbbaaGreat
