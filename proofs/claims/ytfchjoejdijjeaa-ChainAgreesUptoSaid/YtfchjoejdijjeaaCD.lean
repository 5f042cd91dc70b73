/- Merged out of M0, A2, B1: helpers. -/
import Derived.Test.YtfchjoejdijjeaaCB
import Derived.Test.YtfchjoejdijjeaaCC
import Derived.Shelf.Abstract
set_option linter.unusedSimpArgs false
set_option linter.unusedVariables false
/- The plain chain: configurations, boxes, nodes, messages, the law's world; over any kind of commands. -/
namespace Go.Ch

structure Mem where
  node : Nat
  birth : Nat
  whole : Bool
structure Cfg where
  epoch : Nat
  chain : List Mem
  stores : List Nat
structure Nd where
  cfg : Cfg
  self : Nat
  birth : Nat
  has : Bool
  told : Bool
structure Box (C : Type) where
  cmds : List C
  first : Nat
  epoch : Nat
  whole : Bool
  full : Bool
inductive Body (C : Type) where
  | entry (k : Nat) (c : C)
  | tail (k : Nat)
  | whole
  | state (first : Nat) (l : List C)
structure Msg (C : Type) where
  src : Nat
  dst : Nat
  epoch : Nat
  body : Body C
structure Com (C : Type) where
  idx : Nat
  cmd : C
  ans : Bool

/-- Where a node stands, from i on. -/
def placeF (n : Nat) : List Mem → Nat → Option Nat
  | [], _ => none
  | m :: l, i => if m.node = n then some i else placeF n l (i + 1)
def memAt (l : List Mem) (o : Option Nat) : Option Mem := match o with | none => none | some i => l[i]?
def place (l : List Mem) (n : Nat) : Option Nat := placeF n l 0
def aheadM (l : List Mem) (n : Nat) : Option Mem := match place l n with | some (i + 1) => l[i]? | _ => none
def behindM (l : List Mem) (n : Nat) : Option Mem := match place l n with | some i => l[i + 1]? | none => none
def lastM (l : List Mem) : Option Mem := l[l.length - 1]?
def wholes : List Mem → Nat
  | [] => 0
  | m :: l => wholes l + if m.whole then 1 else 0
def anyWhole (l : List Mem) : Bool := l.any (·.whole)

namespace Nd
def member (d : Nd) : Option Mem := match memAt d.cfg.chain (place d.cfg.chain d.self) with
  | none => none
  | some m => if m.birth = d.birth then some m else none
def isM (d : Nd) (o : Option Mem) : Bool := match o with | none => false | some m => d.member.isSome && decide (m.node = d.self)
def tail (d : Nd) : Bool := d.isM (lastM d.cfg.chain)
def first (d : Nd) : Bool := d.isM d.cfg.chain[0]?
def ahead (d : Nd) : Option Mem := aheadM d.cfg.chain d.self
def behind (d : Nd) : Option Mem := behindM d.cfg.chain d.self
end Nd

section
variable {C : Type}
def wholeB (d : Nd) (b : Box C) : Bool := match d.member with | none => false | some m => m.whole || (b.whole && decide (b.epoch = d.cfg.epoch))
def headB (d : Nd) (b : Box C) : Bool := d.first && wholeB d b

namespace Box
def new : Box C := ⟨[], 0, 0, false, false⟩
def trim (b : Box C) (up : Nat) : Box C := if b.first < min up b.cmds.length then { b with first := min up b.cmds.length } else b
def run (b : Box C) (c : C) : Box C := { b with cmds := b.cmds ++ [c] }
def mark (b : Box C) (e : Nat) (wh : Bool) : Box C := { b with epoch := e, whole := wh }
def load (b : Box C) (f : Nat) (l : List C) : Box C := { b with cmds := l, first := f }
end Box

def sayM (d : Nd) (o : Option Mem) (y : Body C) : List (Msg C) := match o with | none => [] | some m => [⟨d.self, m.node, d.cfg.epoch, y⟩]
def entriesF (d : Nd) (m : Mem) : Nat → List C → List (Msg C)
  | _, [] => []
  | k, c :: l => ⟨d.self, m.node, d.cfg.epoch, .entry k c⟩ :: entriesF d m (k + 1) l
def comsF : Nat → List C → List (Com C)
  | _, [] => []
  | k, c :: l => ⟨k, c, false⟩ :: comsF (k + 1) l
def doneM (d : Nd) (k : Nat) : List (Msg C) := sayM d d.ahead (.tail k)

/-- What a node's operation leaves: itself, its box, messages, commits. -/
structure Out (C : Type) where
  d : Nd
  b : Box C
  ms : List (Msg C)
  cs : List (Com C)

def beatM (d : Nd) (b : Box C) : List (Msg C) := match d.behind with
  | none => []
  | some m => if (d.has && wholeB d b) = true then
      (if (!m.whole && !d.told) = true then [⟨d.self, m.node, d.cfg.epoch, .state b.first b.cmds⟩]
       else entriesF d m (b.first + 1) ((b.cmds.drop b.first).take 16)) else []
def keptC (b : Box C) : List (Com C) := comsF (b.first + 1) (b.cmds.drop b.first)
def keptB (b : Box C) : Box C := b.trim b.cmds.length

/-- Is a configuration taken? -/
def stale (d : Nd) (b : Box C) (c : Cfg) : Bool := decide (c.epoch < d.cfg.epoch) || decide (c.epoch < b.epoch) || (d.has && decide (c.epoch = d.cfg.epoch) && decide (wholes c.chain ≤ wholes d.cfg.chain))
def nextD (d : Nd) (c : Cfg) : Nd := ⟨c, d.self, d.birth, true, d.told && d.has && decide (c.epoch = d.cfg.epoch)⟩
def marks (d : Nd) (b : Box C) (c : Cfg) : Bool := (nextD d c).member.isSome && decide (b.epoch < c.epoch)
def markB (d : Nd) (b : Box C) (c : Cfg) : Box C := match (nextD d c).member with | none => b | some m => if b.epoch < c.epoch then b.mark c.epoch m.whole else b
def confM (d : Nd) (b : Box C) (c : Cfg) : Out C :=
  if stale d b c = true then ⟨d, b, [], []⟩ else
  if (marks d b c && b.full) = true then ⟨d, b, [], []⟩ else
  let was := d.has && d.tail && wholeB d b
  let d' := nextD d c
  let b' := markB d b c
  if (d'.tail && wholeB d' b' && !was) = true then ⟨d', keptB b', beatM d' (keptB b'), keptC b'⟩ else ⟨d', b', beatM d' b', []⟩

def onM (d : Nd) (b : Box C) (k : Nat) (c : C) (ans : Bool) : Out C :=
  if d.tail = true then ⟨d, b.trim k, doneM d k, [⟨k, c, ans⟩]⟩
  else ⟨d, b, (match d.behind with | none => [] | some m => if (m.whole || d.told) = true then sayM d (some m) (.entry k c) else []), []⟩

/-- Is a command taken at a node? -/
def takes (d : Nd) (b : Box C) : Bool := headB d b && !b.full
def subM (d : Nd) (b : Box C) (c : C) : Out C := if takes d b = true then onM d (b.run c) (b.cmds.length + 1) c true else ⟨d, b, [], []⟩

def entryM (d : Nd) (b : Box C) (k : Nat) (c : C) : Out C :=
  if (!wholeB d b || decide (b.cmds.length + 1 < k)) = true then ⟨d, b, [], []⟩ else
  if k ≤ b.cmds.length then
    (if d.tail = true then ⟨d, b, doneM d b.cmds.length, []⟩ else if k < b.first + 1 then ⟨d, b, doneM d b.first, []⟩ else ⟨d, b, [], []⟩)
  else if b.full = true then ⟨d, b, [], []⟩ else onM d (b.run c) k c true

def stateM (d : Nd) (b : Box C) (f : Nat) (l : List C) : Out C :=
  if wholeB d b = true then ⟨d, b, sayM d d.ahead .whole ++ (if d.tail = true then doneM d b.cmds.length else []), []⟩ else
  if b.full = true then ⟨d, b, [], []⟩ else
  let b' := (b.load f l).mark d.cfg.epoch true
  if d.tail = true then ⟨d, keptB b', sayM d d.ahead .whole ++ doneM d l.length, keptC b'⟩ else ⟨d, b', sayM d d.ahead .whole, []⟩

def fromM (o : Option Mem) (n : Nat) : Bool := match o with | none => false | some m => decide (n = m.node)
def recvM (d : Nd) (b : Box C) (x : Msg C) : Out C :=
  if (!decide (x.dst = d.self) || !d.has || !decide (x.epoch = d.cfg.epoch) || !d.member.isSome) = true then ⟨d, b, [], []⟩ else
  match x.body with
  | .entry k c => if fromM d.ahead x.src = true then entryM d b k c else ⟨d, b, [], []⟩
  | .state f l => if fromM d.ahead x.src = true then stateM d b f l else ⟨d, b, [], []⟩
  | .tail k => if fromM d.behind x.src = true then ⟨d, b.trim (min k b.cmds.length), doneM d k, []⟩ else ⟨d, b, [], []⟩
  | .whole => if fromM d.behind x.src = true then ⟨{ d with told := true }, b, [], []⟩ else ⟨d, b, [], []⟩

def newD (i birth : Nat) : Nd := ⟨⟨0, [], []⟩, i, birth, false, false⟩

/-- The law's world. -/
structure Wd (C : Type) where
  nds : List Nd
  boxes : List (Box C)
  births : List Nat
  bag : List (Msg C)
  cfgs : List Cfg
  row : List C
  ok : Bool

/-- Commits as they come in: the row, and whether all fit. -/
def comRow [DecidableEq C] : List C → List (Com C) → List C × Bool
  | row, [] => (row, true)
  | row, x :: l => if x.idx = row.length + 1 then comRow (row ++ [x.cmd]) l
    else match row[x.idx - 1]? with
      | none => (row, false)
      | some c => if 1 ≤ x.idx ∧ c = x.cmd then comRow row l else (row, false)
def msOk (n i : Nat) (ms : List (Msg C)) : Bool := ms.all fun x => decide (x.src = i) && decide (x.dst < n) && !decide (x.dst = i)

namespace Wd
variable [DecidableEq C]
def told (w : Wd C) (i : Nat) (ms : List (Msg C)) (cs : List (Com C)) : Wd C :=
  { w with bag := w.bag ++ ms.take (400 - w.bag.length), row := (comRow w.row cs).1, ok := w.ok && msOk w.nds.length i ms && (comRow w.row cs).2 }
def put (w : Wd C) (i : Nat) (o : Out C) : Wd C := ({ w with nds := w.nds.set i o.d, boxes := w.boxes.set i o.b } : Wd C).told i o.ms o.cs
def nd (w : Wd C) (i : Nat) : Nd := w.nds.getD i (newD i 0)
def box (w : Wd C) (i : Nat) : Box C := w.boxes.getD i Box.new
def submit (w : Wd C) (i : Nat) (c : C) : Wd C := w.put i (subM (w.nd i) (w.box i) c)
def now (w : Wd C) : Cfg := w.cfgs.getD (w.cfgs.length - 1) ⟨0, [], []⟩
def configure (w : Wd C) (i n : Nat) : Wd C := w.put i (confM (w.nd i) (w.box i) (w.cfgs.getD n ⟨0, [], []⟩))
def drop (w : Wd C) (n : Nat) : Wd C := { w with bag := w.bag.take n ++ w.bag.drop (n + 1) }
def deliver (w : Wd C) (n : Nat) : Wd C := match w.bag[n]? with
  | none => w
  | some x => (w.drop n).put x.dst (recvM (w.nd x.dst) (w.box x.dst) x)
def anew (w : Wd C) (i : Nat) : Wd C := { w with nds := w.nds.set i (newD i (w.births.getD i 0)) }
def beat (w : Wd C) (i : Nat) : Wd C := w.told i (beatM (w.nd i) (w.box i)) []
end Wd
end

/-- A master's command. -/
structure Cmd where
  kind : Nat
  node : Nat
  birth : Nat
  epoch : Nat
def mostN : Nat := 1099511627776
def placedStore : Nat → List Nat → List Nat
  | n, [] => [n]
  | n, m :: l => if n < m then n :: m :: l else m :: placedStore n l
/-- What a command makes of a right configuration; none: it is refused. (MUnplug is never given.) -/
def doM (c : Cfg) (x : Cmd) : Option Cfg :=
  if x.kind ≠ 3 ∧ c.epoch = mostN then none else
  match x.kind with
  | 1 => match place c.chain x.node with
    | some _ => none
    | none => if 5 ≤ c.chain.length then none else some ⟨c.epoch + 1, c.chain ++ [⟨x.node, x.birth, decide (c.chain.length = 0)⟩], c.stores⟩
  | 2 => match place c.chain x.node with
    | none => none
    | some i => if anyWhole (c.chain.eraseIdx i) = true then some ⟨c.epoch + 1, c.chain.eraseIdx i, c.stores⟩ else none
  | 3 => if x.epoch ≠ c.epoch then none else match place c.chain x.node with
    | none => none
    | some i => match c.chain[i]? with
      | none => none
      | some m => if m.birth = x.birth ∧ m.whole = false then some ⟨c.epoch, c.chain.set i ⟨m.node, m.birth, true⟩, c.stores⟩ else none
  | 4 => if c.stores.contains x.node then none else some ⟨c.epoch + 1, c.chain, placedStore x.node c.stores⟩
  | _ => none

namespace Wd
variable {C : Type} [DecidableEq C]
def command (w : Wd C) (x : Cmd) : Wd C := match doM w.now x with | none => w | some c => { w with cfgs := w.cfgs ++ [c] }
def whole (w : Wd C) (i : Nat) : Wd C := if wholeB (w.nd i) (w.box i) = true then w.command ⟨3, i, w.births.getD i 0, (w.nd i).cfg.epoch⟩ else w
def fresh0 (many : Nat) : Wd C := ⟨(List.range many).map fun i => newD i 0, List.replicate many Box.new, List.replicate many 0, [], [⟨0, [], []⟩], [], true⟩

/-- The first loop of a round: all hear the newest configuration, and beat. -/
def hear : Nat → Nat → Wd C → Wd C
  | 0, _, w => w
  | n + 1, i, w => hear n (i + 1) ((w.configure i (w.cfgs.length - 1)).beat i)
/-- The second: all is delivered. -/
def flush : Nat → Wd C → Wd C
  | 0, w => w
  | n + 1, w => match w.bag with | [] => w | _ :: _ => flush n (w.deliver 0)
def tell : Nat → Nat → Wd C → Wd C
  | 0, _, w => w
  | n + 1, i, w => tell n (i + 1) (w.whole i)
def settle : Nat → Wd C → Wd C
  | 0, w => w
  | k + 1, w => settle k (tell w.nds.length 0 (flush 3000 (hear w.nds.length 0 w)))

/-- Has whoever is whole by the newest configuration run all? -/
def holdsAt (w : Wd C) (i : Nat) : Bool := !(wholeB (w.nd i) (w.box i) && decide ((w.nd i).cfg.epoch = w.now.epoch)) || (decide (w.row.length ≤ (w.box i).cmds.length) && decide ((w.box i).cmds.take w.row.length = w.row))
def holds (w : Wd C) : Bool := w.ok && (List.range w.nds.length).all w.holdsAt
end Wd
end Go.Ch

/- Rows of structs that are read, in blocks that stay; rows of one's own; over any kind of element. -/
namespace Go.Gl
open Go Go.RowKit
section rows
variable {α : Type} {enc : α → List Value} {k : Nat}

theorem flat_len (hk : ∀ x, (enc x).length = k) (l : List α) : (l.flatMap enc).length = l.length * k := by
  induction l with
  | nil => simp
  | cons x l ih => rw [List.flatMap_cons, List.length_append, hk, ih, List.length_cons, Nat.add_mul]; omega

theorem flat_get (hk : ∀ x, (enc x).length = k) : ∀ {l : List α} {i : Nat} {x : α}, l[i]? = some x → ∀ c, c < k → (l.flatMap enc)[i * k + c]? = (enc x)[c]?
  | [], i, x, h, _, _ => by simp at h
  | a :: l, 0, x, h, c, hc => by
    simp at h; subst h
    rw [List.flatMap_cons, Nat.zero_mul, Nat.zero_add, List.getElem?_append_left (by rw [hk]; exact hc)]
  | a :: l, i + 1, x, h, c, hc => by
    have ih := flat_get hk (l := l) (i := i) (x := x) (by simpa using h) c hc
    rw [List.flatMap_cons, List.getElem?_append_right (by rw [hk, Nat.add_mul]; omega), ← ih, hk]
    congr 1
    rw [Nat.add_mul]; omega

/-- A row of elements that can be read: each cell is known. -/
def Rd (w : World) (b o : Nat) (enc : α → List Value) (k : Nat) (l : List α) : Prop := ∀ (i : Nat) (x : α), l[i]? = some x → ∀ (c : Nat) (u : Value), (enc x)[c]? = some u → w.cell? ⟨b, o + i * k + c, none⟩ = some u

theorem rd_of_owns {w : World} {B e g cap : Nat} (hk : ∀ x, (enc x).length = k) {l : List α} (h : w.ownsRow B e k (.slice (some ⟨g, 0, none⟩) l.length cap) l.length (l.flatMap enc)) : Rd w g 0 enc k l := by
  intro i x hx c u hu
  have hc : c < k := by have := (List.getElem?_eq_some_iff.1 hu).1; rwa [hk] at this
  have hi : i < l.length := (List.getElem?_eq_some_iff.1 hx).1
  have hj : i * k + c < l.length * k := by
    have := Nat.mul_le_mul_right k (show i + 1 ≤ l.length from hi)
    rw [Nat.add_mul, Nat.one_mul] at this; omega
  rw [Nat.zero_add, h.cellAt _ hj, flat_get hk hx c hc, hu]

theorem owns_grow {w w' : World} {B e : Nat} {v : Value} {n : Nat} {xs : List Value} (h : w.ownsRow B e k v n xs) (hg : Grow w w') : w'.ownsRow B e k v n xs := by
  refine ⟨h.1, ?_⟩
  rcases h.2 with h1 | ⟨g, cap, cur, h1, h2, h3, h4⟩
  · exact .inl h1
  · exact .inr ⟨g, cap, cur, h1, h2, hg.heap h3, h4⟩

theorem owns_mono {w : World} {B B' e : Nat} {v : Value} {n : Nat} {xs : List Value} (h : w.ownsRow B e k v n xs) (hB : B' ≤ B) : w.ownsRow B' e k v n xs := by
  refine ⟨h.1, ?_⟩
  rcases h.2 with h1 | ⟨g, cap, cur, h1, h2, h3⟩
  · exact .inl h1
  · exact .inr ⟨g, cap, cur, h1, Nat.le_trans hB h2, h3⟩

theorem owns_keep {w w' : World} {B e : Nat} {v : Value} {n : Nat} {xs : List Value} (h : w.ownsRow B e k v n xs) (hk : ∀ g, v.ownBlock = some g → w'.heap[g]? = w.heap[g]?) : w'.ownsRow B e k v n xs := by
  refine ⟨h.1, ?_⟩
  rcases h.2 with h1 | ⟨g, cap, cur, h1, h2, h3, h4⟩
  · exact .inl h1
  · exact .inr ⟨g, cap, cur, h1, h2, by rw [hk g (by rw [h1]; rfl)]; exact h3, h4⟩

theorem owns_slice {w : World} {B e : Nat} {v : Value} {n : Nat} {xs : List Value} (h : w.ownsRow B e k v n xs) : ∃ a c, v = .slice a n c := by
  rcases h.2 with ⟨h1, h0⟩ | ⟨g, cap, cur, h1, _⟩
  · exact ⟨none, 0, by rw [h1, h0]⟩
  · exact ⟨_, _, h1⟩

theorem owns_lt {w : World} {B e : Nat} {v : Value} {n : Nat} {xs : List Value} (h : w.ownsRow B e k v n xs) {g : Nat} (hg : v.ownBlock = some g) : B ≤ g ∧ g < w.heap.size ∧ ∃ cur, w.heap[g]? = some (.cells cur e (0, 0)) := by
  rcases h.2 with ⟨h1, h0⟩ | ⟨g', cap, cur, h1, hB, h3, _⟩
  · rw [h1] at hg; cases hg
  · rw [h1] at hg; cases hg; exact ⟨hB, lt_of_getElem? h3, cur, h3⟩

/-- What lay in N lies as it lay. -/
structure Kp (N : Nat → Prop) (w w' : World) : Prop where
  size : w.heap.size ≤ w'.heap.size
  same : ∀ b, N b → b < w.heap.size → w'.heap[b]? = w.heap[b]?

variable {N M : Nat → Prop} {w w' w'' : World} {v : Value} {xs : List α}
theorem Kp.refl (N : Nat → Prop) (w : World) : Kp N w w := ⟨Nat.le_refl _, fun _ _ _ => rfl⟩
theorem Kp.trans (h : Kp N w w') (k : Kp N w' w'') : Kp N w w'' := ⟨Nat.le_trans h.size k.size, fun b hb hl => (k.same b hb (Nat.lt_of_lt_of_le hl h.size)).trans (h.same b hb hl)⟩
theorem Kp.ofGrow (h : Grow w w') : Kp N w w' := ⟨h.size, fun b _ hl => h.block b hl⟩
theorem Kp.mono (h : Kp N w w') (hM : ∀ b, M b → N b) : Kp M w w' := ⟨h.size, fun b hb hl => h.same b (hM b hb) hl⟩
theorem Kp.grown {r : Option Nat} (h : w.grownBy w' r) (hN : ∀ b, r = some b → ¬ N b) : Kp N w w' := ⟨h.size, fun b hb hl => h.block b hl (fun e => hN b e.symm hb)⟩
theorem Kp.cell (h : Kp N w w') {b : Nat} (hb : N b) (hl : b < w.heap.size) (i : Nat) : w'.cell? ⟨b, i, none⟩ = w.cell? ⟨b, i, none⟩ := by
  simp [World.cell?, h.same b hb hl]

/-- The value reads as a row of elements, in a block of N. -/
def RowR (N : Nat → Prop) (w : World) (v : Value) (enc : α → List Value) (k : Nat) (xs : List α) : Prop :=
  ∃ a c, v = .slice a xs.length c ∧ xs.length ≤ c ∧ c ≤ maxLen ∧ (a = none → c = 0) ∧ (xs = [] ∨ ∃ b o, a = some ⟨b, o, none⟩ ∧ N b ∧ b < w.heap.size ∧ Rd w b o enc k xs)

theorem RowR.kp (h : RowR N w v enc k xs) (kk : Kp N w w') : RowR N w' v enc k xs := by
  obtain ⟨a, c, rfl, hl, hm, hn, h⟩ := h
  refine ⟨a, c, rfl, hl, hm, hn, ?_⟩
  rcases h with h | ⟨b, o, rfl, hb, hlt, hr⟩
  · exact .inl h
  · refine .inr ⟨b, o, rfl, hb, Nat.lt_of_lt_of_le hlt kk.size, fun i x hx c u hu => ?_⟩
    rw [kk.cell hb hlt]; exact hr i x hx c u hu
theorem RowR.grow (h : RowR N w v enc k xs) (hg : Grow w w') : RowR N w' v enc k xs := h.kp (.ofGrow hg)
theorem RowR.mono (h : RowR N w v enc k xs) (hM : ∀ b, N b → b < w.heap.size → M b) : RowR M w v enc k xs := by
  obtain ⟨a, c, rfl, hl, hm, hn, h⟩ := h
  refine ⟨a, c, rfl, hl, hm, hn, ?_⟩
  rcases h with h | ⟨b, o, rfl, hb, hlt, hr⟩
  · exact .inl h
  · exact .inr ⟨b, o, rfl, hM b hb hlt, hlt, hr⟩
theorem RowR.slice (h : RowR N w v enc k xs) : ∃ a c, v = .slice a xs.length c := by obtain ⟨a, c, h, _⟩ := h; exact ⟨a, c, h⟩
theorem rowR_nil (N : Nat → Prop) (w : World) (enc : α → List Value) (k : Nat) : RowR N w (.slice none 0 0) enc k [] := ⟨none, 0, rfl, Nat.le_refl _, Nat.zero_le _, fun _ => rfl, .inl rfl⟩
theorem RowR.addr (h : RowR N w v enc k xs) {i : Nat} {x : α} (hx : xs[i]? = some x) : ∃ b o c, v = .slice (some ⟨b, o, none⟩) xs.length c ∧ N b ∧ b < w.heap.size ∧ Rd w b o enc k xs := by
  obtain ⟨a, c, rfl, hl, hm, hn, h⟩ := h
  rcases h with rfl | ⟨b, o, rfl, hb, hlt, hr⟩
  · simp at hx
  · exact ⟨b, o, c, rfl, hb, hlt, hr⟩

theorem rd_cut {b o i j : Nat} (h : Rd w b o enc k xs) : Rd w b (o + i * k) enc k ((xs.drop i).take (j - i)) := fun q x hx c u hu => by
  rw [List.getElem?_take] at hx
  split at hx
  · rw [List.getElem?_drop] at hx
    have := h (i + q) x hx c u hu
    rw [show o + i * k + q * k + c = o + (i + q) * k + c by rw [Nat.add_mul]; omega]
    exact this
  · cases hx

/-- A row of one's own is read. -/
theorem RowR.ofOwns {B e : Nat} (hk : ∀ x, (enc x).length = k) (h : w.ownsRow B e k v xs.length (xs.flatMap enc)) (hN : ∀ g, v.ownBlock = some g → N g) : RowR N w v enc k xs := by
  rcases h.2 with ⟨h1, h0⟩ | ⟨g, cap, cur, h1, hB, h3, h4, h5, h6⟩
  · have : xs = [] := List.eq_nil_of_length_eq_zero h0
    subst this
    exact ⟨none, 0, h1, Nat.le_refl _, Nat.zero_le _, fun _ => rfl, .inl rfl⟩
  · exact ⟨some ⟨g, 0, none⟩, cap, h1, h4, h5, (fun e => by cases e), .inr ⟨g, 0, rfl, hN g (by rw [h1]; rfl), lt_of_getElem? h3, rd_of_owns hk (h1 ▸ h)⟩⟩

theorem RowR.src {P : Program} {t e : TypeId} (ht : P.underlying t = some (.slice e)) (hk : ∀ x, (enc x).length = k) (hk0 : 0 < k) (hone : ∀ x ∈ xs, ∀ u ∈ enc x, u.oneCell' = true) (h : RowR N w v enc k xs) : Src P k t v xs.length (xs.flatMap enc) w := by
  have hone' : ∀ u ∈ xs.flatMap enc, u.oneCell' = true := fun u hu => by
    obtain ⟨x, hx, hux⟩ := List.mem_flatMap.1 hu
    exact hone x hx u hux
  obtain ⟨a, c, rfl, h1, h2, h3, h4⟩ := h
  by_cases hx : xs = []
  · subst hx
    cases a with
    | none => exact Src.ofNil w ht c
    | some a => exact Src.ofSlice w ht a 0 c [] (by simp) (fun j u hu => by simp at hu) (fun u hu => by cases hu)
  · rcases h4 with h4 | ⟨b, o, rfl, hN, hb, hr⟩
    · exact absurd h4 hx
    · refine Src.ofSlice w ht ⟨b, o, none⟩ xs.length c _ (flat_len hk xs) (fun j u hu => ?_) hone'
      have hj : j < xs.length * k := by
        have := (List.getElem?_eq_some_iff.1 hu).1
        rw [flat_len hk] at this; exact this
      have hi : j / k < xs.length := Nat.div_lt_of_lt_mul (by rw [Nat.mul_comm]; exact hj)
      have hx1 := List.getElem?_eq_getElem hi
      have hjj : j / k * k + j % k = j := by rw [Nat.mul_comm]; exact Nat.div_add_mod j k
      have h5 := flat_get (enc := enc) hk hx1 (j % k) (Nat.mod_lt _ hk0)
      rw [hjj] at h5
      have h6 := hr (j / k) _ hx1 (j % k) u (h5.symm.trans hu)
      rw [Nat.add_assoc, hjj] at h6
      show w.cell? (Addr.add ⟨b, o, none⟩ j) = some u
      rw [show (Addr.add ⟨b, o, none⟩ j) = ⟨b, o + j, none⟩ by by_cases hj0 : j = 0 <;> simp [Addr.add, hj0]]
      exact h6

/-- 'append(l, e)' onto a row of one's own. -/
theorem append_el {P : Program} {t e : TypeId} {z : Value} {bytes B : Nat} (ht : P.underlying t = some (.slice e)) (hi : (P.info? e).map (fun i => (i.zero, i.size, i.bytes)) = some (some z, k, bytes)) (hz : z.cells.size = k) (hk0 : 0 < k)
    {xs : List Value} {n : Nat} (h : w.ownsRow B e k v n xs) {es : List Value} (hes : es.length = k) (hone : ∀ u ∈ es, u.oneCell' = true) (hB : B ≤ w.heap.size) (hl : n ≤ 1000000000) (hby : bytes ≤ 1000) :
    ∃ g cap w', (Builtin.append_ #[t, t] t #[v, .slice (some ⟨w.heap.size, 0, none⟩) 1 1]).run P (w.alloc (.cells es.toArray e)) = .ok (.slice (some ⟨g, 0, none⟩) (n + 1) cap) w' ∧
      w'.ownsRow B e k (.slice (some ⟨g, 0, none⟩) (n + 1) cap) (n + 1) (xs ++ es) ∧ w.grownBy w' v.ownBlock ∧ (v.ownBlock = some g ∨ w.heap.size ≤ g) := by
  obtain ⟨i0, hi0, hz0, hz1, hz2⟩ := info_parts hi
  have hnw : (w.alloc (.cells es.toArray e)).heap[w.heap.size]? = some (.cells es.toArray e (0, 0)) := heap_alloc_new _ _
  have hmul : (n + 1) * bytes ≤ 1000000001 * 1000 := Nat.mul_le_mul (by omega) hby
  obtain ⟨g, cap, w', hrun, hown, hgr, hgb, _⟩ := run_append_lies (P := P) (w.alloc (.cells es.toArray e)) t t B e i0 _ k bytes ht hi0 hz0 hz1 hz2 hz hk0 _ _ _ (owns_grow h (Grow.alloc _ _))
    ⟨w.heap.size, 0, none⟩ 1 1 es (by rw [hes]; omega) (fun j u hu => World.news_of_block hnw j u (by simpa using hu)) hone (by decide) (by unfold maxLen; omega) (by omega) (by simp; omega) _ rfl
  refine ⟨g, cap, w', hrun, hown, ?_, ?_⟩
  · obtain ⟨a, b, c, d, e⟩ := hgr
    exact ⟨a, b, c, Nat.le_trans (by simp) d, fun k hk hn => by rw [e k (by simp; omega) hn]; exact heap_alloc_old _ _ hk⟩
  · simpa using hgb.imp id (fun h => by simp at h; omega)
end rows
end Go.Gl

/- Members of a chain in memory: IndexFunc, ContainsFunc, Place, member, Head, Tail, Next, Ahead. -/
namespace Go.Proofs.Ytfchjoejdijjeaa
open Go.RowKit Go.Gl Go.Wal Go.Ch Go.Shelf

def encMem (m : Mem) : List Value := [.int .i64 (m.node : Int), .int .i64 (m.birth : Int), .bool m.whole]
abbrev memV (m : Mem) : Value := .agg #[.int .i64 (m.node : Int), .int .i64 (m.birth : Int), .bool m.whole]
theorem encMem3 (m : Mem) : (encMem m).length = 3 := rfl
theorem encMem_one (m : Mem) : ∀ u ∈ encMem m, u.oneCell' = true := fun u hu => by
  simp only [encMem, List.mem_cons, List.not_mem_nil, or_false] at hu
  rcases hu with rfl | rfl | rfl <;> rfl
def encN (n : Nat) : List Value := [.int .i64 (n : Int)]
theorem encN1 (n : Nat) : (encN n).length = 1 := rfl
/-- The value reads as the members l; as the numbers l. -/
abbrev MemR (N : Nat → Prop) (w : World) (v : Value) (l : List Mem) : Prop := RowR N w v encMem 3 l
abbrev IntR (N : Nat → Prop) (w : World) (v : Value) (l : List Nat) : Prop := RowR N w v encN 1 l

theorem rd_mem {w : World} {b o i : Nat} {l : List Mem} {x : Mem} (h : Rd w b o encMem 3 l) (hx : l[i]? = some x) :
    w.cell? ⟨b, o + i * 3, none⟩ = some (.int .i64 x.node) ∧ w.cell? ⟨b, o + i * 3 + 1, none⟩ = some (.int .i64 x.birth) ∧ w.cell? ⟨b, o + i * 3 + 2, none⟩ = some (.bool x.whole) :=
  ⟨h i x hx 0 _ rfl, h i x hx 1 _ rfl, h i x hx 2 _ rfl⟩

/-- The place of the first that p takes; -1. -/
def idxI (p : Mem → Bool) : List Mem → Nat → Int
  | [], _ => -1
  | m :: l, i => if p m = true then (i : Int) else idxI p l (i + 1)

theorem idxI_step (p : Mem → Bool) {l : List Mem} {i : Nat} {m : Mem} (h : l[i]? = some m) : idxI p (l.drop i) i = if p m = true then (i : Int) else idxI p (l.drop (i + 1)) (i + 1) := by
  obtain ⟨hi, rfl⟩ := List.getElem?_eq_some_iff.1 h
  rw [List.drop_eq_getElem_cons hi, idxI]

def IdxInv (w : World) (p : Mem → Bool) (l : List Mem) (iv : Value) (wr : World) : Prop := ∃ i : Nat, iv = .int .i64 i ∧ i ≤ l.length ∧ idxI p l 0 = idxI p (l.drop i) i ∧ Grow w wr

set_option maxRecDepth 100000 in
set_option maxHeartbeats 4000000 in
theorem idx_one {N : Nat → Prop} {w : World} {v : Value} {l : List Mem} (h : MemR N w v l) (hl : l.length ≤ 1000000) {p : Mem → Bool} {g : Nat} {c : Value} (eg : ∀ args W, (callFunc g args).run Try.prog W = .ok (.enter g args) W) (hc : ∀ (W : World) (m : Mem), Grow w W → Calls Try.prog g #[memV m, c] W fun e w' => e = .returned (.bool (p m)) ∧ Grow W w') :
    Calls Try.prog 59 #[v, .func (.func g) #[] #[c]] w fun e w' => e = .returned (.int .i64 (idxI p l 0)) ∧ Grow w w' := by
  have Hc := Lib.hid hc
  have H := Lib.hid h
  obtain ⟨a, cc, rfl⟩ := h.slice
  clear h hc
  go_enter Try.func59, Try.ntmps59
  go_wp2_with fail
  go_loopw [8] (fun iv wr => IdxInv w p l iv wr) (fun iv _ => l.length - (intOf iv).toNat)
  case atStart => exact ⟨0, rfl, Nat.zero_le _, rfl, Grow.refl _⟩
  case round =>
    obtain ⟨i, rfl, hi, hidx, hg⟩ := hrel
    by_cases hlt : i < l.length
    · obtain ⟨m, hm⟩ : ∃ m, l[i]? = some m := ⟨l[i], by simp [hlt]⟩
      obtain ⟨b, o, c', e, hN, hb, hr⟩ := (H.out.grow hg).addr hm
      cases e
      obtain ⟨c0, c1, c2⟩ := rd_mem hr hm
      have hi1 : (i : Int) < (l.length : Int) := by omega
      rw [idxI_step p hm] at hidx
      have Hidx := Lib.hid hidx
      have Hg := Lib.hid hg
      clear hidx hg hr hm
      go_wp2_with fail
      (with_reducible refine (Hc.out _ m Hg.out).mono ?_)
      rintro e w1 ⟨rfl, hg1⟩
      have Hg1 := Lib.hid (Hg.out.trans hg1)
      clear hg1 Hg
      cases hp : p m with
      | true =>
        rw [hp] at Hidx
        go_wp2
        go_ret
        exact ⟨by rw [Hidx.out]; rfl, Hg1.out⟩
      | false =>
        rw [hp] at Hidx
        go_wp2
        go_roundw
        case rel => exact ⟨i + 1, by simp, hlt, by rw [Hidx.out]; rfl, Hg1.out⟩
        case measure => simp [intOf]; omega
    · obtain rfl : i = l.length := by omega
      have Hidx : Hid (idxI p l 0 = -1) := Lib.hid (by rw [hidx, List.drop_length]; rfl)
      clear hidx
      go_wp2
      go_ret
      exact ⟨by rw [Hidx.out]; rfl, hg⟩
set_option maxRecDepth 100000 in
set_option maxHeartbeats 4000000 in
theorem idx_none {N : Nat → Prop} {w : World} {v : Value} {l : List Mem} (h : MemR N w v l) (hl : l.length ≤ 1000000) {p : Mem → Bool} {g : Nat} (eg : ∀ args W, (callFunc g args).run Try.prog W = .ok (.enter g args) W) (hc : ∀ (W : World) (m : Mem), Grow w W → Calls Try.prog g #[memV m] W fun e w' => e = .returned (.bool (p m)) ∧ Grow W w') :
    Calls Try.prog 59 #[v, .func (.func g) #[] #[]] w fun e w' => e = .returned (.int .i64 (idxI p l 0)) ∧ Grow w w' := by
  have Hc := Lib.hid hc
  have H := Lib.hid h
  obtain ⟨a, cc, rfl⟩ := h.slice
  clear h hc
  go_enter Try.func59, Try.ntmps59
  go_wp2_with fail
  go_loopw [8] (fun iv wr => IdxInv w p l iv wr) (fun iv _ => l.length - (intOf iv).toNat)
  case atStart => exact ⟨0, rfl, Nat.zero_le _, rfl, Grow.refl _⟩
  case round =>
    obtain ⟨i, rfl, hi, hidx, hg⟩ := hrel
    by_cases hlt : i < l.length
    · obtain ⟨m, hm⟩ : ∃ m, l[i]? = some m := ⟨l[i], by simp [hlt]⟩
      obtain ⟨b, o, c', e, hN, hb, hr⟩ := (H.out.grow hg).addr hm
      cases e
      obtain ⟨c0, c1, c2⟩ := rd_mem hr hm
      have hi1 : (i : Int) < (l.length : Int) := by omega
      rw [idxI_step p hm] at hidx
      have Hidx := Lib.hid hidx
      have Hg := Lib.hid hg
      clear hidx hg hr hm
      go_wp2_with fail
      (with_reducible refine (Hc.out _ m Hg.out).mono ?_)
      rintro e w1 ⟨rfl, hg1⟩
      have Hg1 := Lib.hid (Hg.out.trans hg1)
      clear hg1 Hg
      cases hp : p m with
      | true =>
        rw [hp] at Hidx
        go_wp2
        go_ret
        exact ⟨by rw [Hidx.out]; rfl, Hg1.out⟩
      | false =>
        rw [hp] at Hidx
        go_wp2
        go_roundw
        case rel => exact ⟨i + 1, by simp, hlt, by rw [Hidx.out]; rfl, Hg1.out⟩
        case measure => simp [intOf]; omega
    · obtain rfl : i = l.length := by omega
      have Hidx : Hid (idxI p l 0 = -1) := Lib.hid (by rw [hidx, List.drop_length]; rfl)
      clear hidx
      go_wp2
      go_ret
      exact ⟨by rw [Hidx.out]; rfl, hg⟩

def eqN (n : Nat) (m : Mem) : Bool := decide (m.node = n)

theorem enters_placeClo : ∀ args W, (callFunc 60 args).run Try.prog W = .ok (.enter 60 args) W := enters_of Try.func60 (by kernel_rfl) rfl
theorem enters_checkClo : ∀ args W, (callFunc 66 args).run Try.prog W = .ok (.enter 66 args) W := enters_of Try.func66 (by kernel_rfl) rfl
theorem enters_wholeClo : ∀ args W, (callFunc 73 args).run Try.prog W = .ok (.enter 73 args) W := enters_of Try.func73 (by kernel_rfl) rfl

theorem alloc2 (w : World) (x y : Obj) : ((w.alloc x).alloc y).heap[w.heap.size + 1]? = some y := by
  have := heap_alloc_new (w.alloc x) y
  rw [show (w.alloc x).heap.size = w.heap.size + 1 by simp] at this
  exact this
theorem placeClo_any {w : World} {n B : Nat} {t : TypeId} (hb : w.heap[B]? = some (.cells #[.int .i64 (n : Int)] t (0, 0))) (W : World) (m : Mem) (hg : Grow w W) :
    Calls Try.prog 60 #[memV m, .pointer (some ⟨B, 0, none⟩)] W fun e w' => e = .returned (.bool (eqN n m)) ∧ Grow W w' := by
  have hB := lt_of_getElem? hb
  have hc' : W.cell? ⟨B, 0, none⟩ = some (.int .i64 (n : Int)) := (Grow.cells _ _ _ hg hB).trans (by simp [World.cell?, hb])
  have hBW : B < W.heap.size := Nat.lt_of_lt_of_le hB hg.size
  have hne : B ≠ W.heap.size := by omega
  have hd : eqN n m = ((m.node : Int) == (n : Int)) := by unfold eqN; by_cases h : m.node = n <;> simp [h] <;> omega
  simp only [hd]
  have Hg := Lib.hid hg
  clear hg hb hd
  go_enter Try.func60, Try.ntmps60
  go_wp2
  go_ret
  exact ⟨rfl, Grow.alloc _ _⟩
theorem checkClo_any {w : World} {n B : Nat} {u v : Value} (hB : w.heap[B]? = some (.cells #[.int .i64 (n : Int), u, v] 71 (0, 0))) (W : World) (m : Mem) (hg : Grow w W) :
    Calls Try.prog 66 #[memV m, .pointer (some ⟨B, 0, none⟩)] W fun e w' => e = .returned (.bool (eqN n m)) ∧ Grow W w' := by
  have hlt := lt_of_getElem? hB
  have hc' : W.cell? ⟨B, 0, none⟩ = some (.int .i64 (n : Int)) := (Grow.cells _ _ _ hg hlt).trans (by simp [World.cell?, hB])
  have hBW : B < W.heap.size := Nat.lt_of_lt_of_le hlt hg.size
  have hne : B ≠ W.heap.size := by omega
  have hd : eqN n m = ((m.node : Int) == (n : Int)) := by unfold eqN; by_cases h : m.node = n <;> simp [h] <;> omega
  simp only [hd]
  have Hg := Lib.hid hg
  clear hg hB hd
  go_enter Try.func66, Try.ntmps66
  go_wp2
  go_ret
  exact ⟨rfl, Grow.alloc _ _⟩
theorem wholeClo_any (W : World) (m : Mem) : Calls Try.prog 73 #[memV m] W fun e w' => e = .returned (.bool m.whole) ∧ Grow W w' := by
  go_enter Try.func73, Try.ntmps73
  go_wp2
  go_ret
  exact ⟨rfl, Grow.alloc _ _⟩

theorem idxI_ge (p : Mem → Bool) : ∀ (l : List Mem) (i : Nat), decide (0 ≤ idxI p l i) = l.any p
  | [], _ => by simp [idxI]
  | m :: l, i => by
    unfold idxI
    cases hp : p m with
    | true => simp [hp]
    | false => simp [hp]; simpa using idxI_ge p l (i + 1)

theorem cont_one {N : Nat → Prop} {w : World} {v : Value} {l : List Mem} (h : MemR N w v l) (hl : l.length ≤ 1000000) {p : Mem → Bool} {g : Nat} {c : Value} (eg : ∀ args W, (callFunc g args).run Try.prog W = .ok (.enter g args) W) (hc : ∀ (W : World) (m : Mem), Grow w W → Calls Try.prog g #[memV m, c] W fun e w' => e = .returned (.bool (p m)) ∧ Grow W w') :
    Calls Try.prog 65 #[v, .func (.func g) #[] #[c]] w fun e w' => e = .returned (.bool (l.any p)) ∧ Grow w w' := by
  have Hi := Lib.hid (idx_one h hl eg hc)
  clear hc
  go_enter Try.func65, Try.ntmps65
  go_wp2_with fail
  (with_reducible refine Hi.out.mono ?_)
  rintro e w1 ⟨rfl, hg1⟩
  go_wp2
  go_ret
  exact ⟨by rw [← idxI_ge p l 0]; rfl, hg1⟩
theorem cont_none {N : Nat → Prop} {w : World} {v : Value} {l : List Mem} (h : MemR N w v l) (hl : l.length ≤ 1000000) {p : Mem → Bool} {g : Nat} (eg : ∀ args W, (callFunc g args).run Try.prog W = .ok (.enter g args) W) (hc : ∀ (W : World) (m : Mem), Grow w W → Calls Try.prog g #[memV m] W fun e w' => e = .returned (.bool (p m)) ∧ Grow W w') :
    Calls Try.prog 65 #[v, .func (.func g) #[] #[]] w fun e w' => e = .returned (.bool (l.any p)) ∧ Grow w w' := by
  have Hi := Lib.hid (idx_none h hl eg hc)
  clear hc
  go_enter Try.func65, Try.ntmps65
  go_wp2_with fail
  (with_reducible refine Hi.out.mono ?_)
  rintro e w1 ⟨rfl, hg1⟩
  go_wp2
  go_ret
  exact ⟨by rw [← idxI_ge p l 0]; rfl, hg1⟩
theorem whole_any {N : Nat → Prop} {w : World} {v : Value} {l : List Mem} (h : MemR N w v l) (hl : l.length ≤ 1000000) :
    Calls Try.prog 62 #[v] w fun e w' => e = .returned (.bool (anyWhole l)) ∧ Grow w w' := by
  have Hi := Lib.hid (cont_none h hl (p := fun m => m.whole) enters_wholeClo (fun W m _ => wholeClo_any W m))
  go_enter Try.func62, Try.ntmps62
  go_wp2_with fail
  (with_reducible refine Hi.out.mono ?_)
  rintro e w1 ⟨rfl, hg1⟩
  go_wp2
  go_ret
  exact ⟨rfl, hg1⟩

/-- A configuration's value. -/
abbrev cfgV (e : Nat) (cv sv : Value) : Value := .agg #[.int .i64 (e : Int), cv, sv]
def plI (o : Option Nat) : Int := match o with | none => -1 | some i => (i : Int)
theorem idx_place (n : Nat) : ∀ (l : List Mem) (i : Nat), idxI (eqN n) l i = plI (placeF n l i)
  | [], _ => rfl
  | m :: l, i => by
    unfold idxI placeF eqN
    by_cases h : m.node = n
    · simp [h, plI]
    · simp [h]; exact idx_place n l (i + 1)

/-- A configuration's slices. -/
structure CfgR (N : Nat → Prop) (w : World) (cv sv : Value) (c : Cfg) : Prop where
  chain : MemR N w cv c.chain
  stores : IntR N w sv c.stores
  small : c.chain.length ≤ 5
  few : c.stores.length ≤ 16
theorem CfgR.kp {N : Nat → Prop} {w w' : World} {cv sv : Value} {c : Cfg} (h : CfgR N w cv sv c) (k : Kp N w w') : CfgR N w' cv sv c := ⟨h.chain.kp k, h.stores.kp k, h.small, h.few⟩
theorem CfgR.grow {N : Nat → Prop} {w w' : World} {cv sv : Value} {c : Cfg} (h : CfgR N w cv sv c) (hg : Grow w w') : CfgR N w' cv sv c := h.kp (.ofGrow hg)
theorem CfgR.mono {N M : Nat → Prop} {w : World} {cv sv : Value} {c : Cfg} (h : CfgR N w cv sv c) (hM : ∀ b, N b → b < w.heap.size → M b) : CfgR M w cv sv c := ⟨h.chain.mono hM, h.stores.mono hM, h.small, h.few⟩

section
variable {N : Nat → Prop} {w : World} {cv sv : Value} {c : Cfg}
theorem place_any (h : CfgR N w cv sv c) (n : Nat) :
    Calls Try.prog 44 #[cfgV c.epoch cv sv, .int .i64 (n : Int)] w fun e w' => e = .returned (.int .i64 (plI (place c.chain n))) ∧ Grow w w' := by
  have hl := h.small
  obtain ⟨a, cc, rfl⟩ := h.chain.slice
  obtain ⟨sa, sc, rfl⟩ := h.stores.slice
  have hga : Grow w ((w.alloc (.cells #[.int .i64 (c.epoch : Int), .slice a c.chain.length cc, .slice sa c.stores.length sc] 59)).alloc (.cells #[.int .i64 (n : Int)] 3)) := (Grow.alloc _ _).trans (Grow.alloc _ _)
  have hi := idx_one (h.chain.grow hga) (by omega) enters_placeClo (fun W m hg => placeClo_any (n := n) (B := w.heap.size + 1) (alloc2 w _ _) W m hg)
  have Hi := Lib.hid hi
  have Hga := Lib.hid hga
  clear hi hga h
  go_enter Try.func44, Try.ntmps44
  go_wp2_with fail
  (with_reducible refine Hi.out.mono ?_)
  rintro e w1 ⟨rfl, hg1⟩
  go_wp2
  go_ret
  exact ⟨by rw [idx_place]; rfl, Hga.out.trans hg1⟩

def zeroM : Mem := ⟨0, 0, false⟩
/-- A member's value, or the zero one. -/
abbrev omR (o : Option Mem) : Value := .tuple #[memV (o.getD zeroM), .bool o.isSome]
def atI (l : List Mem) (i : Int) : Option Mem := if i < 0 then none else l[i.toNat]?

theorem mmember_any (h : CfgR N w cv sv c) (i : Int) (hi : i ≤ 100) :
    Calls Try.prog 61 #[cfgV c.epoch cv sv, .int .i64 i] w fun e w' => e = .returned (omR (atI c.chain i)) ∧ Grow w w' := by
  have H := Lib.hid h
  have hl := h.small
  obtain ⟨a, cc, rfl⟩ := h.chain.slice
  obtain ⟨sa, sc, rfl⟩ := h.stores.slice
  clear h
  by_cases h0 : i < 0
  · have hat : atI c.chain i = none := by simp [atI, h0]
    rw [hat]
    go_enter Try.func61, Try.ntmps61
    go_wp2
    exact bodyPost_ret (v := omR none) (by simp [results, Try.results61, go_sem, zeroM]) rfl ⟨rfl, (Grow.alloc _ _).trans (Grow.alloc _ _)⟩
  · have h0' : decide (i < 0) = false := by simpa using h0
    cases hm : c.chain[i.toNat]? with
    | none =>
      have hat : atI c.chain i = none := by simp only [atI, if_neg h0, hm]
      have hge : c.chain.length ≤ i.toNat := by simpa using hm
      have hge' : decide ((c.chain.length : Int) ≤ i) = true := by simp; omega
      rw [hat]
      clear hm
      go_enter Try.func61, Try.ntmps61
      go_wp2
      exact bodyPost_ret (v := omR none) (by simp [results, Try.results61, go_sem, zeroM]) rfl ⟨rfl, (Grow.alloc _ _).trans (Grow.alloc _ _)⟩
    | some m =>
      obtain ⟨k, rfl⟩ : ∃ k : Nat, i = k := ⟨i.toNat, by omega⟩
      have hm' : c.chain[k]? = some m := by simpa using hm
      have hat : atI c.chain (k : Int) = some m := by simp only [atI, if_neg h0, hm]
      have hlt : k < c.chain.length := (List.getElem?_eq_some_iff.1 hm').1
      have hlt' : decide (c.chain.length ≤ k) = false := by simp; omega
      have hga : Grow w ((w.alloc (.cells #[.int .i64 (c.epoch : Int), .slice a c.chain.length cc, .slice sa c.stores.length sc] 59)).alloc (.cells #[.int .i64 0, .int .i64 0, .bool false] 71)) := (Grow.alloc _ _).trans (Grow.alloc _ _)
      obtain ⟨b, o, c', e, hN, hb, hr⟩ := H.out.chain.addr hm'
      cases e
      obtain ⟨c0, c1, c2⟩ := rd_mem hr hm'
      have hne : b ≠ w.heap.size := by omega
      have hne2 : b ≠ w.heap.size + 1 := by omega
      rw [hat]
      clear hm hr hga hm'
      go_enter Try.func61, Try.ntmps61
      go_wp2
      exact bodyPost_ret (v := omR (some m)) (by simp [results, Try.results61, go_sem]) rfl ⟨rfl, by ((repeat (first | exact Below.refl _ _ | assumption | refine Below.drew ?_ | refine bDrewN ?_ | refine Below.setCell ?_ ?_ _ | refine Below.alloc ?_ ?_ _)) <;> try (first | omega | (simp <;> omega)))⟩
end
end Go.Proofs.Ytfchjoejdijjeaa
