/- Merged out of FA, FB, FC: helpers. -/
import Derived.Test.YtfchjoejdijjeaaCS
import Derived.Maps.AppendAt
import Derived.Test.YtfchjoejdijjeaaCQ
set_option linter.unusedSimpArgs false
set_option linter.unusedVariables false
/- The law's world in memory: what its blocks hold. -/
namespace Go.Proofs.Ytfchjoejdijjeaa
open Go.RowKit Go.Gl Go.Wal Go.Ch Go.Shelf
/-- Where a node lies: its block, its box's, its commands, its configuration's rows. -/
structure Pl where
  nb : Nat
  bb : Nat
  cv : Value
  cfv : Value
  sv : Value
/-- The world's rows: nodes, boxes, births, messages, configurations, what was committed. -/
structure Vs where
  nv : Value
  xv : Value
  bv : Value
  gv : Value
  kv : Value
  rv : Value
def FP (p : Pl) (x : Nat) : Prop := FN p.nb p.bb p.cv x
/-- The blocks of the law's world. -/
def FW (wb : Nat) (V : Vs) (ps : List Pl) (x : Nat) : Prop :=
  x = wb ∨ V.nv.ownBlock = some x ∨ V.xv.ownBlock = some x ∨ V.bv.ownBlock = some x ∨ V.gv.ownBlock = some x ∨ V.kv.ownBlock = some x ∨ V.rv.ownBlock = some x ∨ ∃ p ∈ ps, FP p x
abbrev NW (wb : Nat) (V : Vs) (ps : List Pl) (x : Nat) : Prop := ¬ FW wb V ps x

structure Cv where
  c : Cfg
  cv : Value
  sv : Value
def encCf (y : Cv) : List Value := [.int .i64 (y.c.epoch : Int), y.cv, y.sv]
theorem encCf3 (y : Cv) : (encCf y).length = 3 := rfl
/-- A row of configurations of one's own. -/
def CfgsAt (N : Nat → Prop) (w : World) (v : Value) (cs : List Cfg) : Prop :=
  ∃ ys : List Cv, ys.map Cv.c = cs ∧ w.ownsRow 0 59 3 v ys.length (ys.flatMap encCf) ∧ ∀ y ∈ ys, CfgR N w y.cv y.sv y.c
section
variable {N M : Nat → Prop} {w w' : World} {v : Value} {cs : List Cfg}
theorem CfgsAt.kp (h : CfgsAt N w v cs) (k : Kp N w w') (hk : ∀ g, v.ownBlock = some g → w'.heap[g]? = w.heap[g]?) : CfgsAt N w' v cs := by
  obtain ⟨ys, h1, h2, h3⟩ := h
  exact ⟨ys, h1, owns_keep h2 hk, fun y hy => (h3 y hy).kp k⟩
theorem CfgsAt.mono (h : CfgsAt N w v cs) (hM : ∀ b, N b → b < w.heap.size → M b) : CfgsAt M w v cs := by
  obtain ⟨ys, h1, h2, h3⟩ := h
  exact ⟨ys, h1, h2, fun y hy => (h3 y hy).mono hM⟩
theorem CfgsAt.lt (h : CfgsAt N w v cs) {g : Nat} (hg : v.ownBlock = some g) : g < w.heap.size ∧ ∃ cur, w.heap[g]? = some (.cells cur 59 (0, 0)) := by
  obtain ⟨ys, h1, h2, h3⟩ := h
  have := owns_lt h2 hg
  exact ⟨this.2.1, this.2.2⟩
theorem CfgsAt.slice (h : CfgsAt N w v cs) : ∃ a c, v = .slice a cs.length c := by
  obtain ⟨ys, h1, h2, h3⟩ := h
  obtain ⟨a, c, h⟩ := owns_slice h2
  exact ⟨a, c, by rw [h, ← h1, List.length_map]⟩
/-- One of them. -/
theorem CfgsAt.get (h : CfgsAt N w v cs) {i : Nat} {c : Cfg} (hc : cs[i]? = some c) :
    ∃ g cap cv sv, v = .slice (some ⟨g, 0, none⟩) cs.length cap ∧ g < w.heap.size ∧ w.cell? ⟨g, i * 3, none⟩ = some (.int .i64 (c.epoch : Int)) ∧ w.cell? ⟨g, i * 3 + 1, none⟩ = some cv ∧ w.cell? ⟨g, i * 3 + 2, none⟩ = some sv ∧ CfgR N w cv sv c := by
  obtain ⟨ys, rfl, h2, h3⟩ := h
  rw [List.getElem?_map] at hc
  cases hy : ys[i]? with
  | none => rw [hy] at hc; cases hc
  | some y =>
    rw [hy] at hc
    cases hc
    rcases id h2.2 with ⟨hv, e⟩ | ⟨g, m, cur, rfl, hB, hg, hr⟩
    · have : ys = [] := List.eq_nil_of_length_eq_zero e
      rw [this] at hy; simp at hy
    · have hrd := rd_of_owns encCf3 h2
      have k0 := hrd i y hy 0 _ rfl
      have k1 := hrd i y hy 1 _ rfl
      have k2 := hrd i y hy 2 _ rfl
      rw [Nat.zero_add] at k0 k1 k2
      exact ⟨g, m, y.cv, y.sv, by rw [List.length_map], lt_of_getElem? hg, k0, k1, k2, h3 y (List.mem_of_getElem? hy)⟩
end

section
variable {C : Type} {f : C → List UInt8} {N M : Nat → Prop} {w w' : World}
theorem OwnM.kp {B : Nat} {v : Value} {ms : List (Msg C)} (h : OwnM f B N w v ms) (k : Kp N w w') (hk : ∀ g, v.ownBlock = some g → w'.heap[g]? = w.heap[g]?) : OwnM f B N w' v ms := by
  obtain ⟨ys, h1, h2, h3⟩ := h
  exact ⟨ys, h1, owns_keep h2 hk, fun y hy => (h3 y hy).kp k⟩
theorem OwnM.mono {B : Nat} {v : Value} {ms : List (Msg C)} (h : OwnM f B N w v ms) (hM : ∀ b, N b → b < w.heap.size → M b) : OwnM f B M w v ms := by
  obtain ⟨ys, h1, h2, h3⟩ := h
  exact ⟨ys, h1, h2, fun y hy => (h3 y hy).mono hM⟩
theorem NdAt.kp {nb bb : Nat} {cv cfv sv : Value} {d : Nd} {b : Box C} (h : NdAt f N w nb bb cv cfv sv d b) (k : Kp N w w') (hk : ∀ x, FN nb bb cv x → w'.heap[x]? = w.heap[x]?) : NdAt f N w' nb bb cv cfv sv d b :=
  ⟨(hk nb (.inl rfl)).trans h.blk, ⟨(hk bb (.inr (.inl rfl))).trans h.box.blk, h.box.row.kp k (fun g hg => hk g (.inr (.inr hg))), h.box.apart, h.box.len, h.box.fst, h.box.ep⟩, h.cfg.kp k, h.own, h.ep, h.slf, h.bir⟩

structure NdsAt (f : C → List UInt8) (N : Nat → Prop) (w : World) (ps : List Pl) (nds : List Nd) (boxes : List (Box C)) : Prop where
  ln : nds.length = ps.length
  lb : boxes.length = ps.length
  nd : ∀ (i : Nat) (p : Pl) (d : Nd) (b : Box C), ps[i]? = some p → nds[i]? = some d → boxes[i]? = some b → NdAt f N w p.nb p.bb p.cv p.cfv p.sv d b
  dis : ∀ (i j : Nat) (p q : Pl) (x : Nat), ps[i]? = some p → ps[j]? = some q → i ≠ j → FP p x → ¬ FP q x
variable {ps : List Pl} {nds : List Nd} {boxes : List (Box C)}
theorem NdsAt.get (h : NdsAt f N w ps nds boxes) {i : Nat} (hi : i < ps.length) : ∃ p d b, ps[i]? = some p ∧ nds[i]? = some d ∧ boxes[i]? = some b ∧ NdAt f N w p.nb p.bb p.cv p.cfv p.sv d b := by
  have h1 := h.ln
  have h2 := h.lb
  have e1 : ps[i]? = some ps[i] := by simp [hi]
  have e2 : nds[i]? = some (nds[i]'(by omega)) := by simp [show i < nds.length by omega]
  have e3 : boxes[i]? = some (boxes[i]'(by omega)) := by simp [show i < boxes.length by omega]
  exact ⟨_, _, _, e1, e2, e3, h.nd i _ _ _ e1 e2 e3⟩
theorem NdsAt.lt (h : NdsAt f N w ps nds boxes) {p : Pl} (hp : p ∈ ps) {x : Nat} (hx : FP p x) : x < w.heap.size := by
  obtain ⟨i, hi⟩ := List.getElem?_of_mem hp
  obtain ⟨hl, _⟩ := List.getElem?_eq_some_iff.1 hi
  obtain ⟨q, d, b, h1, h2, h3, h4⟩ := h.get hl
  rw [hi] at h1; cases h1
  exact h4.flt hx
theorem NdsAt.kp (h : NdsAt f N w ps nds boxes) (k : Kp N w w') (hk : ∀ p ∈ ps, ∀ x, FP p x → w'.heap[x]? = w.heap[x]?) : NdsAt f N w' ps nds boxes :=
  ⟨h.ln, h.lb, fun i p d b h1 h2 h3 => (h.nd i p d b h1 h2 h3).kp k (hk p (List.mem_of_getElem? h1)), h.dis⟩
theorem NdsAt.mono (h : NdsAt f N w ps nds boxes) (hM : ∀ x, N x → x < w.heap.size → M x) (hap : ∀ p ∈ ps, ∀ x, M x → ¬ FP p x) : NdsAt f M w ps nds boxes :=
  ⟨h.ln, h.lb, fun i p d b h1 h2 h3 => (h.nd i p d b h1 h2 h3).mono hM (hap p (List.mem_of_getElem? h1)), h.dis⟩

abbrev ptrN (p : Pl) : Value := .pointer (some ⟨p.nb, 0, none⟩)
abbrev ptrX (p : Pl) : Value := .pointer (some ⟨p.bb, 0, none⟩)
abbrev numV (n : Nat) : Value := .int .i64 (n : Int)
abbrev wdC (V : Vs) (ok : Bool) : Array Value := #[V.nv, V.xv, V.bv, V.gv, V.kv, V.rv, .bool (!ok)]
/-- The law's world lies at wb. -/
structure WAt (f : C → List UInt8) (w : World) (wb : Nat) (V : Vs) (ps : List Pl) (W : Wd C) : Prop where
  blk : w.heap[wb]? = some (.cells (wdC V W.ok) 44 (0, 0))
  nrow : Row1 50 0 w V.nv (ps.map ptrN)
  xrow : Row1 48 0 w V.xv (ps.map ptrX)
  brow : Row1 3 0 w V.bv (W.births.map numV)
  bag : OwnM f 0 (NW wb V ps) w V.gv W.bag
  cfgs : CfgsAt (NW wb V ps) w V.kv W.cfgs
  row : CmdR f (NW wb V ps) w V.rv W.row
  nds : NdsAt f (NW wb V ps) w ps W.nds W.boxes
  lr : W.births.length = ps.length
  rvx : ∀ p ∈ ps, ∀ x, V.rv.ownBlock = some x → ¬ FP p x
variable {wb : Nat} {V V' : Vs} {W W' : Wd C}
theorem WAt.lt (h : WAt f w wb V ps W) {x : Nat} (hx : FW wb V ps x) : x < w.heap.size := by
  rcases hx with rfl | hx | hx | hx | hx | hx | hx | ⟨p, hp, hx⟩
  · exact lt_of_getElem? h.blk
  · exact (h.nrow.lt hx).2
  · exact (h.xrow.lt hx).2
  · exact (h.brow.lt hx).2
  · exact (h.bag.lt hx).2.1
  · exact (h.cfgs.lt hx).1
  · exact (h.row.lt hx).1
  · exact h.nds.lt hp hx
theorem fw_node {p : Pl} (hp : p ∈ ps) {x : Nat} (hx : FP p x) : FW wb V ps x := .inr (.inr (.inr (.inr (.inr (.inr (.inr ⟨p, hp, hx⟩))))))
theorem WAt.wlt (h : WAt f w wb V ps W) : wb < w.heap.size := lt_of_getElem? h.blk
theorem WAt.kp (h : WAt f w wb V ps W) (hs : w.heap.size ≤ w'.heap.size) (hk : ∀ x, x < w.heap.size → w'.heap[x]? = w.heap[x]?) : WAt f w' wb V ps W := by
  have k : Kp (NW wb V ps) w w' := ⟨hs, fun b _ hb => hk b hb⟩
  exact ⟨(hk _ h.wlt).trans h.blk, h.nrow.keep (fun g hg => hk g (h.nrow.lt hg).2), h.xrow.keep (fun g hg => hk g (h.xrow.lt hg).2), h.brow.keep (fun g hg => hk g (h.brow.lt hg).2),
    h.bag.kp k (fun g hg => hk g (h.bag.lt hg).2.1), h.cfgs.kp k (fun g hg => hk g (h.cfgs.lt hg).1), h.row.kp k (fun g hg => hk g (h.row.lt hg).1), h.nds.kp k (fun p hp x hx => hk x (h.nds.lt hp hx)), h.lr, h.rvx⟩
theorem WAt.grow (h : WAt f w wb V ps W) (hg : Grow w w') : WAt f w' wb V ps W := h.kp hg.size (fun x hx => hg.block x hx)
/-- Two blocks of unlike types are not the same. -/
theorem ty_ne {b g : Nat} {x y : Array Value} {t u : TypeId} {p q : Nat × Nat} (hb : w.heap[b]? = some (.cells x t p)) (hg : w.heap[g]? = some (.cells y u q)) (h : t ≠ u) : b ≠ g := fun e => by
  rw [e, hg] at hb; cases hb; exact h rfl
/-- The types of a node's blocks. -/
theorem NdAt.ty {nb bb : Nat} {cv cfv sv : Value} {d : Nd} {b : Box C} (h : NdAt f N w nb bb cv cfv sv d b) {x : Nat} (hx : FN nb bb cv x) : ∃ cur t, w.heap[x]? = some (.cells cur t (0, 0)) ∧ (t = 79 ∨ t = 47 ∨ t = 28) := by
  rcases hx with rfl | rfl | hx
  · exact ⟨_, _, h.blk, .inl rfl⟩
  · exact ⟨_, _, h.box.blk, .inr (.inl rfl)⟩
  · obtain ⟨_, cur, hc⟩ := h.box.row.lt hx
    exact ⟨_, _, hc, .inr (.inr rfl)⟩
theorem NdsAt.ty (h : NdsAt f N w ps nds boxes) {p : Pl} (hp : p ∈ ps) {x : Nat} (hx : FP p x) : ∃ cur t, w.heap[x]? = some (.cells cur t (0, 0)) ∧ (t = 79 ∨ t = 47 ∨ t = 28) := by
  obtain ⟨i, hi⟩ := List.getElem?_of_mem hp
  obtain ⟨hl, _⟩ := List.getElem?_eq_some_iff.1 hi
  obtain ⟨q, d, b, h1, h2, h3, h4⟩ := h.get hl
  rw [hi] at h1; cases h1
  exact h4.ty hx

/-- What stays where the world's block and one row (its type t; S) are written. -/
structure Rest (f : C → List UInt8) (M : Nat → Prop) (w' : World) (S : Nat → Prop) (V : Vs) (ps : List Pl) (W : Wd C) : Prop where
  nrow : Row1 50 0 w' V.nv (ps.map ptrN)
  xrow : Row1 48 0 w' V.xv (ps.map ptrX)
  brow : Row1 3 0 w' V.bv (W.births.map numV)
  bag : (∀ x, V.gv.ownBlock = some x → ¬ S x) → OwnM f 0 M w' V.gv W.bag
  cfgs : (∀ x, V.kv.ownBlock = some x → ¬ S x) → CfgsAt M w' V.kv W.cfgs
  row : (∀ x, V.rv.ownBlock = some x → ¬ S x) → CmdR f M w' V.rv W.row
  nds : NdsAt f M w' ps W.nds W.boxes

theorem WAt.rest (h : WAt f w wb V ps W) (S : Nat → Prop) (hs : w.heap.size ≤ w'.heap.size) (hk : ∀ x, x < w.heap.size → ¬ S x → x ≠ wb → w'.heap[x]? = w.heap[x]?)
    (hS : ∀ x, S x → FW wb V ps x ∧ V.nv.ownBlock ≠ some x ∧ V.xv.ownBlock ≠ some x ∧ V.bv.ownBlock ≠ some x ∧ ∀ p ∈ ps, ¬ FP p x)
    (hF : ∀ x, FW wb V' ps x → FW wb V ps x ∨ w.heap.size ≤ x) : Rest f (NW wb V' ps) w' S V ps W := by
  have k : Kp (fun x => NW wb V ps x ∧ x < w.heap.size) w w' := ⟨hs, fun b hN hb => hk b hb (fun hSb => hN.1 (hS b hSb).1) (fun e => hN.1 (.inl e))⟩
  have m1 : ∀ b, NW wb V ps b → b < w.heap.size → NW wb V ps b ∧ b < w.heap.size := fun b h1 h2 => ⟨h1, h2⟩
  have m2 : ∀ b, (NW wb V ps b ∧ b < w.heap.size) → b < w'.heap.size → NW wb V' ps b := fun b hN _ hF' => by
    rcases hF b hF' with h1 | h1
    · exact hN.1 h1
    · omega
  have hb := h.blk
  have nd := h.nds
  have ap : ∀ p ∈ ps, ∀ x, NW wb V' ps x → ¬ FP p x := fun p hp x hx hP => hx (fw_node hp hP)
  refine ⟨h.nrow.keep (fun g hg => ?_), h.xrow.keep (fun g hg => ?_), h.brow.keep (fun g hg => ?_), fun hh => ?_, fun hh => ?_, fun hh => ?_, ?_⟩
  · exact hk g (h.nrow.lt hg).2 (fun hSg => (hS g hSg).2.1 hg) (by obtain ⟨_, hc⟩ := h.nrow.block hg; exact ty_ne hc hb (by decide))
  · exact hk g (h.xrow.lt hg).2 (fun hSg => (hS g hSg).2.2.1 hg) (by obtain ⟨_, hc⟩ := h.xrow.block hg; exact ty_ne hc hb (by decide))
  · exact hk g (h.brow.lt hg).2 (fun hSg => (hS g hSg).2.2.2.1 hg) (by obtain ⟨_, hc⟩ := h.brow.block hg; exact ty_ne hc hb (by decide))
  · exact ((h.bag.mono m1).kp k (fun g hg => hk g (h.bag.lt hg).2.1 (hh g hg) (by obtain ⟨_, hc⟩ := (h.bag.lt hg).2.2; exact ty_ne hc hb (by decide)))).mono m2
  · exact ((h.cfgs.mono m1).kp k (fun g hg => hk g (h.cfgs.lt hg).1 (hh g hg) (by obtain ⟨_, hc⟩ := (h.cfgs.lt hg).2; exact ty_ne hc hb (by decide)))).mono m2
  · exact ((h.row.mono m1).kp k (fun g hg => hk g (h.row.lt hg).1 (hh g hg) (by obtain ⟨_, hc⟩ := (h.row.lt hg).2; exact ty_ne hc hb (by decide)))).mono m2
  · refine ((nd.mono m1 (fun p hp x hx hP => hx.1 (fw_node hp hP))).kp k (fun p hp x hx => ?_)).mono m2 ap
    obtain ⟨cur, t, hc, ht⟩ := nd.ty hp hx
    refine hk x (nd.lt hp hx) (fun hSx => (hS x hSx).2.2.2.2 p hp hx) (ty_ne hc hb ?_)
    rcases ht with rfl | rfl | rfl <;> decide
end
end Go.Proofs.Ytfchjoejdijjeaa

/- The law's world: how it turns. -/
namespace Go.Proofs.Ytfchjoejdijjeaa
open Go.RowKit Go.Gl Go.Wal Go.Ch Go.Shelf
section
variable {C : Type} {f : C → List UInt8} {N M : Nat → Prop} {w w' w1 w2 : World} {F F' : Nat → Prop} {wb : Nat} {V V' : Vs} {ps : List Pl} {W : Wd C}

/-- What is read stays behind a step. -/
theorem sep_kp (s : Sep F w w' F') : Kp (fun x => ¬ F x ∧ x < w.heap.size) w w' := ⟨s.size, fun b hb hl => s.out b hl hb.1⟩
theorem sep_in (s : Sep F w w' F') (x : Nat) (h : ¬ F x ∧ x < w.heap.size) : ¬ F' x := fun hF => by
  rcases s.foot x hF with h1 | h1
  · exact h.1 h1
  · omega
theorem Sep.bw {v : Value} {l : List UInt8} (s : Sep F w w' F') (h : Bw (fun x => ¬ F x) w v l) : Bw (fun x => ¬ F' x) w' v l :=
  ((h.mono (M := fun x => ¬ F x ∧ x < w.heap.size) (fun _ h1 h2 => ⟨h1, h2⟩)).kp (sep_kp s)).mono (fun x hx _ => sep_in s x hx)
theorem Sep.msgR {v : Value} {ms : List (Msg C)} (s : Sep F w w' F') (h : MsgR f (fun x => ¬ F x) w v ms) : MsgR f (fun x => ¬ F' x) w' v ms :=
  ((h.mono (M := fun x => ¬ F x ∧ x < w.heap.size) (fun _ h1 h2 => ⟨h1, h2⟩)).kp (sep_kp s)).mono (fun x hx _ => sep_in s x hx)
theorem Sep.comR {v : Value} {cs : List (Com C)} (s : Sep F w w' F') (h : ComR f (fun x => ¬ F x) w v cs) : ComR f (fun x => ¬ F' x) w' v cs :=
  ((h.mono (M := fun x => ¬ F x ∧ x < w.heap.size) (fun _ h1 h2 => ⟨h1, h2⟩)).kp (sep_kp s)).mono (fun x hx _ => sep_in s x hx)
theorem Sep.cfgR {cv sv : Value} {c : Cfg} (s : Sep F w w' F') (h : CfgR (fun x => ¬ F x) w cv sv c) : CfgR (fun x => ¬ F' x) w' cv sv c :=
  ((h.mono (M := fun x => ¬ F x ∧ x < w.heap.size) (fun _ h1 h2 => ⟨h1, h2⟩)).kp (sep_kp s)).mono (fun x hx _ => sep_in s x hx)

/-- 'append(l, x)' on a row of messages of one's own. -/
theorem OwnM.push {B : Nat} {v mv : Value} {ms : List (Msg C)} {x : Msg C} (h : OwnM f B N w v ms) (hx : Bw N w mv (msgD f x)) (hN : ∀ b, N b → v.ownBlock ≠ some b) (hB : B ≤ w.heap.size) (hl : ms.length ≤ 1000000000) :
    ∃ v' w', (Builtin.append_ #[41, 41] 41 #[v, .slice (some ⟨w.heap.size, 0, none⟩) 1 1]).run Try.prog (w.alloc (.cells #[.int .i64 (x.src : Int), .int .i64 (x.dst : Int), mv] 62)) = .ok v' w' ∧ OwnM f B N w' v' (ms ++ [x]) ∧ w.grownBy w' v.ownBlock ∧ (v'.ownBlock = v.ownBlock ∨ ∃ g, v'.ownBlock = some g ∧ w.heap.size ≤ g) := by
  obtain ⟨ys, h1, h2, h3⟩ := h
  have hyl : ys.length = ms.length := by rw [← h1, List.length_map]
  obtain ⟨g, cap, w', r1, r2, r3, r4⟩ := append_el (P := Try.prog) Try.underlying41 Try.infoM rfl (by decide) h2 (es := encM (⟨x, mv⟩ : Mv C)) rfl (encM_one hx) hB (by omega) (by decide)
  have hk : Kp N w w' := Kp.grown r3 (fun b hb hNb => hN b hNb hb)
  refine ⟨_, w', r1, ⟨ys ++ [⟨x, mv⟩], by simp [h1], by simpa using r2, fun y hy => ?_⟩, r3, ?_⟩
  · rcases List.mem_append.1 hy with hy | hy
    · exact (h3 y hy).kp hk
    · rw [List.mem_singleton.1 hy]; exact hx.kp hk
  · rcases r4 with r4 | r4
    · exact .inl r4.symm
    · exact .inr ⟨g, rfl, r4⟩
theorem Try.infoCf : (Try.prog.info? 59).map (fun i => (i.zero, i.size, i.bytes)) = some (some (.agg #[.int .i64 0, .slice none 0 0, .slice none 0 0]), 3, 56) := by kernel_rfl
theorem encCf_one {y : Cv} (h : CfgR N w y.cv y.sv y.c) : ∀ u ∈ encCf y, u.oneCell' = true := fun u hu => by
  obtain ⟨a, c, h1⟩ := h.chain.slice
  obtain ⟨a2, c2, h2⟩ := h.stores.slice
  simp only [encCf, List.mem_cons, List.not_mem_nil, or_false, h1, h2] at hu
  rcases hu with rfl | rfl | rfl <;> rfl
/-- 'append(l, c)' on a row of configurations. -/
theorem CfgsAt.push {v cv sv : Value} {cs : List Cfg} {c : Cfg} (h : CfgsAt N w v cs) (hx : CfgR N w cv sv c) (hN : ∀ b, N b → v.ownBlock ≠ some b) (hl : cs.length ≤ 1000000000) :
    ∃ v' w', (Builtin.append_ #[42, 42] 42 #[v, .slice (some ⟨w.heap.size, 0, none⟩) 1 1]).run Try.prog (w.alloc (.cells #[.int .i64 (c.epoch : Int), cv, sv] 59)) = .ok v' w' ∧ CfgsAt N w' v' (cs ++ [c]) ∧ w.grownBy w' v.ownBlock ∧ (v'.ownBlock = v.ownBlock ∨ ∃ g, v'.ownBlock = some g ∧ w.heap.size ≤ g) := by
  obtain ⟨ys, h1, h2, h3⟩ := h
  have hyl : ys.length = cs.length := by rw [← h1, List.length_map]
  obtain ⟨g, cap, w', r1, r2, r3, r4⟩ := append_el (P := Try.prog) Try.underlying42 Try.infoCf rfl (by decide) h2 (es := encCf ⟨c, cv, sv⟩) rfl (encCf_one (y := ⟨c, cv, sv⟩) hx) (Nat.zero_le _) (by omega) (by decide)
  have hk : Kp N w w' := Kp.grown r3 (fun b hb hNb => hN b hNb hb)
  refine ⟨_, w', r1, ⟨ys ++ [⟨c, cv, sv⟩], by simp [h1], by simpa using r2, fun y hy => ?_⟩, r3, ?_⟩
  · rcases List.mem_append.1 hy with hy | hy
    · exact (h3 y hy).kp hk
    · rw [List.mem_singleton.1 hy]; exact hx.kp hk
  · rcases r4 with r4 | r4
    · exact .inl r4.symm
    · exact .inr ⟨g, rfl, r4⟩

/-- Where the world's cell of a row is written. -/
theorem WAt.cells (h : WAt f w wb V ps W) : w.cell? ⟨wb, 0, none⟩ = some V.nv ∧ w.cell? ⟨wb, 1, none⟩ = some V.xv ∧ w.cell? ⟨wb, 2, none⟩ = some V.bv ∧ w.cell? ⟨wb, 3, none⟩ = some V.gv ∧ w.cell? ⟨wb, 4, none⟩ = some V.kv ∧ w.cell? ⟨wb, 5, none⟩ = some V.rv ∧ w.cell? ⟨wb, 6, none⟩ = some (.bool (!W.ok)) := by
  have := h.blk
  refine ⟨?_, ?_, ?_, ?_, ?_, ?_, ?_⟩ <;> simp [World.cell?, this]

/-- The bag's row was written. -/
theorem WAt.newBag (h : WAt f w wb V ps W) {gv : Value} {ms : List (Msg C)} (hs : w.heap.size ≤ w2.heap.size) (ho : w2.os = w.os) (ht : w2.tape = w.tape) (hp : w2.output = w.output)
    (hk : ∀ x, x < w.heap.size → V.gv.ownBlock ≠ some x → w2.heap[x]? = w.heap[x]?) (hn : ∀ x, gv.ownBlock = some x → V.gv.ownBlock = some x ∨ w.heap.size ≤ x)
    (hb : OwnM f 0 (fun x => (NW wb V ps x ∧ x < w.heap.size) ∨ (w.heap.size ≤ x ∧ gv.ownBlock ≠ some x)) w2 gv ms) :
    wb < w2.heap.size ∧ w2.cell? ⟨wb, 3, none⟩ = some V.gv ∧ w2.frozen? ⟨wb, 3, none⟩ = false ∧ WAt f (w2.setCell ⟨wb, 3, none⟩ gv) wb { V with gv := gv } ps { W with bag := ms } ∧ Sep (FW wb V ps) w (w2.setCell ⟨wb, 3, none⟩ gv) (FW wb { V with gv := gv } ps) := by
  have hwl := h.wlt
  have hwg : V.gv.ownBlock ≠ some wb := fun e => by
    obtain ⟨_, _, cur, hc⟩ := h.bag.lt e
    exact ty_ne hc h.blk (by decide) rfl
  have hb2 : w2.heap[wb]? = some (.cells (wdC V W.ok) 44 (0, 0)) := (hk wb hwl hwg).trans h.blk
  have hF : ∀ x, FW wb { V with gv := gv } ps x → FW wb V ps x ∨ w.heap.size ≤ x := fun x hx => by
    rcases hx with rfl | hx | hx | hx | hx | hx | hx | hx
    · exact .inl (.inl rfl)
    · exact .inl (.inr (.inl hx))
    · exact .inl (.inr (.inr (.inl hx)))
    · exact .inl (.inr (.inr (.inr (.inl hx))))
    · exact (hn x hx).imp (fun h => .inr (.inr (.inr (.inr (.inl h))))) id
    · exact .inl (.inr (.inr (.inr (.inr (.inr (.inl hx))))))
    · exact .inl (.inr (.inr (.inr (.inr (.inr (.inr (.inl hx)))))))
    · exact .inl (.inr (.inr (.inr (.inr (.inr (.inr (.inr hx)))))))
  have hk' : ∀ x, x < w.heap.size → ¬ (V.gv.ownBlock = some x) → x ≠ wb → (w2.setCell ⟨wb, 3, none⟩ gv).heap[x]? = w.heap[x]? := fun x hx hn hw => (Below.heap_setCell _ _ _ _ hw).trans (hk x hx hn)
  have R := h.rest (V' := { V with gv := gv }) (w' := w2.setCell ⟨wb, 3, none⟩ gv) (fun x => V.gv.ownBlock = some x) (by simpa using hs) hk' (fun x hx => by
    obtain ⟨_, _, cur, hc⟩ := h.bag.lt hx
    refine ⟨.inr (.inr (.inr (.inr (.inl hx)))), fun e => ?_, fun e => ?_, fun e => ?_, fun p hp hP => ?_⟩
    · obtain ⟨_, hd⟩ := h.nrow.block e; exact ty_ne hc hd (by decide) rfl
    · obtain ⟨_, hd⟩ := h.xrow.block e; exact ty_ne hc hd (by decide) rfl
    · obtain ⟨_, hd⟩ := h.brow.block e; exact ty_ne hc hd (by decide) rfl
    · obtain ⟨_, t, hd, ht⟩ := h.nds.ty hp hP
      refine ty_ne hc hd ?_ rfl
      rcases ht with rfl | rfl | rfl <;> decide) hF
  have hnot : ∀ (v : Value) (t : TypeId), (∀ g, v.ownBlock = some g → ∃ cur, w.heap[g]? = some (.cells cur t (0, 0))) → t ≠ 62 → ∀ x, v.ownBlock = some x → ¬ (V.gv.ownBlock = some x) := fun v t hv ht x hx e => by
    obtain ⟨_, _, cur, hc⟩ := h.bag.lt e
    obtain ⟨_, hd⟩ := hv x hx
    exact ty_ne hd hc ht rfl
  have hset : Sep (FW wb V ps) w (w2.setCell ⟨wb, 3, none⟩ gv) (FW wb { V with gv := gv } ps) := ⟨ho, ht, hp, by simpa using hs, fun x hx hnF => hk' x hx (fun e => hnF (.inr (.inr (.inr (.inr (.inl e)))))) (fun e => hnF (.inl e)), hF⟩
  refine ⟨Nat.lt_of_lt_of_le hwl hs, by simp [World.cell?, hb2], frz hb2 3, ⟨?_, R.nrow, R.xrow, R.brow, ?_, R.cfgs ?_, R.row ?_, R.nds, h.lr, h.rvx⟩, hset⟩
  · have := setCell_heap hb2 3 gv
    simpa using this
  · have hgb : ∀ g, gv.ownBlock = some g → g ≠ wb := fun g hg e => by
      rcases hn g hg with h1 | h1
      · exact hwg (e ▸ h1)
      · omega
    refine (hb.kp ⟨by simp, fun b hb' _ => Below.heap_setCell _ _ _ _ (fun e => ?_)⟩ (fun g hg => Below.heap_setCell _ _ _ _ (hgb g hg))).mono (fun x hx _ hF' => ?_)
    · have e' : b = wb := e
      rcases hb' with ⟨h1, _⟩ | ⟨h1, _⟩
      · exact h1 (.inl e')
      · omega
    · rcases hx with ⟨h1, h2⟩ | ⟨h1, h2⟩
      · rcases hF x hF' with h3 | h3
        · exact h1 h3
        · omega
      · rcases hF' with rfl | hx | hx | hx | hx | hx | hx | hx
        · omega
        · have := (h.nrow.lt hx).2; omega
        · have := (h.xrow.lt hx).2; omega
        · have := (h.brow.lt hx).2; omega
        · exact h2 hx
        · have := (h.cfgs.lt hx).1; omega
        · have := (h.row.lt hx).1; omega
        · obtain ⟨p, hp, hx⟩ := hx
          have := h.nds.lt hp hx; omega
  · exact hnot _ _ (fun g hg => (h.cfgs.lt hg).2) (by decide)
  · exact hnot _ _ (fun g hg => (h.row.lt hg).2) (by decide)
/-- The configurations row was written. -/
theorem WAt.newCfgs (h : WAt f w wb V ps W) {gv : Value} {cs : List Cfg} (hs : w.heap.size ≤ w2.heap.size) (ho : w2.os = w.os) (ht : w2.tape = w.tape) (hp : w2.output = w.output)
    (hk : ∀ x, x < w.heap.size → V.kv.ownBlock ≠ some x → w2.heap[x]? = w.heap[x]?) (hn : ∀ x, gv.ownBlock = some x → V.kv.ownBlock = some x ∨ w.heap.size ≤ x)
    (hb : CfgsAt (fun x => (NW wb V ps x ∧ x < w.heap.size) ∨ (w.heap.size ≤ x ∧ gv.ownBlock ≠ some x)) w2 gv cs) :
    wb < w2.heap.size ∧ w2.cell? ⟨wb, 4, none⟩ = some V.kv ∧ w2.frozen? ⟨wb, 4, none⟩ = false ∧ WAt f (w2.setCell ⟨wb, 4, none⟩ gv) wb { V with kv := gv } ps { W with cfgs := cs } ∧ Sep (FW wb V ps) w (w2.setCell ⟨wb, 4, none⟩ gv) (FW wb { V with kv := gv } ps) := by
  have hwl := h.wlt
  have hwg : V.kv.ownBlock ≠ some wb := fun e => by
    obtain ⟨_, cur, hc⟩ := h.cfgs.lt e
    exact ty_ne hc h.blk (by decide) rfl
  have hb2 : w2.heap[wb]? = some (.cells (wdC V W.ok) 44 (0, 0)) := (hk wb hwl hwg).trans h.blk
  have hF : ∀ x, FW wb { V with kv := gv } ps x → FW wb V ps x ∨ w.heap.size ≤ x := fun x hx => by
    rcases hx with rfl | hx | hx | hx | hx | hx | hx | hx
    · exact .inl (.inl rfl)
    · exact .inl (.inr (.inl hx))
    · exact .inl (.inr (.inr (.inl hx)))
    · exact .inl (.inr (.inr (.inr (.inl hx))))
    · exact .inl (.inr (.inr (.inr (.inr (.inl hx)))))
    · exact (hn x hx).imp (fun h => .inr (.inr (.inr (.inr (.inr (.inl h)))))) id
    · exact .inl (.inr (.inr (.inr (.inr (.inr (.inr (.inl hx)))))))
    · exact .inl (.inr (.inr (.inr (.inr (.inr (.inr (.inr hx)))))))
  have hk' : ∀ x, x < w.heap.size → ¬ (V.kv.ownBlock = some x) → x ≠ wb → (w2.setCell ⟨wb, 4, none⟩ gv).heap[x]? = w.heap[x]? := fun x hx hn hw => (Below.heap_setCell _ _ _ _ hw).trans (hk x hx hn)
  have R := h.rest (V' := { V with kv := gv }) (w' := w2.setCell ⟨wb, 4, none⟩ gv) (fun x => V.kv.ownBlock = some x) (by simpa using hs) hk' (fun x hx => by
    obtain ⟨_, cur, hc⟩ := h.cfgs.lt hx
    refine ⟨.inr (.inr (.inr (.inr (.inr (.inl hx))))), fun e => ?_, fun e => ?_, fun e => ?_, fun p hp hP => ?_⟩
    · obtain ⟨_, hd⟩ := h.nrow.block e; exact ty_ne hc hd (by decide) rfl
    · obtain ⟨_, hd⟩ := h.xrow.block e; exact ty_ne hc hd (by decide) rfl
    · obtain ⟨_, hd⟩ := h.brow.block e; exact ty_ne hc hd (by decide) rfl
    · obtain ⟨_, t, hd, ht⟩ := h.nds.ty hp hP
      refine ty_ne hc hd ?_ rfl
      rcases ht with rfl | rfl | rfl <;> decide) hF
  have hnot : ∀ (v : Value) (t : TypeId), (∀ g, v.ownBlock = some g → ∃ cur, w.heap[g]? = some (.cells cur t (0, 0))) → t ≠ 59 → ∀ x, v.ownBlock = some x → ¬ (V.kv.ownBlock = some x) := fun v t hv ht x hx e => by
    obtain ⟨_, cur, hc⟩ := h.cfgs.lt e
    obtain ⟨_, hd⟩ := hv x hx
    exact ty_ne hd hc ht rfl
  have hset : Sep (FW wb V ps) w (w2.setCell ⟨wb, 4, none⟩ gv) (FW wb { V with kv := gv } ps) := ⟨ho, ht, hp, by simpa using hs, fun x hx hnF => hk' x hx (fun e => hnF (.inr (.inr (.inr (.inr (.inr (.inl e))))))) (fun e => hnF (.inl e)), hF⟩
  refine ⟨Nat.lt_of_lt_of_le hwl hs, by simp [World.cell?, hb2], frz hb2 4, ⟨?_, R.nrow, R.xrow, R.brow, R.bag ?_, ?_, R.row ?_, R.nds, h.lr, h.rvx⟩, hset⟩
  · have := setCell_heap hb2 4 gv
    simpa using this
  · exact hnot _ _ (fun g hg => (h.bag.lt hg).2.2) (by decide)
  · have hgb : ∀ g, gv.ownBlock = some g → g ≠ wb := fun g hg e => by
      rcases hn g hg with h1 | h1
      · exact hwg (e ▸ h1)
      · omega
    refine (hb.kp ⟨by simp, fun b hb' _ => Below.heap_setCell _ _ _ _ (fun e => ?_)⟩ (fun g hg => Below.heap_setCell _ _ _ _ (hgb g hg))).mono (fun x hx _ hF' => ?_)
    · have e' : b = wb := e
      rcases hb' with ⟨h1, _⟩ | ⟨h1, _⟩
      · exact h1 (.inl e')
      · omega
    · rcases hx with ⟨h1, h2⟩ | ⟨h1, h2⟩
      · rcases hF x hF' with h3 | h3
        · exact h1 h3
        · omega
      · rcases hF' with rfl | hx | hx | hx | hx | hx | hx | hx
        · omega
        · have := (h.nrow.lt hx).2; omega
        · have := (h.xrow.lt hx).2; omega
        · have := (h.brow.lt hx).2; omega
        · have := (h.bag.lt hx).2.1; omega
        · exact h2 hx
        · have := (h.row.lt hx).1; omega
        · obtain ⟨p, hp, hx⟩ := hx
          have := h.nds.lt hp hx; omega
  · exact hnot _ _ (fun g hg => (h.row.lt hg).2) (by decide)
/-- The row of what was committed was written. -/
theorem WAt.newRow (h : WAt f w wb V ps W) {gv : Value} {cs : List C} (hs : w.heap.size ≤ w2.heap.size) (ho : w2.os = w.os) (ht : w2.tape = w.tape) (hp : w2.output = w.output)
    (hk : ∀ x, x < w.heap.size → V.rv.ownBlock ≠ some x → w2.heap[x]? = w.heap[x]?) (hn : ∀ x, gv.ownBlock = some x → V.rv.ownBlock = some x ∨ w.heap.size ≤ x)
    (hb : CmdR f (fun x => (NW wb V ps x ∧ x < w.heap.size) ∨ (w.heap.size ≤ x ∧ gv.ownBlock ≠ some x)) w2 gv cs) :
    wb < w2.heap.size ∧ w2.cell? ⟨wb, 5, none⟩ = some V.rv ∧ w2.frozen? ⟨wb, 5, none⟩ = false ∧ WAt f (w2.setCell ⟨wb, 5, none⟩ gv) wb { V with rv := gv } ps { W with row := cs } ∧ Sep (FW wb V ps) w (w2.setCell ⟨wb, 5, none⟩ gv) (FW wb { V with rv := gv } ps) := by
  have hwl := h.wlt
  have hwg : V.rv.ownBlock ≠ some wb := fun e => by
    obtain ⟨_, cur, hc⟩ := h.row.lt e
    exact ty_ne hc h.blk (by decide) rfl
  have hb2 : w2.heap[wb]? = some (.cells (wdC V W.ok) 44 (0, 0)) := (hk wb hwl hwg).trans h.blk
  have hF : ∀ x, FW wb { V with rv := gv } ps x → FW wb V ps x ∨ w.heap.size ≤ x := fun x hx => by
    rcases hx with rfl | hx | hx | hx | hx | hx | hx | hx
    · exact .inl (.inl rfl)
    · exact .inl (.inr (.inl hx))
    · exact .inl (.inr (.inr (.inl hx)))
    · exact .inl (.inr (.inr (.inr (.inl hx))))
    · exact .inl (.inr (.inr (.inr (.inr (.inl hx)))))
    · exact .inl (.inr (.inr (.inr (.inr (.inr (.inl hx))))))
    · exact (hn x hx).imp (fun h => .inr (.inr (.inr (.inr (.inr (.inr (.inl h))))))) id
    · exact .inl (.inr (.inr (.inr (.inr (.inr (.inr (.inr hx)))))))
  have hk' : ∀ x, x < w.heap.size → ¬ (V.rv.ownBlock = some x) → x ≠ wb → (w2.setCell ⟨wb, 5, none⟩ gv).heap[x]? = w.heap[x]? := fun x hx hn hw => (Below.heap_setCell _ _ _ _ hw).trans (hk x hx hn)
  have R := h.rest (V' := { V with rv := gv }) (w' := w2.setCell ⟨wb, 5, none⟩ gv) (fun x => V.rv.ownBlock = some x) (by simpa using hs) hk' (fun x hx => by
    obtain ⟨_, cur, hc⟩ := h.row.lt hx
    refine ⟨.inr (.inr (.inr (.inr (.inr (.inr (.inl hx)))))), fun e => ?_, fun e => ?_, fun e => ?_, fun p hp hP => h.rvx p hp x hx hP⟩
    · obtain ⟨_, hd⟩ := h.nrow.block e; exact ty_ne hc hd (by decide) rfl
    · obtain ⟨_, hd⟩ := h.xrow.block e; exact ty_ne hc hd (by decide) rfl
    · obtain ⟨_, hd⟩ := h.brow.block e; exact ty_ne hc hd (by decide) rfl) hF
  have hnot : ∀ (v : Value) (t : TypeId), (∀ g, v.ownBlock = some g → ∃ cur, w.heap[g]? = some (.cells cur t (0, 0))) → t ≠ 28 → ∀ x, v.ownBlock = some x → ¬ (V.rv.ownBlock = some x) := fun v t hv ht x hx e => by
    obtain ⟨_, cur, hc⟩ := h.row.lt e
    obtain ⟨_, hd⟩ := hv x hx
    exact ty_ne hd hc ht rfl
  have hset : Sep (FW wb V ps) w (w2.setCell ⟨wb, 5, none⟩ gv) (FW wb { V with rv := gv } ps) := ⟨ho, ht, hp, by simpa using hs, fun x hx hnF => hk' x hx (fun e => hnF (.inr (.inr (.inr (.inr (.inr (.inr (.inl e)))))))) (fun e => hnF (.inl e)), hF⟩
  refine ⟨Nat.lt_of_lt_of_le hwl hs, by simp [World.cell?, hb2], frz hb2 5, ⟨?_, R.nrow, R.xrow, R.brow, R.bag ?_, R.cfgs ?_, ?_, R.nds, h.lr, fun p hp x hx hP => (hn x hx).elim (fun h1 => h.rvx p hp x h1 hP) (fun h1 => by have := h.nds.lt hp hP; omega)⟩, hset⟩
  · have := setCell_heap hb2 5 gv
    simpa using this
  · exact hnot _ _ (fun g hg => (h.bag.lt hg).2.2) (by decide)
  · exact hnot _ _ (fun g hg => (h.cfgs.lt hg).2) (by decide)
  · have hgb : ∀ g, gv.ownBlock = some g → g ≠ wb := fun g hg e => by
      rcases hn g hg with h1 | h1
      · exact hwg (e ▸ h1)
      · omega
    refine (hb.kp ⟨by simp, fun b hb' _ => Below.heap_setCell _ _ _ _ (fun e => ?_)⟩ (fun g hg => Below.heap_setCell _ _ _ _ (hgb g hg))).mono (fun x hx _ hF' => ?_)
    · have e' : b = wb := e
      rcases hb' with ⟨h1, _⟩ | ⟨h1, _⟩
      · exact h1 (.inl e')
      · omega
    · rcases hx with ⟨h1, h2⟩ | ⟨h1, h2⟩
      · rcases hF x hF' with h3 | h3
        · exact h1 h3
        · omega
      · rcases hF' with rfl | hx | hx | hx | hx | hx | hx | hx
        · omega
        · have := (h.nrow.lt hx).2; omega
        · have := (h.xrow.lt hx).2; omega
        · have := (h.brow.lt hx).2; omega
        · have := (h.bag.lt hx).2.1; omega
        · have := (h.cfgs.lt hx).1; omega
        · exact h2 hx
        · obtain ⟨p, hp, hx⟩ := hx
          have := h.nds.lt hp hx; omega
end
end Go.Proofs.Ytfchjoejdijjeaa

/- The law's world: an operation of a node. -/
namespace Go.Proofs.Ytfchjoejdijjeaa
open Go.RowKit Go.Gl Go.Wal Go.Ch Go.Shelf
section
variable {C : Type} {f : C → List UInt8} {N M : Nat → Prop} {w w' w1 w2 : World} {wb : Nat} {V : Vs} {ps : List Pl} {W : Wd C}

/-- A node's place. -/
theorem WAt.node (h : WAt f w wb V ps W) {i : Nat} (hi : i < ps.length) : ∃ p d b g cap, ps[i]? = some p ∧ W.nds[i]? = some d ∧ W.boxes[i]? = some b ∧ NdAt f (NW wb V ps) w p.nb p.bb p.cv p.cfv p.sv d b ∧
    V.nv = .slice (some ⟨g, 0, none⟩) ps.length cap ∧ w.cell? ⟨g, i, none⟩ = some (ptrN p) ∧ g < w.heap.size := by
  obtain ⟨p, d, b, h1, h2, h3, h4⟩ := h.nds.get hi
  have hn := h.nrow
  have hx : (ps.map ptrN)[i]? = some (ptrN p) := by rw [List.getElem?_map, h1]; rfl
  rcases id hn with ⟨_, e⟩ | ⟨g, cap, cur, e, hB, hg, hr⟩
  · rw [e] at hx; simp at hx
  · have := hn.cells (g := g) (by rw [e]; rfl) hx
    exact ⟨p, d, b, g, cap, h1, h2, h3, h4, by rw [e, List.length_map], this, lt_of_getElem? hg⟩

def setP (ps : List Pl) (i : Nat) (p : Pl) : List Pl := ps.set i p
theorem nw_turn (h : WAt f w wb V ps W) {i : Nat} {p : Pl} (hp : ps[i]? = some p) {cv' : Value} (q : Pl) (hqn : q.nb = p.nb) (hqb : q.bb = p.bb) (hqc : q.cv = cv') (hs : Sep (FN p.nb p.bb p.cv) w w' (FN p.nb p.bb cv')) :
    (∀ x, FW wb V (ps.set i q) x → FW wb V ps x ∨ w.heap.size ≤ x) ∧ (∀ x, Nw (NW wb V ps) w (FN p.nb p.bb cv') x → NW wb V (ps.set i q) x) := by
  have hpm := List.mem_of_getElem? hp
  have hq : ∀ x, FP q x → FN p.nb p.bb cv' x := fun x hx => by unfold FP at hx; rw [hqn, hqb, hqc] at hx; exact hx
  have hF : ∀ x, FW wb V (ps.set i q) x → FW wb V ps x ∨ (FN p.nb p.bb cv' x ∧ (FW wb V ps x ∨ w.heap.size ≤ x)) := fun x hx => by
    rcases hx with rfl | hx | hx | hx | hx | hx | hx | ⟨r, hr, hx⟩
    · exact .inl (.inl rfl)
    · exact .inl (.inr (.inl hx))
    · exact .inl (.inr (.inr (.inl hx)))
    · exact .inl (.inr (.inr (.inr (.inl hx))))
    · exact .inl (.inr (.inr (.inr (.inr (.inl hx)))))
    · exact .inl (.inr (.inr (.inr (.inr (.inr (.inl hx))))))
    · exact .inl (.inr (.inr (.inr (.inr (.inr (.inr (.inl hx)))))))
    · rcases List.mem_or_eq_of_mem_set hr with hr | rfl
      · exact .inl (fw_node hr hx)
      · exact .inr ⟨hq x hx, (hs.foot x (hq x hx)).imp (fun h1 => fw_node hpm h1) id⟩
  refine ⟨fun x hx => (hF x hx).elim .inl (fun h1 => h1.2), fun x hx hF' => ?_⟩
  rcases hx with ⟨h1, h2⟩ | ⟨h1, h2⟩
  · rcases hF x hF' with h3 | ⟨_, h3 | h3⟩
    · exact h1 h3
    · exact h1 h3
    · omega
  · rcases hF x hF' with h3 | ⟨h3, _⟩
    · have := h.lt h3; omega
    · exact h2 h3

set_option maxHeartbeats 800000 in
/-- What an operation of a node leaves of the world. -/
theorem WAt.turn (h : WAt f w wb V ps W) {i : Nat} {p : Pl} (hp : ps[i]? = some p) {o : Out C} {e : Ending} (ho : OutPost f (NW wb V ps) w p.nb p.bb p.cv o e w') :
    ∃ mv kv q, e = .returned (.tuple #[mv, kv]) ∧ q.nb = p.nb ∧ q.bb = p.bb ∧ WAt f w' wb V (ps.set i q) { W with nds := W.nds.set i o.d, boxes := W.boxes.set i o.b } ∧
      MsgR f (NW wb V (ps.set i q)) w' mv o.ms ∧ ComR f (NW wb V (ps.set i q)) w' kv o.cs ∧ Sep (FW wb V ps) w w' (FW wb V (ps.set i q)) := by
  obtain ⟨mv, kv, cv', cfv', sv', he, h1, hs, h3, h4⟩ := ho
  obtain ⟨hF, hN⟩ := nw_turn h hp (cv' := cv') ⟨p.nb, p.bb, cv', cfv', sv'⟩ rfl rfl rfl hs
  have hpm := List.mem_of_getElem? hp
  have hil := (List.getElem?_eq_some_iff.1 hp).1
  have nd := h.nds
  refine ⟨mv, kv, ⟨p.nb, p.bb, cv', cfv', sv'⟩, he, rfl, rfl, ?_, h3.mono (fun x hx _ => hN x hx), h4.mono (fun x hx _ => hN x hx), ?_⟩
  · have k : Kp (fun x => NW wb V ps x ∧ x < w.heap.size) w w' := ⟨hs.size, fun b hb hl => hs.out b hl (fun hF' => hb.1 (fw_node hpm hF'))⟩
    have m1 : ∀ b, NW wb V ps b → b < w.heap.size → NW wb V ps b ∧ b < w.heap.size := fun b h1 h2 => ⟨h1, h2⟩
    have m2 : ∀ b, (NW wb V ps b ∧ b < w.heap.size) → b < w'.heap.size → NW wb V (ps.set i ⟨p.nb, p.bb, cv', cfv', sv'⟩) b := fun b hb _ => hN b (.inl hb)
    have hty : ∀ {g : Nat} {cur : Array Value} {t : TypeId}, w.heap[g]? = some (.cells cur t (0, 0)) → t ≠ 79 → t ≠ 47 → t ≠ 28 → w'.heap[g]? = w.heap[g]? := fun {g cur t} hc a1 a2 a3 => hs.out g (lt_of_getElem? hc) (fun hP => by
      obtain ⟨_, u, hd, hu⟩ := nd.ty hpm (p := p) (x := g) hP
      refine ty_ne hc hd ?_ rfl
      rcases hu with rfl | rfl | rfl <;> assumption)
    have hmap : ∀ (g : Pl → Value), (g ⟨p.nb, p.bb, cv', cfv', sv'⟩ = g p) → (ps.set i ⟨p.nb, p.bb, cv', cfv', sv'⟩).map g = ps.map g := fun g hg => by
      apply List.ext_getElem?
      intro j
      simp only [List.getElem?_map, List.getElem?_set]
      by_cases hj : i = j
      · subst hj; simp [hil, hg, hp]
        obtain ⟨_, h2⟩ := List.getElem?_eq_some_iff.1 hp
        rw [h2]
      · simp [hj]
    refine ⟨(hty h.blk (by decide) (by decide) (by decide)).trans h.blk, ?_, ?_, h.brow.keep (fun g hg => by obtain ⟨_, hc⟩ := h.brow.block hg; exact hty hc (by decide) (by decide) (by decide)), ?_, ?_, ?_, ?_, by rw [List.length_set]; exact h.lr, ?_⟩
    · rw [hmap ptrN rfl]; exact h.nrow.keep (fun g hg => by obtain ⟨_, hc⟩ := h.nrow.block hg; exact hty hc (by decide) (by decide) (by decide))
    · rw [hmap ptrX rfl]; exact h.xrow.keep (fun g hg => by obtain ⟨_, hc⟩ := h.xrow.block hg; exact hty hc (by decide) (by decide) (by decide))
    · exact ((h.bag.mono m1).kp k (fun g hg => by obtain ⟨_, _, _, hc⟩ := h.bag.lt hg; exact hty hc (by decide) (by decide) (by decide))).mono m2
    · exact ((h.cfgs.mono m1).kp k (fun g hg => by obtain ⟨_, _, hc⟩ := h.cfgs.lt hg; exact hty hc (by decide) (by decide) (by decide))).mono m2
    · exact ((h.row.mono m1).kp k (fun g hg => hs.out g (h.row.lt hg).1 (fun hP => h.rvx p hpm g hg hP))).mono m2
    · have ap : ∀ r, r ∈ ps.set i ⟨p.nb, p.bb, cv', cfv', sv'⟩ → ∀ x, NW wb V (ps.set i ⟨p.nb, p.bb, cv', cfv', sv'⟩) x → ¬ FP r x := fun r hr x hx hP => hx (fw_node hr hP)
      refine ⟨by simp [nd.ln], by simp [nd.lb], fun j r d b e1 e2 e3 => ?_, fun j l r s x e1 e2 hjl hx hy => ?_⟩
      · have hrm := List.mem_of_getElem? e1
        rw [List.getElem?_set] at e1 e2 e3
        by_cases hj : i = j
        · subst hj
          simp only [if_true, hil, show i < W.nds.length by rw [nd.ln]; exact hil, show i < W.boxes.length by rw [nd.lb]; exact hil] at e1 e2 e3
          cases e1; cases e2; cases e3
          exact h1.mono (fun x hx _ => hN x hx) (ap _ hrm)
        · simp only [hj, if_false] at e1 e2 e3
          have hd := nd.nd j r d b e1 e2 e3
          have hrm' := List.mem_of_getElem? e1
          exact ((hd.mono m1 (fun x hx hP => hx.1 (fw_node hrm' hP))).kp k (fun x hx => hs.out x (hd.flt hx) (fun hP => nd.dis j i r p x e1 hp (fun e => hj e.symm) hx hP))).mono m2 (ap r hrm)
      · rw [List.getElem?_set] at e1 e2
        have hcase : ∀ {a : Nat} {u : Pl}, i ≠ a → ps[a]? = some u → FP u x → FN p.nb p.bb cv' x → False := fun {a u} ha hu hxu hxp => by
          rcases hs.foot x hxp with h5 | h5
          · exact nd.dis a i u p x hu hp (fun e => ha e.symm) hxu h5
          · have := nd.lt (List.mem_of_getElem? hu) hxu; omega
        by_cases hj : i = j
        · subst hj
          simp only [if_true, hil] at e1
          cases e1
          simp only [hjl, if_false] at e2
          exact hcase hjl e2 hy hx
        · simp only [hj, if_false] at e1
          by_cases hl : i = l
          · subst hl
            simp only [if_true, hil] at e2
            cases e2
            exact hcase hj e1 hx hy
          · simp only [hl, if_false] at e2
            exact nd.dis j l r s x e1 e2 hjl hx hy
    · intro r hr x hx hP
      rcases List.mem_or_eq_of_mem_set hr with hr | rfl
      · exact h.rvx r hr x hx hP
      · rcases hs.foot x hP with h5 | h5
        · exact h.rvx p hpm x hx h5
        · have := (h.row.lt hx).1; omega
  · exact ⟨hs.os, hs.tape, hs.output, hs.size, fun b hb hn => hs.out b hb (fun hP => hn (fw_node hpm hP)), hF⟩
end
end Go.Proofs.Ytfchjoejdijjeaa
