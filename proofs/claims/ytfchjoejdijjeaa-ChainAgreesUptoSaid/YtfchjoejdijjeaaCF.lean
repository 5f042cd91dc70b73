/- Merged out of D1, D2, D3, D4: helpers. -/
import Derived.Test.YtfchjoejdijjeaaCE
import Derived.Deep.Upon
set_option linter.unusedSimpArgs false
set_option linter.unusedVariables false
/- The law's Box in memory: what it holds; Applied, First, Marked, Entry, Trim, Mark, Run. -/
namespace Go.Proofs.Ytfchjoejdijjeaa
open Go.RowKit Go.Gl Go.Wal Go.Ch Go.Shelf

/-- What an operation leaves alone: all but the blocks of F; new blocks may have come to it. -/
structure Sep (F : Nat → Prop) (w w' : World) (F' : Nat → Prop) : Prop where
  os : w'.os = w.os
  tape : w'.tape = w.tape
  output : w'.output = w.output
  size : w.heap.size ≤ w'.heap.size
  out : ∀ b, b < w.heap.size → ¬ F b → w'.heap[b]? = w.heap[b]?
  foot : ∀ b, F' b → F b ∨ w.heap.size ≤ b
section
variable {F F' F'' G G' : Nat → Prop} {w w' w'' wr : World}
theorem Sep.refl (F : Nat → Prop) (w : World) : Sep F w w F := ⟨rfl, rfl, rfl, Nat.le_refl _, fun _ _ _ => rfl, fun _ h => .inl h⟩
theorem Sep.trans (h : Sep F w w' F') (k : Sep F' w' w'' F'') : Sep F w w'' F'' :=
  ⟨k.os.trans h.os, k.tape.trans h.tape, k.output.trans h.output, Nat.le_trans h.size k.size, fun b hb hn => by
    have hn' : ¬ F' b := fun hf => by
      rcases h.foot b hf with h1 | h1
      · exact hn h1
      · omega
    rw [k.out b (Nat.lt_of_lt_of_le hb h.size) hn', h.out b hb hn], fun b hb => by
    rcases k.foot b hb with h1 | h1
    · exact h.foot b h1
    · exact .inr (Nat.le_trans h.size h1)⟩
theorem Sep.ofGrow (h : Grow w w') : Sep F w w' F :=
  ⟨h.os, h.tape, h.output, h.size, fun b hb _ => h.block b hb, fun _ h => .inl h⟩
theorem Sep.grow (h : Sep F w w' F') (k : Grow w' w'') : Sep F w w'' F' := h.trans (.ofGrow k)
theorem Sep.mono (h : Sep F w w' F') (hG : ∀ b, F b → G b) : Sep G w w' F' :=
  ⟨h.os, h.tape, h.output, h.size, fun b hb hn => h.out b hb (fun hf => hn (hG b hf)), fun b hb => (h.foot b hb).imp (hG b) id⟩
theorem Sep.tgt (h : Sep F w w' F') (hG : ∀ b, G' b → F b ∨ w.heap.size ≤ b) : Sep F w w' G' :=
  ⟨h.os, h.tape, h.output, h.size, h.out, hG⟩
theorem Sep.set (F : Nat → Prop) (w : World) {b : Nat} (h : F b) (j : Nat) (v : Value) : Sep F w (w.setCell ⟨b, j, none⟩ v) F :=
  ⟨rfl, rfl, rfl, by simp, fun k _ hn => Below.heap_setCell _ _ _ _ (fun e => by have e' : k = b := e; exact hn (e' ▸ h)), fun _ h => .inl h⟩
theorem Sep.setN (h : Sep F w wr F') {b : Nat} (hb : w.heap.size ≤ b) (j : Nat) (v : Value) : Sep F w (wr.setCell ⟨b, j, none⟩ v) F' :=
  ⟨h.os, h.tape, h.output, by simpa using h.size, fun k hk hn => (Below.heap_setCell _ _ _ _ (fun e => by have e' : k = b := e; omega)).trans (h.out k hk hn), h.foot⟩
theorem Sep.row (h : Sep F w wr F') {o : Option Nat} (hg : wr.grownBy w' o) (ho : ∀ g, o = some g → F g ∨ w.heap.size ≤ g) : Sep F w w' F' :=
  ⟨hg.os.trans h.os, hg.tape.trans h.tape, hg.output.trans h.output, Nat.le_trans h.size hg.size, fun b hb hn => by
    rw [hg.block b (Nat.lt_of_lt_of_le hb h.size) (fun e => by rcases ho b e.symm with h1 | h1
                                                               · exact hn h1
                                                               · omega), h.out b hb hn], h.foot⟩
theorem Kp.ofSep {N : Nat → Prop} (h : Sep F w w' F') (hN : ∀ b, N b → ¬ F b) : Kp N w w' := ⟨h.size, fun b hb hl => h.out b hl (hN b hb)⟩

/-- What stays, and what is new and no part of F'. -/
def Nw (N : Nat → Prop) (w : World) (F' : Nat → Prop) (b : Nat) : Prop := (N b ∧ b < w.heap.size) ∨ (w.heap.size ≤ b ∧ ¬ F' b)
end

/-- The value reads as the bytes l, in a block of N. -/
def Bw (N : Nat → Prop) (w : World) (v : Value) (l : List UInt8) : Prop := Bv w v l ∧ (l = [] ∨ ∀ b, v.ownBlock = some b → N b)
section
variable {N M : Nat → Prop} {w w' w'' : World}
theorem Bw.kp {v : Value} {l : List UInt8} (h : Bw N w v l) (k : Kp N w w') : Bw N w' v l := by
  obtain ⟨⟨a, c, rfl, hl, hm, hn, h⟩, h2⟩ := h
  refine ⟨⟨a, c, rfl, hl, hm, hn, ?_⟩, h2⟩
  rcases h with h | ⟨b, o, rfl, hb, hc⟩
  · exact .inl h
  · rcases h2 with rfl | h2
    · exact .inl rfl
    · refine .inr ⟨b, o, rfl, Nat.lt_of_lt_of_le hb k.size, fun j x hx => ?_⟩
      rw [k.cell (h2 b rfl) hb]; exact hc j x hx
theorem Bw.grow {v : Value} {l : List UInt8} (h : Bw N w v l) (hg : Grow w w') : Bw N w' v l := h.kp (.ofGrow hg)
theorem Bw.mono {v : Value} {l : List UInt8} (h : Bw N w v l) (hM : ∀ b, N b → b < w.heap.size → M b) : Bw M w v l := by
  refine ⟨h.1, ?_⟩
  rcases h.2 with h2 | h2
  · exact .inl h2
  · obtain ⟨a, c, hv, _, _, _, h3⟩ := h.1
    rcases h3 with h3 | ⟨b, o, ha, hb, _⟩
    · exact .inl h3
    · refine .inr fun b' hb' => hM b' (h2 b' hb') ?_
      rw [hv, ha] at hb'; cases hb'; exact hb
theorem Bw.slice {v : Value} {l : List UInt8} (h : Bw N w v l) : ∃ a c, v = .slice a l.length c := by
  obtain ⟨⟨a, c, h, _⟩, _⟩ := h; exact ⟨a, c, h⟩
theorem bw_nil (N : Nat → Prop) (w : World) : Bw N w (.slice none 0 0) [] := ⟨⟨none, 0, rfl, Nat.le_refl _, Nat.zero_le _, fun _ => rfl, .inl rfl⟩, .inl rfl⟩
theorem OwnB.bw {B : Nat} {v : Value} {l : List UInt8} (h : OwnB B w v l) (hN : ∀ b, B ≤ b → b < w.heap.size → N b) : Bw N w v l :=
  ⟨ownB_bv h, .inr fun b hb => by have := Row1.lt h hb; exact hN b this.1 this.2⟩
theorem Bw.one {v : Value} {l : List UInt8} (h : Bw N w v l) : v.oneCell' = true := by obtain ⟨a, c, rfl⟩ := h.slice; rfl
end

section
variable {C : Type} (f : C → List UInt8)
/-- A row of commands of one's own, its elements in N. -/
def CmdR (N : Nat → Prop) (w : World) (cv : Value) (l : List C) : Prop :=
  ∃ vals, Row1 28 0 w cv vals ∧ vals.length = l.length ∧ ∀ (i : Nat) (u : Value) (c : C), vals[i]? = some u → l[i]? = some c → Bw N w u (f c)
variable {f}
theorem cmdR_nil (N : Nat → Prop) (w : World) : CmdR f N w (.slice none 0 0) [] := ⟨[], row1_nil _ _ _, rfl, fun i u c h => by simp at h⟩
theorem CmdR.kp {N : Nat → Prop} {w w' : World} {cv : Value} {l : List C} (h : CmdR f N w cv l) (k : Kp N w w') (hk : ∀ g, cv.ownBlock = some g → w'.heap[g]? = w.heap[g]?) : CmdR f N w' cv l := by
  obtain ⟨vals, h1, h2, h3⟩ := h
  exact ⟨vals, h1.keep hk, h2, fun i u c hu hc => (h3 i u c hu hc).kp k⟩
theorem CmdR.grow {N : Nat → Prop} {w w' : World} {cv : Value} {l : List C} (h : CmdR f N w cv l) (hg : Grow w w') : CmdR f N w' cv l := by
  obtain ⟨vals, h1, h2, h3⟩ := h
  exact ⟨vals, h1.grow hg, h2, fun i u c hu hc => (h3 i u c hu hc).grow hg⟩
theorem CmdR.mono {N M : Nat → Prop} {w : World} {cv : Value} {l : List C} (h : CmdR f N w cv l) (hM : ∀ b, N b → b < w.heap.size → M b) : CmdR f M w cv l := by
  obtain ⟨vals, h1, h2, h3⟩ := h
  exact ⟨vals, h1, h2, fun i u c hu hc => (h3 i u c hu hc).mono hM⟩
theorem CmdR.slice {N : Nat → Prop} {w : World} {cv : Value} {l : List C} (h : CmdR f N w cv l) : ∃ a c, cv = .slice a l.length c := by
  obtain ⟨vals, h1, h2, h3⟩ := h
  obtain ⟨a, c, h⟩ := h1.slice
  exact ⟨a, c, by rw [h, h2]⟩
theorem CmdR.lt {N : Nat → Prop} {w : World} {cv : Value} {l : List C} (h : CmdR f N w cv l) {g : Nat} (hg : cv.ownBlock = some g) : g < w.heap.size ∧ ∃ cur, w.heap[g]? = some (.cells cur 28 (0, 0)) := by
  obtain ⟨vals, h1, h2, h3⟩ := h
  exact ⟨(h1.lt hg).2, h1.block hg⟩
/-- An element's cell. -/
theorem CmdR.get {N : Nat → Prop} {w : World} {cv : Value} {l : List C} (h : CmdR f N w cv l) {i : Nat} {c : C} (hc : l[i]? = some c) :
    ∃ g cap u, cv = .slice (some ⟨g, 0, none⟩) l.length cap ∧ g < w.heap.size ∧ w.cell? ⟨g, i, none⟩ = some u ∧ Bw N w u (f c) := by
  obtain ⟨vals, h1, h2, h3⟩ := h
  obtain ⟨u, hu⟩ : ∃ u, vals[i]? = some u := by
    have := (List.getElem?_eq_some_iff.1 hc).1
    exact ⟨vals[i]'(by omega), by simp [show i < vals.length by omega]⟩
  rcases id h1 with ⟨rfl, rfl⟩ | ⟨g, cap, cur, rfl, hB, hg, hn, hcc, hm, ht⟩
  · simp at hu
  · exact ⟨g, cap, u, by rw [h2], lt_of_getElem? hg, h1.cells rfl hu, h3 i u c hu hc⟩

/-- 'append(row, x)'. -/
theorem CmdR.push {N : Nat → Prop} {w : World} {cv u : Value} {l : List C} {c : C} (h : CmdR f N w cv l) (hu : Bw N w u (f c)) (hN : ∀ b, N b → cv.ownBlock ≠ some b) (hl : l.length ≤ 1000000000) :
    ∃ v' w', (Builtin.append_ #[32, 32] 32 #[cv, .slice (some ⟨w.heap.size, 0, none⟩) 1 1]).run Try.prog (w.alloc (.cells #[u] 28)) = .ok v' w' ∧ CmdR f N w' v' (l ++ [c]) ∧ w.grownBy w' cv.ownBlock ∧ (v'.ownBlock = cv.ownBlock ∨ ∃ g, v'.ownBlock = some g ∧ w.heap.size ≤ g) := by
  obtain ⟨vals, h1, h2, h3⟩ := h
  have hga : Grow w (w.alloc (.cells #[u] 28)) := Grow.alloc _ _
  have hsrc : Src Try.prog 1 32 (.slice (some ⟨w.heap.size, 0, none⟩) 1 1) 1 [u] (w.alloc (.cells #[u] 28)) :=
    Src.ofSlice _ Try.underlying32 _ _ _ _ rfl (fun j x hx => by
      match j, hx with
      | 0, hx =>
        cases hx
        have := heap_alloc_new w (.cells #[u] 28)
        rw [Addr.add_lit]
        unfold World.cell?
        rw [show (⟨w.heap.size, 0 + 0, none⟩ : Addr).block = w.heap.size from rfl, this]; rfl
      | j + 1, hx => simp at hx) (fun x hx => by rw [List.mem_singleton.1 hx]; exact hu.one)
  obtain ⟨v', w', r1, r2, r3, r4⟩ := run_append_row (ty := 32) Try.underlying32 Try.infoR rfl (h1.grow hga) hsrc (Nat.zero_le _) (by rw [h2]; unfold maxLen; omega) (by rw [h2]; omega)
  have hgb : w.grownBy w' cv.ownBlock := ⟨r3.os, r3.tape, r3.output, Nat.le_trans hga.size r3.size, fun b hb hn => by rw [r3.block b (Nat.lt_of_lt_of_le hb hga.size) hn]; exact hga.block b hb⟩
  have hk : Kp N w w' := Kp.grown hgb (fun b hb hNb => hN b hNb hb)
  refine ⟨v', w', r1, ⟨vals ++ [u], r2, by simp [h2], fun i x q hx hq => ?_⟩, hgb, r4.imp id (fun h => ⟨_, h, by simp⟩)⟩
  by_cases hi : i < vals.length
  · rw [List.getElem?_append_left hi] at hx
    rw [List.getElem?_append_left (by omega)] at hq
    exact (h3 i x q hx hq).kp hk
  · have hiv : i = vals.length := by
      have := (List.getElem?_eq_some_iff.1 hx).1
      simp at this; omega
    subst hiv
    rw [List.getElem?_append_right (Nat.le_refl _), Nat.sub_self] at hx
    rw [h2, List.getElem?_append_right (Nat.le_refl _), Nat.sub_self] at hq
    cases hx; cases hq
    exact hu.kp hk

/-- A box's blocks. -/
def FB (bb : Nat) (cv : Value) (b : Nat) : Prop := b = bb ∨ cv.ownBlock = some b
variable (f)
abbrev boxC (cv : Value) (b : Box C) : Array Value := #[cv, .int .u64 (b.first : Int), .int .i64 (b.epoch : Int), .bool b.whole, .bool b.full]
structure BxAt (N : Nat → Prop) (w : World) (bb : Nat) (cv : Value) (b : Box C) : Prop where
  blk : w.heap[bb]? = some (.cells (boxC cv b) 47 (0, 0))
  row : CmdR f N w cv b.cmds
  apart : ∀ x, N x → ¬ FB bb cv x
  len : b.cmds.length ≤ 100000
  fst : b.first ≤ b.cmds.length
  ep : b.epoch ≤ 1099511627776
variable {f}
theorem BxAt.grow {N : Nat → Prop} {w w' : World} {bb : Nat} {cv : Value} {b : Box C} (h : BxAt f N w bb cv b) (hg : Grow w w') : BxAt f N w' bb cv b :=
  ⟨hg.heap h.blk, h.row.grow hg, h.apart, h.len, h.fst, h.ep⟩
theorem BxAt.lt {N : Nat → Prop} {w : World} {bb : Nat} {cv : Value} {b : Box C} (h : BxAt f N w bb cv b) {x : Nat} (hx : FB bb cv x) : x < w.heap.size := by
  rcases hx with rfl | hx
  · exact lt_of_getElem? h.blk
  · exact (h.row.lt hx).1
theorem BxAt.ne {N : Nat → Prop} {w : World} {bb : Nat} {cv : Value} {b : Box C} (h : BxAt f N w bb cv b) : cv.ownBlock ≠ some bb := fun e => by
  obtain ⟨_, cur, hc⟩ := h.row.lt e
  rw [h.blk] at hc; cases hc
/-- What was in N, and what is new. -/
theorem nw_apart {N F F' : Nat → Prop} {w : World} (h : ∀ x, N x → ¬ F x) (hf : ∀ b, F' b → F b ∨ w.heap.size ≤ b) (x : Nat) (hx : Nw N w F' x) : ¬ F' x := by
  rcases hx with ⟨h1, h2⟩ | ⟨_, h2⟩
  · intro hF
    rcases hf x hF with h3 | h3
    · exact h x h1 h3
    · omega
  · exact h2
theorem nw_old {N F' : Nat → Prop} {w : World} (b : Nat) (h : N b) (hb : b < w.heap.size) : Nw N w F' b := .inl ⟨h, hb⟩
theorem nw_kp {N F F' : Nat → Prop} {w w' w'' : World} (h : ∀ x, N x → ¬ F x) (hs : Sep F w w' F') (k : Sep F' w' w'' F') : Kp (Nw N w F') w' w'' := Kp.ofSep k (nw_apart h hs.foot)
end
end Go.Proofs.Ytfchjoejdijjeaa

/- The law's Box: Applied, First, Marked, Entry, Trim, Mark, Run. -/
namespace Go.Proofs.Ytfchjoejdijjeaa
open Go.RowKit Go.Gl Go.Wal Go.Ch Go.Shelf
section
variable {C : Type} {f : C → List UInt8} {N : Nat → Prop} {w : World} {bb : Nat} {cv : Value} {b : Box C}
theorem BxAt.cells (h : BxAt f N w bb cv b) : w.cell? ⟨bb, 0, none⟩ = some cv ∧ w.cell? ⟨bb, 1, none⟩ = some (.int .u64 (b.first : Int)) ∧ w.cell? ⟨bb, 2, none⟩ = some (.int .i64 (b.epoch : Int)) ∧ w.cell? ⟨bb, 3, none⟩ = some (.bool b.whole) ∧ w.cell? ⟨bb, 4, none⟩ = some (.bool b.full) := by
  have := h.blk
  refine ⟨?_, ?_, ?_, ?_, ?_⟩ <;> simp [World.cell?, this]

theorem applied_any (h : BxAt f N w bb cv b) : Calls Try.prog 89 #[.pointer (some ⟨bb, 0, none⟩)] w fun e w' => e = .returned (.int .u64 (b.cmds.length : Int)) ∧ w' = w := by
  obtain ⟨c0, _⟩ := h.cells
  have hl := h.len
  have hlt := lt_of_getElem? h.blk
  obtain ⟨a, c, rfl⟩ := h.row.slice
  have hw : IntKind.u64.wrap (b.cmds.length : Int) = (b.cmds.length : Int) := by simp [IntKind.wrap, IntKind.bits, IntKind.signed]; omega
  clear h
  go_enter Try.func89, Try.ntmps89
  go_wp2
  go_ret
  exact ⟨rfl, rfl⟩
theorem bfirst_any (h : BxAt f N w bb cv b) : Calls Try.prog 14 #[.pointer (some ⟨bb, 0, none⟩)] w fun e w' => e = .returned (.int .u64 ((b.first + 1 : Nat) : Int)) ∧ w' = w := by
  obtain ⟨_, c1, _⟩ := h.cells
  have hl := h.len
  have hf := h.fst
  have hlt := lt_of_getElem? h.blk
  clear h
  go_enter Try.func14, Try.ntmps14
  go_wp2
  go_ret
  exact ⟨by simp, rfl⟩
theorem marked_any (h : BxAt f N w bb cv b) : Calls Try.prog 93 #[.pointer (some ⟨bb, 0, none⟩)] w fun e w' => e = .returned (.tuple #[.int .i64 (b.epoch : Int), .bool b.whole]) ∧ Grow w w' := by
  obtain ⟨_, _, c2, c3, _⟩ := h.cells
  have hlt := lt_of_getElem? h.blk
  clear h
  go_enter Try.func93, Try.ntmps93
  go_wp2_with fail
  refine wp_region_row (fun W => W = w.drew) [] (by kernel_rfl) (fun c a d v w h => by cases d <;> exact h) rfl ?_
  simp only [inRow]
  repeat ((first | (apply wpPi_quiet; rfl; rintro W rfl; go_simp; with_reducible rfl) | (apply wpPi_off; rfl)); simp only [putA, List.set])
  refine wpPi_nil ?_
  go_wp2
  go_ret2
  exact ⟨rfl, by ((repeat (first | exact Below.refl _ _ | assumption | refine Below.drew ?_ | refine bDrewN ?_ | refine Below.setCell ?_ ?_ _ | refine Below.alloc ?_ ?_ _)) <;> try (first | omega | (simp <;> omega)))⟩

theorem trim_any (h : BxAt f N w bb cv b) {up : Nat} (hu : up ≤ 1000000) :
    Calls Try.prog 96 #[.pointer (some ⟨bb, 0, none⟩), .int .u64 (up : Int)] w fun e w' => e = .returned (.int .i64 0) ∧ BxAt f N w' bb cv (b.trim up) ∧ Sep (FB bb cv) w w' (FB bb cv) := by
  have Ha := Lib.hid (applied_any h)
  have H := Lib.hid h
  obtain ⟨c0, c1, c2, c3, c4⟩ := h.cells
  have hl := h.len
  have hf := h.fst
  have hlt := lt_of_getElem? h.blk
  have fz := frz h.blk 1
  have hset : BxAt f N (w.setCell ⟨bb, 1, none⟩ (.int .u64 ((min up b.cmds.length : Nat) : Int))) bb cv { b with first := min up b.cmds.length } := by
    have hs := Sep.set (FB bb cv) w (b := bb) (.inl rfl) 1 (.int .u64 ((min up b.cmds.length : Nat) : Int))
    refine ⟨by have := setCell_heap h.blk 1 (.int .u64 ((min up b.cmds.length : Nat) : Int)); simpa using this, h.row.kp (Kp.ofSep hs h.apart) (fun g hg => ?_), h.apart, h.len, Nat.min_le_right _ _, h.ep⟩
    exact Below.heap_setCell _ _ _ _ (fun e => h.ne (hg.trans (congrArg some e)))
  have Hset := Lib.hid hset
  obtain ⟨m, hm⟩ : ∃ m, m = min up b.cmds.length := ⟨_, rfl⟩
  have htr : b.trim up = if b.first < m then { b with first := m } else b := by rw [hm]; rfl
  rw [← hm] at Hset
  rw [htr]
  clear h hset htr
  by_cases h1 : b.cmds.length < up
  · obtain rfl : m = b.cmds.length := by omega
    have e1 : decide (b.cmds.length < up) = true := by simpa using h1
    clear hm
    by_cases h2 : b.first < b.cmds.length
    · have e2 : decide (b.first < b.cmds.length) = true := by simpa using h2
      rw [if_pos h2]
      clear h1 h2
      go_enter Try.func96, Try.ntmps96
      go_wp2_with ((with_reducible refine Ha.out.mono ?_); rintro e w1 ⟨rfl, hw1⟩; have hw2 := hw1.symm; subst hw2; clear hw1)
      go_ret
      exact ⟨rfl, Hset.out, Sep.set _ _ (.inl rfl) _ _⟩
    · have e2 : decide (b.first < b.cmds.length) = false := by simpa using h2
      rw [if_neg h2]
      clear h1 h2
      go_enter Try.func96, Try.ntmps96
      go_wp2_with ((with_reducible refine Ha.out.mono ?_); rintro e w1 ⟨rfl, hw1⟩; have hw2 := hw1.symm; subst hw2; clear hw1)
      go_ret
      exact ⟨rfl, H.out, Sep.refl _ _⟩
  · obtain rfl : m = up := by omega
    have e1 : decide (b.cmds.length < m) = false := by simpa using h1
    clear hm
    by_cases h2 : b.first < m
    · have e2 : decide (b.first < m) = true := by simpa using h2
      rw [if_pos h2]
      clear h1 h2
      go_enter Try.func96, Try.ntmps96
      go_wp2_with ((with_reducible refine Ha.out.mono ?_); rintro e w1 ⟨rfl, hw1⟩; have hw2 := hw1.symm; subst hw2; clear hw1)
      go_ret
      exact ⟨rfl, Hset.out, Sep.set _ _ (.inl rfl) _ _⟩
    · have e2 : decide (b.first < m) = false := by simpa using h2
      rw [if_neg h2]
      clear h1 h2
      go_enter Try.func96, Try.ntmps96
      go_wp2_with ((with_reducible refine Ha.out.mono ?_); rintro e w1 ⟨rfl, hw1⟩; have hw2 := hw1.symm; subst hw2; clear hw1)
      go_ret
      exact ⟨rfl, H.out, Sep.refl _ _⟩

theorem mark_any (h : BxAt f N w bb cv b) {ep : Nat} {wh : Bool} (he : ep ≤ 1099511627776) :
    Calls Try.prog 92 #[.pointer (some ⟨bb, 0, none⟩), .int .i64 (ep : Int), .bool wh] w fun e w' => e = .returned (.int .i64 (if b.full = true then 5 else 0)) ∧ BxAt f N w' bb cv (if b.full = true then b else b.mark ep wh) ∧ Sep (FB bb cv) w w' (FB bb cv) := by
  have H := Lib.hid h
  obtain ⟨c0, c1, c2, c3, c4⟩ := h.cells
  have hlt := lt_of_getElem? h.blk
  have fz := frz h.blk 2
  have fz2 := frz h.blk 3
  have hs : Sep (FB bb cv) w ((w.setCell ⟨bb, 2, none⟩ (.int .i64 (ep : Int))).setCell ⟨bb, 3, none⟩ (.bool wh)) (FB bb cv) := (Sep.set (FB bb cv) w (b := bb) (.inl rfl) 2 _).trans (Sep.set (FB bb cv) _ (b := bb) (.inl rfl) 3 _)
  have hset : BxAt f N ((w.setCell ⟨bb, 2, none⟩ (.int .i64 (ep : Int))).setCell ⟨bb, 3, none⟩ (.bool wh)) bb cv (b.mark ep wh) := by
    refine ⟨by have := setCell_heap (setCell_heap h.blk 2 (.int .i64 (ep : Int))) 3 (.bool wh); simpa [Box.mark] using this, h.row.kp (Kp.ofSep hs h.apart) (fun g hg => ?_), h.apart, h.len, h.fst, he⟩
    exact (Below.heap_setCell _ _ _ _ (fun e => h.ne (hg.trans (congrArg some e)))).trans (Below.heap_setCell _ _ _ _ (fun e => h.ne (hg.trans (congrArg some e))))
  have Hset := Lib.hid hset
  have Hs := Lib.hid hs
  clear h hset hs
  cases hf : b.full with
  | true =>
    rw [hf] at c4
    go_enter Try.func92, Try.ntmps92
    go_wp2
    go_ret
    exact ⟨rfl, H.out, Sep.refl _ _⟩
  | false =>
    rw [hf] at c4
    go_enter Try.func92, Try.ntmps92
    go_wp2
    go_ret
    exact ⟨rfl, Hset.out, Hs.out⟩
end
end Go.Proofs.Ytfchjoejdijjeaa

/- The law's Box: Entry, Run. -/
namespace Go.Proofs.Ytfchjoejdijjeaa
open Go.RowKit Go.Gl Go.Wal Go.Ch Go.Shelf

/-- 'append([]byte{}, v...)'. -/
theorem fresh_copy {w : World} {v : Value} {l : List UInt8} (h : Bv w v l) (hmax : l.length ≤ 140737488355328) :
    ∃ v' w', (Builtin.append_ #[28, 28] 28 #[.slice (some ⟨w.heap.size, 0, none⟩) 0 0, v]).run Try.prog (w.alloc (.cells #[] 5)) = .ok v' w' ∧ OwnB w.heap.size w' v' l ∧ Grow w w' := by
  have hga : Grow w (w.alloc (.cells #[] 5)) := Grow.alloc _ _
  have hrow : OwnB w.heap.size (w.alloc (.cells #[] 5)) (.slice (some ⟨w.heap.size, 0, none⟩) 0 0) [] := .inr ⟨w.heap.size, 0, #[], rfl, Nat.le_refl _, heap_alloc_new _ _, Nat.le_refl _, Nat.le_refl _, Nat.zero_le _, rfl⟩
  obtain ⟨v', w', h1, h2, h3, _⟩ := append_bytes hrow (h.grow hga) (by simp) (by simpa using hmax)
  exact ⟨v', w', h1, h2, below_grown hga (by simp) hrow h3⟩

section
variable {C : Type} {f : C → List UInt8} {N : Nat → Prop} {w : World} {bb : Nat} {cv : Value} {b : Box C}

set_option maxHeartbeats 1000000 in
theorem entry_any (h : BxAt f N w bb cv b) (hf : ∀ c, (f c).length ≤ 1048576) {k : Nat} {c : C} (hk : b.cmds[k]? = some c) (hk1 : b.first ≤ k) :
    Calls Try.prog 90 #[.pointer (some ⟨bb, 0, none⟩), .int .u64 ((k + 1 : Nat) : Int)] w fun e w' => ∃ v, e = .returned (.tuple #[v, .bool true]) ∧ OwnB w.heap.size w' v (f c) ∧ Grow w w' := by
  have Ha := Lib.hid (applied_any h)
  have Hb := Lib.hid (bfirst_any h)
  obtain ⟨c0, _⟩ := h.cells
  have hl := h.len
  have hlt := lt_of_getElem? h.blk
  have hkl : k < b.cmds.length := (List.getElem?_eq_some_iff.1 hk).1
  obtain ⟨g, cap, u, rfl, hg, hu, hbu⟩ := h.row.get hk
  obtain ⟨v', w', h1, h2, h3⟩ := fresh_copy hbu.1 (by have := hf c; omega)
  have Hrun := Lib.hid h1
  have Hpost := Lib.hid h2
  have Hg := Lib.hid h3
  obtain ⟨ua, uc, rfl⟩ := hbu.slice
  obtain ⟨n, hn⟩ : ∃ n, n = k + 1 := ⟨_, rfl⟩
  have hns : IntKind.u64.wrap ((n : Int) - 1) = (k : Int) := by simp [IntKind.wrap, IntKind.bits, IntKind.signed]; omega
  have e1 : decide (n < b.first + 1) = false := by simp; omega
  have e2 : decide (b.cmds.length < n) = false := by simp; omega
  rw [← hn]
  obtain ⟨q, hq⟩ : ∃ q, q = b.first + 1 := ⟨_, rfl⟩
  rw [← hq] at Hb e1
  clear h hk h1 h2 h3 hbu hn hq
  go_enter Try.func90, Try.ntmps90
  go_wp2_with (first | ((with_reducible refine Hb.out.mono ?_); rintro e w1 ⟨rfl, hw1⟩; have hw2 := hw1.symm; subst hw2; clear hw1) | ((with_reducible refine Ha.out.mono ?_); rintro e w1 ⟨rfl, hw1⟩; have hw2 := hw1.symm; subst hw2; clear hw1) | (at_builtin; refine wpList_append rfl rfl rfl rfl Hrun.out ?_))
  go_ret2
  exact ⟨_, rfl, Hpost.out, Hg.out⟩
end
end Go.Proofs.Ytfchjoejdijjeaa

/- The law's Box: Run. -/
namespace Go.Proofs.Ytfchjoejdijjeaa
open Go.RowKit Go.Gl Go.Wal Go.Ch Go.Shelf

abbrev didW (W : World) : World := W.alloc (.cells #[.int .u8 100, .int .u8 105, .int .u8 100, .int .u8 32] 5)
abbrev didF (W : World) : World := (didW W).freeze ⟨W.heap.size, 4, none⟩ 1
def did : List UInt8 := [100, 105, 100, 32]
theorem conv_did (W : World) : (convert 28 28 (.slice (some ⟨W.heap.size, 0, none⟩) 4 4)).run Try.prog (didW W) = .ok (.slice (some ⟨W.heap.size, 0, none⟩) 4 4) (didF W) := by
  have hsh : (didW W).shape? W.heap.size = some (5, 4) := by
    have hB := heap_alloc_new W (.cells #[.int .u8 100, .int .u8 105, .int .u8 100, .int .u8 32] 5)
    unfold World.shape?
    rw [hB]
    rfl
  simp [convert, go_sem, markStringish, hsh]
theorem grow_did (W : World) : Grow W (didF W) := Lib.below_freeze (Grow.alloc _ _) (p := ⟨W.heap.size, 4, none⟩) (Nat.le_refl _) 1
theorem bv_did (W : World) : Bv (didF W) (.slice (some ⟨W.heap.size, 0, none⟩) 4 4) did := by
  have hB := heap_alloc_new W (.cells #[.int .u8 100, .int .u8 105, .int .u8 100, .int .u8 32] 5)
  have hc : ∀ j, (didF W).cell? ⟨W.heap.size, j, none⟩ = (#[.int .u8 100, .int .u8 105, .int .u8 100, .int .u8 32] : Array Value)[j]? := fun j => by
    have : (didF W).heap[W.heap.size]? = some (.cells #[.int .u8 100, .int .u8 105, .int .u8 100, .int .u8 32] 5 (4, 5)) := by
      simp [didF, World.freeze, World.alloc, -World.alloc_eq, Array.getElem_modify]
    unfold World.cell?
    rw [this]
    rfl
  refine ⟨_, 4, rfl, Nat.le_refl _, by unfold maxLen; omega, (fun h => by cases h), .inr ⟨W.heap.size, 0, rfl, by simp [didF, World.freeze, World.alloc, -World.alloc_eq], fun j k hk => ?_⟩⟩
  rw [Nat.zero_add, hc]
  match j, hk with
  | 0, hk => cases hk; rfl
  | 1, hk => cases hk; rfl
  | 2, hk => cases hk; rfl
  | 3, hk => cases hk; rfl
  | j + 4, hk => cases hk

/-- 'append([]byte("did "), v...)'. -/
theorem append_did {W : World} {v : Value} {l : List UInt8} (h : Bv W v l) (hl : l.length ≤ 1000000000) :
    ∃ v' w', (Builtin.append_ #[28, 28] 28 #[.slice (some ⟨W.heap.size, 0, none⟩) 4 4, v]).run Try.prog (didF W) = .ok v' w' ∧ Bv w' v' (did ++ l) ∧ Grow W w' ∧ ∀ b, v'.ownBlock = some b → W.heap.size ≤ b := by
  by_cases h0 : l = []
  · subst h0
    obtain ⟨i, hi0, hzz, hsz, hbb⟩ := info_parts Try.infoB
    have hs' : Src Try.prog i.size 28 v 0 [] (didF W) := by rw [hsz]; exact (h.grow (grow_did W)).src
    exact ⟨_, _, run_append_nothing (didF W) 28 28 28 5 i Try.underlying28 hi0 _ 4 4 (Nat.le_refl _) v hs', bv_did W, grow_did W, fun b hb => by cases hb; exact Nat.le_refl _⟩
  · obtain ⟨v', w', h1, h2, h3⟩ := append_cap (l := did) (bv_did W) (h.grow (grow_did W)) (List.length_pos_iff.2 h0) (by show 4 + l.length ≤ _; omega)
    exact ⟨v', w', h1, ownB_bv h2, (grow_did W).trans h3, fun b hb => by have := (Row1.lt h2 hb).1; have := (grow_did W).size; omega⟩

section
variable {C : Type} {f : C → List UInt8} {N : Nat → Prop} {w : World} {bb : Nat} {cv : Value} {b : Box C}

/-- What a command more in the row leaves. -/
theorem box_push (h : BxAt f N w bb cv b) {c : C} {w1 : World} {v1 : Value} (hg : Grow w w1) (hv : OwnB w.heap.size w1 v1 (f c)) (hl : b.cmds.length < 100000) :
    ∃ v2 w2, (Builtin.append_ #[32, 32] 32 #[cv, .slice (some ⟨w1.heap.size, 0, none⟩) 1 1]).run Try.prog (w1.alloc (.cells #[v1] 28)) = .ok v2 w2 ∧ bb < w2.heap.size ∧ w2.cell? ⟨bb, 0, none⟩ = some cv ∧ w2.frozen? ⟨bb, 0, none⟩ = false ∧ w2.cell? ⟨bb, 4, none⟩ = some (.bool b.full) ∧
      BxAt f (Nw N w (FB bb v2)) (w2.setCell ⟨bb, 0, none⟩ v2) bb v2 (b.run c) ∧ Sep (FB bb cv) w (w2.setCell ⟨bb, 0, none⟩ v2) (FB bb v2) := by
  have hcl : ∀ g, cv.ownBlock = some g → g < w.heap.size := fun g hg' => h.lt (.inr hg')
  have hbl := h.lt (x := bb) (.inl rfl)
  have hN1 : ∀ x, ((N x ∧ x < w.heap.size) ∨ (w.heap.size ≤ x ∧ x < w1.heap.size)) → cv.ownBlock ≠ some x := by
    rintro x (⟨h1, h2⟩ | ⟨h1, h2⟩) e
    · exact h.apart x h1 (.inr e)
    · have := hcl x e; omega
  have hrow : CmdR f (fun x => (N x ∧ x < w.heap.size) ∨ (w.heap.size ≤ x ∧ x < w1.heap.size)) w1 cv b.cmds := (h.row.mono (M := fun x => (N x ∧ x < w.heap.size) ∨ (w.heap.size ≤ x ∧ x < w1.heap.size)) (fun x hx hlt => .inl ⟨hx, hlt⟩)).grow hg
  have hbw : Bw (fun x => (N x ∧ x < w.heap.size) ∨ (w.heap.size ≤ x ∧ x < w1.heap.size)) w1 v1 (f c) := hv.bw (fun x h1 h2 => .inr ⟨h1, h2⟩)
  obtain ⟨v2, w2, r1, r2, r3, r4⟩ := CmdR.push hrow hbw hN1 (by omega)
  have hblk2 : w2.heap[bb]? = some (.cells (boxC cv b) 47 (0, 0)) := by
    rw [r3.block bb (Nat.lt_of_lt_of_le hbl hg.size) (fun e => h.ne e.symm)]; exact hg.heap h.blk
  have hv2 : ∀ x, ((N x ∧ x < w.heap.size) ∨ (w.heap.size ≤ x ∧ x < w1.heap.size)) → ¬ FB bb v2 x := by
    intro x hx hF
    rcases hF with rfl | hF
    · rcases hx with ⟨h1, h2⟩ | ⟨h1, h2⟩
      · exact h.apart _ h1 (.inl rfl)
      · omega
    · rcases r4 with r4 | ⟨g, r4, r5⟩
      · exact hN1 x hx (by rw [← r4]; exact hF)
      · rw [hF] at r4; cases r4
        rcases hx with ⟨h1, h2⟩ | ⟨h1, h2⟩
        · have := hg.size; omega
        · omega
  have hs2 : Sep (FB bb cv) w w2 (FB bb v2) := by
    refine Sep.tgt (Sep.row (Sep.ofGrow (F := FB bb cv) hg) r3 (fun g hg' => .inl (.inr hg'))) ?_
    rintro x (rfl | hx)
    · exact .inl (.inl rfl)
    · rcases r4 with r4 | ⟨g, r4, r5⟩
      · exact .inl (.inr (by rw [← r4]; exact hx))
      · rw [hx] at r4; cases r4; exact .inr (Nat.le_trans hg.size r5)
  have hs3 : Sep (FB bb cv) w (w2.setCell ⟨bb, 0, none⟩ v2) (FB bb v2) := hs2.trans (Sep.set _ _ (.inl rfl) _ _)
  refine ⟨v2, w2, r1, lt_of_getElem? hblk2, by simp [World.cell?, hblk2], frz hblk2 0, by simp [World.cell?, hblk2], ⟨?_, ?_, ?_, by simp [Box.run]; omega, by simp [Box.run]; have := h.fst; omega, h.ep⟩, hs3⟩
  · have := setCell_heap hblk2 0 v2
    simpa [Box.run] using this
  · have hne2 : ∀ g, v2.ownBlock = some g → g ≠ bb := by
      rintro g hg' rfl
      obtain ⟨_, cur, hc⟩ := r2.lt hg'
      rw [hblk2] at hc; cases hc
    refine (r2.kp (Kp.ofSep (Sep.set (FB bb v2) w2 (b := bb) (.inl rfl) 0 v2) hv2) (fun g hg' => Below.heap_setCell _ _ _ _ (fun e => hne2 g hg' e))).mono ?_
    rintro x (⟨h1, h2⟩ | ⟨h1, h2⟩) _
    · exact .inl ⟨h1, h2⟩
    · exact .inr ⟨h1, hv2 x (.inr ⟨h1, h2⟩)⟩
  · exact nw_apart h.apart hs3.foot

def RunPost (f : C → List UInt8) (N : Nat → Prop) (w : World) (bb : Nat) (cv : Value) (b : Box C) (c : C) (e : Ending) (w' : World) : Prop :=
  ∃ av cv', e = .returned (.tuple #[av, .int .i64 0]) ∧ BxAt f (Nw N w (FB bb cv')) w' bb cv' (b.run c) ∧ Sep (FB bb cv) w w' (FB bb cv') ∧ Bw (Nw N w (FB bb cv')) w' av (did ++ f c)

set_option maxHeartbeats 1000000 in
theorem run_full (h : BxAt f N w bb cv b) (hfu : b.full = true) (i : Int) (xv : Value) : Calls Try.prog 94 #[.pointer (some ⟨bb, 0, none⟩), .int .u64 i, xv] w fun e w' => e = .returned (.tuple #[.slice none 0 0, .int .i64 5]) ∧ w' = w := by
  obtain ⟨_, _, _, _, c4⟩ := h.cells
  have hlt := lt_of_getElem? h.blk
  rw [hfu] at c4
  clear h
  go_enter Try.func94, Try.ntmps94
  go_wp2
  go_ret2
  exact ⟨rfl, rfl⟩
set_option maxRecDepth 100000 in
set_option maxHeartbeats 1000000 in
theorem run_any (h : BxAt f N w bb cv b) (hf : ∀ c, (f c).length ≤ 1048576) (hfu : b.full = false) (hl : b.cmds.length < 100000) {c : C} {xv : Value} (hx : Bw N w xv (f c)) :
    Calls Try.prog 94 #[.pointer (some ⟨bb, 0, none⟩), .int .u64 ((b.cmds.length + 1 : Nat) : Int), xv] w (RunPost f N w bb cv b c) := by
  have Ha := Lib.hid (applied_any h)
  have hd : BxAt f N w.drew bb cv b := h.grow (Grow.drew w)
  have hxd := hx.grow (Grow.drew w)
  obtain ⟨v1, w1, h1, h2, h3⟩ := fresh_copy hxd.1 (by have := hf c; omega)
  obtain ⟨v2, w2, r1, r2, r3, r4, r5, r6, r7⟩ := box_push hd h3 h2 hl
  obtain ⟨qa, qn, qc, rfl⟩ : ∃ a n c, v2 = .slice a n c := by obtain ⟨a, c, h⟩ := r6.row.slice; exact ⟨a, _, c, h⟩
  obtain ⟨va, wa, a1, a2, a3, a4⟩ := append_did ((hxd.kp (Kp.ofSep r7 hd.apart)).1) (by have := hf c; omega)
  obtain ⟨d0, _, _, _, _⟩ := hd.cells
  have dlt : bb < w.drew.heap.size := lt_of_getElem? hd.blk
  obtain ⟨_, _, _, _, c4⟩ := h.cells
  have hlt := lt_of_getElem? h.blk
  rw [hfu] at c4
  have hd1 := (hd.grow h3).cells.1
  have dlt1 := Nat.lt_of_lt_of_le dlt h3.size
  have H1 := Lib.hid h1
  have HR1 := Lib.hid r1
  have HA1 := Lib.hid a1
  obtain ⟨x1a, x1c, rfl⟩ := h2.slice
  have Hpost : Hid (RunPost f N w bb cv b c (.returned (.tuple #[va, .int .i64 0])) wa) := Lib.hid ⟨va, .slice qa qn qc, rfl, BxAt.grow (N := Nw N w (FB bb (.slice qa qn qc))) r6 a3, ((Sep.ofGrow (Grow.drew w)).trans r7).grow a3, a2, .inr fun x hx => .inr ⟨by have := a4 x hx; have := r7.size; have := (Grow.drew w).size; omega, fun hF => by have := a4 x hx; have := r6.lt hF; omega⟩⟩
  obtain ⟨n, hn⟩ : ∃ n, n = b.cmds.length + 1 := ⟨_, rfl⟩
  rw [← hn]
  have e1 : ((n : Int) != (b.cmds.length : Int) + 1) = false := by simp; omega
  have e0 : IntKind.u64.wrap ((b.cmds.length : Int) + 1) = (b.cmds.length : Int) + 1 := by have := h.len; simp [IntKind.wrap, IntKind.bits, IntKind.signed]; omega
  obtain ⟨xa, xc, rfl⟩ := hx.slice
  obtain ⟨ca, cc, rfl⟩ := h.row.slice
  clear h hd hx hxd h1 h2 h3 r1 r6 r7 a1 a2 a3 a4 hl hn
  go_enter Try.func94, Try.ntmps94
  go_wp2_with ((with_reducible refine Ha.out.mono ?_); rintro e w1 ⟨rfl, hw1⟩; have hw2 := hw1.symm; subst hw2; clear hw1)
  go_wp2_with fail
  refine wp_region_last (fun V => V.cell? ⟨bb, 0, none⟩ = some (.slice ca b.cmds.length cc) ∧ bb < V.heap.size) [(0, false), (1, false), (2, false), (3, false), (4, false), (6, false), (5, true), (7, true), (8, true), (9, true), (10, false), (11, false)] 12 (by kernel_rfl) (by kernel_rfl) (fun c a d v w h => by cases d <;> exact h) ⟨d0, dlt⟩ ?_
  generalize w.drew = wd at *
  simp only [arrange, nth]
  repeat ((first | (apply wpPi_quiet; rfl; rintro W ⟨hW0, hW1⟩; go_simp; with_reducible rfl) | (apply wpPi_off; rfl)); simp only [putA, List.set])
  have hne : bb ≠ wd.heap.size := by omega
  have hne1 : bb ≠ w1.heap.size := by omega
  refine wpPi_act (by rfl) (fun K hK => ?_)
  go_simp
  refine hK _ _ ⟨⟨by go_simp, by (go_simp <;> omega)⟩, ?_⟩
  clear hK K
  try first | simp only [putA, List.set] | simp only [putN]
  refine wpPi_run (by rfl) (execOp_append rfl rfl rfl H1.out) ⟨hd1, dlt1⟩ ?_
  try first | simp only [putA, List.set] | simp only [putN]
  refine wpPi_act (by rfl) (fun K hK => ?_)
  go_simp
  refine hK _ _ ⟨⟨by go_simp, by (go_simp <;> omega)⟩, ?_⟩
  clear hK K
  try first | simp only [putA, List.set] | simp only [putN]
  refine wpPi_run (by rfl) (execOp_append rfl rfl rfl HR1.out) ⟨r3, r2⟩ ?_
  try first | simp only [putA, List.set] | simp only [putN]
  repeat ((first | (apply wpPi_quiet; rfl; rintro W ⟨hW0, hW1⟩; go_simp; with_reducible rfl) | (apply wpPi_off; rfl)); simp only [putA, List.set])
  refine wpPi_nil (lastQ_act (by rfl) (fun K hK => ?_))
  go_simp
  refine hK _ _ ?_
  clear hK K
  try first | simp only [putA, List.set] | simp only [putN]
  generalize w2.setCell ⟨bb, 0, none⟩ (.slice qa qn qc) = w3 at *
  have hcs := conv_did w3
  go_wp2_with (at_builtin; refine wpList_append rfl rfl rfl rfl HA1.out ?_)
  go_ret2
  exact Hpost.out
end
end Go.Proofs.Ytfchjoejdijjeaa
