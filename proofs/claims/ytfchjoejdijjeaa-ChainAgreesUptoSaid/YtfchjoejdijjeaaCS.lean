/- Merged out of ES, ER: helpers. -/
import Derived.Test.YtfchjoejdijjeaaCO
import Derived.Maps.AppendAt
import Derived.Test.YtfchjoejdijjeaaCR
import Derived.Test.YtfchjoejdijjeaaCQ
set_option linter.unusedSimpArgs false
set_option linter.unusedVariables false
/- Rows of members and of numbers of one's own. -/
namespace Go.Gl
open Go Go.RowKit
section
variable {α : Type} {enc : α → List Value} {k : Nat} {N : Nat → Prop} {w : World} {v : Value} {xs : List α}
/-- 'append(l, v...)' where l is a row of one's own. -/
theorem append_read {P : Program} {t e : TypeId} {z : Value} {bytes B n : Nat} (ht : P.underlying t = some (.slice e)) (hi : (P.info? e).map (fun i => (i.zero, i.size, i.bytes)) = some (some z, k, bytes)) (hz : z.cells.size = k) (hk0 : 0 < k) (hby : bytes ≤ 1000)
    (hk : ∀ x, (enc x).length = k) (hone : ∀ x ∈ xs, ∀ u ∈ enc x, u.oneCell' = true) {lv : Value} {ls : List Value} (hw : w.ownsRow B e k lv n ls) (hnn : lv.ownBlock.isSome = true) (h : RowR N w v enc k xs) (hl : xs.length ≤ 1000000) (hn : n ≤ 1000000) (hB : B ≤ w.heap.size) :
    ∃ v' w', (Builtin.append_ #[t, t] t #[lv, v]).run P w = .ok v' w' ∧ w'.ownsRow B e k v' (n + xs.length) (ls ++ xs.flatMap enc) ∧ w.grownBy w' lv.ownBlock ∧ (v'.ownBlock = lv.ownBlock ∨ v'.ownBlock = some w.heap.size) := by
  obtain ⟨i, hi0, hzz, hsz, hbb⟩ := info_parts hi
  have hmul : (n + xs.length) * bytes ≤ 2000000 * 1000 := Nat.mul_le_mul (by omega) hby
  have hsrc := h.src (P := P) (t := t) ht hk hk0 hone
  obtain ⟨a, c, rfl, hlc, hcm, hnone, hr⟩ := h
  cases a with
  | none =>
    have hx : xs = [] := by
      rcases hr with hr | ⟨b, o, e, _⟩
      · exact hr
      · cases e
    subst hx
    obtain ⟨g, cap, cur, rfl, _⟩ : ∃ g cap cur, lv = .slice (some ⟨g, 0, none⟩) n cap ∧ cur = (#[] : Array Value) := by
      rcases hw.2 with ⟨h1, _⟩ | ⟨g, cap, cur, h1, _⟩
      · rw [h1] at hnn; cases hnn
      · exact ⟨g, cap, _, h1, rfl⟩
    have hcap : n ≤ cap := by
      rcases hw.2 with ⟨h1, _⟩ | ⟨g, cap, cur, h1, _, _, h2, _⟩
      · cases h1
      · cases h1; exact h2
    exact ⟨_, _, run_append_nothing _ t t t e i ht hi0 _ n cap hcap _ (by rw [hsz]; simpa using hsrc), by simpa using hw, ⟨rfl, rfl, rfl, Nat.le_refl _, fun _ _ _ => rfl⟩, .inl rfl⟩
  | some ad =>
    obtain ⟨v', w', h1, h2, h3, _, h5⟩ := run_append_own_at (P := P) w B t t e i z k bytes ht hi0 hzz hsz hbb hz hk0 lv n ls hw ad xs.length c (xs.flatMap enc) (flat_len hk xs) (fun j u hj => by
      rcases hr with hr | ⟨b, o, e, hN, hb, hrd⟩
      · rw [hr] at hj; simp at hj
      · cases e
        have hlt : j < xs.length * k := by have := (List.getElem?_eq_some_iff.1 hj).1; rwa [flat_len hk] at this
        have hd : j / k < xs.length := Nat.div_lt_of_lt_mul (by rw [Nat.mul_comm]; exact hlt)
        have hm : j % k < k := Nat.mod_lt _ hk0
        have hx : xs[j / k]? = some xs[j / k] := by simp [hd]
        have h4 := flat_get (enc := enc) hk hx (j % k) hm
        rw [show j / k * k + j % k = j by rw [Nat.mul_comm]; exact Nat.div_add_mod j k] at h4
        rw [hj] at h4
        have h5 := hrd (j / k) _ hx (j % k) u h4.symm
        rw [show o + j / k * k + j % k = o + j by have := Nat.div_add_mod j k; rw [Nat.mul_comm] at this; omega] at h5
        rw [Addr.add_lit]; exact h5) (fun u hu => by
      obtain ⟨x, hx, hu⟩ := List.mem_flatMap.1 hu
      exact hone x hx u hu) (by unfold maxLen; omega) (by omega) hB
    exact ⟨v', w', h1, h2, h3, h5⟩
/-- 'append([]E{}, v...)': a row of one's own. -/
theorem append_copy_own {P : Program} {t e : TypeId} {z : Value} {bytes : Nat} (ht : P.underlying t = some (.slice e)) (hi : (P.info? e).map (fun i => (i.zero, i.size, i.bytes)) = some (some z, k, bytes)) (hz : z.cells.size = k) (hk0 : 0 < k) (hby : bytes ≤ 1000)
    (hk : ∀ x, (enc x).length = k) (hone : ∀ x ∈ xs, ∀ u ∈ enc x, u.oneCell' = true) (h : RowR N w v enc k xs) (hl : xs.length ≤ 1000000) :
    ∃ v' w', (Builtin.append_ #[t, t] t #[.slice (some ⟨w.heap.size, 0, none⟩) 0 0, v]).run P (w.alloc (.cells #[] e)) = .ok v' w' ∧ w'.ownsRow w.heap.size e k v' xs.length (xs.flatMap enc) ∧ Grow w w' ∧ v'.ownBlock.isSome = true := by
  have hga : Grow w (w.alloc (.cells #[] e)) := Grow.alloc _ _
  have hmade := World.ownsRow_made (base := w.heap.size) (e := e) (size := k) w #[] 0 (Nat.le_refl _) (Nat.zero_le _) (by simp)
  obtain ⟨v', w', h1, h2, h3, h4⟩ := append_read ht hi hz hk0 hby hk hone hmade rfl (h.grow hga) hl (by omega) hga.size
  refine ⟨v', w', h1, by simpa using h2, ?_, ?_⟩
  · exact ⟨h3.os, h3.tape, h3.output, Nat.le_trans hga.size h3.size, fun b hb => (h3.block b (Nat.lt_of_lt_of_le hb hga.size) (fun e => by have e' : b = w.heap.size := Option.some.inj e; omega)).trans (hga.block b hb)⟩
  · rcases h4 with h4 | h4
    · rw [h4]; rfl
    · rw [h4]; rfl
end
end Go.Gl
namespace Go.Proofs.Ytfchjoejdijjeaa
open Go.RowKit Go.Gl Go.Wal Go.Ch Go.Shelf
section
variable {w w' w1 : World} {v : Value} {l : List Mem} {s : List Nat} {B : Nat}
def OwnMem (B : Nat) (w : World) (v : Value) (l : List Mem) : Prop := w.ownsRow B 71 3 v l.length (l.flatMap encMem)
def OwnInt (B : Nat) (w : World) (v : Value) (s : List Nat) : Prop := w.ownsRow B 3 1 v s.length (s.flatMap encN)
theorem OwnMem.grow (h : OwnMem B w v l) (hg : Grow w w') : OwnMem B w' v l := owns_grow h hg
theorem OwnInt.grow (h : OwnInt B w v s) (hg : Grow w w') : OwnInt B w' v s := owns_grow h hg
theorem OwnMem.slice (h : OwnMem B w v l) : ∃ a c, v = .slice a l.length c := owns_slice h
theorem OwnInt.slice (h : OwnInt B w v s) : ∃ a c, v = .slice a s.length c := owns_slice h
theorem OwnMem.memR (h : OwnMem B w v l) : MemR (fun x => B ≤ x) w v l := RowR.ofOwns encMem3 h (fun g hg => (owns_lt h hg).1)
theorem OwnInt.intR (h : OwnInt B w v s) : IntR (fun x => B ≤ x) w v s := RowR.ofOwns encN1 h (fun g hg => (owns_lt h hg).1)
theorem OwnMem.kp (h : OwnMem B w v l) (k : Kp (fun b => B ≤ b) w w') : OwnMem B w' v l := owns_keep h (fun g hg => k.same g (owns_lt h hg).1 (owns_lt h hg).2.1)
theorem OwnInt.kp (h : OwnInt B w v s) (k : Kp (fun b => B ≤ b) w w') : OwnInt B w' v s := owns_keep h (fun g hg => k.same g (owns_lt h hg).1 (owns_lt h hg).2.1)
theorem OwnMem.low {B' : Nat} (h : OwnMem B w v l) (hB : B' ≤ B) : OwnMem B' w v l := owns_mono h hB
theorem OwnInt.low {B' : Nat} (h : OwnInt B w v s) (hB : B' ≤ B) : OwnInt B' w v s := owns_mono h hB
/-- A configuration's rows, of one's own. -/
def OwnCfg (B : Nat) (w : World) (x y : Value) (c : Cfg) : Prop := OwnMem B w x c.chain ∧ OwnInt B w y c.stores
theorem OwnCfg.kp {x y : Value} {c : Cfg} (h : OwnCfg B w x y c) (k : Kp (fun b => B ≤ b) w w') : OwnCfg B w' x y c := ⟨h.1.kp k, h.2.kp k⟩
theorem OwnCfg.low {x y : Value} {c : Cfg} {B' : Nat} (h : OwnCfg B w x y c) (hB : B' ≤ B) : OwnCfg B' w x y c := ⟨h.1.low hB, h.2.low hB⟩
theorem OwnCfg.cfgR {x y : Value} {c : Cfg} (h : OwnCfg B w x y c) (h5 : c.chain.length ≤ 5) (h16 : c.stores.length ≤ 16) : CfgR (fun x => B ≤ x) w x y c := ⟨h.1.memR, h.2.intR, h5, h16⟩
theorem below_own (hg : Grow w w1) (hB : B ≤ w.heap.size) {k e n : Nat} {xs : List Value} (h : w.ownsRow B e k v n xs) (hgr : w1.grownBy w' v.ownBlock) : Below B w w' := by
  refine Below.trans (hg.mono hB) ⟨hgr.os, hgr.tape, hgr.output, hgr.size, fun k hk => hgr.block k (by have := hg.size; omega) (fun e => ?_)⟩
  have := (owns_lt h e.symm).1; omega
theorem OwnMem.push (h : OwnMem B w v l) (hg : Grow w w1) (m : Mem) (hB : B ≤ w.heap.size) (hl : l.length ≤ 1000000000) :
    ∃ v' w', (Builtin.append_ #[57, 57] 57 #[v, .slice (some ⟨w1.heap.size, 0, none⟩) 1 1]).run Try.prog (w1.alloc (.cells #[.int .i64 (m.node : Int), .int .i64 (m.birth : Int), .bool m.whole] 71)) = .ok v' w' ∧ OwnMem B w' v' (l ++ [m]) ∧ Below B w w' := by
  obtain ⟨g', cap, w', hrun, hown, hgr, hgb⟩ := append_el (P := Try.prog) (w := w1) Try.underlying57 Try.infoMem rfl (by decide) (owns_grow h hg) (es := encMem m) rfl (encMem_one m) (Nat.le_trans hB hg.size) hl (by decide)
  refine ⟨_, w', hrun, ?_, below_own hg hB h hgr⟩
  unfold OwnMem
  rw [List.flatMap_append, List.length_append]
  simpa using hown
theorem OwnInt.push (h : OwnInt B w v s) (hg : Grow w w1) (n : Nat) (hB : B ≤ w.heap.size) (hl : s.length ≤ 1000000000) :
    ∃ v' w', (Builtin.append_ #[40, 40] 40 #[v, .slice (some ⟨w1.heap.size, 0, none⟩) 1 1]).run Try.prog (w1.alloc (.cells #[.int .i64 (n : Int)] 3)) = .ok v' w' ∧ OwnInt B w' v' (s ++ [n]) ∧ Below B w w' := by
  obtain ⟨g', cap, w', hrun, hown, hgr, hgb⟩ := append_el (P := Try.prog) (w := w1) Try.underlying40 Try.infoInt rfl (by decide) (owns_grow h hg) (es := encN n) rfl (fun u hu => by rw [List.mem_singleton.1 hu]; rfl) (Nat.le_trans hB hg.size) hl (by decide)
  refine ⟨_, w', hrun, ?_, below_own hg hB h hgr⟩
  unfold OwnInt
  rw [List.flatMap_append, List.length_append]
  simpa using hown
theorem run_buildMem (w : World) (a b : Int) (x : Bool) : (Instr.buildSlice 57 1 #[(0, .agg #[.int .i64 a, .int .i64 b, .bool x])]).run Try.prog w = .ok (.slice (some ⟨w.heap.size, 0, none⟩) 1 1) (w.alloc (.cells #[.int .i64 a, .int .i64 b, .bool x] 71)) := by kernel_rfl
end
end Go.Proofs.Ytfchjoejdijjeaa

/- The reference's master: Twin. -/
namespace Go.Proofs.Ytfchjoejdijjeaa
open Go.RowKit Go.Gl Go.Wal Go.Ch Go.Shelf
section
variable {N : Nat → Prop} {w : World} {cv sv : Value} {c : Cfg}
set_option maxRecDepth 100000 in
set_option maxHeartbeats 4000000 in
theorem rtwin_any (h : CfgR N w cv sv c) (hl : c.chain.length ≤ 1000) (hs : c.stores.length ≤ 1000) :
    Calls Try.prog 39 #[cfgV c.epoch cv sv] w fun e w' => ∃ x y, e = .returned (cfgV c.epoch x y) ∧ OwnCfg w.heap.size w' x y c ∧ Grow w w' := by
  obtain ⟨a, cc, rfl⟩ := h.chain.slice
  obtain ⟨sa, sc, rfl⟩ := h.stores.slice
  have H := Lib.hid h
  clear h
  go_enter Try.func39, Try.ntmps39
  go_upto_region 1 with fail
  have hg0 : Grow w ((w.alloc (.cells #[.int .i64 (c.epoch : Int), .slice a c.chain.length cc, .slice sa c.stores.length sc] 59)).alloc (.cells #[.int .i64 0, .slice none 0 0, .slice none 0 0] 59)) := (Grow.alloc _ _).trans (Grow.alloc _ _)
  have hb0 := (Grow.alloc _ (.cells #[.int .i64 0, .slice none 0 0, .slice none 0 0] 59)).heap (heap_alloc_new w (.cells #[.int .i64 (c.epoch : Int), .slice a c.chain.length cc, .slice sa c.stores.length sc] 59))
  have hb1 := heap_alloc_new (w.alloc (.cells #[.int .i64 (c.epoch : Int), .slice a c.chain.length cc, .slice sa c.stores.length sc] 59)) (.cells #[.int .i64 0, .slice none 0 0, .slice none 0 0] 59)
  rw [show (w.alloc (.cells #[.int .i64 (c.epoch : Int), .slice a c.chain.length cc, .slice sa c.stores.length sc] 59)).heap.size = w.heap.size + 1 by simp] at hb1
  generalize (w.alloc (.cells #[.int .i64 (c.epoch : Int), .slice a c.chain.length cc, .slice sa c.stores.length sc] 59)).alloc (.cells #[.int .i64 0, .slice none 0 0, .slice none 0 0] 59) = w1 at *
  obtain ⟨q, hq⟩ : ∃ q, q = w.heap.size := ⟨_, rfl⟩
  obtain ⟨r, hr⟩ : ∃ r, r = w.heap.size + 1 := ⟨_, rfl⟩
  rw [← hr] at hb1 ⊢
  rw [← hq] at hb0 ⊢
  have Hq := Lib.hid hq
  have Hr := Lib.hid hr
  have Hb0 := Lib.hid hb0
  have Hb1 := Lib.hid hb1
  have Hg0 := Lib.hid hg0
  clear hq hr hb0 hb1 hg0
  obtain ⟨v1, w2, ha1, ha2, ha3, _⟩ := append_copy_own Try.underlying57 Try.infoMem rfl (by decide) (by decide) encMem3 (fun x _ => encMem_one x) (H.out.chain.grow Hg0.out) (by omega)
  have hc0 := (Grow.alloc w1 (.cells #[] 71)).heap Hb0.out
  have k1 : (w1.alloc (.cells #[] 71)).cell? ⟨q, 1, none⟩ = some (.slice a c.chain.length cc) := by simp [World.cell?, hc0]
  have l1 : q < (w1.alloc (.cells #[] 71)).heap.size := lt_of_getElem? hc0
  have hc2 := ha3.heap Hb0.out
  have f1 := frz hc2 1
  have k2 : w2.cell? ⟨q, 1, none⟩ = some (.slice a c.chain.length cc) := by simp [World.cell?, hc2]
  have l2 : q < w2.heap.size := lt_of_getElem? hc2
  have Hrun := Lib.hid ha1
  have Hv1 : Hid (OwnMem w1.heap.size w2 v1 c.chain) := Lib.hid ha2
  have Hg2 := Lib.hid ha3
  obtain ⟨na, nc, rfl⟩ := owns_slice ha2
  clear ha1 ha2 ha3 hc0 hc2
  go_upto_region 2 with (at_builtin; refine wpList_append rfl rfl rfl rfl Hrun.out ?_)
  have hqw : w.heap.size ≤ q := by have := Hq.out; omega
  have hrq : r ≠ q := by have := Hq.out; have := Hr.out; omega
  have hg3 : Grow w (w2.setCell ⟨q, 1, none⟩ (.slice na c.chain.length nc)) := (Hg0.out.trans Hg2.out).setCell (p := ⟨q, 1, none⟩) hqw _
  have hb3 : (w2.setCell ⟨q, 1, none⟩ (.slice na c.chain.length nc)).heap[q]? = some (.cells #[.int .i64 (c.epoch : Int), .slice na c.chain.length nc, .slice sa c.stores.length sc] 59 (0, 0)) := by simpa using setCell_heap (Hg2.out.heap Hb0.out) 1 (.slice na c.chain.length nc)
  have hr3 : (w2.setCell ⟨q, 1, none⟩ (.slice na c.chain.length nc)).heap[r]? = some (.cells #[.int .i64 0, .slice none 0 0, .slice none 0 0] 59 (0, 0)) := by
    rw [Below.heap_setCell _ _ _ _ hrq]; exact Hg2.out.heap Hb1.out
  have hq1 : q < w1.heap.size := lt_of_getElem? Hb0.out
  have hk3 : Kp (fun x => w1.heap.size ≤ x) w2 (w2.setCell ⟨q, 1, none⟩ (.slice na c.chain.length nc)) := ⟨by simp, fun x (hx : w1.heap.size ≤ x) _ => Below.heap_setCell _ _ _ _ (show x ≠ q by omega)⟩
  have hv3 := Hv1.out.kp hk3
  have hr1 : r < w1.heap.size := lt_of_getElem? Hb1.out
  have hz1 : w.heap.size ≤ w1.heap.size := Hg0.out.size
  have hz3 : w1.heap.size ≤ w2.heap.size := Hg2.out.size
  rw [show w2.heap.size = (w2.setCell ⟨q, 1, none⟩ (.slice na c.chain.length nc)).heap.size by simp] at hz3
  clear k1 k2 l1 l2 f1 hk3 Hv1 Hrun Hb0 Hb1
  generalize w2.setCell ⟨q, 1, none⟩ (.slice na c.chain.length nc) = w3 at *
  have Hv3 := Lib.hid hv3
  have Hg3 := Lib.hid hg3
  have Hb3 := Lib.hid hb3
  have Hr3 := Lib.hid hr3
  clear hv3 hg3 hb3 hr3 Hg2 Hg0
  obtain ⟨v2, w4, ha1, ha2, ha3, _⟩ := append_copy_own Try.underlying40 Try.infoInt rfl (by decide) (by decide) encN1 (fun x _ u hu => by rw [List.mem_singleton.1 hu]; rfl) (H.out.stores.grow Hg3.out) (by omega)
  have hc0 := (Grow.alloc w3 (.cells #[] 3)).heap Hb3.out
  have k1 : (w3.alloc (.cells #[] 3)).cell? ⟨q, 2, none⟩ = some (.slice sa c.stores.length sc) := by simp [World.cell?, hc0]
  have l1 : q < (w3.alloc (.cells #[] 3)).heap.size := lt_of_getElem? hc0
  have hc2 := ha3.heap Hb3.out
  have f1 := frz hc2 2
  have k2 : w4.cell? ⟨q, 2, none⟩ = some (.slice sa c.stores.length sc) := by simp [World.cell?, hc2]
  have l2 : q < w4.heap.size := lt_of_getElem? hc2
  have Hrun := Lib.hid ha1
  have Hv4 : Hid (OwnInt w3.heap.size w4 v2 c.stores) := Lib.hid ha2
  have Hg4 := Lib.hid ha3
  obtain ⟨oa, oc, rfl⟩ := owns_slice ha2
  clear ha1 ha2 ha3 hc0 hc2
  go_upto_region 3 with (at_builtin; refine wpList_append rfl rfl rfl rfl Hrun.out ?_)
  have hg5 : Grow w (w4.setCell ⟨q, 2, none⟩ (.slice oa c.stores.length oc)) := (Hg3.out.trans Hg4.out).setCell (p := ⟨q, 2, none⟩) hqw _
  have hb5 : (w4.setCell ⟨q, 2, none⟩ (.slice oa c.stores.length oc)).heap[q]? = some (.cells #[.int .i64 (c.epoch : Int), .slice na c.chain.length nc, .slice oa c.stores.length oc] 59 (0, 0)) := by simpa using setCell_heap (Hg4.out.heap Hb3.out) 2 (.slice oa c.stores.length oc)
  have hr5 : (w4.setCell ⟨q, 2, none⟩ (.slice oa c.stores.length oc)).heap[r]? = some (.cells #[.int .i64 0, .slice none 0 0, .slice none 0 0] 59 (0, 0)) := by
    rw [Below.heap_setCell _ _ _ _ hrq]; exact Hg4.out.heap Hr3.out
  have hk5 : Kp (fun x => w1.heap.size ≤ x) w4 (w4.setCell ⟨q, 2, none⟩ (.slice oa c.stores.length oc)) := ⟨by simp, fun x (hx : w1.heap.size ≤ x) _ => Below.heap_setCell _ _ _ _ (show x ≠ q by omega)⟩
  have hv5 := (Hv3.out.grow Hg4.out).kp hk5
  have hu5 := (Hv4.out.low hz3).kp hk5
  have Hcf := Lib.hid (show OwnCfg w1.heap.size (w4.setCell ⟨q, 2, none⟩ (.slice oa c.stores.length oc)) (.slice na c.chain.length nc) (.slice oa c.stores.length oc) c from ⟨hv5, hu5⟩)
  clear k1 k2 l1 l2 f1 hk5 hv5 hu5 Hv3 Hv4 Hrun Hb3 Hr3 Hg3 Hg4 hz3
  generalize w4.setCell ⟨q, 2, none⟩ (.slice oa c.stores.length oc) = w5 at *
  have r0 : w5.cell? ⟨q, 0, none⟩ = some (.int .i64 (c.epoch : Int)) := by simp [World.cell?, hb5]
  have r1 : w5.cell? ⟨q, 1, none⟩ = some (.slice na c.chain.length nc) := by simp [World.cell?, hb5]
  have r2 : w5.cell? ⟨q, 2, none⟩ = some (.slice oa c.stores.length oc) := by simp [World.cell?, hb5]
  have lq : q < w5.heap.size := lt_of_getElem? hb5
  have lr : r < w5.heap.size := lt_of_getElem? hr5
  have s0 : w5.cell? ⟨r, 0, none⟩ = some (.int .i64 0) := by simp [World.cell?, hr5]
  have s1 : w5.cell? ⟨r, 1, none⟩ = some (.slice none 0 0) := by simp [World.cell?, hr5]
  have s2 : w5.cell? ⟨r, 2, none⟩ = some (.slice none 0 0) := by simp [World.cell?, hr5]
  have g0 := frz hr5 0
  have g1 := frz hr5 1
  have g2 := frz hr5 2
  have hrw : w.heap.size ≤ r := by have := Hr.out; omega
  have hfin := setCell_heap (setCell_heap (setCell_heap hr5 0 (.int .i64 (c.epoch : Int))) 1 (.slice na c.chain.length nc)) 2 (.slice oa c.stores.length oc)
  have Hg9 := Lib.hid (((hg5.setCell (p := ⟨r, 0, none⟩) hrw (.int .i64 (c.epoch : Int))).setCell (p := ⟨r, 1, none⟩) hrw (.slice na c.chain.length nc)).setCell (p := ⟨r, 2, none⟩) hrw (.slice oa c.stores.length oc))
  have Hf : Hid (∀ W, W = ((w5.setCell ⟨r, 0, none⟩ (.int .i64 (c.epoch : Int))).setCell ⟨r, 1, none⟩ (.slice na c.chain.length nc)).setCell ⟨r, 2, none⟩ (.slice oa c.stores.length oc) → r < W.heap.size ∧ W.cell? ⟨r, 0, none⟩ = some (.int .i64 (c.epoch : Int)) ∧ W.cell? ⟨r, 1, none⟩ = some (.slice na c.chain.length nc) ∧ W.cell? ⟨r, 2, none⟩ = some (.slice oa c.stores.length oc)) := Lib.hid fun W hW => by
    rw [← hW] at hfin
    exact ⟨lt_of_getElem? hfin, by simp [World.cell?, hfin], by simp [World.cell?, hfin], by simp [World.cell?, hfin]⟩
  have Hk : Hid (∀ W, W = ((w5.setCell ⟨r, 0, none⟩ (.int .i64 (c.epoch : Int))).setCell ⟨r, 1, none⟩ (.slice na c.chain.length nc)).setCell ⟨r, 2, none⟩ (.slice oa c.stores.length oc) → OwnCfg w.heap.size W (.slice na c.chain.length nc) (.slice oa c.stores.length oc) c) := Lib.hid fun W hW => by
    subst hW
    refine (Hcf.out.kp ⟨by simp, fun x (hx : w1.heap.size ≤ x) _ => ?_⟩).low hz1
    have hne : x ≠ r := by omega
    rw [Below.heap_setCell _ _ _ _ hne, Below.heap_setCell _ _ _ _ hne, Below.heap_setCell _ _ _ _ hne]
  clear hfin hb5 hr5 hg5 hqw hrq hrw hz1 hq1 hr1
  go_wp2
  obtain ⟨wf, hwf⟩ : ∃ W, W = ((w5.setCell ⟨r, 0, none⟩ (.int .i64 (c.epoch : Int))).setCell ⟨r, 1, none⟩ (.slice na c.chain.length nc)).setCell ⟨r, 2, none⟩ (.slice oa c.stores.length oc) := ⟨_, rfl⟩
  obtain ⟨f0, f1, f2, f3⟩ := Hf.out wf hwf
  have Hg10 := Hg9.out
  have Hk10 := Hk.out wf hwf
  rw [← hwf] at Hg10
  try rw [← hwf]
  clear Hg9 Hf Hk hwf r0 r1 r2 lq lr s0 s1 s2 g0 g1 g2
  refine bodyPost_ret (v := cfgV c.epoch (.slice na c.chain.length nc) (.slice oa c.stores.length oc)) ?_ rfl ⟨_, _, rfl, Hk10, Hg10⟩
  rw [results_cell1 rfl]
  go_simp
end
end Go.Proofs.Ytfchjoejdijjeaa
