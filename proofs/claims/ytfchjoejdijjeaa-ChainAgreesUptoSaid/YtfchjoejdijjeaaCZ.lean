/- Merged out of FN, FO: helpers. -/
import Derived.Test.YtfchjoejdijjeaaCY
set_option linter.unusedSimpArgs false
set_option linter.unusedVariables false
/- The law's world under its operations, in one form. -/
namespace Go.Ch
section
variable {C : Type} [DecidableEq C] {W : Wd C}
theorem put_ok1 {i : Nat} {o : Out C} (h : (W.put i o).ok = true) : W.ok = true := (put_ok h).1
theorem deliver_ok1 {n : Nat} (h : (W.deliver n).ok = true) : W.ok = true := by
  unfold Wd.deliver at h
  cases hx : W.bag[n]? with
  | none => rw [hx] at h; exact h
  | some x => rw [hx] at h; exact put_ok1 h
theorem beat_ok1 {i : Nat} (h : (W.beat i).ok = true) : W.ok = true := (told_ok h).1
end
section
variable {C : Type} {W : Wd C}
theorem command_ok (x : Cmd) : (W.command x).ok = W.ok := by unfold Wd.command; cases doM W.now x <;> rfl
theorem whole_ok (i : Nat) : (W.whole i).ok = W.ok := by unfold Wd.whole; split; exact command_ok _; rfl
theorem tell_ok : ∀ {n i : Nat} {W : Wd C}, (Wd.tell n i W).ok = W.ok
  | 0, _, _ => rfl
  | n + 1, i, W => by rw [Wd.tell, tell_ok, whole_ok]
end
section
variable {C : Type} [DecidableEq C]
open Wd
theorem hear_ok1 : ∀ {n i : Nat} {W : Wd C}, (hear n i W).ok = true → W.ok = true
  | 0, _, _, h => h
  | n + 1, i, W, h => put_ok1 (beat_ok1 (hear_ok1 (n := n) h))
theorem flush_ok1 : ∀ {n : Nat} {W : Wd C}, (flush n W).ok = true → W.ok = true
  | 0, _, h => h
  | n + 1, W, h => by
    unfold flush at h
    split at h
    · exact h
    · exact deliver_ok1 (flush_ok1 h)
theorem settle_ok1 : ∀ {k : Nat} {W : Wd C}, (Wd.settle k W).ok = true → W.ok = true
  | 0, _, h => h
  | k + 1, W, h => by
    have h1 := settle_ok1 (k := k) h
    rw [tell_ok] at h1
    exact hear_ok1 (flush_ok1 h1)
end
end Go.Ch
namespace Go.Proofs.Ytfchjoejdijjeaa
open Go.RowKit Go.Gl Go.Wal Go.Ch Go.Shelf
section
variable {C : Type} {f : C → List UInt8} {F0 : Nat → Prop} {w wr : World} {wb P L K : Nat} {W : Wd C}
/-- The law's world, with its bounds, behind w. -/
def Wt (f : C → List UInt8) (F0 : Nat → Prop) (w : World) (wb P L K : Nat) (W : Wd C) (wr : World) : Prop :=
  ∃ V ps, ps.length = P ∧ WAt f wr wb V ps W ∧ Cap L K W ∧ Sep F0 w wr (FW wb V ps)
theorem Wt.grow {w2 : World} (h : Wt f F0 w wb P L K W wr) (hg : Grow wr w2) : Wt f F0 w wb P L K W w2 := by
  obtain ⟨V, ps, h1, h2, h3, h4⟩ := h
  exact ⟨V, ps, h1, h2.grow hg, h3, h4.grow hg⟩
theorem Wt.up {L' K' : Nat} (h : Wt f F0 w wb P L K W wr) (hL : L ≤ L') (hK : K ≤ K') : Wt f F0 w wb P L' K' W wr := by
  obtain ⟨V, ps, h1, h2, h3, h4⟩ := h
  exact ⟨V, ps, h1, h2, h3.up hL hK, h4⟩
theorem Wt.nds (h : Wt f F0 w wb P L K W wr) : W.nds.length = P := by
  obtain ⟨V, ps, h1, h2, h3, h4⟩ := h
  rw [h2.nds.ln, h1]
theorem doM_stay {c : Cfg} {x : Cmd} {c' : Cfg} (h1 : CfgOk c) (hx : CmdOk x) {K : Nat} (hK : c.epoch ≤ K) (hK2 : K ≤ 1000000) (h : doM c x = some c') : CfgOk c' ∧ c'.epoch ≤ K + 1 := by
  have := doM_ok h1 hx (by omega) h
  exact ⟨this.1, by omega⟩
theorem cap_command (h : Cap L K W) (hK : K ≤ 1000000) {x : Cmd} (hx : CmdOk x) : Cap L (K + 1) (W.command x) := by
  have hu := h.up (Nat.le_refl L) (Nat.le_succ K)
  unfold Wd.command
  cases hd : doM W.now x with
  | none => exact hu
  | some c' =>
    have hnow : W.now ∈ W.cfgs := by
      unfold Wd.now
      have h0 := h.c0
      rw [List.getD_eq_getElem?_getD]
      have : W.cfgs[W.cfgs.length - 1]? = some (W.cfgs[W.cfgs.length - 1]'(by omega)) := by simp [show W.cfgs.length - 1 < W.cfgs.length by omega]
      rw [this]
      exact List.getElem_mem _
    have hn := h.ep _ hnow
    have hs := doM_stay hn.1 hx hn.2 hK hd
    refine ⟨hu.box, hu.nd, hu.msg, hu.bag, hu.dst, hu.row, fun c hc => ?_, by have := h.cl; simp; omega, by simp, hu.bir⟩
    rcases List.mem_append.1 hc with hc | hc
    · exact hu.ep c hc
    · rw [List.mem_singleton.1 hc]; exact hs
theorem Wt.command (h : Wt f F0 w wb P L K W wr) (hK : K ≤ 900000) {x : Cmd} (hx : CmdOk x) :
    Calls Try.prog 11 #[.pointer (some ⟨wb, 0, none⟩), cmdV x] wr fun e w' => e = .returned (.tuple #[]) ∧ Wt f F0 w wb P L (K + 1) (W.command x) w' := by
  obtain ⟨V, ps, h1, h2, h3, h4⟩ := h
  refine (wcommand_any h2 h3 (by omega) hx).mono ?_
  rintro e w' ⟨he, V', ps', k1, k2, k3⟩
  exact ⟨he, V', ps', k1.trans h1, k2, cap_command h3 (by omega) hx, h4.trans k3⟩
theorem Wt.whole (h : Wt f F0 w wb P L K W wr) (hK : K ≤ 900000) (hP : P ≤ 16) {i : Nat} (hi : i < P) :
    Calls Try.prog 24 #[.pointer (some ⟨wb, 0, none⟩), .int .i64 (i : Int)] wr fun e w' => e = .returned (.tuple #[]) ∧ Wt f F0 w wb P L (K + 1) (W.whole i) w' := by
  obtain ⟨V, ps, h1, h2, h3, h4⟩ := h
  refine (wwhole_any h2 h3 (by omega) (by omega) (by omega)).mono ?_
  rintro e w' ⟨he, V', ps', k1, k2, k3⟩
  refine ⟨he, V', ps', k1.trans h1, k2, ?_, h4.trans k3⟩
  unfold Wd.whole
  split
  · refine cap_command h3 (by omega) ⟨Nat.le_of_ble_eq_true rfl, Nat.le_of_ble_eq_true rfl, by show i < 16; omega, ?_, ?_⟩
    · show W.births.getD i 0 ≤ _
      have hl := h2.lr
      have hb : W.births[i]? = some (W.births[i]'(by omega)) := by simp [show i < W.births.length by omega]
      rw [List.getD_eq_getElem?_getD, hb]
      exact h3.bir _ (List.getElem_mem _)
    · show (W.nd i).cfg.epoch ≤ _
      obtain ⟨p, d, b, a1, a2, a3, a4⟩ := h2.nds.get (i := i) (by omega)
      rw [nd_of a2]
      have := h3.nd d (List.mem_of_getElem? a2)
      omega
  · exact h3.up (Nat.le_refl _) (Nat.le_succ _)
end
section
variable {C : Type} [DecidableEq C] {f : C → List UInt8} {F0 : Nat → Prop} {w wr : World} {wb P L K : Nat} {W : Wd C}
theorem Wt.configure (h : Wt f F0 w wb P L K W wr) (hL : L ≤ 80000) (hP : P ≤ 16) (hf : ∀ c, (f c).length ≤ 1048576) {i n : Nat} (hi : i < P) (hn : n < W.cfgs.length) (hok : (W.configure i n).ok = true) :
    Calls Try.prog 18 #[.pointer (some ⟨wb, 0, none⟩), .int .i64 (i : Int), .int .i64 (n : Int)] wr fun e w' => e = .returned (.tuple #[]) ∧ Wt f F0 w wb P L K (W.configure i n) w' := by
  obtain ⟨V, ps, h1, h2, h3, h4⟩ := h
  refine (wconfigure_any h2 h3 (by omega) (by omega) hf (by omega) hn hok).mono ?_
  rintro e w' ⟨he, V', ps', k1, k2, k3⟩
  refine ⟨he, V', ps', k1.trans h1, k2, ?_, h4.trans k3⟩
  obtain ⟨p, d, b, a1, a2, a3, a4⟩ := h2.nds.get (i := i) (by omega)
  have hc : W.cfgs[n]? = some W.cfgs[n] := by simp [hn]
  refine h3.put (Nat.le_refl L) ?_ hok
  rw [nd_of a2, box_of a3, cfg_of hc]
  exact confM_c (h3.box b (List.mem_of_getElem? a3)) (h3.nd d (List.mem_of_getElem? a2)) (h3.ep _ (List.getElem_mem _)).2
theorem Wt.deliver (h : Wt f F0 w wb P L K W wr) (hL : L ≤ 80000) (hK : K ≤ 1000000) (hP : P ≤ 16) (hf : ∀ c, (f c).length ≤ 1048576) {n : Nat} (hn : n < W.bag.length) (hok : (W.deliver n).ok = true) :
    Calls Try.prog 19 #[.pointer (some ⟨wb, 0, none⟩), .int .i64 (n : Int)] wr fun e w' => e = .returned (.tuple #[]) ∧ Wt f F0 w wb P L K (W.deliver n) w' := by
  obtain ⟨V, ps, h1, h2, h3, h4⟩ := h
  refine (wdeliver_any h2 h3 (by omega) (by omega) (by omega) hf hn hok).mono ?_
  rintro e w' ⟨he, V', ps', k1, k2, k3⟩
  refine ⟨he, V', ps', k1.trans h1, k2, ?_, h4.trans k3⟩
  have hx : W.bag[n]? = some W.bag[n] := by simp [hn]
  unfold Wd.deliver at hok ⊢
  rw [hx] at hok ⊢
  have hxm : W.bag[n] ∈ W.bag := List.getElem_mem _
  have hd := h3.dst _ hxm
  rw [h2.nds.ln] at hd
  obtain ⟨p, d, b, a1, a2, a3, a4⟩ := h2.nds.get hd
  refine (cap_drop h3 n).put (Nat.le_refl L) ?_ hok
  rw [nd_of a2, box_of a3]
  exact recvM_c (h3.box b (List.mem_of_getElem? a3)) (h3.nd d (List.mem_of_getElem? a2)) (h3.msg _ hxm)
theorem Wt.submit (h : Wt f F0 w wb P L K W wr) (hL : L ≤ 80000) (hP : P ≤ 16) (hf : ∀ c, (f c).length ≤ 1048576) {i : Nat} (hi : i < P) {c : C} {xv : Value} (hx : ∀ V ps, WAt f wr wb V ps W → Sep F0 w wr (FW wb V ps) → Bw (NW wb V ps) wr xv (f c)) (hok : (W.submit i c).ok = true) :
    Calls Try.prog 13 #[.pointer (some ⟨wb, 0, none⟩), .int .i64 (i : Int), xv] wr fun e w' => e = .returned (.bool (takes (W.nd i) (W.box i))) ∧ Wt f F0 w wb P (L + 1) K (W.submit i c) w' := by
  obtain ⟨V, ps, h1, h2, h3, h4⟩ := h
  refine (wsubmit_any h2 h3 (by omega) (by omega) hf (by omega) (hx V ps h2 h4) hok).mono ?_
  rintro e w' ⟨he, V', ps', k1, k2, k3⟩
  refine ⟨he, V', ps', k1.trans h1, k2, ?_, h4.trans k3⟩
  obtain ⟨p, d, b, a1, a2, a3, a4⟩ := h2.nds.get (i := i) (by omega)
  refine h3.put (Nat.le_succ L) ?_ hok
  rw [nd_of a2, box_of a3]
  exact subM_c (h3.box b (List.mem_of_getElem? a3)) (h3.nd d (List.mem_of_getElem? a2)) c
end
end Go.Proofs.Ytfchjoejdijjeaa

/- The law's world: settle. -/
namespace Go.Proofs.Ytfchjoejdijjeaa
open Go.RowKit Go.Gl Go.Wal Go.Ch Go.Shelf
section
variable {C : Type} {f : C → List UInt8} {F0 : Nat → Prop} {w wr : World} {wb P L K : Nat} {W : Wd C}
theorem Wt.read (h : Wt f F0 w wb P L K W wr) : wb < wr.heap.size ∧ (∃ a c, wr.cell? ⟨wb, 0, none⟩ = some (.slice a P c)) ∧ (∃ a c, wr.cell? ⟨wb, 3, none⟩ = some (.slice a W.bag.length c)) ∧ (∃ a c, wr.cell? ⟨wb, 4, none⟩ = some (.slice a W.cfgs.length c)) ∧ (∃ a c, wr.cell? ⟨wb, 5, none⟩ = some (.slice a W.row.length c)) ∧ 0 < W.cfgs.length ∧ W.cfgs.length ≤ K + 1 ∧ W.bag.length ≤ 800000 ∧ W.row.length ≤ L := by
  obtain ⟨V, ps, h1, h2, h3, h4⟩ := h
  obtain ⟨n0, n1, n2, n3, n4, n5, n6⟩ := h2.cells
  obtain ⟨a, c, e⟩ := h2.nrow.slice
  obtain ⟨a3, c3, e3⟩ := h2.bag.slice
  obtain ⟨a4, c4, e4⟩ := h2.cfgs.slice
  obtain ⟨a5, c5, e5⟩ := h2.row.slice
  rw [List.length_map, h1] at e
  exact ⟨h2.wlt, ⟨a, c, by rw [n0, e]⟩, ⟨a3, c3, by rw [n3, e3]⟩, ⟨a4, c4, by rw [n4, e4]⟩, ⟨a5, c5, by rw [n5, e5]⟩, h3.c0, h3.cl, h3.bag, h3.row⟩

end
section
variable {C : Type} [DecidableEq C] {f : C → List UInt8} {F0 : Nat → Prop} {w wr : World} {wb P L K : Nat} {W : Wd C}
theorem wd_told {i : Nat} {ms : List (Msg C)} {cs : List (Com C)} (hok : (W.told i ms cs).ok = true) : ({ W with bag := bagK W ms ms.length, row := (comRow W.row cs).1 } : Wd C) = W.told i ms cs := by
  obtain ⟨h1, h2, h3⟩ := told_ok hok
  unfold Wd.told bagK
  simp only [List.take_length]
  congr 1
  simp [h1, h2, h3]
/-- What a node's beat wants: its place, its call, and what is told then. -/
theorem Wt.beat (h : Wt f F0 w wb P L K W wr) (hL : L ≤ 80000) (hP : P ≤ 16) (hf : ∀ c, (f c).length ≤ 1048576) {i : Nat} (hi : i < P) (hok : (W.beat i).ok = true) :
    ∃ g gc nb, wb < wr.heap.size ∧ g < wr.heap.size ∧ wr.cell? ⟨wb, 0, none⟩ = some (.slice (some ⟨g, 0, none⟩) P gc) ∧ wr.cell? ⟨g, i, none⟩ = some (.pointer (some ⟨nb, 0, none⟩)) ∧
      ∃ ms, Calls Try.prog 21 #[.pointer (some ⟨nb, 0, none⟩)] wr (BeatPost f wr ms) ∧
        ∀ v w1, OwnMs f wr.heap.size w1 v ms → Grow wr w1 → Calls Try.prog 20 #[.pointer (some ⟨wb, 0, none⟩), .int .i64 (i : Int), v, .slice none 0 0] w1 fun e w' => e = .returned (.tuple #[]) ∧ Wt f F0 w wb P L K (W.beat i) w' := by
  obtain ⟨V, ps, h1, h2, h3, h4⟩ := h
  obtain ⟨p, d, b, g, gc, hp, hd, hbx, hnd, hnv, hcell, hgl⟩ := h2.node (i := i) (by omega)
  have n0 := h2.cells.1
  rw [hnv, h1] at n0
  have hbt : W.beat i = W.told i (beatM d b) [] := by unfold Wd.beat; rw [nd_of hd, box_of hbx]
  rw [hbt] at hok ⊢
  refine ⟨g, gc, p.nb, h2.wlt, hgl, n0, hcell, beatM d b, beat_any hnd hf, fun v w1 hv hg => ?_⟩
  have hbc := beat_c (K := K) (h3.box b (List.mem_of_getElem? hbx)) (h3.nd d (List.mem_of_getElem? hd))
  have hw1 := h2.grow hg
  have hm : MsgR f (NW wb V ps) w1 v (beatM d b) := hv.msgR.mono (fun x hx _ hF => by have := h2.lt hF; omega)
  obtain ⟨k1, k2, k3⟩ := told_ok hok
  refine (wtold_any hw1 hm (comR_nil _ _) (i := i) (by rw [← h2.nds.ln]; exact k2) k3 (by have := h3.bag; omega) (by have := h3.row; simp; omega) (by simp) hf (by omega) (by omega)).mono ?_
  rintro e w' ⟨he, V', k4, k5⟩
  refine ⟨he, V', ps, h1, by rw [← wd_told hok]; exact k4, h3.told hbc.1 (by simp) (by omega) hok, (h4.grow hg).trans k5⟩

set_option maxRecDepth 100000 in
set_option maxHeartbeats 4000000 in
theorem Wt.settle (h : Wt f F0 w wb P L K W wr) (hL : L ≤ 80000) {R : Nat} (hR : R ≤ 1000) (hK : K + 16 * R ≤ 800000) (hP : P ≤ 16) (hf : ∀ c, (f c).length ≤ 1048576) (hok : (W.settle R).ok = true) :
    Calls Try.prog 12 #[.pointer (some ⟨wb, 0, none⟩), .int .i64 (R : Int)] wr fun e w' => e = .returned (.tuple #[]) ∧ Wt f F0 w wb P L (K + 16 * R) (W.settle R) w' := by
  have H := Lib.hid h
  have Hok := Lib.hid hok
  clear h hok
  go_enter Try.func12, Try.ntmps12
  go_wp2_with fail
  obtain ⟨w0, hw0⟩ : ∃ W, W = wr := ⟨_, rfl⟩
  subst hw0
  go_loopw [4] (fun kv wr => ∃ (k : Nat) (W1 : Wd C), kv = .int .i64 k ∧ k ≤ R ∧ Wt f F0 w wb P L (K + 16 * k) W1 wr ∧ W1.settle (R - k) = W.settle R) (fun kv _ => R - (intOf kv).toNat)
  case atStart => exact ⟨0, W, rfl, Nat.zero_le _, H.out, rfl⟩
  case round =>
    obtain ⟨k, W1, rfl, hk, hw1, hset⟩ := hrel
    have Hw1 := Lib.hid hw1
    have Hset := Lib.hid hset
    by_cases hlt : k < R
    · have hk1 : (k : Int) < (R : Int) := by omega
      have hsk : W1.settle (R - k) = (Wd.tell W1.nds.length 0 (Wd.flush 3000 (Wd.hear W1.nds.length 0 W1))).settle (R - (k + 1)) := by
        rw [show R - k = (R - (k + 1)) + 1 by omega]; rfl
      rw [hw1.nds] at hsk
      have Hsk := Lib.hid (hsk.symm.trans hset)
      clear hw1 hset hsk
      obtain ⟨X, hX⟩ : ∃ X, Wd.hear P 0 W1 = X := ⟨_, rfl⟩
      obtain ⟨Y, hY⟩ : ∃ Y, Wd.flush 3000 X = Y := ⟨_, rfl⟩
      obtain ⟨Z, hZ⟩ : ∃ Z, Wd.tell P 0 Y = Z := ⟨_, rfl⟩
      have hZs : Z.settle (R - (k + 1)) = W.settle R := by rw [← hZ, ← hY, ← hX]; exact Hsk.out
      have hZok : Z.ok = true := settle_ok1 (by rw [hZs]; exact Hok.out)
      have hYok : Y.ok = true := by rw [← hZ, tell_ok] at hZok; exact hZok
      have hXok : X.ok = true := flush_ok1 (by rw [hY]; exact hYok)
      have HX := Lib.hid hX
      have HY := Lib.hid hY
      have HZ := Lib.hid hZ
      have HZs := Lib.hid hZs
      have HXok := Lib.hid hXok
      have HYok := Lib.hid hYok
      clear hX hY hZ hZs hZok hXok hYok Hsk
      obtain ⟨KK, hKK⟩ : ∃ q, K + 16 * k = q := ⟨_, rfl⟩
      rw [hKK] at Hw1
      have hKK2 : KK + 16 ≤ 800000 := by omega
      have HKK := Lib.hid hKK
      clear hKK
      go_wp2_with fail
      obtain ⟨wv, hwv⟩ : ∃ W, W = wr := ⟨_, rfl⟩
      subst hwv
      go_loopw [5] (fun iv wx => ∃ (i : Nat) (W2 : Wd C), iv = .int .i64 i ∧ i ≤ P ∧ Wt f F0 w wb P L KK W2 wx ∧ Wd.hear (P - i) i W2 = X) (fun iv _ => P - (intOf iv).toNat)
      case atStart => exact ⟨0, W1, rfl, Nat.zero_le _, Hw1.out, HX.out⟩
      case round =>
        clear Hw1
        obtain ⟨i, W2, rfl, hi, hw2, hh⟩ := hrel
        obtain ⟨hwl, ⟨na, nc, n0⟩, _, ⟨ka, kc, n4⟩, _, hc0, hc1, _, _⟩ := hw2.read
        have Hw2 := Lib.hid hw2
        have Hh := Lib.hid hh
        by_cases hlt2 : i < P
        · have hi1 : (i : Int) < (P : Int) := by omega
          have hs1 : Wd.hear (P - i) i W2 = Wd.hear (P - (i + 1)) (i + 1) ((W2.configure i (W2.cfgs.length - 1)).beat i) := by
            rw [show P - i = (P - (i + 1)) + 1 by omega]; rfl
          have hh2 := hs1.symm.trans hh
          have hbok : ((W2.configure i (W2.cfgs.length - 1)).beat i).ok = true := hear_ok1 (by rw [hh2]; exact HXok.out)
          have hcok := beat_ok1 hbok
          obtain ⟨n, hn⟩ : ∃ n, W2.cfgs.length - 1 = n := ⟨_, rfl⟩
          have hn1 : IntKind.i64.wrap ((W2.cfgs.length : Int) - 1) = (n : Int) := by
            rw [show (W2.cfgs.length : Int) - 1 = (n : Int) by omega]
            exact IntWalk.i64_in _ (by omega)
          have hn2 : (W2.cfgs.length : Int) - 1 = (n : Int) := by omega
          have hn3 : IntKind.i64.wrap (n : Int) = (n : Int) := IntWalk.i64_in _ (by omega)
          rw [hn] at hh2 hbok hcok
          have Hcf := Lib.hid (hw2.configure hL hP hf hlt2 (n := n) (by omega) hcok)
          have Hh2 := Lib.hid hh2
          have Hbok := Lib.hid hbok
          clear hw2 hh hs1 hh2 hbok hcok hn hc0 hc1
          go_wp2_with fail
          (with_reducible refine Hcf.out.mono ?_)
          rintro e w3 ⟨rfl, hw3⟩
          obtain ⟨g, gc, nb, k1, k2, k3, k4, ms, hbt, htl⟩ := hw3.beat hL hP hf hlt2 Hbok.out
          have Hbt := Lib.hid hbt
          have Htl := Lib.hid htl
          clear n0 n4 hwl hw3 hbt htl Hcf Hw2
          go_wp2_with fail
          (with_reducible refine Hbt.out.mono ?_)
          rintro e w4 ⟨v, rfl, hv, hg4⟩
          have Ht := Lib.hid (Htl.out v w4 hv hg4)
          obtain ⟨va, vc, rfl⟩ := hv.slice
          clear hv hg4 Hbt Htl k1 k2 k3 k4
          go_wp2_with fail
          (with_reducible refine Ht.out.mono ?_)
          rintro e w5 ⟨rfl, hw5⟩
          have Hw5 := Lib.hid hw5
          clear hw5 Ht
          go_wp2
          go_roundw
          case rel => exact ⟨i + 1, _, by simp, hlt2, Hw5.out, Hh2.out⟩
          case measure => simp [intOf]; omega
        · have hiP : P = i := by omega
          subst hiP
          have hWX : W2 = X := by rw [Nat.sub_self] at hh; exact hh
          subst hWX
          clear hh Hh hw2 hc0 hc1 hlt2 hi
          go_wp2_with fail
          obtain ⟨wu, hwu⟩ : ∃ W, W = wr := ⟨_, rfl⟩
          subst hwu
          clear n0 n4 hwl
          go_loopw [6] (fun nv wx => ∃ (n : Nat) (W3 : Wd C), nv = .int .i64 n ∧ n ≤ 3000 ∧ Wt f F0 w wb P L KK W3 wx ∧ Wd.flush (3000 - n) W3 = Y) (fun nv _ => 3000 - (intOf nv).toNat)
          case atStart => exact ⟨0, W2, rfl, Nat.zero_le _, Hw2.out, HY.out⟩
          case round =>
            clear Hw2
            obtain ⟨n, W3, rfl, hn, hw3, hf3⟩ := hrel
            obtain ⟨hwl, _, ⟨ga, gc, n3⟩, _, _, _, _, hbl, _⟩ := hw3.read
            have Hw3 := Lib.hid hw3
            have Hf3 := Lib.hid hf3
            by_cases hgo : n < 3000 ∧ 0 < W3.bag.length
            · have hg1 : decide ((n : Int) < 3000) = true := by simp; omega
              have hg1' : decide (n < 3000) = true := by simp; omega
              have hg2 : decide ((0 : Int) < (W3.bag.length : Int)) = true := by simp; omega
              have hg2' : decide (0 < W3.bag.length) = true := by simp; omega
              have hfl : Wd.flush (3000 - n) W3 = Wd.flush (3000 - (n + 1)) (W3.deliver 0) := by
                rw [show 3000 - n = (3000 - (n + 1)) + 1 by omega, Wd.flush]
                cases hb : W3.bag with
                | nil => rw [hb] at hgo; simp at hgo
                | cons x l => rfl
              have hf4 := hfl.symm.trans hf3
              have hdok : (W3.deliver 0).ok = true := flush_ok1 (by rw [hf4]; exact HYok.out)
              have Hdl : Hid (Calls Try.prog 19 #[.pointer (some ⟨wb, 0, none⟩), .int .i64 0] wr fun e w' => e = .returned (.tuple #[]) ∧ Wt f F0 w wb P L KK (W3.deliver 0) w') := Lib.hid (hw3.deliver hL (by omega) hP hf hgo.2 hdok)
              have Hf4 := Lib.hid hf4
              have Hn := Lib.hid hgo.1
              clear hw3 hf3 hfl hf4 hdok hgo hbl
              go_wp2_with fail
              (with_reducible refine Hdl.out.mono ?_)
              rintro e w5 ⟨rfl, hw5⟩
              have Hw5 := Lib.hid hw5
              clear hw5 Hdl
              go_wp2
              go_roundw
              case rel => exact ⟨n + 1, _, by simp, Hn.out, Hw5.out, Hf4.out⟩
              case measure => simp [intOf]; have := Hn.out; omega
            · have hWY : W3 = Y := by
                rw [← hf3]
                by_cases hn3 : n < 3000
                · have hb0 : W3.bag = [] := List.eq_nil_of_length_eq_zero (by omega)
                  rw [show 3000 - n = (3000 - (n + 1)) + 1 by omega, Wd.flush, hb0]
                · rw [show 3000 - n = 0 by omega]; rfl
              subst hWY
              obtain ⟨b1, hb1⟩ : ∃ b, decide (n < 3000) = b := ⟨_, rfl⟩
              have hb1' : decide ((n : Int) < 3000) = b1 := by rw [← hb1]; by_cases h : n < 3000 <;> simp [h] <;> omega
              obtain ⟨b2, hb2⟩ : ∃ b, decide (0 < W3.bag.length) = b := ⟨_, rfl⟩
              have hb2' : decide ((0 : Int) < (W3.bag.length : Int)) = b2 := by rw [← hb2]; simp
              have hbb : b1 = false ∨ (b1 = true ∧ b2 = false) := by
                cases b1 with
                | false => exact .inl rfl
                | true => cases b2 with
                  | false => exact .inr ⟨rfl, rfl⟩
                  | true => exact absurd ⟨of_decide_eq_true hb1, of_decide_eq_true hb2⟩ hgo
              clear hf3 Hf3 hgo hw3 hbl
              rcases hbb with rfl | ⟨rfl, rfl⟩
              all_goals
                go_wp2_with fail
                clear hb1 hb1' hb2 hb2' n3 hwl
                obtain ⟨wu, hwu⟩ : ∃ W, W = wr := ⟨_, rfl⟩
                subst hwu
                go_loopw [7] (fun iv wx => ∃ (i : Nat) (W4 : Wd C), iv = .int .i64 i ∧ i ≤ P ∧ Wt f F0 w wb P L (KK + i) W4 wx ∧ Wd.tell (P - i) i W4 = Z) (fun iv _ => P - (intOf iv).toNat)
                case atStart => exact ⟨0, W3, rfl, Nat.zero_le _, Hw3.out, HZ.out⟩
                case round =>
                  clear Hw3
                  obtain ⟨i, W4, rfl, hi, hw4, ht4⟩ := hrel
                  obtain ⟨hwl, ⟨na, nc, n0⟩, _, _, _, _, _, _, _⟩ := hw4.read
                  have Hw4 := Lib.hid hw4
                  by_cases hlt4 : i < P
                  · have hi1 : (i : Int) < (P : Int) := by omega
                    have hs1 : Wd.tell (P - i) i W4 = Wd.tell (P - (i + 1)) (i + 1) (W4.whole i) := by
                      rw [show P - i = (P - (i + 1)) + 1 by omega]; rfl
                    have Ht4 := Lib.hid (hs1.symm.trans ht4)
                    have Hwh := Lib.hid (hw4.whole (by omega) hP hlt4)
                    clear hw4 ht4 hs1
                    go_wp2_with fail
                    (with_reducible refine Hwh.out.mono ?_)
                    rintro e w5 ⟨rfl, hw5⟩
                    have Hw5 := Lib.hid hw5
                    clear hw5 Hwh
                    go_wp2
                    go_roundw
                    case rel => exact ⟨i + 1, _, by simp, hlt4, by rw [← Nat.add_assoc]; exact Hw5.out, Ht4.out⟩
                    case measure => simp [intOf]; omega
                  · have hiP : P = i := by omega
                    subst hiP
                    have hWZ : W4 = Z := by rw [Nat.sub_self] at ht4; exact ht4
                    subst hWZ
                    have Hend : Hid (Wt f F0 w wb P L (K + 16 * (k + 1)) W4 wr) := Lib.hid (hw4.up (Nat.le_refl _) (by have := HKK.out; omega))
                    clear hw4 ht4 hlt4 hi
                    go_wp2
                    go_roundw
                    case rel => exact ⟨k + 1, W4, by simp, hlt, Hend.out, HZs.out⟩
                    case measure => simp [intOf]; omega
    · obtain rfl : k = R := by omega
      have hWR : W1 = W.settle k := by rw [Nat.sub_self] at hset; exact hset
      subst hWR
      clear hset Hset hlt
      go_wp2
      exact ⟨rfl, .tuple #[], by simp [results, Try.results12, go_sem], rfl, Hw1.out⟩
end
end Go.Proofs.Ytfchjoejdijjeaa
