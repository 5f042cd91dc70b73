/- Merged out of FF: helpers. -/
import Derived.Test.YtfchjoejdijjeaaCT
set_option linter.unusedSimpArgs false
set_option linter.unusedVariables false
/- The law's world: messages and commits of a node are taken. -/
namespace Go.Proofs.Ytfchjoejdijjeaa
open Go.RowKit Go.Gl Go.Wal Go.Ch Go.Shelf
section
variable {C : Type} {f : C → List UInt8} {w w' w1 w2 : World} {wb : Nat} {V : Vs} {ps : List Pl} {W : Wd C} {mv kv : Value} {ms : List (Msg C)} {cs : List (Com C)}

theorem MsgR.getN {N : Nat → Prop} {v : Value} (h : MsgR f N w v ms) {i : Nat} {x : Msg C} (hx : ms[i]? = some x) :
    ∃ b o c u, v = .slice (some ⟨b, o, none⟩) ms.length c ∧ N b ∧ b < w.heap.size ∧ w.cell? ⟨b, o + i * 3, none⟩ = some (.int .i64 (x.src : Int)) ∧ w.cell? ⟨b, o + i * 3 + 1, none⟩ = some (.int .i64 (x.dst : Int)) ∧ w.cell? ⟨b, o + i * 3 + 2, none⟩ = some u ∧ Bw N w u (msgD f x) := by
  obtain ⟨ys, rfl, h2, h3⟩ := h
  rw [List.getElem?_map] at hx
  cases hy : ys[i]? with
  | none => rw [hy] at hx; cases hx
  | some y =>
    rw [hy] at hx
    cases hx
    obtain ⟨b, o, c, rfl, hN, hb, hr⟩ := h2.addr hy
    exact ⟨b, o, c, y.v, by rw [List.length_map], hN, hb, hr i y hy 0 _ rfl, hr i y hy 1 _ rfl, hr i y hy 2 _ rfl, h3 y (List.mem_of_getElem? hy)⟩
theorem ComR.getN {N : Nat → Prop} {v : Value} (h : ComR f N w v cs) {i : Nat} {x : Com C} (hx : cs[i]? = some x) :
    ∃ b o c u q, v = .slice (some ⟨b, o, none⟩) cs.length c ∧ N b ∧ b < w.heap.size ∧ w.cell? ⟨b, o + i * 3, none⟩ = some (.int .u64 (x.idx : Int)) ∧ w.cell? ⟨b, o + i * 3 + 1, none⟩ = some u ∧ w.cell? ⟨b, o + i * 3 + 2, none⟩ = some q ∧ Bw N w u (f x.cmd) ∧ Bw N w q (ansD f x) := by
  obtain ⟨ys, rfl, h2, h3⟩ := h
  rw [List.getElem?_map] at hx
  cases hy : ys[i]? with
  | none => rw [hy] at hx; cases hx
  | some y =>
    rw [hy] at hx
    cases hx
    obtain ⟨b, o, c, rfl, hN, hb, hr⟩ := h2.addr hy
    have := h3 y (List.mem_of_getElem? hy)
    exact ⟨b, o, c, y.cv, y.av, by rw [List.length_map], hN, hb, hr i y hy 0 _ rfl, hr i y hy 1 _ rfl, hr i y hy 2 _ rfl, this.1, this.2⟩

def bagK (W : Wd C) (ms : List (Msg C)) (j : Nat) : List (Msg C) := W.bag ++ (ms.take j).take (400 - W.bag.length)
theorem bagK_len (W : Wd C) (ms : List (Msg C)) (j : Nat) (hj : j ≤ ms.length) : (bagK W ms j).length = W.bag.length + min (400 - W.bag.length) j := by simp [bagK]; omega
theorem bagK_push {j : Nat} {x : Msg C} (hx : ms[j]? = some x) (h : (bagK W ms j).length < 400) : bagK W ms (j + 1) = bagK W ms j ++ [x] := by
  obtain ⟨h1, h2⟩ := List.getElem?_eq_some_iff.1 hx
  rw [bagK_len W ms j (by omega)] at h
  unfold bagK
  rw [List.take_of_length_le (by simp; omega), List.take_of_length_le (l := ms.take j) (by simp; omega), List.take_succ_eq_append_getElem h1, h2, List.append_assoc]
theorem bagK_full {j : Nat} (hj : j < ms.length) (h : ¬ (bagK W ms j).length < 400) : bagK W ms (j + 1) = bagK W ms j := by
  rw [bagK_len W ms j (by omega)] at h
  unfold bagK
  rw [List.take_take, List.take_take]
  congr 2
  omega

/-- One message more in the bag. -/
theorem WAt.pushBag (h : WAt f w wb V ps W) {x : Msg C} {u : Value} (hu : Bw (NW wb V ps) w u (msgD f x)) (hl : W.bag.length ≤ 1000000) :
    ∃ v' w2, (Builtin.append_ #[41, 41] 41 #[V.gv, .slice (some ⟨w.heap.size, 0, none⟩) 1 1]).run Try.prog (w.alloc (.cells #[.int .i64 (x.src : Int), .int .i64 (x.dst : Int), u] 62)) = .ok v' w2 ∧ wb < w2.heap.size ∧ w2.cell? ⟨wb, 3, none⟩ = some V.gv ∧ w2.frozen? ⟨wb, 3, none⟩ = false ∧
      WAt f (w2.setCell ⟨wb, 3, none⟩ v') wb { V with gv := v' } ps { W with bag := W.bag ++ [x] } ∧ Sep (FW wb V ps) w (w2.setCell ⟨wb, 3, none⟩ v') (FW wb { V with gv := v' } ps) ∧ (∃ a c, v' = .slice a (W.bag.length + 1) c) ∧ (∀ y, y < w.heap.size → NW wb V ps y → w2.heap[y]? = w.heap[y]?) := by
  have m1 : OwnM f 0 (fun x => NW wb V ps x ∧ x < w.heap.size) w V.gv W.bag := h.bag.mono (fun b h1 h2 => ⟨h1, h2⟩)
  obtain ⟨v', w2, r1, r2, r3, r4⟩ := m1.push (hu.mono (fun b h1 h2 => ⟨h1, h2⟩)) (fun b hb e => hb.1 (.inr (.inr (.inr (.inr (.inl e)))))) (Nat.zero_le _) (by omega)
  obtain ⟨k1, k2, k3, k4, k5⟩ := h.newBag (gv := v') r3.size r3.os r3.tape r3.output (fun x hx hn => r3.block x hx (fun e => hn e.symm)) (fun x hx => by
    rcases r4 with r4 | ⟨g, r4, r5⟩
    · exact .inl (by rw [← r4]; exact hx)
    · rw [hx] at r4; cases r4; exact .inr r5) (r2.mono (fun b hb _ => .inl hb))
  obtain ⟨a, c, hv⟩ := r2.slice
  exact ⟨v', w2, r1, k1, k2, k3, k4, k5, ⟨a, c, by rw [hv, List.length_append]; rfl⟩, fun y hy hN => r3.block y hy (fun e => hN (.inr (.inr (.inr (.inr (.inl e.symm))))))⟩

/-- One commit more in the row. -/
theorem WAt.pushRow (h : WAt f w wb V ps W) {c : C} {u : Value} (hu : Bw (NW wb V ps) w u (f c)) (hl : W.row.length ≤ 1000000) :
    ∃ v' w2, (Builtin.append_ #[32, 32] 32 #[V.rv, .slice (some ⟨w.heap.size, 0, none⟩) 1 1]).run Try.prog (w.alloc (.cells #[u] 28)) = .ok v' w2 ∧ wb < w2.heap.size ∧ w2.cell? ⟨wb, 5, none⟩ = some V.rv ∧ w2.frozen? ⟨wb, 5, none⟩ = false ∧
      WAt f (w2.setCell ⟨wb, 5, none⟩ v') wb { V with rv := v' } ps { W with row := W.row ++ [c] } ∧ Sep (FW wb V ps) w (w2.setCell ⟨wb, 5, none⟩ v') (FW wb { V with rv := v' } ps) ∧ (∃ a k, v' = .slice a (W.row.length + 1) k) ∧ (∀ y, y < w.heap.size → NW wb V ps y → w2.heap[y]? = w.heap[y]?) := by
  have m1 : CmdR f (fun x => NW wb V ps x ∧ x < w.heap.size) w V.rv W.row := h.row.mono (fun b h1 h2 => ⟨h1, h2⟩)
  obtain ⟨v', w2, r1, r2, r3, r4⟩ := m1.push (hu.mono (fun b h1 h2 => ⟨h1, h2⟩)) (fun b hb e => hb.1 (.inr (.inr (.inr (.inr (.inr (.inr (.inl e)))))))) (by omega)
  obtain ⟨k1, k2, k3, k4, k5⟩ := h.newRow (gv := v') r3.size r3.os r3.tape r3.output (fun x hx hn => r3.block x hx (fun e => hn e.symm)) (fun x hx => by
    rcases r4 with r4 | ⟨g, r4, r5⟩
    · exact .inl (by rw [← r4]; exact hx)
    · rw [hx] at r4; cases r4; exact .inr r5) (r2.mono (fun b hb _ => .inl hb))
  obtain ⟨a, c', hv⟩ := r2.slice
  exact ⟨v', w2, r1, k1, k2, k3, k4, k5, ⟨a, c', by rw [hv, List.length_append]; rfl⟩, fun y hy hN => r3.block y hy (fun e => hN (.inr (.inr (.inr (.inr (.inr (.inr (.inl e.symm))))))))⟩
theorem comRow_drop [DecidableEq C] {row : List C} {j : Nat} {x : Com C} (h : cs[j]? = some x) (hok : (comRow row (cs.drop j)).2 = true) :
    (x.idx = row.length + 1 ∧ comRow row (cs.drop j) = comRow (row ++ [x.cmd]) (cs.drop (j + 1))) ∨
    (x.idx ≠ row.length + 1 ∧ 1 ≤ x.idx ∧ row[x.idx - 1]? = some x.cmd ∧ comRow row (cs.drop j) = comRow row (cs.drop (j + 1))) := by
  obtain ⟨h1, h2⟩ := List.getElem?_eq_some_iff.1 h
  rw [List.drop_eq_getElem_cons h1, h2] at hok ⊢
  rw [comRow] at hok ⊢
  by_cases he : x.idx = row.length + 1
  · rw [if_pos he] at hok ⊢
    exact .inl ⟨he, rfl⟩
  · rw [if_neg he] at hok ⊢
    refine .inr ⟨he, ?_⟩
    cases hr : row[x.idx - 1]? with
    | none => rw [hr] at hok; cases hok
    | some c =>
      rw [hr] at hok
      simp only at hok ⊢
      by_cases hc : 1 ≤ x.idx ∧ c = x.cmd
      · rw [if_pos hc]
        exact ⟨hc.1, by rw [hc.2], rfl⟩
      · rw [if_neg hc] at hok; cases hok
/-- What the second loop has done behind j commits. -/
def Told2 [DecidableEq C] (f : C → List UInt8) (w : World) (wb : Nat) (V : Vs) (ps : List Pl) (W : Wd C) (ms : List (Msg C)) (cs : List (Com C)) (j : Nat) (wr : World) : Prop :=
  ∃ V1 row, WAt f wr wb V1 ps { W with bag := bagK W ms ms.length, row := row } ∧ Sep (FW wb V ps) w wr (FW wb V1 ps) ∧ comRow row (cs.drop j) = comRow W.row cs ∧ row.length ≤ W.row.length + j
theorem cat_did (l : List UInt8) : (⟨#[100, 105, 100, 32]⟩ : ByteArray) ++ ⟨l.toArray⟩ = ⟨(did ++ l).toArray⟩ := by
  apply ByteArray.ext
  simp [did]
/-- What the first loop has done behind j messages. -/
def Told1 (f : C → List UInt8) (w : World) (wb : Nat) (V : Vs) (ps : List Pl) (W : Wd C) (ms : List (Msg C)) (j : Nat) (wr : World) : Prop :=
  ∃ V1, WAt f wr wb V1 ps { W with bag := bagK W ms j } ∧ Sep (FW wb V ps) w wr (FW wb V1 ps)
def ToldPost (f : C → List UInt8) (w : World) (wb : Nat) (V : Vs) (ps : List Pl) (W' : Wd C) (e : Ending) (w' : World) : Prop :=
  e = .returned (.tuple #[]) ∧ ∃ V', WAt f w' wb V' ps W' ∧ Sep (FW wb V ps) w w' (FW wb V' ps)

set_option maxRecDepth 100000 in
set_option maxHeartbeats 8000000 in
theorem wtold_any [DecidableEq C] (h : WAt f w wb V ps W) (hm : MsgR f (NW wb V ps) w mv ms) (hk : ComR f (NW wb V ps) w kv cs) {i : Nat} (hms : msOk ps.length i ms = true) (hcs : (comRow W.row cs).2 = true)
    (hb : W.bag.length ≤ 900000) (hr : W.row.length + cs.length ≤ 1000000) (hxi : ∀ x ∈ cs, x.idx ≤ 1000000000) (hf : ∀ c, (f c).length ≤ 1048576) (hml : ms.length ≤ 1000000) (hps : ps.length ≤ 1000) :
    Calls Try.prog 20 #[.pointer (some ⟨wb, 0, none⟩), .int .i64 (i : Int), mv, kv] w (ToldPost f w wb V ps { W with bag := bagK W ms ms.length, row := (comRow W.row cs).1 }) := by
  have H := Lib.hid h
  have Hm := Lib.hid hm
  have Hk := Lib.hid hk
  have Hms := Lib.hid hms
  have Hcs := Lib.hid hcs
  have Hxi := Lib.hid hxi
  obtain ⟨ma, mc, rfl⟩ := hm.slice
  obtain ⟨ka, kc, rfl⟩ := hk.slice
  clear h hm hk hms hcs hxi
  go_enter Try.func20, Try.ntmps20
  go_wp2_with fail
  go_loopw [8] (fun iv wr => ∃ j : Nat, iv = .int .i64 j ∧ j ≤ ms.length ∧ Told1 f w wb V ps W ms j wr) (fun iv _ => ms.length - (intOf iv).toNat)
  case atStart => exact ⟨0, rfl, Nat.zero_le _, V, by
    have : ({ W with bag := bagK W ms 0 } : Wd C) = W := by simp [bagK]
    rw [this]; exact H.out, Sep.refl _ _⟩
  case round =>
    obtain ⟨j, rfl, hj, V1, hw1, hs1⟩ := hrel
    have Hw1 := Lib.hid hw1
    have Hs1 := Lib.hid hs1
    by_cases hlt : j < ms.length
    · obtain ⟨x, hx⟩ : ∃ x, ms[j]? = some x := ⟨ms[j], by simp [hlt]⟩
      have hmr := hs1.msgR Hm.out
      obtain ⟨b, o, c', u, hv, hNb, hbl, x0, x1, x2, hu⟩ := hmr.getN hx
      cases hv
      have Hu := Lib.hid hu
      obtain ⟨ua, uc, rfl⟩ := hu.slice
      have hok : x.src = i ∧ x.dst < ps.length ∧ ¬ x.dst = i := by
        have := List.all_eq_true.1 Hms.out x (List.mem_of_getElem? hx)
        simpa [and_assoc] using this
      have e1 : ((x.src : Int) != (i : Int)) = false := by simp; omega
      have e2 : decide ((x.dst : Int) < 0) = false := by simp
      have e3 : decide ((ps.length : Int) ≤ (x.dst : Int)) = false := by simp; omega
      have e4 : ((x.dst : Int) == (i : Int)) = false := by simp; omega
      have e3' : decide (ps.length ≤ x.dst) = false := by simp; omega
      have hj1 : (j : Int) < (ms.length : Int) := by omega
      obtain ⟨n0, n1, n2, n3, n4, n5, n6⟩ := hw1.cells
      obtain ⟨na, nc, hnv⟩ := hw1.nrow.slice
      rw [List.length_map] at hnv
      have hwl := hw1.wlt
      rw [hnv] at n0
      have Hx := Lib.hid hx
      clear hw1 hs1 hmr hu hok hx
      go_wp2_with fail
      refine wp_region_row (fun W => W = wr.drew) [] (by kernel_rfl) (fun c a d v w h => by cases d <;> exact h) rfl ?_
      have hgd := Grow.drew wr
      obtain ⟨wd, hwd⟩ : ∃ W, W = wr.drew := ⟨_, rfl⟩
      rw [← hwd] at hgd
      simp only [← hwd]
      clear hwd
      have hwd1 := Hw1.out.grow hgd
      have Hwd := Lib.hid hwd1
      have Hsd := Lib.hid (Hs1.out.grow hgd)
      have Hud := Lib.hid (Hu.out.grow hgd)
      have y0 := (hgd.cell hbl).trans x0
      have y1 := (hgd.cell hbl).trans x1
      have y2 := (hgd.cell hbl).trans x2
      have hbd := Nat.lt_of_lt_of_le hbl hgd.size
      clear x0 x1 x2 n0 n1 n2 n3 n4 n5 n6 hwl hbl Hw1 Hs1 Hu hgd
      obtain ⟨n0, n1, n2, n3, n4, n5, n6⟩ := hwd1.cells
      have hwl := hwd1.wlt
      rw [hnv] at n0
      clear hwd1
      simp only [inRow]
      repeat ((first | (apply wpPi_quiet; rfl; rintro W rfl; go_simp; with_reducible rfl) | (apply wpPi_off; rfl)); simp only [putA, List.set])
      refine wpPi_nil ?_
      clear e1 e2 e3 e3' e4
      obtain ⟨ga, gc, hgv⟩ := Hwd.out.bag.slice
      obtain ⟨BL, hBL⟩ : ∃ n, (bagK W ms j).length = n := ⟨_, rfl⟩
      rw [show ({ W with bag := bagK W ms j } : Wd C).bag.length = BL from hBL] at hgv
      rw [hgv] at n3
      have HBL := Lib.hid hBL
      have Hgv := Lib.hid hgv
      clear hgv hBL
      by_cases hfu : BL < 400
      · have d1 : decide ((BL : Int) < 400) = true := by simp; omega
        have d2 : decide (BL < 400) = true := by simp; omega
        have Hfu := Lib.hid hfu
        clear hfu
        go_wp2_with fail
        have hgd := Grow.drew wd
        have hwe := Hwd.out.grow hgd
        obtain ⟨v', w2, r1, k1, k2, k3, k4, k5, ⟨va, vc, rfl⟩, k6⟩ := hwe.pushBag (Hud.out.grow hgd) (by rw [show ({ W with bag := bagK W ms j } : Wd C).bag.length = BL from HBL.out]; have := Hfu.out; omega)
        have z0 := (hgd.cell hbd).trans y0
        have z1 := (hgd.cell hbd).trans y1
        have z2 := (hgd.cell hbd).trans y2
        have hbe := Nat.lt_of_lt_of_le hbd hgd.size
        have z3 := (hwe.cells).2.2.2.1
        rw [Hgv.out] at z3 k2 r1
        have hwe1 := hwe.wlt
        have t0 : w2.cell? ⟨b, o + j * 3, none⟩ = some (.int .i64 (x.src : Int)) := by rw [← z0]; simp [World.cell?, k6 b hbe hNb]
        have t1 : w2.cell? ⟨b, o + j * 3 + 1, none⟩ = some (.int .i64 (x.dst : Int)) := by rw [← z1]; simp [World.cell?, k6 b hbe hNb]
        have t2 : w2.cell? ⟨b, o + j * 3 + 2, none⟩ = some (.slice ua (msgD f x).length uc) := by rw [← z2]; simp [World.cell?, k6 b hbe hNb]
        have hwbb : wb ≠ wd.drew.heap.size := by omega
        have hbbb : b ≠ wd.drew.heap.size := by omega
        have hzz : ({ W with bag := bagK W ms j } : Wd C).bag.length + 1 = BL + 1 := by rw [show ({ W with bag := bagK W ms j } : Wd C).bag.length = BL from HBL.out]
        rw [hzz] at k4 k5 r1
        have Hr1 := Lib.hid r1
        have Hrel : Hid (Told1 f w wb V ps W ms (j + 1) (w2.setCell ⟨wb, 3, none⟩ (.slice va (BL + 1) vc))) := Lib.hid ⟨_, by rw [bagK_push Hx.out (by rw [HBL.out]; exact Hfu.out)]; exact k4, (Hsd.out.grow hgd).trans k5⟩
        obtain ⟨BM, hBM⟩ : ∃ n, n = BL + 1 := ⟨_, rfl⟩
        rw [← hBM] at Hr1 Hrel
        have HBM := Lib.hid hBM
        clear hBM hzz k4 k5 k6 r1 y0 y1 y2 n0 n1 n2 n3 n4 n5 n6 hwe
        refine wp_region_last (fun Wx => Wx.cell? ⟨wb, 3, none⟩ = some (.slice ga BL gc) ∧ wb < Wx.heap.size ∧ Wx.cell? ⟨b, o + j * 3, none⟩ = some (.int .i64 (x.src : Int)) ∧ Wx.cell? ⟨b, o + j * 3 + 1, none⟩ = some (.int .i64 (x.dst : Int)) ∧ Wx.cell? ⟨b, o + j * 3 + 2, none⟩ = some (.slice ua (msgD f x).length uc)) [(0, false), (1, false), (2, false), (3, false), (4, false), (5, false), (6, false), (7, false), (8, false), (9, true), (10, true), (11, false), (12, false)] 13 (by kernel_rfl) (by kernel_rfl) (fun c a d v w h => by cases d <;> exact h) ⟨z3, hwe1, z0, z1, z2⟩ ?_
        generalize wd.drew = we at *
        simp only [arrange, nth]
        repeat ((first | (apply wpPi_quiet; rfl; rintro W ⟨hW0, hW1, hW2, hW3, hW4⟩; go_simp; with_reducible rfl) | (apply wpPi_off; rfl)); simp only [putA, List.set])
        refine wpPi_act (by rfl) (fun K hK => ?_)
        go_simp
        refine hK _ _ ⟨⟨by go_simp, by (go_simp <;> omega), by go_simp, by go_simp, by go_simp⟩, ?_⟩
        clear hK K
        try first | simp only [putA, List.set] | simp only [putN]
        refine wpPi_run (by rfl) (execOp_append rfl rfl rfl Hr1.out) ⟨k2, k1, t0, t1, t2⟩ ?_
        try first | simp only [putA, List.set] | simp only [putN]
        repeat ((first | (apply wpPi_quiet; rfl; rintro W ⟨hW0, hW1, hW2, hW3, hW4⟩; go_simp; with_reducible rfl) | (apply wpPi_off; rfl)); simp only [putA, List.set])
        refine wpPi_nil (lastQ_act (by rfl) (fun K hK => ?_))
        go_simp
        refine hK _ _ ?_
        clear hK K
        try first | simp only [putA, List.set] | simp only [putN]
        generalize w2.setCell ⟨wb, 3, none⟩ (.slice va BM vc) = w3 at *
        go_wp2_with fail
        go_roundw
        case rel => exact ⟨j + 1, by simp, hlt, Hrel.out⟩
        case measure => simp [intOf]; omega
      · have d1 : decide ((BL : Int) < 400) = false := by simp; omega
        have d2 : decide (BL < 400) = false := by simp; omega
        have Hfu := Lib.hid hfu
        clear hfu
        go_wp2_with fail
        go_roundw
        case rel => exact ⟨j + 1, by simp, hlt, V1, by rw [bagK_full hlt (by rw [HBL.out]; exact Hfu.out)]; exact Hwd.out, Hsd.out⟩
        case measure => simp [intOf]; omega
    · obtain rfl : j = ms.length := by omega
      have hwl := hw1.wlt
      clear hw1 hs1 hlt hj
      go_wp2_with fail
      go_loopw [9] (fun iv wr => ∃ j : Nat, iv = .int .i64 j ∧ j ≤ cs.length ∧ Told2 f w wb V ps W ms cs j wr) (fun iv _ => cs.length - (intOf iv).toNat)
      case atStart => exact ⟨0, rfl, Nat.zero_le _, V1, W.row, Hw1.out, Hs1.out, rfl, Nat.le_refl _⟩
      case round =>
        clear Hw1 Hs1
        obtain ⟨j, rfl, hj, V2, row, hw2, hs2, hcr, hrl⟩ := hrel
        have Hw2 := Lib.hid hw2
        have Hs2 := Lib.hid hs2
        have Hcr := Lib.hid hcr
        have Hrl := Lib.hid hrl
        by_cases hlt : j < cs.length
        · obtain ⟨x, hx⟩ : ∃ x, cs[j]? = some x := ⟨cs[j], by simp [hlt]⟩
          have hkr := hs2.comR Hk.out
          obtain ⟨b, o, c', u, q, hv, hNb, hbl, x0, x1, x2, hu, hq⟩ := hkr.getN hx
          cases hv
          have Hu := Lib.hid hu
          have Hq := Lib.hid hq
          obtain ⟨ua, uc, rfl⟩ := hu.slice
          obtain ⟨qa, qc, rfl⟩ := hq.slice
          have hj1 : (j : Int) < (cs.length : Int) := by omega
          have hxb : x.idx ≤ 1000000000 := Hxi.out x (List.mem_of_getElem? hx)
          have hcd := comRow_drop hx (by rw [hcr]; exact Hcs.out)
          have Hcd := Lib.hid hcd
          have Hx := Lib.hid hx
          obtain ⟨RL, hRL⟩ : ∃ n, row.length = n := ⟨_, rfl⟩
          have HRL := Lib.hid hRL
          have hrl2 : RL ≤ 1000000 := by omega
          have hwi : IntKind.i64.wrap ((RL : Int) + 1) = (RL : Int) + 1 := IntWalk.i64_in _ (by omega)
          have hwu : IntKind.u64.wrap ((RL : Int) + 1) = (RL : Int) + 1 := by simp [IntKind.wrap, IntKind.bits, IntKind.signed]; omega
          have hwu0 : IntKind.u64.wrap (RL : Int) = (RL : Int) := by simp [IntKind.wrap, IntKind.bits, IntKind.signed]; omega
          have hga : Grow wr (wr.alloc (.cells #[.int .u64 (x.idx : Int), .slice ua (f x.cmd).length uc, .slice qa (ansD f x).length qc] 86)) := Grow.alloc _ _
          have hxa := heap_alloc_new wr (.cells #[.int .u64 (x.idx : Int), .slice ua (f x.cmd).length uc, .slice qa (ansD f x).length qc] 86)
          have Hga := Lib.hid hga
          have Hxa := Lib.hid hxa
          have hNx : NW wb V2 ps wr.heap.size := fun hF => by have := hw2.lt hF; omega
          have HNx := Lib.hid hNx
          clear hw2 hs2 hcr hrl hkr hu hq hx hcd hRL hga hxa hNx hNb
          go_upto_region 11 with fail
          have hgd := Hga.out.trans (Grow.drew (wr.alloc (.cells #[.int .u64 (x.idx : Int), .slice ua (f x.cmd).length uc, .slice qa (ansD f x).length qc] 86)))
          have hxd := (Grow.drew _).heap Hxa.out
          refine wp_region_row (fun W => W = (wr.alloc (.cells #[.int .u64 (x.idx : Int), .slice ua (f x.cmd).length uc, .slice qa (ansD f x).length qc] 86)).drew) [] (by kernel_rfl) (fun c a d v w h => by cases d <;> exact h) rfl ?_
          obtain ⟨wd, hwd⟩ : ∃ W, W = (wr.alloc (.cells #[.int .u64 (x.idx : Int), .slice ua (f x.cmd).length uc, .slice qa (ansD f x).length qc] 86)).drew := ⟨_, rfl⟩
          rw [← hwd] at hgd hxd
          simp only [← hwd]
          clear hwd
          obtain ⟨xb, hxbd⟩ : ∃ g, g = wr.heap.size := ⟨_, rfl⟩
          rw [← hxbd] at hxd HNx ⊢
          clear hxbd Hga Hxa
          have hwd2 := Hw2.out.grow hgd
          obtain ⟨n0, n1, n2, n3, n4, n5, n6⟩ := hwd2.cells
          have hwl' := hwd2.wlt
          obtain ⟨ra, rc, hrv⟩ := hwd2.row.slice
          rw [show ({ W with bag := bagK W ms ms.length, row := row } : Wd C).row.length = RL from HRL.out] at hrv
          have Hrv := Lib.hid hrv
          rw [hrv] at n5
          have y0 : wd.cell? ⟨xb, 0, none⟩ = some (.int .u64 (x.idx : Int)) := by simp [World.cell?, hxd]
          have y1 : wd.cell? ⟨xb, 1, none⟩ = some (.slice ua (f x.cmd).length uc) := by simp [World.cell?, hxd]
          have y2 : wd.cell? ⟨xb, 2, none⟩ = some (.slice qa (ansD f x).length qc) := by simp [World.cell?, hxd]
          have lx : xb < wd.heap.size := lt_of_getElem? hxd
          have Hwd := Lib.hid hwd2
          have Hsd := Lib.hid (Hs2.out.grow hgd)
          have Hud := Lib.hid (Hu.out.grow hgd)
          have Hqd := Lib.hid (Hq.out.grow hgd)
          have Hxd := Lib.hid hxd
          clear hwd2 hrv hwl x0 x1 x2 hbl hgd hxd Hu Hq Hw2 Hs2
          simp only [inRow]
          rcases Hcd.out with ⟨hia, hca⟩ | ⟨hin, hi1, hget, hca⟩
          · have ei : ((x.idx : Int) == (RL : Int) + 1) = true := by rw [hia, HRL.out]; simp
            have Hca := Lib.hid hca
            clear hia hca Hcd
            repeat ((first | (apply wpPi_quiet; rfl; rintro W rfl; go_simp; with_reducible rfl) | (apply wpPi_off; rfl)); simp only [putA, List.set])
            refine wpPi_nil ?_
            go_wp2_with fail
            have hgd := Grow.drew wd
            have hwe := Hwd.out.grow hgd
            obtain ⟨v', w2, r1, k1, k2, k3, k4, k5, ⟨va, vc, rfl⟩, k6⟩ := hwe.pushRow (Hud.out.grow hgd) (by rw [show ({ W with bag := bagK W ms ms.length, row := row } : Wd C).row.length = RL from HRL.out]; omega)
            have z1 := (hgd.cell lx).trans y1
            have lx1 := Nat.lt_of_lt_of_le lx hgd.size
            have z5 := (hwe.cells).2.2.2.2.2.1
            rw [Hrv.out] at z5 k2 r1
            have hwe1 := hwe.wlt
            have t1 : w2.cell? ⟨xb, 1, none⟩ = some (.slice ua (f x.cmd).length uc) := by rw [← z1]; simp [World.cell?, k6 xb lx1 HNx.out]
            have lx2 := Nat.lt_of_lt_of_le lx1 (show wd.drew.heap.size ≤ w2.heap.size by simpa using k5.size)
            have hwbb : wb ≠ wd.drew.heap.size := by omega
            have hxbb : xb ≠ wd.drew.heap.size := by omega
            have hwx : xb ≠ wb := fun e => HNx.out (.inl e)
            have hzz : ({ W with bag := bagK W ms ms.length, row := row } : Wd C).row.length + 1 = RL + 1 := by rw [show ({ W with bag := bagK W ms ms.length, row := row } : Wd C).row.length = RL from HRL.out]
            rw [hzz] at k4 k5 r1
            have Hr1 := Lib.hid r1
            have Hrel : Hid (Told2 f w wb V ps W ms cs (j + 1) (w2.setCell ⟨wb, 5, none⟩ (.slice va (RL + 1) vc))) := Lib.hid ⟨_, row ++ [x.cmd], k4, (Hsd.out.grow hgd).trans k5, by rw [← Hca.out]; exact Hcr.out, by have := Hrl.out; simp; omega⟩
            have Hu7 := Lib.hid (k5.bw (Hud.out.grow hgd))
            have Hq7 := Lib.hid (k5.bw (Hqd.out.grow hgd))
            have hx7 : (w2.setCell ⟨wb, 5, none⟩ (.slice va (RL + 1) vc)).heap[xb]? = some (.cells #[.int .u64 (x.idx : Int), .slice ua (f x.cmd).length uc, .slice qa (ansD f x).length qc] 86 (0, 0)) := (Below.heap_setCell _ _ _ _ hwx).trans ((k6 xb lx1 HNx.out).trans (hgd.heap Hxd.out))
            have Hx7 := Lib.hid hx7
            obtain ⟨BM, hBM⟩ : ∃ n, n = RL + 1 := ⟨_, rfl⟩
            rw [← hBM] at Hr1 Hrel Hu7 Hq7 Hx7
            have HBM := Lib.hid hBM
            clear hBM hzz k4 k5 k6 r1 y0 y1 y2 n0 n1 n2 n3 n4 n5 n6 hwe hx7 hgd Hwd Hsd Hud Hqd Hxd hwl'
            refine wp_region_last (fun Wx => Wx.cell? ⟨wb, 5, none⟩ = some (.slice ra RL rc) ∧ wb < Wx.heap.size ∧ Wx.cell? ⟨xb, 1, none⟩ = some (.slice ua (f x.cmd).length uc) ∧ xb < Wx.heap.size) [(0, false), (1, false), (2, false), (3, false), (4, false), (5, false), (6, false), (7, true), (8, true), (9, false), (10, false)] 11 (by kernel_rfl) (by kernel_rfl) (fun c a d v w h => by cases d <;> exact h) ⟨z5, hwe1, z1, lx1⟩ ?_
            generalize wd.drew = we at *
            simp only [arrange, nth]
            repeat ((first | (apply wpPi_quiet; rfl; rintro W ⟨hW0, hW1, hW2, hW3⟩; go_simp; with_reducible rfl) | (apply wpPi_off; rfl)); simp only [putA, List.set])
            refine wpPi_act (by rfl) (fun K hK => ?_)
            go_simp
            refine hK _ _ ⟨⟨by go_simp, by (go_simp <;> omega), by go_simp, by (go_simp <;> omega)⟩, ?_⟩
            clear hK K
            try first | simp only [putA, List.set] | simp only [putN]
            refine wpPi_run (by rfl) (execOp_append rfl rfl rfl Hr1.out) ⟨k2, k1, t1, lx2⟩ ?_
            try first | simp only [putA, List.set] | simp only [putN]
            repeat ((first | (apply wpPi_quiet; rfl; rintro W ⟨hW0, hW1, hW2, hW3⟩; go_simp; with_reducible rfl) | (apply wpPi_off; rfl)); simp only [putA, List.set])
            refine wpPi_nil (lastQ_act (by rfl) (fun K hK => ?_))
            go_simp
            refine hK _ _ ?_
            clear hK K
            try first | simp only [putA, List.set] | simp only [putN]
            clear z1 lx1 z5 hwe1 t1 lx2 k1 k2 k3 hwbb hxbb Hr1
            generalize w2.setCell ⟨wb, 5, none⟩ (.slice va BM vc) = w7 at *
            have y1 : w7.cell? ⟨xb, 1, none⟩ = some (.slice ua (f x.cmd).length uc) := by simp [World.cell?, Hx7.out]
            have y2 : w7.cell? ⟨xb, 2, none⟩ = some (.slice qa (ansD f x).length qc) := by simp [World.cell?, Hx7.out]
            have ly : xb < w7.heap.size := lt_of_getElem? Hx7.out
            have hc1 := conv_text Hq7.out.1
            have hc2 := conv_text Hu7.out.1
            cases han : x.ans with
            | false =>
              have ha0 : ansD f x = [] := by unfold ansD; rw [han]; rfl
              rw [ha0] at y2
              rw [List.length_nil] at y2
              clear hc1 hc2
              go_wp2_with fail
              go_roundw
              case rel => exact ⟨j + 1, by simp, hlt, Hrel.out⟩
              case measure => simp [intOf]; omega
            | true =>
              have ha1 : ansD f x = did ++ f x.cmd := by unfold ansD; rw [if_pos han]
              obtain ⟨S, hS⟩ : ∃ s : ByteArray, (⟨(ansD f x).toArray⟩ : ByteArray) = s := ⟨_, rfl⟩
              have hcat : (⟨#[100, 105, 100, 32]⟩ : ByteArray) ++ ⟨(f x.cmd).toArray⟩ = S := by rw [← hS, ha1]; exact cat_did _
              rw [hS] at hc1
              obtain ⟨AL, hAL⟩ : ∃ n, (ansD f x).length = n := ⟨_, rfl⟩
              have hp0 : 0 < AL := by rw [← hAL, ha1]; simp [did]
              have hp1 : decide ((0 : Int) < (AL : Int)) = true := by simp; omega
              have hp2 : decide (0 < AL) = true := by simp; omega
              have hsz : ¬ (9223372036854775807 < 4 + (f x.cmd).length) := by have := hf x.cmd; omega
              rw [hAL] at y2 hc1
              clear hS hAL
              go_wp2_with fail
              go_roundw
              case rel => exact ⟨j + 1, by simp, hlt, Hrel.out⟩
              case measure => simp [intOf]; omega
          · have ei : ((x.idx : Int) == (RL : Int) + 1) = false := by have := HRL.out; simp; omega
            have hln : ((x.idx : Int) < 1) = False := by simp; omega
            have hl1 : decide ((x.idx : Int) < 1) = false := by simp; omega
            have hlt2 : x.idx - 1 < RL := by have := (List.getElem?_eq_some_iff.1 hget).1; rw [HRL.out] at this; exact this
            have hl2 : decide ((RL : Int) < (x.idx : Int)) = false := by simp; omega
            have hl3 : decide (RL < x.idx) = false := by simp; omega
            obtain ⟨g, cap, u2, hrv2, hg2, hcu, hbu⟩ := Hwd.out.row.get hget
            rw [show ({ W with bag := bagK W ms ms.length, row := row } : Wd C).row.length = RL from HRL.out] at hrv2
            change V2.rv = _ at hrv2
            rw [Hrv.out] at hrv2
            cases hrv2
            obtain ⟨ta, tc, rfl⟩ := hbu.slice
            obtain ⟨ix, hix⟩ : ∃ n, x.idx = n + 1 := ⟨x.idx - 1, by omega⟩
            have hix1 : x.idx - 1 = ix := by omega
            rw [hix1] at hcu hlt2
            have hsub : IntKind.u64.wrap ((x.idx : Int) - 1) = (ix : Int) := by rw [hix]; simp [IntKind.wrap, IntKind.bits, IntKind.signed]; omega
            have hsub2 : (x.idx : Int) - 1 = (ix : Int) := by omega
            have hixw : IntKind.u64.wrap (ix : Int) = (ix : Int) := by simp [IntKind.wrap, IntKind.bits, IntKind.signed]; omega
            have hix2 : (ix : Int) < (RL : Int) := by omega
            have Hbu := Lib.hid hbu
            have Hca := Lib.hid hca
            clear hin hi1 hget hca Hcd hbu hix hix1
            repeat ((first | (apply wpPi_quiet; rfl; rintro W rfl; go_simp; with_reducible rfl) | (apply wpPi_off; rfl)); simp only [putA, List.set])
            refine wpPi_nil ?_
            go_wp2_with fail
            have hgd := Grow.drew wd
            refine wp_region_row (fun W => W = wd.drew) [] (by kernel_rfl) (fun c a d v w h => by cases d <;> exact h) rfl ?_
            obtain ⟨w7, hw7⟩ : ∃ W, W = wd.drew := ⟨_, rfl⟩
            rw [← hw7] at hgd
            simp only [← hw7]
            clear hw7
            have Hrel : Hid (Told2 f w wb V ps W ms cs (j + 1) w7) := Lib.hid ⟨_, row, Hwd.out.grow hgd, Hsd.out.grow hgd, by rw [← Hca.out]; exact Hcr.out, by have := Hrl.out; omega⟩
            have Hu7 := Lib.hid (Hud.out.grow hgd)
            have Hq7 := Lib.hid (Hqd.out.grow hgd)
            have Hx7 := Lib.hid (hgd.heap Hxd.out)
            have z0 := (hgd.cell lx).trans y0
            have z1 := (hgd.cell lx).trans y1
            have z5 := (hgd.cell hwl').trans n5
            have zc := (hgd.cell hg2).trans hcu
            have lx1 := Nat.lt_of_lt_of_le lx hgd.size
            have lw1 := Nat.lt_of_lt_of_le hwl' hgd.size
            have lg1 := Nat.lt_of_lt_of_le hg2 hgd.size
            have hc1 := conv_text (Hbu.out.grow hgd).1
            have hc2 := conv_text Hu7.out.1
            clear y0 y1 y2 n0 n1 n2 n3 n4 n5 n6 lx hwl' hg2 hcu hgd Hwd Hsd Hud Hqd Hxd Hbu
            simp only [inRow]
            repeat ((first | (apply wpPi_quiet; rfl; rintro W rfl; go_simp; with_reducible rfl) | (apply wpPi_off; rfl)); simp only [putA, List.set])
            refine wpPi_nil ?_
            clear z0 z1 z5 zc hc1 hc2 lx1
            have y1 : w7.cell? ⟨xb, 1, none⟩ = some (.slice ua (f x.cmd).length uc) := by simp [World.cell?, Hx7.out]
            have y2 : w7.cell? ⟨xb, 2, none⟩ = some (.slice qa (ansD f x).length qc) := by simp [World.cell?, Hx7.out]
            have ly : xb < w7.heap.size := lt_of_getElem? Hx7.out
            have hc1 := conv_text Hq7.out.1
            have hc2 := conv_text Hu7.out.1
            cases han : x.ans with
            | false =>
              have ha0 : ansD f x = [] := by unfold ansD; rw [han]; rfl
              rw [ha0] at y2
              rw [List.length_nil] at y2
              clear hc1 hc2
              go_wp2_with fail
              go_roundw
              case rel => exact ⟨j + 1, by simp, hlt, Hrel.out⟩
              case measure => simp [intOf]; omega
            | true =>
              have ha1 : ansD f x = did ++ f x.cmd := by unfold ansD; rw [if_pos han]
              obtain ⟨S, hS⟩ : ∃ s : ByteArray, (⟨(ansD f x).toArray⟩ : ByteArray) = s := ⟨_, rfl⟩
              have hcat : (⟨#[100, 105, 100, 32]⟩ : ByteArray) ++ ⟨(f x.cmd).toArray⟩ = S := by rw [← hS, ha1]; exact cat_did _
              rw [hS] at hc1
              obtain ⟨AL, hAL⟩ : ∃ n, (ansD f x).length = n := ⟨_, rfl⟩
              have hp0 : 0 < AL := by rw [← hAL, ha1]; simp [did]
              have hp1 : decide ((0 : Int) < (AL : Int)) = true := by simp; omega
              have hp2 : decide (0 < AL) = true := by simp; omega
              have hsz : ¬ (9223372036854775807 < 4 + (f x.cmd).length) := by have := hf x.cmd; omega
              rw [hAL] at y2 hc1
              clear hS hAL
              go_wp2_with fail
              go_roundw
              case rel => exact ⟨j + 1, by simp, hlt, Hrel.out⟩
              case measure => simp [intOf]; omega
        · obtain rfl : j = cs.length := by omega
          have hrow : row = (comRow W.row cs).1 := by rw [← hcr, List.drop_length]; rfl
          have Hrow := Lib.hid hrow
          clear hw2 hs2 hcr hrl hrow hlt hj hwl
          go_wp2_with fail
          have hpost : ToldPost f w wb V ps { W with bag := bagK W ms ms.length, row := (comRow W.row cs).1 } (.returned (.tuple #[])) wr := ⟨rfl, V2, by rw [← Hrow.out]; exact Hw2.out, Hs2.out⟩
          exact ⟨rfl, .tuple #[], by simp [results, Try.results20, go_sem], hpost⟩
end
end Go.Proofs.Ytfchjoejdijjeaa
