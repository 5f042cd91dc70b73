/- Merged out of FK, FL, FM: helpers. -/
import Derived.Test.YtfchjoejdijjeaaCX
import Derived.Test.YtfchjoejdijjeaaCU
import Derived.Test.YtfchjoejdijjeaaCA
set_option linter.unusedSimpArgs false
set_option linter.unusedVariables false
/- The law's world: a master's command. -/
namespace Go.Proofs.Ytfchjoejdijjeaa
open Go.RowKit Go.Gl Go.Wal Go.Ch Go.Shelf
section
variable {C : Type} {f : C → List UInt8} {w w' w1 w2 : World} {wb : Nat} {V : Vs} {ps : List Pl} {W : Wd C} {L K : Nat}
theorem placeF_none {n : Nat} : ∀ {l : List Mem} {k : Nat}, placeF n l k = none → n ∉ l.map (·.node)
  | [], _, _ => by simp
  | m :: l, k, h => by
    unfold placeF at h
    split at h
    · cases h
    · rename_i hne
      have := placeF_none h
      simp only [List.map_cons, List.mem_cons, not_or]
      exact ⟨fun e => hne e.symm, this⟩
theorem map_set_node {l : List Mem} {i : Nat} {m : Mem} (h : l[i]? = some m) (m' : Mem) (e : m'.node = m.node) : (l.set i m').map (·.node) = l.map (·.node) := by
  apply List.ext_getElem?
  intro j
  simp only [List.getElem?_map, List.getElem?_set]
  by_cases hj : i = j
  · subst hj
    obtain ⟨h1, h2⟩ := List.getElem?_eq_some_iff.1 h
    simp [h1, e, h2]
  · simp [hj]
theorem placed_mem {n x : Nat} : ∀ {l : List Nat}, x ∈ placedStore n l → x = n ∨ x ∈ l
  | [], h => .inl (by simpa [placedStore] using h)
  | m :: l, h => by
    unfold placedStore at h
    split at h
    · rcases List.mem_cons.1 h with h | h
      · exact .inl h
      · exact .inr h
    · rcases List.mem_cons.1 h with h | h
      · exact .inr (by rw [h]; exact List.mem_cons_self)
      · rcases placed_mem h with h | h
        · exact .inl h
        · exact .inr (List.mem_cons_of_mem _ h)
theorem placed_pw {n : Nat} : ∀ {l : List Nat}, l.Pairwise (· < ·) → l.contains n = false → (placedStore n l).Pairwise (· < ·)
  | [], _, _ => by simp [placedStore]
  | m :: l, h, hn => by
    rw [List.contains_cons, Bool.or_eq_false_iff] at hn
    have hm : ¬ n = m := by simpa using hn.1
    unfold placedStore
    split
    · rename_i hlt
      refine List.pairwise_cons.2 ⟨fun x hx => ?_, h⟩
      rcases List.mem_cons.1 hx with hx | hx
      · omega
      · have := (List.pairwise_cons.1 h).1 x hx; omega
    · rename_i hlt
      obtain ⟨h1, h2⟩ := List.pairwise_cons.1 h
      refine List.pairwise_cons.2 ⟨fun x hx => ?_, placed_pw h2 hn.2⟩
      rcases placed_mem hx with hx | hx
      · omega
      · exact h1 x hx
theorem pw_len {k : Nat} : ∀ {l : List Nat} {b : Nat}, l.Pairwise (· < ·) → (∀ x ∈ l, b ≤ x ∧ x < k) → l.length ≤ k - b
  | [], _, _, _ => Nat.zero_le _
  | m :: l, b, h, hb => by
    obtain ⟨h1, h2⟩ := List.pairwise_cons.1 h
    have := pw_len (b := m + 1) h2 (fun x hx => ⟨h1 x hx, (hb x (List.mem_cons_of_mem _ hx)).2⟩)
    have := hb m List.mem_cons_self
    simp only [List.length_cons]; omega
theorem doM_ok {c c' : Cfg} {x : Cmd} (hc : CfgOk c) (hx : CmdOk x) (hep : c.epoch < 1099511627776) (h : doM c x = some c') : CfgOk c' ∧ c'.epoch ≤ c.epoch + 1 := by
  have hm : ¬ (c.epoch = mostN) := by unfold mostN; omega
  rcases (show x.kind = 1 ∨ x.kind = 2 ∨ x.kind = 3 ∨ x.kind = 4 by have := hx.k1; have := hx.k4; omega) with hk | hk | hk | hk
  · cases hp : place c.chain x.node with
    | some i => rw [do1_some hm hk hp] at h; cases h
    | none =>
      by_cases h5 : 5 ≤ c.chain.length
      · rw [do1_full hm hk hp h5] at h; cases h
      · rw [do1_ok hm hk hp h5] at h
        cases h
        refine ⟨⟨by show c.epoch + 1 ≤ _; omega, by simp; omega, .inr ?_, fun m hmm => ?_, fun m hmm => ?_, ?_, hc.st, hc.st16, hc.stl⟩, Nat.le_refl _⟩
        · unfold anyWhole
          rw [List.any_append]
          rcases hc.wh with h0 | h0
          · rw [h0]; rfl
          · unfold anyWhole at h0; rw [h0]; rfl
        · rcases List.mem_append.1 hmm with hmm | hmm
          · exact hc.node m hmm
          · rw [List.mem_singleton.1 hmm]; exact hx.node
        · rcases List.mem_append.1 hmm with hmm | hmm
          · exact hc.birth m hmm
          · rw [List.mem_singleton.1 hmm]; exact hx.birth
        · rw [List.map_append, List.nodup_append]
          exact ⟨hc.uniq, by simp, fun a ha b hb e => by
            have hb' : b = x.node := by simpa using hb
            rw [e, hb'] at ha
            exact placeF_none hp ha⟩
  · cases hp : place c.chain x.node with
    | none => rw [do2_none hm hk hp] at h; cases h
    | some i =>
      cases ha : anyWhole (c.chain.eraseIdx i) with
      | false => rw [do2_bad hm hk hp ha] at h; cases h
      | true =>
        rw [do2_ok hm hk hp ha] at h
        cases h
        refine ⟨⟨by show c.epoch + 1 ≤ _; omega, Nat.le_trans (List.length_eraseIdx_le _ _) hc.len, .inr ha, fun m hmm => hc.node m (List.mem_of_mem_eraseIdx hmm), fun m hmm => hc.birth m (List.mem_of_mem_eraseIdx hmm), ?_, hc.st, hc.st16, hc.stl⟩, Nat.le_refl _⟩
        exact List.Nodup.sublist ((List.eraseIdx_sublist _ _).map _) hc.uniq
  · by_cases he : x.epoch = c.epoch
    · cases hp : place c.chain x.node with
      | none => rw [do3_none hm hk hp] at h; cases h
      | some i =>
        obtain ⟨m, hi⟩ : ∃ m, c.chain[i]? = some m := ⟨c.chain[i]'(place_lt hp), by simp [place_lt hp]⟩
        by_cases h2 : m.birth = x.birth ∧ m.whole = false
        · rw [do3_ok hm hk he hp hi h2] at h
          cases h
          refine ⟨⟨hc.ep, by simp; exact hc.len, .inr ?_, fun y hy => ?_, fun y hy => ?_, by have e0 := map_set_node hi ⟨m.node, m.birth, true⟩ rfl; show (List.map (·.node) (c.chain.set i ⟨m.node, m.birth, true⟩)).Nodup; rw [e0]; exact hc.uniq, hc.st, hc.st16, hc.stl⟩, by show c.epoch ≤ _; omega⟩
          · unfold anyWhole
            rw [List.any_eq_true]
            exact ⟨⟨m.node, m.birth, true⟩, List.mem_of_getElem? (i := i) (by rw [List.getElem?_set]; simp [place_lt hp]), rfl⟩
          · rcases List.mem_or_eq_of_mem_set hy with hy | rfl
            · exact hc.node y hy
            · exact hc.node m (List.mem_of_getElem? hi)
          · rcases List.mem_or_eq_of_mem_set hy with hy | rfl
            · exact hc.birth y hy
            · exact hc.birth m (List.mem_of_getElem? hi)
        · rw [do3_bad hm hk hp hi h2] at h; cases h
    · rw [do3_ep hm hk he] at h; cases h
  · cases hs : c.stores.contains x.node with
    | true => rw [do4_in hm hk hs] at h; cases h
    | false =>
      rw [do4_ok hm hk hs] at h
      cases h
      have h16 : ∀ y ∈ placedStore x.node c.stores, y < 16 := fun y hy => by
        rcases placed_mem hy with h | h
        · rw [h]; exact hx.node
        · exact hc.st16 y h
      have hpw := placed_pw hc.st hs
      exact ⟨⟨by show c.epoch + 1 ≤ _; omega, hc.len, hc.wh, hc.node, hc.birth, hc.uniq, hpw, h16, by have := pw_len (k := 16) (b := 0) hpw (fun y hy => ⟨Nat.zero_le _, h16 y hy⟩); simpa using this⟩, Nat.le_refl _⟩
/-- One configuration more. -/
theorem WAt.pushCfg (h : WAt f w wb V ps W) {c : Cfg} {cv sv : Value} (hc : CfgR (NW wb V ps) w cv sv c) (hl : W.cfgs.length ≤ 1000000000) :
    ∃ v' w2, (Builtin.append_ #[42, 42] 42 #[V.kv, .slice (some ⟨w.heap.size, 0, none⟩) 1 1]).run Try.prog (w.alloc (.cells #[.int .i64 (c.epoch : Int), cv, sv] 59)) = .ok v' w2 ∧ wb < w2.heap.size ∧ w2.cell? ⟨wb, 4, none⟩ = some V.kv ∧ w2.frozen? ⟨wb, 4, none⟩ = false ∧
      WAt f (w2.setCell ⟨wb, 4, none⟩ v') wb { V with kv := v' } ps { W with cfgs := W.cfgs ++ [c] } ∧ Sep (FW wb V ps) w (w2.setCell ⟨wb, 4, none⟩ v') (FW wb { V with kv := v' } ps) ∧ (∃ a k, v' = .slice a (W.cfgs.length + 1) k) ∧ (∀ y, y < w.heap.size → NW wb V ps y → w2.heap[y]? = w.heap[y]?) := by
  have m1 : CfgsAt (fun x => NW wb V ps x ∧ x < w.heap.size) w V.kv W.cfgs := h.cfgs.mono (fun b h1 h2 => ⟨h1, h2⟩)
  obtain ⟨v', w2, r1, r2, r3, r4⟩ := m1.push (hc.mono (fun b h1 h2 => ⟨h1, h2⟩)) (fun b hb e => hb.1 (.inr (.inr (.inr (.inr (.inr (.inl e))))))) hl
  obtain ⟨k1, k2, k3, k4, k5⟩ := h.newCfgs (gv := v') r3.size r3.os r3.tape r3.output (fun x hx hn => r3.block x hx (fun e => hn e.symm)) (fun x hx => by
    rcases r4 with r4 | ⟨g, r4, r5⟩
    · exact .inl (by rw [← r4]; exact hx)
    · rw [hx] at r4; cases r4; exact .inr r5) (r2.mono (fun b hb _ => .inl hb))
  obtain ⟨a, c', hv⟩ := r2.slice
  exact ⟨v', w2, r1, k1, k2, k3, k4, k5, ⟨a, c', by rw [hv, List.length_append]; rfl⟩, fun y hy hN => r3.block y hy (fun e => hN (.inr (.inr (.inr (.inr (.inr (.inl e.symm)))))))⟩
set_option maxRecDepth 100000 in
set_option maxHeartbeats 4000000 in
theorem wcommand_any (h : WAt f w wb V ps W) (cap : Cap L K W) (hK : K ≤ 1000000) {x : Cmd} (hx : CmdOk x) :
    Calls Try.prog 11 #[.pointer (some ⟨wb, 0, none⟩), cmdV x] w (OpPost f w wb V ps (W.command x)) := by
  have hc0 := cap.c0
  have hcl := cap.cl
  obtain ⟨c, hc⟩ : ∃ c, W.cfgs[W.cfgs.length - 1]? = some c := ⟨W.cfgs[W.cfgs.length - 1], by simp [show 0 < W.cfgs.length from hc0]⟩
  have hnow : W.now = c := cfg_of hc
  have hce := cap.ep c (List.mem_of_getElem? hc)
  obtain ⟨n, hn⟩ : ∃ n, W.cfgs.length - 1 = n := ⟨_, rfl⟩
  rw [hn] at hc
  have hga : Grow w (w.alloc (.cells #[.int .i64 (x.kind : Int), .int .i64 (x.node : Int), .int .i64 (x.birth : Int), .int .i64 (x.epoch : Int)] 35)) := Grow.alloc _ _
  have hba := heap_alloc_new w (.cells #[.int .i64 (x.kind : Int), .int .i64 (x.node : Int), .int .i64 (x.birth : Int), .int .i64 (x.epoch : Int)] 35)
  have Hga := Lib.hid (hga.trans (Grow.drew (w.alloc (.cells #[.int .i64 (x.kind : Int), .int .i64 (x.node : Int), .int .i64 (x.birth : Int), .int .i64 (x.epoch : Int)] 35))))
  have Hba := Lib.hid ((Grow.drew _).heap hba)
  have H := Lib.hid h
  have Hcap := Lib.hid cap
  have Hx := Lib.hid hx
  have Hc := Lib.hid hc
  have Hce := Lib.hid hce
  have Hnow := Lib.hid hnow
  obtain ⟨CB, hCB⟩ : ∃ q, q = w.heap.size := ⟨_, rfl⟩
  have HCB := Lib.hid hCB
  rw [← hCB] at Hba
  obtain ⟨WP, hWP⟩ : ∃ X, W.command x = X := ⟨_, rfl⟩
  rw [hWP]
  have HWP := Lib.hid hWP
  have Hn := Lib.hid hn
  have Hc0 := Lib.hid hc0
  clear h cap hx hc hce hnow hga hba hWP hn hc0
  go_enter Try.func11, Try.ntmps11
  go_upto_region 1 with fail
  rw [← hCB]
  clear hCB
  generalize w.alloc (.cells #[.int .i64 (x.kind : Int), .int .i64 (x.node : Int), .int .i64 (x.birth : Int), .int .i64 (x.epoch : Int)] 35) = w1 at *
  have hd1 := H.out.grow Hga.out
  obtain ⟨gk, kc, cv, sv, hkv, hgk, k0, k1, k2, hcf⟩ := hd1.cfgs.get Hc.out
  obtain ⟨ca, cc, rfl⟩ := hcf.chain.slice
  obtain ⟨sa, sc, rfl⟩ := hcf.stores.slice
  have n4 := hd1.cells.2.2.2.2.1
  rw [hkv] at n4
  have hwl := hd1.wlt
  have hn1 : IntKind.i64.wrap ((W.cfgs.length : Int) - 1) = (n : Int) := by
    have h1 := Hn.out
    have h2 := Hc0.out
    rw [show (W.cfgs.length : Int) - 1 = (n : Int) by omega]
    exact IntWalk.i64_in _ (by omega)
  have hn2 : (W.cfgs.length : Int) - 1 = (n : Int) := by have h1 := Hn.out; have h2 := Hc0.out; omega
  have hn3 : IntKind.i64.wrap (n : Int) = (n : Int) := IntWalk.i64_in _ (by omega)
  have hn4 : (n : Int) < (W.cfgs.length : Int) := by have h1 := Hn.out; have h2 := Hc0.out; omega
  have Hd1 := Lib.hid hd1
  have Hcf := Lib.hid hcf
  have Hkv := Lib.hid hkv
  clear hd1 hcf hkv
  refine wp_region_last (fun Wx => wb < Wx.heap.size ∧ gk < Wx.heap.size ∧ Wx.cell? ⟨wb, 4, none⟩ = some (.slice (some ⟨gk, 0, none⟩) W.cfgs.length kc) ∧ Wx.cell? ⟨gk, n * 3, none⟩ = some (.int .i64 (c.epoch : Int)) ∧ Wx.cell? ⟨gk, n * 3 + 1, none⟩ = some (.slice ca c.chain.length cc) ∧ Wx.cell? ⟨gk, n * 3 + 2, none⟩ = some (.slice sa c.stores.length sc)) [(0, false), (1, false), (2, false), (3, false), (4, false), (5, false), (6, false), (7, false), (8, false), (9, false), (10, false), (11, false), (12, true)] 13 (by kernel_rfl) (by kernel_rfl) (fun c a d v w h => by cases d <;> exact h) ⟨hwl, hgk, n4, k0, k1, k2⟩ ?_
  generalize w1.drew = wd at *
  have hwd : wb ≠ wd.heap.size := by omega
  have hgd : gk ≠ wd.heap.size := by omega
  simp only [arrange, nth]
  repeat ((first | (apply wpPi_quiet; rfl; rintro W ⟨hW0, hW1, hW2, hW3, hW4, hW5⟩; go_simp; with_reducible rfl) | (apply wpPi_off; rfl)); simp only [putA, List.set])
  refine wpPi_act (by rfl) (fun K hK => ?_)
  go_simp
  refine hK _ _ ⟨⟨by (go_simp <;> omega), by (go_simp <;> omega), by go_simp, by go_simp, by go_simp, by go_simp⟩, ?_⟩
  clear hK K
  try first | simp only [putA, List.set] | simp only [putN]
  refine wpPi_nil (lastQ_act (by rfl) (fun K hK => ?_))
  go_simp
  refine hK _ _ ?_
  clear hK K
  try first | simp only [putA, List.set] | simp only [putN]
  obtain ⟨nb, hnb⟩ : ∃ q, q = wd.heap.size := ⟨_, rfl⟩
  have hg3 : Grow wd (wd.alloc (.cells #[.int .i64 (c.epoch : Int), .slice ca c.chain.length cc, .slice sa c.stores.length sc] 59)) := Grow.alloc _ _
  have hb3 := heap_alloc_new wd (.cells #[.int .i64 (c.epoch : Int), .slice ca c.chain.length cc, .slice sa c.stores.length sc] 59)
  rw [← hnb] at hb3 ⊢
  clear k0 k1 k2 n4 hwl hgk hn1 hn2 hn3 hn4 hwd hgd hnb
  generalize wd.alloc (.cells #[.int .i64 (c.epoch : Int), .slice ca c.chain.length cc, .slice sa c.stores.length sc] 59) = w3 at *
  have hd3 := Hd1.out.grow hg3
  have hcr := Hcf.out.grow hg3
  have hcb := hg3.heap Hba.out
  have Hs3 := Lib.hid ((Sep.ofGrow (F := FW wb V ps) Hga.out).grow hg3)
  have q0 : w3.cell? ⟨nb, 0, none⟩ = some (.int .i64 (c.epoch : Int)) := by simp [World.cell?, hb3]
  have q1 : w3.cell? ⟨nb, 1, none⟩ = some (.slice ca c.chain.length cc) := by simp [World.cell?, hb3]
  have q2 : w3.cell? ⟨nb, 2, none⟩ = some (.slice sa c.stores.length sc) := by simp [World.cell?, hb3]
  have p0 : w3.cell? ⟨CB, 0, none⟩ = some (.int .i64 (x.kind : Int)) := by simp [World.cell?, hcb]
  have p1 : w3.cell? ⟨CB, 1, none⟩ = some (.int .i64 (x.node : Int)) := by simp [World.cell?, hcb]
  have p2 : w3.cell? ⟨CB, 2, none⟩ = some (.int .i64 (x.birth : Int)) := by simp [World.cell?, hcb]
  have p3 : w3.cell? ⟨CB, 3, none⟩ = some (.int .i64 (x.epoch : Int)) := by simp [World.cell?, hcb]
  have ln : nb < w3.heap.size := lt_of_getElem? hb3
  have lc : CB < w3.heap.size := lt_of_getElem? hcb
  have Hdo := Lib.hid (rdo_any hcr Hce.out.1 (by have := Hce.out.2; omega) Hx.out)
  have Hd3 := Lib.hid hd3
  clear hg3 hb3 hd3 hcr hcb Hba Hga Hd1 Hcf
  go_wp2_with fail
  (with_reducible refine Hdo.out.mono ?_)
  rintro e w4 ⟨hg4, hres⟩
  clear q0 q1 q2 p0 p1 p2 p3 ln lc Hdo
  cases hdm : doM c x with
  | none =>
    rw [hdm] at hres
    obtain ⟨code, hcode, rfl⟩ := hres
    have hwp : WP = W := by rw [← HWP.out]; unfold Wd.command; rw [Hnow.out, hdm]
    have hpost : Hid (∀ W2, Grow w4 W2 → OpPost f w wb V ps WP (.returned (.tuple #[])) W2) := Lib.hid fun W2 hg => ⟨rfl, V, ps, rfl, by rw [hwp]; exact (Hd3.out.grow hg4).grow hg, (Hs3.out.grow hg4).grow hg⟩
    clear hdm hwp hg4
    go_wp2
    exact ⟨rfl, .tuple #[], by simp [results, Try.results11, go_sem], hpost.out _ (Grow.alloc _ _)⟩
  | some c' =>
    rw [hdm] at hres
    obtain ⟨a2, b2, rfl, hown⟩ := hres
    have hwp : WP = { W with cfgs := W.cfgs ++ [c'] } := by rw [← HWP.out]; unfold Wd.command; rw [Hnow.out, hdm]
    have hck := doM_ok Hce.out.1 Hx.out (by have := Hce.out.2; omega) hdm
    have hcf4 : CfgR (NW wb V ps) w4 a2 b2 c' := (hown.cfgR hck.1.len hck.1.stl).mono (fun y hy _ hF => by have := Hd3.out.lt hF; omega)
    obtain ⟨ta, tc, rfl⟩ := hcf4.chain.slice
    obtain ⟨ua, uc, rfl⟩ := hcf4.stores.slice
    have hg5 : Grow w4 (w4.alloc (.cells #[.int .i64 (c'.epoch : Int), .slice ta c'.chain.length tc, .slice ua c'.stores.length uc] 59)) := Grow.alloc _ _
    have hb5 := heap_alloc_new w4 (.cells #[.int .i64 (c'.epoch : Int), .slice ta c'.chain.length tc, .slice ua c'.stores.length uc] 59)
    obtain ⟨xb, hxb⟩ : ∃ q, q = w4.heap.size := ⟨_, rfl⟩
    rw [← hxb] at hb5
    have Hxb := Lib.hid hxb
    have Hg5 := Lib.hid hg5
    have Hb5 := Lib.hid hb5
    have Hcf4 := Lib.hid hcf4
    have Hd4 := Lib.hid (Hd3.out.grow hg4)
    have Hs4 := Lib.hid (Hs3.out.grow hg4)
    have Hwp := Lib.hid hwp
    clear hdm hwp hg4 hg5 hb5 hcf4 hown hck hxb Hd3 Hs3
    go_upto_region 4 with fail
    rw [← Hxb.out]
    have hg6 := Hg5.out.trans (Grow.drew (w4.alloc (.cells #[.int .i64 (c'.epoch : Int), .slice ta c'.chain.length tc, .slice ua c'.stores.length uc] 59)))
    have hb6 := (Grow.drew _).heap Hb5.out
    generalize w4.alloc (.cells #[.int .i64 (c'.epoch : Int), .slice ta c'.chain.length tc, .slice ua c'.stores.length uc] 59) = w5 at *
    have hd6 := Hd4.out.grow hg6
    obtain ⟨v', w7, r1, k1, k2, k3, k4, k5, ⟨va, vc, rfl⟩, k6⟩ := hd6.pushCfg (Hcf4.out.grow hg6) (by omega)
    have n4 := hd6.cells.2.2.2.2.1
    rw [Hkv.out] at n4 k2 r1
    have hwl := hd6.wlt
    have hNx : NW wb V ps xb := fun hF => by have := Hd4.out.lt hF; have := Hxb.out; omega
    have q0 : w5.drew.cell? ⟨xb, 0, none⟩ = some (.int .i64 (c'.epoch : Int)) := by simp [World.cell?, hb6]
    have q1 : w5.drew.cell? ⟨xb, 1, none⟩ = some (.slice ta c'.chain.length tc) := by simp [World.cell?, hb6]
    have q2 : w5.drew.cell? ⟨xb, 2, none⟩ = some (.slice ua c'.stores.length uc) := by simp [World.cell?, hb6]
    have lx : xb < w5.drew.heap.size := lt_of_getElem? hb6
    have hb7 := (k6 xb lx hNx).trans hb6
    have t0 : w7.cell? ⟨xb, 0, none⟩ = some (.int .i64 (c'.epoch : Int)) := by simp [World.cell?, hb7]
    have t1 : w7.cell? ⟨xb, 1, none⟩ = some (.slice ta c'.chain.length tc) := by simp [World.cell?, hb7]
    have t2 : w7.cell? ⟨xb, 2, none⟩ = some (.slice ua c'.stores.length uc) := by simp [World.cell?, hb7]
    have lx7 : xb < w7.heap.size := lt_of_getElem? hb7
    have hwb : wb ≠ w5.drew.heap.size := by omega
    have hxb2 : xb ≠ w5.drew.heap.size := by omega
    obtain ⟨BM, hBM⟩ : ∃ n, n = W.cfgs.length + 1 := ⟨_, rfl⟩
    rw [← hBM] at r1 k4 k5
    have Hr1 := Lib.hid r1
    have hpost : OpPost f w wb V ps WP (.returned (.tuple #[])) (w7.setCell ⟨wb, 4, none⟩ (.slice va BM vc)) := ⟨rfl, _, ps, rfl, by rw [Hwp.out]; exact k4, (Hs4.out.grow hg6).trans k5⟩
    have Hpost := Lib.hid hpost
    have HBM := Lib.hid hBM
    clear hg6 hb6 hd6 r1 k4 k5 k6 hNx hb7 hpost hBM Hd4 Hs4 Hb5 Hg5
    refine wp_region_last (fun Wx => wb < Wx.heap.size ∧ xb < Wx.heap.size ∧ Wx.cell? ⟨wb, 4, none⟩ = some (.slice (some ⟨gk, 0, none⟩) W.cfgs.length kc) ∧ Wx.cell? ⟨xb, 0, none⟩ = some (.int .i64 (c'.epoch : Int)) ∧ Wx.cell? ⟨xb, 1, none⟩ = some (.slice ta c'.chain.length tc) ∧ Wx.cell? ⟨xb, 2, none⟩ = some (.slice ua c'.stores.length uc)) [(0, false), (1, false), (2, false), (3, false), (4, false), (5, false), (6, true), (7, true), (8, false), (9, false)] 10 (by kernel_rfl) (by kernel_rfl) (fun c a d v w h => by cases d <;> exact h) ⟨hwl, lx, n4, q0, q1, q2⟩ ?_
    generalize w5.drew = w6 at *
    simp only [arrange, nth]
    repeat ((first | (apply wpPi_quiet; rfl; rintro W ⟨hW0, hW1, hW2, hW3, hW4, hW5⟩; go_simp; with_reducible rfl) | (apply wpPi_off; rfl)); simp only [putA, List.set])
    refine wpPi_act (by rfl) (fun K hK => ?_)
    go_simp
    refine hK _ _ ⟨⟨by (go_simp <;> omega), by (go_simp <;> omega), by go_simp, by go_simp, by go_simp, by go_simp⟩, ?_⟩
    clear hK K
    try first | simp only [putA, List.set] | simp only [putN]
    refine wpPi_run (by rfl) (execOp_append rfl rfl rfl Hr1.out) ⟨k1, lx7, k2, t0, t1, t2⟩ ?_
    try first | simp only [putA, List.set] | simp only [putN]
    repeat ((first | (apply wpPi_quiet; rfl; rintro W ⟨hW0, hW1, hW2, hW3, hW4, hW5⟩; go_simp; with_reducible rfl) | (apply wpPi_off; rfl)); simp only [putA, List.set])
    refine wpPi_nil (lastQ_act (by rfl) (fun K hK => ?_))
    go_simp
    refine hK _ _ ?_
    clear hK K
    try first | simp only [putA, List.set] | simp only [putN]
    generalize w7.setCell ⟨wb, 4, none⟩ (.slice va BM vc) = w8 at *
    go_wp2_with fail
    exact ⟨rfl, .tuple #[], by simp [results, Try.results11, go_sem], Hpost.out⟩
end
end Go.Proofs.Ytfchjoejdijjeaa

/- The law's world: a node tells that it is whole. -/
namespace Go.Gl
open Go Go.RowKit
section
variable {P : Program} {ops : Array Oper} {Q : Exit → Act → World → Prop}
/-- A late call. -/
theorem lateQ_call {fuel : Nat} {goal : Array Bool} {i : Nat} {o : Oper} {a : Act} {w : World} {f : FuncId} {args : Array Value} {R : Ending → World → Prop} (hr : Region.ready .any ops goal = [i]) (ho : ops[i]? = some o) (hw : Region.wanted o (yielded ops a.tmps) = true)
    (hx : (execOp a.eval o).run P w = .ok (.enter f args) w) (hc : Calls P f args w R)
    (h : ∀ e w', R e w' → ∃ v, e = .returned v ∧ lateQ P ops Q fuel (goal.setIfInBounds i true) .normal (a.put o.dst v) w') : lateQ P ops Q (fuel + 1) goal .normal a w :=
  lateQ_act hr ho hw fun K hK => by
    unfold Oper.wp
    rw [hx]
    refine hc.mono fun e w' he => ?_
    obtain ⟨v, rfl, h'⟩ := h e w' he
    exact hK _ _ h'
end
end Go.Gl
namespace Go.Proofs.Ytfchjoejdijjeaa
open Go.RowKit Go.Gl Go.Wal Go.Ch Go.Shelf
section
variable {C : Type} {f : C → List UInt8} {w w' w1 : World} {wb : Nat} {V : Vs} {ps : List Pl}
theorem OpPost.low {W' : Wd C} {e : Ending} (h : OpPost f w1 wb V ps W' e w') (hg : Grow w w1) : OpPost f w wb V ps W' e w' := by
  obtain ⟨h1, V', ps', h2, h3, h4⟩ := h
  exact ⟨h1, V', ps', h2, h3, (Sep.ofGrow hg).trans h4⟩
end
section
variable {C : Type} {f : C → List UInt8} {w w' w1 w2 : World} {wb : Nat} {V : Vs} {ps : List Pl} {W : Wd C} {L K : Nat}
theorem field_epoch (W : World) (e : Int) (x y : Value) : (Instr.field 59 (.agg #[.int .i64 e, x, y]) 0).run Try.prog W = .ok (.int .i64 e) W := by kernel_rfl
set_option maxRecDepth 100000 in
set_option maxHeartbeats 4000000 in
theorem wwhole_any (h : WAt f w wb V ps W) (cap : Cap L K W) (hK : K ≤ 1000000) (hps : ps.length ≤ 16) {i : Nat} (hi : i < ps.length) :
    Calls Try.prog 24 #[.pointer (some ⟨wb, 0, none⟩), .int .i64 (i : Int)] w (OpPost f w wb V ps (W.whole i)) := by
  obtain ⟨p, d, b, gn, gnc, hp, hd, hbx, hnd, hnv, hcell, hgl⟩ := h.node hi
  obtain ⟨n0, _, _, _, _, _, _⟩ := h.cells
  rw [hnv] at n0
  have hwl := h.wlt
  have hi1 : (i : Int) < (ps.length : Int) := by omega
  have Hw := Lib.hid (nwhole_any hnd)
  obtain ⟨bw, hbw⟩ : ∃ q, wholeB d b = q := ⟨_, rfl⟩
  rw [hbw] at Hw
  obtain ⟨WP, hWP⟩ : ∃ X, W.whole i = X := ⟨_, rfl⟩
  rw [hWP]
  have hwp : WP = if bw = true then W.command ⟨3, i, W.births.getD i 0, d.cfg.epoch⟩ else W := by rw [← hWP]; unfold Wd.whole; rw [nd_of hd, box_of hbx, hbw]
  have H := Lib.hid h
  have Hcap := Lib.hid cap
  have Hd := Lib.hid hd
  have Hnd := Lib.hid hnd
  have Hnv := Lib.hid hnv
  have Hcell := Lib.hid hcell
  have Hwp := Lib.hid hwp
  clear h cap hd hbx hnd hnv hWP hp hwp hbw
  go_enter Try.func24, Try.ntmps24
  go_wp2_with fail
  (with_reducible refine Hw.out.mono ?_)
  rintro e w1 ⟨rfl, hg1⟩
  clear Hw n0 hwl hcell
  cases bw with
  | false =>
    have hpost : OpPost f w wb V ps WP (.returned (.tuple #[])) w1 := ⟨rfl, V, ps, rfl, by rw [Hwp.out]; exact H.out.grow hg1, Sep.ofGrow hg1⟩
    clear hg1
    go_wp2
    exact ⟨rfl, .tuple #[], by simp [results, Try.results24, go_sem], hpost⟩
  | true =>
    have hwp2 : WP = W.command ⟨3, i, W.births.getD i 0, d.cfg.epoch⟩ := Hwp.out
    have Hwp2 := Lib.hid hwp2
    have hg2 := hg1.trans (Grow.drew w1)
    have h2 := H.out.grow hg2
    have hlr := H.out.lr
    obtain ⟨bi, hbi⟩ : ∃ n, W.births[i]? = some n := ⟨W.births[i]'(by omega), by simp [show i < W.births.length by omega]⟩
    have hbg : W.births.getD i 0 = bi := by rw [List.getD_eq_getElem?_getD, hbi]; rfl
    rw [hbg] at Hwp2
    have hbm := Hcap.out.bir bi (List.mem_of_getElem? hbi)
    obtain ⟨n0, _, n2, _, _, _, _⟩ := h2.cells
    rw [Hnv.out] at n0
    obtain ⟨gb, gbc, hbv, hgb, hcb⟩ : ∃ gb gbc, V.bv = .slice (some ⟨gb, 0, none⟩) ps.length gbc ∧ gb < w1.drew.heap.size ∧ w1.drew.cell? ⟨gb, i, none⟩ = some (.int .i64 (bi : Int)) := by
      have hbr := h2.brow
      have hx : (W.births.map numV)[i]? = some (numV bi) := by rw [List.getElem?_map, hbi]; rfl
      rcases id hbr with ⟨_, e⟩ | ⟨g, cap, cur, e, hB, hg, hr⟩
      · rw [e] at hx; simp at hx
      · have := hbr.cells (g := g) (by rw [e]; rfl) hx
        exact ⟨g, cap, by rw [e, List.length_map, hlr], lt_of_getElem? hg, this⟩
    rw [hbv] at n2
    have hwl2 := h2.wlt
    have hcell2 := (hg2.cell hgl).trans Hcell.out
    have hgl2 := Nat.lt_of_lt_of_le hgl hg2.size
    have Hcf := Lib.hid (nconfig_any (Hnd.out.grow hg2))
    have Hg2 := Lib.hid hg2
    have Hbm := Lib.hid hbm
    have Hde := Lib.hid (Hcap.out.nd d (List.mem_of_getElem? Hd.out))
    clear hg1 h2 hg2 hlr hbi hbg hbm hbv hwp2 Hwp
    go_wp2_with fail
    refine wp_region_late (fun Wx => wb < Wx.heap.size ∧ gn < Wx.heap.size ∧ gb < Wx.heap.size ∧ Wx.cell? ⟨wb, 0, none⟩ = some (.slice (some ⟨gn, 0, none⟩) ps.length gnc) ∧ Wx.cell? ⟨wb, 2, none⟩ = some (.slice (some ⟨gb, 0, none⟩) ps.length gbc) ∧ Wx.cell? ⟨gn, i, none⟩ = some (ptrN p) ∧ Wx.cell? ⟨gb, i, none⟩ = some (.int .i64 (bi : Int))) [(0, false), (1, false), (2, false), (3, false), (4, false), (5, false), (6, false), (7, false), (8, false), (9, false), (10, false), (11, false), (12, false), (13, false), (14, false), (15, false), (16, true), (17, false), (18, false)] [19] #[true, true, true, true, true, true, true, true, true, true, true, true, true, true, true, true, true, true, true, false] 1 (by kernel_rfl) (by kernel_rfl) (fun c a d v w h => by cases d <;> exact h) ⟨hwl2, hgl2, hgb, n0, n2, hcell2, hcb⟩ ?_
    generalize w1.drew = w2 at *
    simp only [arrange, nth]
    repeat ((first | (apply wpPi_quiet; rfl; rintro W ⟨hW0, hW1, hW2, hW3, hW4, hW5, hW6⟩; go_simp; with_reducible rfl) | (apply wpPi_off; rfl)); simp only [putA, List.set])
    refine wpPi_call (by rfl) (by go_simp) Hcf.out ?_
    rintro e w3 ⟨x, y, rfl, hg3⟩
    refine ⟨_, rfl, ⟨Nat.lt_of_lt_of_le hwl2 hg3.size, Nat.lt_of_lt_of_le hgl2 hg3.size, Nat.lt_of_lt_of_le hgb hg3.size, (hg3.cell hwl2).trans n0, (hg3.cell hwl2).trans n2, (hg3.cell hgl2).trans hcell2, (hg3.cell hgb).trans hcb⟩, ?_⟩
    have Hg3 := Lib.hid (Hg2.out.trans hg3)
    have Hcm := Lib.hid (wcommand_any (x := ⟨3, i, bi, d.cfg.epoch⟩) (H.out.grow Hg3.out) Hcap.out hK ⟨Nat.le_of_ble_eq_true rfl, Nat.le_of_ble_eq_true rfl, by show i < 16; omega, Hbm.out, by have := Hde.out; show d.cfg.epoch ≤ _; omega⟩)
    clear hg3 n0 n2 hcell2 hcb hwl2 hgl2 hgb
    have hfe := fun W => field_epoch W (d.cfg.epoch : Int) x y
    try first | simp only [putA, List.set] | simp only [putN]
    repeat ((first | (apply wpPi_quiet; rfl; rintro W ⟨hW0, hW1, hW2, hW3, hW4, hW5, hW6⟩; go_simp; with_reducible rfl) | (apply wpPi_off; rfl)); simp only [putA, List.set])
    refine wpPi_nil ?_
    refine lateQ_call (i := 19) (by kernel_rfl) rfl (by rfl) (by go_simp) Hcm.out ?_
    rintro e w4 ⟨rfl, V', ps', h1, h2, h3⟩
    have hpost : OpPost f w wb V ps WP (.returned (.tuple #[])) w4 := ⟨rfl, V', ps', h1, by rw [Hwp2.out]; exact h2, (Sep.ofGrow Hg3.out).trans h3⟩
    clear h1 h2 h3 Hcm
    refine ⟨_, rfl, ?_⟩
    try first | simp only [putA, List.set] | simp only [putN]
    refine lateQ_nil (by kernel_rfl) ?_
    go_wp2
    exact ⟨rfl, .tuple #[], by simp [results, Try.results24, go_sem], hpost⟩
end
end Go.Proofs.Ytfchjoejdijjeaa

/- The law's world: submit. -/
namespace Go.Proofs.Ytfchjoejdijjeaa
open Go.RowKit Go.Gl Go.Wal Go.Ch Go.Shelf
section
variable {C : Type} [DecidableEq C] {f : C → List UInt8} {w w' w1 w2 : World} {wb : Nat} {V : Vs} {ps : List Pl} {W : Wd C} {L K : Nat}
def SbPost (f : C → List UInt8) (w : World) (wb : Nat) (V : Vs) (ps : List Pl) (W' : Wd C) (q : Bool) (e : Ending) (w' : World) : Prop :=
  e = .returned (.bool q) ∧ ∃ V' ps', ps'.length = ps.length ∧ WAt f w' wb V' ps' W' ∧ Sep (FW wb V ps) w w' (FW wb V' ps')
set_option maxRecDepth 100000 in
set_option maxHeartbeats 4000000 in
theorem wsubmit_any (h : WAt f w wb V ps W) (cap : Cap L K W) (hL : L ≤ 80000) (hps : ps.length ≤ 16) (hf : ∀ c, (f c).length ≤ 1048576) {i : Nat} (hi : i < ps.length) {c : C} {xv : Value} (hx : Bw (NW wb V ps) w xv (f c)) (hok : (W.submit i c).ok = true) :
    Calls Try.prog 13 #[.pointer (some ⟨wb, 0, none⟩), .int .i64 (i : Int), xv] w (SbPost f w wb V ps (W.submit i c) (takes (W.nd i) (W.box i))) := by
  obtain ⟨p, d, b, gn, gnc, hp, hd, hbx, hnd, hnv, hcell, hgl⟩ := h.node hi
  obtain ⟨n0, _, _, _, _, _, _⟩ := h.cells
  rw [hnv] at n0
  have hwl := h.wlt
  have hi1 : (i : Int) < (ps.length : Int) := by omega
  have Hh := Lib.hid (nhead_any hnd)
  have hcw : W.submit i c = W.put i (subM d b c) := by unfold Wd.submit; rw [nd_of hd, box_of hbx]
  rw [hcw] at hok ⊢
  rw [nd_of hd, box_of hbx]
  obtain ⟨bh, hbh⟩ : ∃ q, headB d b = q := ⟨_, rfl⟩
  rw [hbh] at Hh
  have hoc : OutC (L + 1) K (subM d b c) := subM_c (cap.box b (List.mem_of_getElem? hbx)) (cap.nd d (List.mem_of_getElem? hd)) c
  have hbl := (cap.box b (List.mem_of_getElem? hbx)).1
  obtain ⟨WP, hWP⟩ : ∃ X, W.put i (subM d b c) = X := ⟨_, rfl⟩
  rw [hWP]
  obtain ⟨xa, xc, rfl⟩ := hx.slice
  have H := Lib.hid h
  have Hcap := Lib.hid (cap.up (Nat.le_succ L) (Nat.le_refl K))
  have Hnd := Lib.hid hnd
  have Hp := Lib.hid hp
  have Hnv := Lib.hid hnv
  have Hcell := Lib.hid hcell
  have Hoc := Lib.hid hoc
  have Hok := Lib.hid hok
  have HWP := Lib.hid hWP
  have Hx := Lib.hid hx
  have Hbh := Lib.hid hbh
  have Hbl := Lib.hid hbl
  clear h cap hd hbx hnd hnv hWP hp hoc hok hcw hx hbh hbl
  go_enter Try.func13, Try.ntmps13
  go_wp2_with fail
  (with_reducible refine Hh.out.mono ?_)
  rintro e w1 ⟨rfl, hg1⟩
  clear Hh n0 hwl hcell
  have h1 := H.out.grow hg1
  obtain ⟨n0, _, _, _, _, _, _⟩ := h1.cells
  rw [Hnv.out] at n0
  have hcell := (hg1.cell hgl).trans Hcell.out
  have hgl1 := Nat.lt_of_lt_of_le hgl hg1.size
  have hwl := h1.wlt
  have Hsb := Lib.hid (nsubmit_any (Hnd.out.grow hg1) hf (by have := Hbl.out; omega) (Hx.out.grow hg1))
  have H1 := Lib.hid h1
  have Hg1 := Lib.hid hg1
  clear h1 hg1 Hcell
  go_wp2_with fail
  (with_reducible refine Hsb.out.mono ?_)
  rintro e w2 ⟨mv, kv, rfl, ho⟩
  obtain ⟨mv', kv', q, he, _, _, hw, hm, hk, hs⟩ := H1.out.turn Hp.out ho
  cases he
  have Htold := Lib.hid (told_put H1.out Hcap.out (by omega) hps Hp.out Hoc.out Hok.out hf hw hm hk hs)
  obtain ⟨ma, mc, rfl⟩ := hm.slice
  obtain ⟨ka, kc2, rfl⟩ := hk.slice
  clear hw hm hk hs ho n0 hcell hwl hgl1 Hsb
  obtain ⟨tk, htk⟩ : ∃ t, takes d b = t := ⟨_, rfl⟩
  rw [htk]
  have hse : ∃ se, subE d b = se ∧ ((bh = false ∧ se = 22 ∧ tk = false) ∨ (bh = true ∧ se = 5 ∧ tk = false) ∨ (bh = true ∧ se = 0 ∧ tk = true)) := by
    refine ⟨_, rfl, ?_⟩
    rw [← htk]
    unfold subE takes
    rw [Hbh.out]
    cases bh with
    | false => exact .inl ⟨rfl, rfl, rfl⟩
    | true => cases b.full with
      | true => exact .inr (.inl ⟨rfl, rfl, rfl⟩)
      | false => exact .inr (.inr ⟨rfl, rfl, rfl⟩)
  obtain ⟨se, hse0, hse1⟩ := hse
  rw [hse0]
  have Hse1 := Lib.hid hse1
  have Htk := Lib.hid htk
  clear htk hse0 hse1
  go_wp2_with fail
  (with_reducible refine Htold.out.mono ?_)
  rintro e w4 ⟨rfl, V', ps', h1, h2, h3⟩
  have hpost : SbPost f w wb V ps WP tk (.returned (.bool tk)) w4 := ⟨rfl, V', ps', h1, by rw [← HWP.out]; exact h2, (Sep.ofGrow Hg1.out).trans h3⟩
  clear h1 h2 h3 Htold
  rcases Hse1.out with ⟨rfl, rfl, rfl⟩ | ⟨rfl, rfl, rfl⟩ | ⟨rfl, rfl, rfl⟩
  all_goals
    clear Hse1 Hbh
    go_wp2
    go_ret
    rw [Htk.out]
    exact hpost
end
end Go.Proofs.Ytfchjoejdijjeaa
