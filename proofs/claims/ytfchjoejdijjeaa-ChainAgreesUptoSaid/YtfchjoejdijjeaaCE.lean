/- Merged out of B2, B3, B4: helpers. -/
import Derived.Test.YtfchjoejdijjeaaCD
import Derived.Test.YtfchjoejdijjeaaCA
import Derived.Deep.CutRange
import Derived.Deep.DeepCutAuto
set_option linter.unusedSimpArgs false
set_option linter.unusedVariables false
/- Head, Tail, Next, Ahead; a place in memory: member, tail, first. -/
namespace Go.Proofs.Ytfchjoejdijjeaa
open Go.RowKit Go.Gl Go.Wal Go.Ch Go.Shelf
section
variable {N : Nat → Prop} {w : World} {cv sv : Value} {c : Cfg}

theorem bcell {W w1 : World} (hb : Grow W w1) : (∀ b o, b < W.heap.size → w1.cell? ⟨b, o, none⟩ = W.cell? ⟨b, o, none⟩) ∧ (∀ b o, b < W.heap.size → w1.frozen? ⟨b, o, none⟩ = W.frozen? ⟨b, o, none⟩) :=
  ⟨fun b o h => hb.cell (p := ⟨b, o, none⟩) h, fun b o h => hb.frozen (p := ⟨b, o, none⟩) h⟩

theorem two_alloc (w : World) (x y : Array Value) (t u : TypeId) : ((w.alloc (.cells x t)).alloc (.cells y u)).heap[w.heap.size]? = some (.cells x t (0, 0)) ∧ ((w.alloc (.cells x t)).alloc (.cells y u)).heap[w.heap.size + 1]? = some (.cells y u (0, 0)) ∧
    Grow w ((w.alloc (.cells x t)).alloc (.cells y u)) ∧ ((w.alloc (.cells x t)).alloc (.cells y u)).heap.size = w.heap.size + 2 :=
  ⟨(Grow.alloc _ _).heap (heap_alloc_new _ _), alloc2 _ _ _, (Grow.alloc _ _).trans (Grow.alloc _ _), by simp⟩
theorem atI_zero (l : List Mem) : atI l 0 = l[0]? := rfl
theorem head_any (h : CfgR N w cv sv c) :
    Calls Try.prog 45 #[cfgV c.epoch cv sv] w fun e w' => e = .returned (omR c.chain[0]?) ∧ Grow w w' := by
  obtain ⟨a, cc, rfl⟩ := h.chain.slice
  obtain ⟨sa, sc, rfl⟩ := h.stores.slice
  have hg1 : Grow w ((w.alloc (.cells #[.int .i64 (c.epoch : Int), .slice a c.chain.length cc, .slice sa c.stores.length sc] 59)).alloc (.cells #[.int .i64 0, .int .i64 0, .bool false] 71)) := (Grow.alloc _ _).trans (Grow.alloc _ _)
  have Hm := Lib.hid (mmember_any (h.grow hg1) 0 (by decide))
  have Hg := Lib.hid hg1
  rw [atI_zero] at Hm
  clear h hg1
  generalize c.chain[0]? = o at *
  go_enter Try.func45, Try.ntmps45
  go_wp2_with fail
  (with_reducible refine Hm.out.mono ?_)
  rintro e w1 ⟨rfl, hg1⟩
  have hz : w.heap.size + 1 < w1.heap.size := by have := hg1.size; simp at this; omega
  have Hgg := Lib.hid (Hg.out.trans hg1)
  obtain ⟨hc, hf⟩ := bcell hg1
  clear Hg Hm
  go_wp2
  exact bodyPost_ret (v := omR o) (by simp [results, Try.results45, go_sem, hc, hz]) rfl ⟨rfl, by ((repeat (first | exact Below.refl _ _ | assumption | refine Below.drew ?_ | refine bDrewN ?_ | refine Below.setCell ?_ ?_ _ | refine Below.alloc ?_ ?_ _)) <;> try (first | omega | (simp <;> omega)))⟩

theorem atI_last (l : List Mem) : atI l ((l.length : Int) - 1) = lastM l := by
  unfold atI lastM
  by_cases h : l.length = 0
  · have : l = [] := List.eq_nil_of_length_eq_zero h
    subst this; rfl
  · rw [if_neg (by omega), show ((l.length : Int) - 1).toNat = l.length - 1 by omega]
theorem tailM_any (h : CfgR N w cv sv c) :
    Calls Try.prog 67 #[cfgV c.epoch cv sv] w fun e w' => e = .returned (omR (lastM c.chain)) ∧ Grow w w' := by
  have hl := h.small
  obtain ⟨a, cc, rfl⟩ := h.chain.slice
  obtain ⟨sa, sc, rfl⟩ := h.stores.slice
  have hg1 : Grow w ((w.alloc (.cells #[.int .i64 (c.epoch : Int), .slice a c.chain.length cc, .slice sa c.stores.length sc] 59)).alloc (.cells #[.int .i64 0, .int .i64 0, .bool false] 71)) := (Grow.alloc _ _).trans (Grow.alloc _ _)
  have Hm := Lib.hid (mmember_any (h.grow hg1) ((c.chain.length : Int) - 1) (by omega))
  have Hg := Lib.hid hg1
  rw [atI_last] at Hm
  clear h hg1
  generalize lastM c.chain = o at *
  go_enter Try.func67, Try.ntmps67
  go_wp2_with fail
  (with_reducible refine Hm.out.mono ?_)
  rintro e w1 ⟨rfl, hg1⟩
  have hz : w.heap.size + 1 < w1.heap.size := by have := hg1.size; simp at this; omega
  have Hgg := Lib.hid (Hg.out.trans hg1)
  obtain ⟨hc, hf⟩ := bcell hg1
  clear Hg Hm
  go_wp2
  exact bodyPost_ret (v := omR o) (by simp [results, Try.results67, go_sem, hc, hz]) rfl ⟨rfl, by ((repeat (first | exact Below.refl _ _ | assumption | refine Below.drew ?_ | refine bDrewN ?_ | refine Below.setCell ?_ ?_ _ | refine Below.alloc ?_ ?_ _)) <;> try (first | omega | (simp <;> omega)))⟩

theorem atI_behind (l : List Mem) (n : Nat) (h : 0 ≤ plI (place l n)) : atI l (plI (place l n) + 1) = behindM l n := by
  unfold behindM
  cases hp : place l n with
  | none => rw [hp] at h; exact absurd h (by decide)
  | some i => show atI l ((i : Int) + 1) = l[i + 1]?; unfold atI; rw [if_neg (by omega)]; rfl
theorem atI_ahead (l : List Mem) (n : Nat) : atI l (plI (place l n) - 1) = aheadM l n := by
  unfold aheadM
  cases hp : place l n with
  | none => rfl
  | some i => cases i with
    | zero => rfl
    | succ i => show atI l (((i + 1 : Nat) : Int) - 1) = l[i]?; unfold atI; rw [if_neg (by omega), show (((i + 1 : Nat) : Int) - 1).toNat = i by omega]
theorem plI_le (l : List Mem) (n : Nat) : plI (place l n) ≤ l.length ∧ -1 ≤ plI (place l n) := by
  have h : ∀ (l : List Mem) (i : Nat), plI (placeF n l i) ≤ i + l.length ∧ -1 ≤ plI (placeF n l i) := by
    intro l
    induction l with
    | nil => intro i; simp [placeF, plI]
    | cons m l ih =>
      intro i
      unfold placeF
      split
      · simp [plI]; omega
      · have := ih (i + 1); simp; omega
  have := h l 0
  unfold place
  omega

theorem next_any (h : CfgR N w cv sv c) (n : Nat) :
    Calls Try.prog 55 #[cfgV c.epoch cv sv, .int .i64 (n : Int)] w fun e w' => e = .returned (omR (behindM c.chain n)) ∧ Grow w w' := by
  have hl := h.small
  obtain ⟨a, cc, rfl⟩ := h.chain.slice
  obtain ⟨sa, sc, rfl⟩ := h.stores.slice
  have hg1 : Grow w ((w.alloc (.cells #[.int .i64 (c.epoch : Int), .slice a c.chain.length cc, .slice sa c.stores.length sc] 59)).alloc (.cells #[.int .i64 0, .int .i64 0, .bool false] 71)) := (Grow.alloc _ _).trans (Grow.alloc _ _)
  have Hp := Lib.hid (place_any (h.grow hg1) n)
  have hpl := plI_le c.chain n
  have hb := atI_behind c.chain n
  have hb0 : plI (place c.chain n) < 0 → behindM c.chain n = none := by
    unfold behindM; cases place c.chain n with
    | none => intro; rfl
    | some i => intro h; exact absurd (show (i : Int) < 0 from h) (by omega)
  have H := Lib.hid h
  have Hg := Lib.hid hg1
  clear h hg1
  generalize behindM c.chain n = o at *
  generalize plI (place c.chain n) = i at *
  go_enter Try.func55, Try.ntmps55
  go_wp2_with fail
  (with_reducible refine Hp.out.mono ?_)
  rintro e w1 ⟨rfl, hg1⟩
  have hz : w.heap.size + 1 < w1.heap.size := by have := hg1.size; simp at this; omega
  have Hgg := Lib.hid (Hg.out.trans hg1)
  obtain ⟨hc, hf⟩ := bcell hg1
  have Hm := Lib.hid (mmember_any (H.out.grow Hgg.out) (i + 1) (by omega))
  clear Hg Hp
  by_cases h0 : i < 0
  · have := hb0 h0
    subst this
    clear Hm hb hb0
    go_wp2
    exact bodyPost_ret (v := omR none) (by simp [results, Try.results55, go_sem, hc, hz, zeroM]) rfl ⟨rfl, by ((repeat (first | exact Below.refl _ _ | assumption | refine Below.drew ?_ | refine bDrewN ?_ | refine Below.setCell ?_ ?_ _ | refine Below.alloc ?_ ?_ _)) <;> try (first | omega | (simp <;> omega)))⟩
  · have h0' : decide (i < 0) = false := by simpa using h0
    have h1 : 0 ≤ i := by omega
    rw [hb h1] at Hm
    clear hb hb0
    go_wp2_with fail
    (with_reducible refine Hm.out.mono ?_)
    rintro e w2 ⟨rfl, hg2⟩
    have hz2 : w.heap.size + 1 < w2.heap.size := by have := hg2.size; omega
    have Hgg2 := Lib.hid (Hgg.out.trans hg2)
    obtain ⟨hc2, hf2⟩ := bcell hg2
    clear Hgg Hm hg1
    go_wp2
    exact bodyPost_ret (v := omR o) (by simp [results, Try.results55, go_sem, hc, hc2, hz, hz2]) rfl ⟨rfl, by ((repeat (first | exact Below.refl _ _ | assumption | refine Below.drew ?_ | refine bDrewN ?_ | refine Below.setCell ?_ ?_ _ | refine Below.alloc ?_ ?_ _)) <;> try (first | omega | (simp <;> omega)))⟩
end
end Go.Proofs.Ytfchjoejdijjeaa

/- Ahead; a place in memory: member, tail, first. -/
namespace Go.Proofs.Ytfchjoejdijjeaa
open Go.RowKit Go.Gl Go.Wal Go.Ch Go.Shelf
section
variable {N : Nat → Prop} {w : World} {cv sv : Value} {c : Cfg}

theorem ahead_any (h : CfgR N w cv sv c) (n : Nat) :
    Calls Try.prog 70 #[cfgV c.epoch cv sv, .int .i64 (n : Int)] w fun e w' => e = .returned (omR (aheadM c.chain n)) ∧ Grow w w' := by
  have hl := h.small
  obtain ⟨a, cc, rfl⟩ := h.chain.slice
  obtain ⟨sa, sc, rfl⟩ := h.stores.slice
  have hh := two_alloc w #[.int .i64 (c.epoch : Int), .slice a c.chain.length cc, .slice sa c.stores.length sc] #[.int .i64 0, .int .i64 0, .bool false] 59 71
  have hpl := plI_le c.chain n
  have hb := atI_ahead c.chain n
  have H := Lib.hid h
  have Hh := Lib.hid hh
  clear h hh
  generalize aheadM c.chain n = o at *
  go_enter Try.func70, Try.ntmps70
  go_upto_region 1 with fail
  generalize (w.alloc (.cells #[.int .i64 (c.epoch : Int), .slice a c.chain.length cc, .slice sa c.stores.length sc] 59)).alloc (.cells #[.int .i64 0, .int .i64 0, .bool false] 71) = w1 at *
  obtain ⟨hb0, hb1, hg1, hs1⟩ := Hh.out
  have k0 : w1.cell? ⟨w.heap.size, 0, none⟩ = some (.int .i64 (c.epoch : Int)) := by simp [World.cell?, hb0]
  have k1 : w1.cell? ⟨w.heap.size, 1, none⟩ = some (.slice a c.chain.length cc) := by simp [World.cell?, hb0]
  have k2 : w1.cell? ⟨w.heap.size, 2, none⟩ = some (.slice sa c.stores.length sc) := by simp [World.cell?, hb0]
  have k3 : w.heap.size < w1.heap.size := by omega
  have Hp := Lib.hid (place_any ((H.out.grow hg1).grow (Grow.drew w1)) n)
  have Hb1 := Lib.hid hb1
  have Hg1 := Lib.hid hg1
  clear Hh hb0 hb1 hg1
  have HS : Hid (∀ W, Grow w1 W → Grow w W ∧ W.cell? ⟨w.heap.size, 0, none⟩ = some (.int .i64 (c.epoch : Int)) ∧ W.cell? ⟨w.heap.size, 1, none⟩ = some (.slice a c.chain.length cc) ∧ W.cell? ⟨w.heap.size, 2, none⟩ = some (.slice sa c.stores.length sc)) := Lib.hid fun W hW => by
    have hc := (bcell hW).1
    exact ⟨Hg1.out.trans hW, by rw [hc _ _ k3]; exact k0, by rw [hc _ _ k3]; exact k1, by rw [hc _ _ k3]; exact k2⟩
  generalize plI (place c.chain n) = i at *
  have hwr : IntKind.i64.wrap (i - 1) = i - 1 := IntWalk.i64_in _ (by omega)
  refine wp_region_row (fun W => Grow w W ∧ W.cell? ⟨w.heap.size, 0, none⟩ = some (.int .i64 (c.epoch : Int)) ∧ W.cell? ⟨w.heap.size, 1, none⟩ = some (.slice a c.chain.length cc) ∧ W.cell? ⟨w.heap.size, 2, none⟩ = some (.slice sa c.stores.length sc)) [3, 1, 2] (by kernel_rfl) (fun c a d v w h => by cases d <;> exact h) (HS.out _ (Grow.drew w1)) ?_
  simp only [inRow]
  repeat ((first | (apply wpPi_quiet; rfl; rintro W ⟨hW, hW0, hW1, hW2⟩; go_simp; with_reducible rfl) | (apply wpPi_off; rfl)); simp only [putA, List.set])
  refine wpPi_call (by rfl) (by go_simp) Hp.out ?_
  rintro e w2 ⟨rfl, hg2⟩
  have Hg2 := Lib.hid ((Grow.drew w1).trans hg2)
  have Hm := Lib.hid (mmember_any ((H.out.grow Hg1.out).grow Hg2.out) (i - 1) (by omega))
  rw [hb] at Hm
  refine ⟨_, rfl, HS.out _ Hg2.out, ?_⟩
  clear hg2 Hp k0 k1 k2
  try first | simp only [putA, List.set] | simp only [putN]
  repeat ((first | (apply wpPi_quiet; rfl; rintro W ⟨hW, hW0, hW1, hW2⟩; go_simp; with_reducible rfl) | (apply wpPi_off; rfl)); simp only [putA, List.set])
  refine wpPi_call (by rfl) (by go_simp) Hm.out ?_
  rintro e w3 ⟨rfl, hg3⟩
  have Hg3 := Lib.hid (Hg2.out.trans hg3)
  refine ⟨_, rfl, HS.out _ Hg3.out, ?_⟩
  clear hg3 Hm Hg2
  try first | simp only [putA, List.set] | simp only [putN]
  repeat ((first | (apply wpPi_quiet; rfl; rintro W ⟨hW, hW0, hW1, hW2⟩; go_simp; with_reducible rfl) | (apply wpPi_off; rfl)); simp only [putA, List.set])
  have hb3 := Hg3.out.heap Hb1.out
  have hne : w.heap.size + 1 ≠ w.heap.size := by omega
  have r0 : w3.cell? ⟨w.heap.size + 1, 0, none⟩ = some (.int .i64 0) := by simp [World.cell?, hb3]
  have r1 : w3.cell? ⟨w.heap.size + 1, 1, none⟩ = some (.int .i64 0) := by simp [World.cell?, hb3]
  have r2 : w3.cell? ⟨w.heap.size + 1, 2, none⟩ = some (.bool false) := by simp [World.cell?, hb3]
  have f0 : w3.frozen? ⟨w.heap.size + 1, 0, none⟩ = false := frz hb3 0
  have f1 : w3.frozen? ⟨w.heap.size + 1, 1, none⟩ = false := frz hb3 1
  have f2 : w3.frozen? ⟨w.heap.size + 1, 2, none⟩ = false := frz hb3 2
  have k4 : w.heap.size + 1 < w3.heap.size := lt_of_getElem? hb3
  clear hb3
  obtain ⟨g0, j0, j1, j2⟩ := HS.out _ Hg3.out
  refine wpPi_act (by rfl) (fun K hK => ?_)
  go_simp
  refine hK _ _ ⟨⟨by ((repeat (first | exact Below.refl _ _ | assumption | refine Below.drew ?_ | refine bDrewN ?_ | refine Below.setCell ?_ ?_ _ | refine Below.alloc ?_ ?_ _)) <;> try (first | omega | (simp <;> omega))), by go_simp, by go_simp, by go_simp⟩, ?_⟩
  clear hK K
  try first | simp only [putA, List.set] | simp only [putN]
  repeat ((first | (apply wpPi_quiet; rfl; rintro W ⟨hW, hW0, hW1, hW2⟩; go_simp; with_reducible rfl) | (apply wpPi_off; rfl)); simp only [putA, List.set])
  refine wpPi_nil ?_
  go_wp2
  exact bodyPost_ret (v := omR o) (by simp [results, Try.results70, go_sem, r0, r1, r2]) rfl ⟨rfl, by ((repeat (first | exact Below.refl _ _ | assumption | refine Below.drew ?_ | refine bDrewN ?_ | refine Below.setCell ?_ ?_ _ | refine Below.alloc ?_ ?_ _)) <;> try (first | omega | (simp <;> omega)))⟩

/-- A place in memory: the first seven cells of a block. -/
structure PlAt (N : Nat → Prop) (w : World) (b : Nat) (d : Nd) (cv sv : Value) : Prop where
  lt : b < w.heap.size
  c0 : w.cell? ⟨b, 0, none⟩ = some (.int .i64 (d.cfg.epoch : Int))
  c1 : w.cell? ⟨b, 1, none⟩ = some cv
  c2 : w.cell? ⟨b, 2, none⟩ = some sv
  c3 : w.cell? ⟨b, 3, none⟩ = some (.int .i64 (d.self : Int))
  c4 : w.cell? ⟨b, 4, none⟩ = some (.int .i64 (d.birth : Int))
  c5 : w.cell? ⟨b, 5, none⟩ = some (.bool d.has)
  c6 : w.cell? ⟨b, 6, none⟩ = some (.bool d.told)
  cfg : CfgR N w cv sv d.cfg
theorem PlAt.grow {w' : World} {b : Nat} {d : Nd} (h : PlAt N w b d cv sv) (hg : Grow w w') : PlAt N w' b d cv sv := by
  have hc := (bcell hg).1
  exact ⟨Nat.lt_of_lt_of_le h.lt hg.size, by rw [hc _ _ h.lt, h.c0], by rw [hc _ _ h.lt, h.c1], by rw [hc _ _ h.lt, h.c2], by rw [hc _ _ h.lt, h.c3], by rw [hc _ _ h.lt, h.c4], by rw [hc _ _ h.lt, h.c5], by rw [hc _ _ h.lt, h.c6], h.cfg.grow hg⟩

theorem memAt_place (d : Nd) : (∃ i m, place d.cfg.chain d.self = some i ∧ d.cfg.chain[i]? = some m) ∨ place d.cfg.chain d.self = none := by
  have h : ∀ (l : List Mem) (k i : Nat), placeF d.self l k = some i → k ≤ i ∧ i < k + l.length := by
    intro l
    induction l with
    | nil => intro k i h; cases h
    | cons m l ih =>
      intro k i h
      unfold placeF at h
      split at h
      · cases h; simp
      · have := ih _ _ h; simp; omega
  cases hp : place d.cfg.chain d.self with
  | none => exact .inr rfl
  | some i =>
    have := h _ _ _ hp
    exact .inl ⟨i, _, rfl, List.getElem?_eq_getElem (by omega)⟩

theorem pmember_any {b : Nat} {d : Nd} (h : PlAt N w b d cv sv) :
    Calls Try.prog 28 #[.pointer (some ⟨b, 0, none⟩)] w fun e w' => e = .returned (omR d.member) ∧ Grow w w' := by
  have hl := h.cfg.small
  have H := Lib.hid h
  obtain ⟨a, cc, rfl⟩ := h.cfg.chain.slice
  obtain ⟨sa, sc, rfl⟩ := h.cfg.stores.slice
  have hg1 : Grow w (w.alloc (.cells #[.int .i64 0, .int .i64 0, .bool false] 71)) := Grow.alloc _ _
  have hr := heap_alloc_new w (.cells #[.int .i64 0, .int .i64 0, .bool false] 71)
  have hpl : (plI (place d.cfg.chain d.self) < 0 ∧ d.member = none) ∨ (∃ (i : Nat) (m : Mem), plI (place d.cfg.chain d.self) = i ∧ d.cfg.chain[i]? = some m ∧ d.member = if m.birth = d.birth then some m else none) := by
    rcases memAt_place d with ⟨i, m, h1, h2⟩ | h1
    · exact .inr ⟨i, m, by rw [h1]; rfl, h2, by unfold Nd.member; rw [h1]; simp only [memAt, h2]⟩
    · exact .inl ⟨by rw [h1]; decide, by unfold Nd.member; rw [h1]; rfl⟩
  have HPl := Lib.hid hpl
  clear hpl
  generalize d.member = oo at *
  have Hr := Lib.hid hr
  have Hg1 := Lib.hid hg1
  have hlt := h.lt
  clear h hg1 hr
  go_enter Try.func28, Try.ntmps28
  go_upto_region 1 with fail
  generalize w.alloc (.cells #[.int .i64 0, .int .i64 0, .bool false] 71) = w1 at *
  have HS : Hid (∀ W, Grow w1 W → Grow w1 W ∧ b < W.heap.size ∧ W.cell? ⟨b, 0, none⟩ = some (.int .i64 (d.cfg.epoch : Int)) ∧ W.cell? ⟨b, 1, none⟩ = some (.slice a d.cfg.chain.length cc) ∧ W.cell? ⟨b, 2, none⟩ = some (.slice sa d.cfg.stores.length sc) ∧ W.cell? ⟨b, 3, none⟩ = some (.int .i64 (d.self : Int)) ∧ W.cell? ⟨b, 4, none⟩ = some (.int .i64 (d.birth : Int))) := Lib.hid fun W hW => by
    have h1 := (H.out.grow Hg1.out).grow hW
    exact ⟨hW, h1.lt, h1.c0, h1.c1, h1.c2, h1.c3, h1.c4⟩
  refine wp_region_row (fun W => Grow w1 W ∧ b < W.heap.size ∧ W.cell? ⟨b, 0, none⟩ = some (.int .i64 (d.cfg.epoch : Int)) ∧ W.cell? ⟨b, 1, none⟩ = some (.slice a d.cfg.chain.length cc) ∧ W.cell? ⟨b, 2, none⟩ = some (.slice sa d.cfg.stores.length sc) ∧ W.cell? ⟨b, 3, none⟩ = some (.int .i64 (d.self : Int)) ∧ W.cell? ⟨b, 4, none⟩ = some (.int .i64 (d.birth : Int))) [8] (by kernel_rfl) (fun c a d v w h => by cases d <;> exact h) (HS.out _ (Grow.drew w1)) ?_
  simp only [inRow]
  repeat ((first | (apply wpPi_quiet; rfl; rintro W ⟨hW, hlt, hW0, hW1, hW2, hW3, hW4⟩; go_simp; with_reducible rfl) | (apply wpPi_off; rfl)); simp only [putA, List.set])
  refine wpPi_call (by rfl) (by go_simp) (place_any ((H.out.grow Hg1.out).grow (Grow.drew w1)).cfg d.self) ?_
  rintro e w2 ⟨rfl, hg2⟩
  have Hg2 := Lib.hid ((Grow.drew w1).trans hg2)
  refine ⟨_, rfl, HS.out _ Hg2.out, ?_⟩
  clear hg2
  try first | simp only [putA, List.set] | simp only [putN]
  repeat ((first | (apply wpPi_quiet; rfl; rintro W ⟨hW, hlt, hW0, hW1, hW2, hW3, hW4⟩; go_simp; with_reducible rfl) | (apply wpPi_off; rfl)); simp only [putA, List.set])
  refine wpPi_nil ?_
  have hr2 := Hg2.out.heap Hr.out
  have r0 : w2.cell? ⟨w.heap.size, 0, none⟩ = some (.int .i64 0) := by simp [World.cell?, hr2]
  have r1 : w2.cell? ⟨w.heap.size, 1, none⟩ = some (.int .i64 0) := by simp [World.cell?, hr2]
  have r2 : w2.cell? ⟨w.heap.size, 2, none⟩ = some (.bool false) := by simp [World.cell?, hr2]
  have f0 : w2.frozen? ⟨w.heap.size, 0, none⟩ = false := frz hr2 0
  have f1 : w2.frozen? ⟨w.heap.size, 1, none⟩ = false := frz hr2 1
  have f2 : w2.frozen? ⟨w.heap.size, 2, none⟩ = false := frz hr2 2
  have hpl := HPl.out
  clear HPl
  generalize plI (place d.cfg.chain d.self) = i at *
  have HG : Hid (Grow w w2) := Lib.hid (Hg1.out.trans Hg2.out)
  have hb2 : w.heap.size < w2.heap.size := lt_of_getElem? hr2
  have hP := (H.out.grow HG.out)
  have HP := Lib.hid hP
  have k0 := hP.c1
  have k4 := hP.c4
  have hbl := hP.lt
  clear hr2 Hr HS hP
  rcases hpl with ⟨h0, hm⟩ | ⟨k, m, rfl, hk, hm⟩
  · subst hm
    clear HP
    go_wp2_with fail
    refine wp_region_row (fun W => W = w2.drew) [] (by kernel_rfl) (fun c a d v w h => by cases d <;> exact h) rfl ?_
    simp only [inRow]
    repeat ((first | (apply wpPi_quiet; rfl; rintro W rfl; go_simp; with_reducible rfl) | (apply wpPi_off; rfl)); simp only [putA, List.set])
    refine wpPi_nil ?_
    go_wp2
    exact bodyPost_ret (v := omR none) (by simp [results, Try.results28, go_sem, r0, r1, r2, zeroM]) rfl ⟨rfl, by ((repeat (first | exact Below.refl _ _ | assumption | refine Below.drew ?_ | refine bDrewN ?_ | refine Below.setCell ?_ ?_ _ | refine Below.alloc ?_ ?_ _)) <;> try (first | omega | (simp <;> omega)))⟩
  · have hki : ¬ (k : Int) < 0 := by omega
    have hkl : k < d.cfg.chain.length := (List.getElem?_eq_some_iff.1 hk).1
    have hkl' : (k : Int) < (d.cfg.chain.length : Int) := by omega
    obtain ⟨b2, o2, c2, e2, hN, hb2', hr2⟩ := H.out.cfg.chain.addr hk
    cases e2
    obtain ⟨m0, m1, m2⟩ := rd_mem hr2 hk
    rw [← (bcell HG.out).1 _ _ hb2'] at m0 m1 m2
    have hne : b2 ≠ w.heap.size := by omega
    clear hr2 hk HP hkl
    by_cases hb : m.birth = d.birth
    · rw [if_pos hb] at hm
      subst hm
      have hbb : ((m.birth : Int) == (d.birth : Int)) = true := by simp; omega
      have hbn : ((m.birth : Int) != (d.birth : Int)) = false := by simp [hb]
      clear hb
      go_wp2_with fail
      refine wp_region_row (fun W => W = w2.drew) [] (by kernel_rfl) (fun c a d v w h => by cases d <;> exact h) rfl ?_
      simp only [inRow]
      repeat ((first | (apply wpPi_quiet; rfl; rintro W rfl; go_simp; with_reducible rfl) | (apply wpPi_off; rfl)); simp only [putA, List.set])
      refine wpPi_nil ?_
      go_wp2
      exact bodyPost_ret (v := omR (some m)) (by simp [results, Try.results28, go_sem, r0, r1, r2]) rfl ⟨rfl, by ((repeat (first | exact Below.refl _ _ | assumption | refine Below.drew ?_ | refine bDrewN ?_ | refine Below.setCell ?_ ?_ _ | refine Below.alloc ?_ ?_ _)) <;> try (first | omega | (simp <;> omega)))⟩
    · rw [if_neg hb] at hm
      subst hm
      have hbb : ((m.birth : Int) == (d.birth : Int)) = false := by simp; omega
      have hbn : ((m.birth : Int) != (d.birth : Int)) = true := by simp; omega
      clear hb
      go_wp2_with fail
      refine wp_region_row (fun W => W = w2.drew) [] (by kernel_rfl) (fun c a d v w h => by cases d <;> exact h) rfl ?_
      simp only [inRow]
      repeat ((first | (apply wpPi_quiet; rfl; rintro W rfl; go_simp; with_reducible rfl) | (apply wpPi_off; rfl)); simp only [putA, List.set])
      refine wpPi_nil ?_
      go_wp2
      exact bodyPost_ret (v := omR none) (by simp [results, Try.results28, go_sem, r0, r1, r2, zeroM]) rfl ⟨rfl, by ((repeat (first | exact Below.refl _ _ | assumption | refine Below.drew ?_ | refine bDrewN ?_ | refine Below.setCell ?_ ?_ _ | refine Below.alloc ?_ ?_ _)) <;> try (first | omega | (simp <;> omega)))⟩
end
end Go.Proofs.Ytfchjoejdijjeaa

/- A place in memory: tail, first. -/
namespace Go.Proofs.Ytfchjoejdijjeaa
open Go.RowKit Go.Gl Go.Wal Go.Ch Go.Shelf
section
variable {N : Nat → Prop} {w : World} {cv sv : Value}
theorem om_split {f : FuncId} {args : Array Value} {w : World} {o : Option Mem} (h : Calls Try.prog f args w fun e w' => e = .returned (omR o) ∧ Grow w w') {M : Mem} {s : Bool} (hM : o.getD zeroM = M) (hs : o.isSome = s) :
    Calls Try.prog f args w fun e w' => e = .returned (.tuple #[.agg #[.int .i64 (M.node : Int), .int .i64 (M.birth : Int), .bool M.whole], .bool s]) ∧ Grow w w' := by
  subst hM hs; exact h

theorem ptail_any {b : Nat} {d : Nd} (h : PlAt N w b d cv sv) :
    Calls Try.prog 48 #[.pointer (some ⟨b, 0, none⟩)] w fun e w' => e = .returned (.bool d.tail) ∧ Grow w w' := by
  have hl := h.cfg.small
  have H := Lib.hid h
  obtain ⟨a, cc, rfl⟩ := h.cfg.chain.slice
  obtain ⟨sa, sc, rfl⟩ := h.cfg.stores.slice
  have ht := tailM_any h.cfg
  obtain ⟨h1, h2, h3, h4⟩ : w.cell? ⟨b, 0, none⟩ = some (.int .i64 (d.cfg.epoch : Int)) ∧ w.cell? ⟨b, 1, none⟩ = some (.slice a d.cfg.chain.length cc) ∧ w.cell? ⟨b, 2, none⟩ = some (.slice sa d.cfg.stores.length sc) ∧ b < w.heap.size := ⟨h.c0, h.c1, h.c2, h.lt⟩
  have hres : d.tail = ((lastM d.cfg.chain).isSome && d.member.isSome && ((((lastM d.cfg.chain).getD zeroM).node : Int) == (d.self : Int))) := by
    unfold Nd.tail Nd.isM
    cases (lastM d.cfg.chain) with
    | none => rfl
    | some m => simp only [Option.isSome_some, Option.getD_some, Bool.true_and]; congr 1; by_cases hm : m.node = d.self <;> simp [hm]; omega
  generalize d.tail = dt at *
  clear h
  generalize hoo : (lastM d.cfg.chain) = oo at *
  clear hoo
  obtain ⟨M, hM⟩ : ∃ M, oo.getD zeroM = M := ⟨_, rfl⟩
  obtain ⟨ss, hss⟩ : ∃ s, oo.isSome = s := ⟨_, rfl⟩
  rw [hM, hss] at hres
  have Ht := Lib.hid (om_split ht hM hss)
  clear ht hM hss oo
  obtain ⟨pM, hpM⟩ : ∃ M, d.member.getD zeroM = M := ⟨_, rfl⟩
  obtain ⟨ms, hms⟩ : ∃ s, d.member.isSome = s := ⟨_, rfl⟩
  rw [hms] at hres
  have Hres := Lib.hid hres
  clear hres
  go_enter Try.func48, Try.ntmps48
  go_wp2_with fail
  (with_reducible refine Ht.out.mono ?_)
  rintro e w1 ⟨rfl, hg1⟩
  have Hg1 := Lib.hid hg1
  have HP := Lib.hid (H.out.grow hg1)
  have hga : Grow w1 (w1.alloc (.cells #[.int .i64 (M.node : Int), .int .i64 (M.birth : Int), .bool M.whole] 71)) := Grow.alloc _ _
  have Hga := Lib.hid hga
  have Hp := Lib.hid (om_split (pmember_any (HP.out.grow hga)) hpM hms)
  have hr0 := heap_alloc_new w1 (.cells #[.int .i64 (M.node : Int), .int .i64 (M.birth : Int), .bool M.whole] 71)
  have Hr0 := Lib.hid hr0
  clear hg1 hr0 hga Ht h1 h2 h3 h4
  go_wp2_with fail
  generalize w1.alloc (.cells #[.int .i64 (M.node : Int), .int .i64 (M.birth : Int), .bool M.whole] 71) = w2 at *
  (with_reducible refine Hp.out.mono ?_)
  rintro e w3 ⟨rfl, hg3⟩
  have Hg3 := Lib.hid (Hga.out.trans hg3)
  have hr1 := hg3.heap Hr0.out
  have HG := Lib.hid (Hg1.out.trans Hg3.out)
  have HP3 := HP.out.grow Hg3.out
  have r0 : w3.cell? ⟨w1.heap.size, 0, none⟩ = some (.int .i64 (M.node : Int)) := by simp [World.cell?, hr1]
  have l1 : w1.heap.size < w3.heap.size := lt_of_getElem? hr1
  have c3 := HP3.c3
  have lb := HP3.lt
  have nb : b ≠ w3.heap.size := by omega
  have nr : w1.heap.size ≠ w3.heap.size := by omega
  obtain ⟨bt, hbt⟩ : ∃ q, ((M.node : Int) == (d.self : Int)) = q := ⟨_, rfl⟩
  rw [hbt] at Hres
  clear Hp hr1 Hr0 Hga hg3 HP HP3
  go_upto_region 3 with fail
  refine wp_region_row (fun W => W = (w3.alloc (.cells #[.int .i64 (pM.node : Int), .int .i64 (pM.birth : Int), .bool pM.whole] 71)).drew) [] (by kernel_rfl) (fun c a d v w h => by cases d <;> exact h) rfl ?_
  simp only [inRow]
  cases ss <;> cases ms
  all_goals
    repeat ((first | (apply wpPi_quiet; rfl; rintro W rfl; go_simp; with_reducible rfl) | (apply wpPi_off; rfl)); simp only [putA, List.set])
    refine wpPi_nil ?_
    go_wp2
    go_ret
    exact ⟨by rw [Hres.out]; rfl, by have h1 := HG.out; have h2 := h1.size; ((repeat (first | exact Below.refl _ _ | assumption | refine Below.drew ?_ | refine bDrewN ?_ | refine Below.setCell ?_ ?_ _ | refine Below.alloc ?_ ?_ _)) <;> try (first | omega | (simp <;> omega)))⟩

theorem pfirst_any {b : Nat} {d : Nd} (h : PlAt N w b d cv sv) :
    Calls Try.prog 29 #[.pointer (some ⟨b, 0, none⟩)] w fun e w' => e = .returned (.bool d.first) ∧ Grow w w' := by
  have hl := h.cfg.small
  have H := Lib.hid h
  obtain ⟨a, cc, rfl⟩ := h.cfg.chain.slice
  obtain ⟨sa, sc, rfl⟩ := h.cfg.stores.slice
  have ht := head_any h.cfg
  obtain ⟨h1, h2, h3, h4⟩ : w.cell? ⟨b, 0, none⟩ = some (.int .i64 (d.cfg.epoch : Int)) ∧ w.cell? ⟨b, 1, none⟩ = some (.slice a d.cfg.chain.length cc) ∧ w.cell? ⟨b, 2, none⟩ = some (.slice sa d.cfg.stores.length sc) ∧ b < w.heap.size := ⟨h.c0, h.c1, h.c2, h.lt⟩
  have hres : d.first = (d.cfg.chain[0]?.isSome && d.member.isSome && (((d.cfg.chain[0]?.getD zeroM).node : Int) == (d.self : Int))) := by
    unfold Nd.first Nd.isM
    cases d.cfg.chain[0]? with
    | none => rfl
    | some m => simp only [Option.isSome_some, Option.getD_some, Bool.true_and]; congr 1; by_cases hm : m.node = d.self <;> simp [hm]; omega
  generalize d.first = dt at *
  clear h
  generalize hoo : d.cfg.chain[0]? = oo at *
  clear hoo
  obtain ⟨M, hM⟩ : ∃ M, oo.getD zeroM = M := ⟨_, rfl⟩
  obtain ⟨ss, hss⟩ : ∃ s, oo.isSome = s := ⟨_, rfl⟩
  rw [hM, hss] at hres
  have Ht := Lib.hid (om_split ht hM hss)
  clear ht hM hss oo
  obtain ⟨pM, hpM⟩ : ∃ M, d.member.getD zeroM = M := ⟨_, rfl⟩
  obtain ⟨ms, hms⟩ : ∃ s, d.member.isSome = s := ⟨_, rfl⟩
  rw [hms] at hres
  have Hres := Lib.hid hres
  clear hres
  go_enter Try.func29, Try.ntmps29
  go_wp2_with fail
  (with_reducible refine Ht.out.mono ?_)
  rintro e w1 ⟨rfl, hg1⟩
  have Hg1 := Lib.hid hg1
  have HP := Lib.hid (H.out.grow hg1)
  have hga : Grow w1 (w1.alloc (.cells #[.int .i64 (M.node : Int), .int .i64 (M.birth : Int), .bool M.whole] 71)) := Grow.alloc _ _
  have Hga := Lib.hid hga
  have Hp := Lib.hid (om_split (pmember_any (HP.out.grow hga)) hpM hms)
  have hr0 := heap_alloc_new w1 (.cells #[.int .i64 (M.node : Int), .int .i64 (M.birth : Int), .bool M.whole] 71)
  have Hr0 := Lib.hid hr0
  clear hg1 hr0 hga Ht h1 h2 h3 h4
  go_wp2_with fail
  generalize w1.alloc (.cells #[.int .i64 (M.node : Int), .int .i64 (M.birth : Int), .bool M.whole] 71) = w2 at *
  (with_reducible refine Hp.out.mono ?_)
  rintro e w3 ⟨rfl, hg3⟩
  have Hg3 := Lib.hid (Hga.out.trans hg3)
  have hr1 := hg3.heap Hr0.out
  have HG := Lib.hid (Hg1.out.trans Hg3.out)
  have HP3 := HP.out.grow Hg3.out
  have r0 : w3.cell? ⟨w1.heap.size, 0, none⟩ = some (.int .i64 (M.node : Int)) := by simp [World.cell?, hr1]
  have l1 : w1.heap.size < w3.heap.size := lt_of_getElem? hr1
  have c3 := HP3.c3
  have lb := HP3.lt
  have nb : b ≠ w3.heap.size := by omega
  have nr : w1.heap.size ≠ w3.heap.size := by omega
  obtain ⟨bt, hbt⟩ : ∃ q, ((M.node : Int) == (d.self : Int)) = q := ⟨_, rfl⟩
  rw [hbt] at Hres
  clear Hp hr1 Hr0 Hga hg3 HP HP3
  go_upto_region 3 with fail
  refine wp_region_row (fun W => W = (w3.alloc (.cells #[.int .i64 (pM.node : Int), .int .i64 (pM.birth : Int), .bool pM.whole] 71)).drew) [] (by kernel_rfl) (fun c a d v w h => by cases d <;> exact h) rfl ?_
  simp only [inRow]
  cases ss <;> cases ms
  all_goals
    repeat ((first | (apply wpPi_quiet; rfl; rintro W rfl; go_simp; with_reducible rfl) | (apply wpPi_off; rfl)); simp only [putA, List.set])
    refine wpPi_nil ?_
    go_wp2
    go_ret
    exact ⟨by rw [Hres.out]; rfl, by have h1 := HG.out; have h2 := h1.size; ((repeat (first | exact Below.refl _ _ | assumption | refine Below.drew ?_ | refine bDrewN ?_ | refine Below.setCell ?_ ?_ _ | refine Below.alloc ?_ ?_ _)) <;> try (first | omega | (simp <;> omega)))⟩
end
end Go.Proofs.Ytfchjoejdijjeaa
