/- Merged out of F1, F2, F3, F4, F5, F6, F7, F8, F9, FA, S1, S2, S3, FO: helpers. -/
import Derived.Test.YtpiedpdffkfhpaaDoorW4
import Derived.Deep.CutBlock
import Derived.Deep.DeepCutAuto
import Derived.Lib.SlBytesConst
import Derived.Deep.Slices
import Derived.Lib.SmallJoins
import Derived.ProofKit
/- Rows of payloads apart from a disk; append of rows. -/
namespace Go.Proofs.YtpiedpdffkfhpaaDoor
open Go.RowKit Go.Gl Go.Wal Go.Sort

/-- A row of payloads of one's own, none of whose bytes are a disk's. -/
def OwnRF (B : Nat) (F : Nat → Prop) (w : World) (v : Value) (ps : List (List UInt8)) : Prop :=
  ∃ vals, Row1 23 B w v vals ∧ vals.length = ps.length ∧ ∀ (i : Nat) (u : Value) (p : List UInt8), vals[i]? = some u → ps[i]? = some p → OwnB B w u p ∧ ∀ b, u.ownBlock = some b → ¬ F b

theorem ownRF_nil (B : Nat) (F : Nat → Prop) (w : World) : OwnRF B F w (.slice none 0 0) [] := ⟨[], row1_nil _ _ _, rfl, fun i u p h => by simp at h⟩
theorem OwnRF.own {B : Nat} {F : Nat → Prop} {w : World} {v : Value} {ps : List (List UInt8)} (h : OwnRF B F w v ps) : OwnR B w v ps := by
  obtain ⟨vals, h1, h2, h3⟩ := h
  exact ⟨vals, h1, h2, fun i u p hu hp => (h3 i u p hu hp).1⟩
theorem OwnR.apart {B : Nat} {F : Nat → Prop} {w : World} {v : Value} {ps : List (List UInt8)} (h : OwnR B w v ps) (hF : ∀ b, F b → b < B) : OwnRF B F w v ps := by
  obtain ⟨vals, h1, h2, h3⟩ := h
  exact ⟨vals, h1, h2, fun i u p hu hp => ⟨h3 i u p hu hp, fun b hb hf => by have := ((h3 i u p hu hp).lt hb).1; have := hF b hf; omega⟩⟩
theorem OwnRF.mono {B B' : Nat} {F : Nat → Prop} {w : World} {v : Value} {ps : List (List UInt8)} (h : OwnRF B F w v ps) (hB : B' ≤ B) : OwnRF B' F w v ps := by
  obtain ⟨vals, h1, h2, h3⟩ := h
  exact ⟨vals, h1.mono hB, h2, fun i u p hu hp => ⟨(h3 i u p hu hp).1.mono hB, (h3 i u p hu hp).2⟩⟩
theorem OwnRF.grow {B : Nat} {F : Nat → Prop} {w w' : World} {v : Value} {ps : List (List UInt8)} (h : OwnRF B F w v ps) (hg : Grow w w') : OwnRF B F w' v ps := by
  obtain ⟨vals, h1, h2, h3⟩ := h
  exact ⟨vals, h1.grow hg, h2, fun i u p hu hp => ⟨(h3 i u p hu hp).1.grow hg, (h3 i u p hu hp).2⟩⟩
theorem OwnRF.sep {Z B B' : Nat} {F F' : Nat → Prop} {w w' : World} {v : Value} {ps : List (List UInt8)} {p r : Nat} {V : Vw} (h : OwnRF B F w v ps) (hd : Dk Z B' w p r V F) (hs : Sep F w w' F') : OwnRF B F' w' v ps := by
  obtain ⟨vals, h1, h2, h3⟩ := h
  refine ⟨vals, h1.keep (fun g hg => ?_), h2, fun i u q hu hq => ?_⟩
  · obtain ⟨cur, hb⟩ := h1.block hg
    exact hs.out g (lt_of_getElem? hb) (hd.apart hb (by decide) (by decide) (by decide))
  · obtain ⟨h4, h5⟩ := h3 i u q hu hq
    exact ⟨h4.keep (fun b hb => hs.out b (h4.lt hb).2 (h5 b hb)), fun b hb => (hs.free (h4.lt hb).2 (h5 b hb)).2.2⟩
theorem OwnRF.slice {B : Nat} {F : Nat → Prop} {w : World} {v : Value} {ps : List (List UInt8)} (h : OwnRF B F w v ps) : ∃ a c, v = .slice a ps.length c := h.own.slice

theorem Row1.src {B : Nat} {w : World} {v : Value} {xs : List Value} (h : Row1 23 B w v xs) (hone : ∀ u ∈ xs, u.oneCell' = true) : Src Tryd.prog 1 22 v xs.length xs w := by
  rcases id h with ⟨rfl, rfl⟩ | ⟨g, cap, cur, rfl, hB, hg, hn, hc, hm, ht⟩
  · exact Src.ofNil w Tryd.underlying22 0
  · refine Src.ofSlice w Tryd.underlying22 ⟨g, 0, none⟩ xs.length cap xs (by simp) (fun j u hu => ?_) hone
    rw [Addr.add_lit, Nat.zero_add]
    exact h.cells rfl hu

/-- 'append(all, some...)'. -/
theorem append_rows {B B' : Nat} {F : Nat → Prop} {w : World} {v x : Value} {ps qs : List (List UInt8)} (h : OwnRF B F w v ps) (hx : OwnRF B' F w x qs) (hB : B ≤ w.heap.size) (hBB : B ≤ B') (hlen : ps.length + qs.length ≤ 1000000000000) :
    ∃ v' w', (Builtin.append_ #[22, 22] 22 #[v, x]).run Tryd.prog w = .ok v' w' ∧ OwnRF B F w' v' (ps ++ qs) ∧ w.grownBy w' v.ownBlock ∧ (∀ g, v.ownBlock = some g → B ≤ g ∧ ∃ cur, w.heap[g]? = some (.cells cur 23 (0, 0))) := by
  obtain ⟨vals, h1, h2, h3⟩ := h
  obtain ⟨news, k1, k2, k3⟩ := hx
  have hone : ∀ u ∈ news, u.oneCell' = true := fun u hu => by
    obtain ⟨i, hi, rfl⟩ := List.getElem_of_mem hu
    exact (k3 i news[i] (qs[i]'(by omega)) (by simp [hi]) (by simp [show i < qs.length by omega])).1.oneCell
  obtain ⟨v', w', r1, r2, r3, r4⟩ := run_append_row (ty := 22) Tryd.underlying22 Tryd.infoR rfl h1 (Row1.src k1 hone) hB (by rw [h2, k2]; unfold maxLen; omega) (by rw [h2, k2]; omega)
  have hne : ∀ b u q C, OwnB C w u q → u.ownBlock = some b → w'.heap[b]? = w.heap[b]? := fun b u q C hu hb => by
    obtain ⟨cur, hc⟩ := hu.block hb
    exact r3.block b (lt_of_getElem? hc) (fun he => h1.apart hc (by decide) he.symm)
  refine ⟨v', w', r1, ⟨vals ++ news, r2, by simp [h2, k2], fun i u q hu hq => ?_⟩, r3, fun g hg => ⟨(h1.lt hg).1, h1.block hg⟩⟩
  by_cases hi : i < vals.length
  · rw [List.getElem?_append_left hi] at hu
    rw [List.getElem?_append_left (by omega)] at hq
    obtain ⟨h4, h5⟩ := h3 i u q hu hq
    exact ⟨h4.keep (fun b hb => hne b u q _ h4 hb), h5⟩
  · rw [List.getElem?_append_right (by omega)] at hu
    rw [List.getElem?_append_right (by omega)] at hq
    rw [h2] at hu
    obtain ⟨h4, h5⟩ := k3 _ u q hu hq
    exact ⟨(h4.keep (fun b hb => hne b u q _ h4 hb)).mono hBB, h5⟩

theorem DiskAt.keep {B : Nat} {w w' : World} {p r : Nat} {size used born : Int} {fs : List Fe} (h : DiskAt B w p r size used born fs) (hs : w.heap.size ≤ w'.heap.size) (hk : ∀ b, Foot p r fs b → w'.heap[b]? = w.heap[b]?) : DiskAt B w' p r size used born fs := by
  obtain ⟨c, hm, hc⟩ := h.map
  refine ⟨(hk p (.inl rfl)).trans h.self, ⟨c, (hk r (.inr (.inl rfl))).trans hm, hc⟩, h.names, h.borns, h.fbs, h.rows, fun f hf => ⟨(hk f.fb (.inr (.inr ⟨f, hf, .inl rfl⟩))).trans (h.files f hf).cell, (h.files f hf).row.keep (fun b hb => hk b (.inr (.inr ⟨f, hf, .inr hb⟩))), (h.files f hf).base, (h.files f hf).sync⟩, h.base.1, h.base.2.1, Nat.le_trans h.base.2.2 hs⟩

theorem Dk.keep {Z B : Nat} {w w' : World} {p r : Nat} {V : Vw} {F : Nat → Prop} (h : Dk Z B w p r V F) (hs : w.heap.size ≤ w'.heap.size) (hk : ∀ b, F b → w'.heap[b]? = w.heap[b]?) : Dk Z B w' p r V F := by
  obtain ⟨hZ, h0, born, fs, h1, h2, rfl⟩ := h
  exact ⟨hZ, h0, born, fs, h1.keep hs hk, h2, rfl⟩

/-- A row of one's own grows: the disk stays. -/
theorem Dk.row {Z B : Nat} {w w' : World} {p r : Nat} {V : Vw} {F : Nat → Prop} (h : Dk Z B w p r V F) {o : Option Nat} (hg : w.grownBy w' o) (ho : ∀ g, o = some g → ∃ t cur, w.heap[g]? = some (.cells cur t (0, 0)) ∧ t ≠ 52 ∧ t ≠ 67 ∧ t ≠ 5) : Dk Z B w' p r V F :=
  h.keep hg.size (fun b hb => hg.block b (h.foot hb).2 (fun he => by
    obtain ⟨t, cur, h1, h2, h3, h4⟩ := ho b he.symm
    exact h.apart h1 h2 h3 h4 hb))

theorem Sep.row {F F' : Nat → Prop} {w wr w' : World} (h : Sep F w wr F') {o : Option Nat} (hg : wr.grownBy w' o) (ho : ∀ g, o = some g → w.heap.size ≤ g) : Sep F w w' F' :=
  ⟨hg.os.trans h.os, hg.tape.trans h.tape, hg.output.trans h.output, Nat.le_trans h.size hg.size, fun b hb hn => by
    rw [hg.block b (Nat.lt_of_lt_of_le hb h.size) (fun he => by have := ho b he.symm; omega)]
    exact h.out b hb hn, h.foot⟩

theorem LogAt.row {w w' : World} {lb p : Nat} {nm : List UInt8} {last : Int} (h : LogAt w lb p nm last) {o : Option Nat} (hg : w.grownBy w' o) (ho : ∀ g, o = some g → ∃ t cur, w.heap[g]? = some (.cells cur t (0, 0)) ∧ t ≠ 55) : LogAt w' lb p nm last :=
  ⟨(hg.block lb (lt_of_getElem? h.self) (fun he => by
    obtain ⟨t, cur, h1, h2⟩ := ho lb he.symm
    rw [h.self] at h1; cases h1; exact h2 rfl)).trans h.self⟩

theorem rfF_le (T : List Nat) : ∀ (k : Nat) (b : List UInt8), (rfF T k b).2.1 ≤ b.length ∧ (b.length < k → (rfF T k b).2.2 = 0 → (rfF T k b).2.1 = b.length) ∧ (rfF T k b).1.length ≤ b.length
  | 0, b => ⟨Nat.zero_le _, fun h => by omega, Nat.zero_le _⟩
  | k + 1, b => by
    rw [rfF]
    split
    · rename_i h; subst h; exact ⟨Nat.le_refl _, fun _ _ => rfl, Nat.le_refl _⟩
    · split
      · rename_i h h2; exact ⟨Nat.zero_le _, fun _ he => absurd he h2, Nat.zero_le _⟩
      · rename_i h h2
        obtain ⟨f1, f2, f3⟩ := fr_le T b (by omega)
        obtain ⟨i1, i2, i3⟩ := rfF_le T k (b.drop (frD T b).2.1)
        rw [List.length_drop] at i1 i2 i3
        dsimp only
        refine ⟨by omega, fun hb he => ?_, by rw [List.length_cons]; omega⟩
        have := i2 (by omega) he
        omega

theorem rfD_le (T : List Nat) (b : List UInt8) : (rfD T b).2.1 ≤ b.length := (rfF_le T _ b).1
theorem rfD_ok {T : List Nat} {b : List UInt8} (h : (rfD T b).2.2 = 0) : (rfD T b).2.1 = b.length := (rfF_le T _ b).2.1 (by omega) h
theorem rfD_num (T : List Nat) (b : List UInt8) : (rfD T b).1.length ≤ b.length := (rfF_le T _ b).2.2
end Go.Proofs.YtpiedpdffkfhpaaDoor

/- wal.Open: what it leaves, as data; the log's own cell. -/
namespace Go.Proofs.YtpiedpdffkfhpaaDoor
open Go.RowKit Go.Gl Go.Wal Go.Sort

/-- Open goes through the segments: the payloads, and the segments that it leaves. -/
def openL (T : List Nat) : List (List UInt8 × Nat) → List (List UInt8) × List (List UInt8 × Nat)
  | [] => ([], [])
  | q :: L => if (rfD T q.1).2.2 = 0 then ((rfD T q.1).1 ++ (openL T L).1, (q.1, q.1.length) :: (openL T L).2) else ((rfD T q.1).1, [(q.1.take (rfD T q.1).2.1, (rfD T q.1).2.1)])

/-- The segments behind Open. -/
def openS (T : List Nat) (L : List (List UInt8 × Nat)) : List (List UInt8 × Nat) := if L = [] then [([], 0)] else (openL T L).2

theorem openL_len (T : List Nat) : ∀ L, (openL T L).2.length ≤ L.length
  | [] => Nat.le_refl _
  | q :: L => by
    rw [openL]
    split
    · have := openL_len T L; simp; omega
    · simp

theorem openL_pos (T : List Nat) {L : List (List UInt8 × Nat)} (h : L ≠ []) : 0 < (openL T L).2.length := by
  cases L with
  | nil => exact absurd rfl h
  | cons q L => rw [openL]; split <;> simp

theorem LogAt.set {w : World} {lb p : Nat} {nm : List UInt8} {last : Int} (h : LogAt w lb p nm last) (n : Int) : LogAt (w.setCell ⟨lb, 2, none⟩ (.int .i64 n)) lb p nm n := ⟨setCell_heap h.self 2 _⟩

theorem Sep.setNew {F F' : Nat → Prop} {w wr : World} (h : Sep F w wr F') {lb : Nat} (hb : w.heap.size ≤ lb) (j : Nat) (v : Value) : Sep F w (wr.setCell ⟨lb, j, none⟩ v) F' :=
  ⟨h.os, h.tape, h.output, by simpa using h.size, fun b hb' hn => (Below.heap_setCell _ _ _ _ (by show b ≠ lb; omega)).trans (h.out b hb' hn), fun b hb' => by simpa using h.foot b hb'⟩

theorem Dk.setLog {Z B : Nat} {w : World} {p r : Nat} {V : Vw} {F : Nat → Prop} (h : Dk Z B w p r V F) {lb p' : Nat} {nm : List UInt8} {last : Int} (hl : LogAt w lb p' nm last) (v : Value) : Dk Z B (w.setCell ⟨lb, 2, none⟩ v) p r V F :=
  h.keep (by simp) (fun b hb => Below.heap_setCell _ _ _ _ (fun e => by
    have e' : b = lb := e
    subst e'
    exact h.apart hl.self (by decide) (by decide) (by decide) hb))

theorem OwnRF.setLog {B : Nat} {F : Nat → Prop} {w : World} {v : Value} {ps : List (List UInt8)} (h : OwnRF B F w v ps) {lb p' : Nat} {nm : List UInt8} {last : Int} (hl : LogAt w lb p' nm last) (u : Value) : OwnRF B F (w.setCell ⟨lb, 2, none⟩ u) v ps := by
  obtain ⟨vals, h1, h2, h3⟩ := h
  refine ⟨vals, h1.keep (fun g hg => Below.heap_setCell _ _ _ _ (fun e => ?_)), h2, fun i u' q hu hq => ?_⟩
  · obtain ⟨cur, hb⟩ := h1.block hg
    rw [e, hl.self] at hb; cases hb
  · obtain ⟨h4, h5⟩ := h3 i u' q hu hq
    refine ⟨h4.keep (fun b hb => Below.heap_setCell _ _ _ _ (fun e => ?_)), h5⟩
    obtain ⟨cur, hc⟩ := h4.block hb
    rw [e, hl.self] at hc; cases hc

theorem Nums.setLog {N B : Nat} {w : World} (h : Nums N B w) {lb : Nat} (hb : B ≤ lb) (v : Value) : Nums N B (w.setCell ⟨lb, 2, none⟩ v) :=
  h.keep (fun b hb' => Below.heap_setCell _ _ _ _ (by show b ≠ lb; omega))

/-- Segments ahead of a gap stay. -/
theorem look_gap (nm : List UInt8) : ∀ (P : List (List UInt8 × Nat)) (a k : Nat) (V : Vw), a + P.length ≤ k → lookV (segT nm k) (LV nm a P ++ V) = lookV (segT nm k) V
  | [], _, _, _, _ => rfl
  | q :: P, a, k, V, h => by
    rw [List.length_cons] at h
    rw [LV, List.cons_append, look_cons, if_neg (fun he => by have := segT_inj he; omega), look_gap nm P (a + 1) k V (by omega)]

theorem LV_front (nm : List UInt8) : ∀ (P : List (List UInt8 × Nat)) (a k : Nat), a + P.length ≤ k → ∀ g ∈ LV nm a P, g.1 ≠ segT nm k
  | [], _, _, _, g, hg => by cases hg
  | q :: P, a, k, h, g, hg => by
    rw [List.length_cons] at h
    rcases List.mem_cons.1 hg with rfl | hg
    · exact fun he => by have := segT_inj he; omega
    · exact LV_front nm P (a + 1) k (by omega) g hg

theorem del_gap (nm : List UInt8) (P L : List (List UInt8 × Nat)) (q : List UInt8 × Nat) {a k : Nat} (h : a + P.length ≤ k) : delV (segT nm k) (LV nm a P ++ LV nm k (q :: L)) = LV nm a P ++ LV nm (k + 1) L := by
  have h1 := del_LV nm q L k
  unfold delV at h1 ⊢
  rw [List.filter_append, h1, List.filter_eq_self.2]
  intro g hg
  have := LV_front nm P a k h g hg
  simp; exact fun x => this x.symm

theorem LV_append (nm : List UInt8) : ∀ (P L : List (List UInt8 × Nat)) (a : Nat), LV nm a (P ++ L) = LV nm a P ++ LV nm (a + P.length) L
  | [], _, _ => rfl
  | q :: P, L, a => by rw [List.cons_append, LV, LV, LV_append nm P L, List.cons_append, List.length_cons, show a + 1 + P.length = a + (P.length + 1) by omega]
end Go.Proofs.YtpiedpdffkfhpaaDoor

/- wal.Open: the plain law of its loops. -/
namespace Go.Proofs.YtpiedpdffkfhpaaDoor
open Go.RowKit Go.Gl Go.Wal Go.Sort

abbrev Sg := List (List UInt8 × Nat)

def rowsOf (P : Sg) : List (List UInt8) := (P.map fun q => (rfD crcTab q.1).1).flatten
def synP (P : Sg) : Sg := P.map fun q => (q.1, q.1.length)
def wholeL (P : Sg) : Prop := ∀ q ∈ P, (rfD crcTab q.1).2.2 = 0

theorem synP_len (P : Sg) : (synP P).length = P.length := by simp [synP]
theorem rowsOf_snoc (P : Sg) (q : List UInt8 × Nat) : rowsOf (P ++ [q]) = rowsOf P ++ (rfD crcTab q.1).1 := by simp [rowsOf]
theorem synP_snoc (P : Sg) (q : List UInt8 × Nat) : synP (P ++ [q]) = synP P ++ [(q.1, q.1.length)] := by simp [synP]
theorem wholeL_snoc {P : Sg} {q : List UInt8 × Nat} (h : wholeL P) (hq : (rfD crcTab q.1).2.2 = 0) : wholeL (P ++ [q]) := fun g hg => by
  rcases List.mem_append.1 hg with hg | hg
  · exact h g hg
  · rw [List.mem_singleton.1 hg]; exact hq

theorem openL_append : ∀ {P : Sg}, wholeL P → ∀ R, openL crcTab (P ++ R) = (rowsOf P ++ (openL crcTab R).1, synP P ++ (openL crcTab R).2)
  | [], _, R => by simp [rowsOf, synP]
  | q :: P, h, R => by
    have h1 := openL_append (P := P) (fun g hg => h g (List.mem_cons_of_mem _ hg)) R
    rw [List.cons_append, openL, if_pos (h q (List.mem_cons_self ..)), h1]
    simp [rowsOf, synP]

theorem openL_whole {P : Sg} (h : wholeL P) : openL crcTab P = (rowsOf P, synP P) := by
  have := openL_append h []
  simpa [openL] using this

theorem openL_torn {P : Sg} (h : wholeL P) {q : List UInt8 × Nat} (hq : (rfD crcTab q.1).2.2 ≠ 0) (R : Sg) : openL crcTab (P ++ q :: R) = (rowsOf P ++ (rfD crcTab q.1).1, synP P ++ [(q.1.take (rfD crcTab q.1).2.1, (rfD crcTab q.1).2.1)]) := by
  rw [openL_append h, openL, if_neg hq]

theorem rowsOf_le : ∀ P : Sg, (rowsOf P).length ≤ (P.map fun q => q.1.length).sum
  | [] => Nat.le_refl _
  | q :: P => by
    have h1 := rowsOf_le P
    have h2 := rfD_num crcTab q.1
    unfold rowsOf at h1 ⊢
    rw [List.map_cons, List.flatten_cons, List.length_append, List.map_cons, List.sum_cons]
    omega

theorem syn_sum (P : Sg) : ((synP P).map fun q => q.1.length) = P.map fun q => q.1.length := by simp [synP]

theorem tot_syn_append (nm : List UInt8) (P R : Sg) (a : Nat) : tot (LV nm a (synP P ++ R)) = tot (LV nm a (P ++ R)) := by
  rw [tot_LV, tot_LV, List.map_append, List.map_append, syn_sum]

theorem rowsOf_tot (nm : List UInt8) (P R : Sg) (a : Nat) : (rowsOf P).length ≤ tot (LV nm a (P ++ R)) := by
  have := rowsOf_le P
  rw [tot_LV, List.map_append, List.sum_append]
  omega

theorem tot_at (nm : List UInt8) (P R : Sg) (q : List UInt8 × Nat) (a : Nat) : (rowsOf P).length + q.1.length ≤ tot (LV nm a (P ++ q :: R)) := by
  have := rowsOf_le P
  rw [tot_LV, List.map_append, List.sum_append, List.map_cons, List.sum_cons]
  omega

/-- The segment at hand. -/
theorem look_mid (nm : List UInt8) (P R : Sg) (q : List UInt8 × Nat) (a : Nat) : lookV (segT nm (a + P.length)) (LV nm a (synP P ++ q :: R)) = some q := by
  rw [look_LV, List.getElem?_append_right (by rw [synP_len]; omega), synP_len, Nat.sub_self]; rfl
theorem look_end (nm : List UInt8) (P : Sg) (a : Nat) : lookV (segT nm (a + P.length)) (LV nm a (synP P ++ [])) = none := by
  rw [look_LV, List.append_nil, List.getElem?_eq_none]
  rw [synP_len]; omega

theorem syn_mid (nm : List UInt8) (P R : Sg) (q : List UInt8 × Nat) (a : Nat) : synV (segT nm (a + P.length)) (LV nm a (synP P ++ q :: R)) = LV nm a (synP (P ++ [q]) ++ R) := by
  have h := modify_mid (fun q : List UInt8 × Nat => (q.1, q.1.length)) q R (synP P)
  rw [synP_len] at h
  rw [syn_LV, h, synP_snoc, List.append_assoc]; rfl

theorem set_mid (nm : List UInt8) (P R : Sg) (q : List UInt8 × Nat) (x : List UInt8) (a : Nat) : setV (segT nm (a + P.length)) x (LV nm a (synP P ++ q :: R)) = LV nm a ((synP P ++ [(x, x.length)]) ++ R) := by
  have h := modify_mid (fun _ : List UInt8 × Nat => (x, x.length)) q R (synP P)
  rw [synP_len] at h
  rw [set_LV, h, List.append_assoc]; rfl

theorem dk_there {N Z B : Nat} {w : World} {lb p r : Nat} {nm : List UInt8} {last : Int} {V : Vw} {F : Nat → Prop} (hl : LogAt w lb p nm last) (hnm : nm.length ≤ 32) (h : Dk Z B w p r V F) (hN : Nums N B w) {n : Nat} (hn : n < N) (h6 : n < 1000000) :
    Calls Tryd.prog 21 #[.pointer (some ⟨lb, 0, none⟩), .int .i64 n] w fun e w' => e = .returned (.bool (lookV (segT nm n) V).isSome) ∧ Grow w w' := by
  obtain ⟨hZ, h0, born, fs, h1, rfl, rfl⟩ := h
  refine (there_any hl hnm h1 hN (fun f hf => by have := file_len hf h0; omega) hn h6).mono ?_
  rintro e w2 ⟨rfl, hg⟩
  refine ⟨?_, hg⟩
  rw [lookV_file]
  cases fileOf (segT nm n) fs <;> rfl

/-- What holds of the run of Open's first loop. -/
structure Op1 (Z B : Nat) (w : World) (p r a : Nat) (nm : List UInt8) (F : Nat → Prop) (L : Sg) (lb : Nat) (P R : Sg) (F' : Nat → Prop) (ov : Value) (wr : World) : Prop where
  cut : L = P ++ R
  whole : wholeL P
  disk : Dk Z B wr p r (LV nm a (synP P ++ R)) F'
  sep : Sep F w wr F'
  log : LogAt wr lb p nm ((a + (P.length - 1) : Nat) : Int)
  rows : OwnRF w.heap.size F' wr ov (rowsOf P)

def Op1Inv (Z B : Nat) (w : World) (p r a : Nat) (nm : List UInt8) (F : Nat → Prop) (L : Sg) (lb : Nat) (ov nv : Value) (wr : World) : Prop :=
  ∃ (n : Nat) (P R : Sg) (F' : Nat → Prop), nv = .int .i64 (n : Int) ∧ n = a + P.length ∧ Op1 Z B w p r a nm F L lb P R F' ov wr

/-- What the first loop leaves. -/
structure Op2 (Z B : Nat) (w : World) (p r a : Nat) (nm : List UInt8) (F : Nat → Prop) (L : Sg) (lb : Nat) (rest : Sg) (F' : Nat → Prop) (ov : Value) (wr : World) : Prop where
  len : (openL crcTab L).2.length + rest.length = L.length
  disk : Dk Z B wr p r (LV nm a ((openL crcTab L).2 ++ rest)) F'
  sep : Sep F w wr F'
  log : LogAt wr lb p nm ((a + ((openL crcTab L).2.length - 1) : Nat) : Int)
  rows : OwnRF w.heap.size F' wr ov (openL crcTab L).1

def Op2Inv (Z B : Nat) (w : World) (p r a : Nat) (nm : List UInt8) (F : Nat → Prop) (L : Sg) (lb : Nat) (ov : Value) (wr : World) : Prop :=
  ∃ (rest : Sg) (F' : Nat → Prop), Op2 Z B w p r a nm F L lb rest F' ov wr

variable {Z B : Nat} {w wr : World} {p r a : Nat} {nm : List UInt8} {F F' : Nat → Prop} {L P R : Sg} {lb : Nat} {ov : Value}

theorem Op1.exit (h : Op1 Z B w p r a nm F L lb P [] F' ov wr) : Op2 Z B w p r a nm F L lb [] F' ov wr := by
  have e : openL crcTab L = (rowsOf P, synP P) := by
    rw [h.cut, List.append_nil]; exact openL_whole h.whole
  have hl : L.length = P.length := by rw [h.cut, List.append_nil]
  refine ⟨?_, ?_, h.sep, ?_, ?_⟩
  · rw [e]; dsimp only; rw [synP_len, hl]; rfl
  · rw [e]; exact h.disk
  · rw [e]; dsimp only; rw [synP_len]; exact h.log
  · rw [e]; exact h.rows

theorem Op1.torn {q : List UInt8 × Nat} {x : List UInt8} {F2 : Nat → Prop} {ov' : Value} {wr' : World} (h : Op1 Z B w p r a nm F L lb P (q :: R) F' ov wr) (hq : (rfD crcTab q.1).2.2 ≠ 0) (hx : x = q.1.take (rfD crcTab q.1).2.1)
    (h1 : Dk Z B wr' p r (LV nm a ((synP P ++ [(x, x.length)]) ++ R)) F2) (h2 : Sep F w wr' F2) (h3 : LogAt wr' lb p nm ((a + P.length : Nat) : Int)) (h4 : OwnRF w.heap.size F2 wr' ov' (rowsOf P ++ (rfD crcTab q.1).1)) : Op2 Z B w p r a nm F L lb R F2 ov' wr' := by
  have e : openL crcTab L = (rowsOf P ++ (rfD crcTab q.1).1, synP P ++ [(x, x.length)]) := by
    rw [h.cut, openL_torn h.whole hq, hx, List.length_take, Nat.min_eq_left (rfD_le _ _)]
  refine ⟨?_, ?_, h2, ?_, ?_⟩
  · rw [e, h.cut]; simp [synP_len]; omega
  · rw [e]; exact h1
  · rw [e]; dsimp only; rw [List.length_append, synP_len, List.length_singleton, Nat.add_sub_cancel]; exact h3
  · rw [e]; exact h4

theorem Op1.next {q : List UInt8 × Nat} {F2 : Nat → Prop} {ov' : Value} {wr' : World} (h : Op1 Z B w p r a nm F L lb P (q :: R) F' ov wr) (hq : (rfD crcTab q.1).2.2 = 0)
    (h1 : Dk Z B wr' p r (LV nm a (synP (P ++ [q]) ++ R)) F2) (h2 : Sep F w wr' F2) (h3 : LogAt wr' lb p nm ((a + P.length : Nat) : Int)) (h4 : OwnRF w.heap.size F2 wr' ov' (rowsOf P ++ (rfD crcTab q.1).1)) : Op1 Z B w p r a nm F L lb (P ++ [q]) R F2 ov' wr' :=
  ⟨by rw [h.cut, List.append_assoc]; rfl, wholeL_snoc h.whole hq, h1, h2, by rw [List.length_append, List.length_singleton, Nat.add_sub_cancel]; exact h3, by rw [rowsOf_snoc]; exact h4⟩

theorem Op1.grow {wr' : World} (h : Op1 Z B w p r a nm F L lb P R F' ov wr) (hg : Grow wr wr') : Op1 Z B w p r a nm F L lb P R F' ov wr' :=
  ⟨h.cut, h.whole, h.disk.grow hg, h.sep.trans (Sep.ofGrow hg), h.log.grow hg, h.rows.grow hg⟩

theorem bv_take {w : World} {x : Option Addr} {c k : Nat} {l : List UInt8} (h : Bv w (.slice x l.length c) l) (hk : k ≤ l.length) : Bv w (.slice x k c) (l.take k) := by
  obtain ⟨a', c', he, hlc, hm, hn, h⟩ := h
  cases he
  have hl : (l.take k).length = k := by simp; omega
  refine ⟨x, c, by rw [hl], by omega, hm, hn, ?_⟩
  rcases h with rfl | ⟨b, o, hx, hb, hc⟩
  · left; simp
  · right
    refine ⟨b, o, hx, hb, fun j v hj => hc j v ?_⟩
    rw [List.getElem?_take] at hj
    split at hj
    · exact hj
    · cases hj

/-- Bytes of one's own stay while a row of rows grows. -/
theorem OwnB.row {B : Nat} {w w' : World} {v : Value} {l : List UInt8} (h : OwnB B w v l) {o : Option Nat} (hg : w.grownBy w' o) (ho : ∀ g, o = some g → ∃ t cur, w.heap[g]? = some (.cells cur t (0, 0)) ∧ t ≠ 5) : OwnB B w' v l :=
  h.keep (fun b hb => hg.block b (h.lt hb).2 (fun he => by
    obtain ⟨t, cur, h1, h2⟩ := ho b he.symm
    obtain ⟨cur', h3⟩ := h.block hb
    rw [h3] at h1; cases h1; exact h2 rfl))

/-- Disk, log and rows behind a part of Open. -/
structure Mid (Z B : Nat) (w : World) (p r : Nat) (nm : List UInt8) (F : Nat → Prop) (lb : Nat) (V : Vw) (last : Int) (ps : List (List UInt8)) (F' : Nat → Prop) (ov : Value) (wr : World) : Prop where
  disk : Dk Z B wr p r V F'
  sep : Sep F w wr F'
  log : LogAt wr lb p nm last
  rows : OwnRF w.heap.size F' wr ov ps

variable {V V' : Vw} {last : Int} {ps qs : List (List UInt8)} {F'' : Nat → Prop} {w' : World}

theorem Op1.mid (h : Op1 Z B w p r a nm F L lb P R F' ov wr) : Mid Z B w p r nm F lb (LV nm a (synP P ++ R)) ((a + (P.length - 1) : Nat) : Int) (rowsOf P) F' ov wr := ⟨h.disk, h.sep, h.log, h.rows⟩

theorem Mid.grow (h : Mid Z B w p r nm F lb V last ps F' ov wr) (hg : Grow wr w') : Mid Z B w p r nm F lb V last ps F' ov w' :=
  ⟨h.disk.grow hg, h.sep.trans (Sep.ofGrow hg), h.log.grow hg, h.rows.grow hg⟩

theorem Mid.dk (h : Mid Z B w p r nm F lb V last ps F' ov wr) (hd : Dk Z B w' p r V' F'') (hs : Sep F' wr w' F'') : Mid Z B w p r nm F lb V' last ps F'' ov w' :=
  ⟨hd, h.sep.trans hs, h.log.sep h.disk hs, h.rows.sep h.disk hs⟩

theorem Mid.set (h : Mid Z B w p r nm F lb V last ps F' ov wr) (hb : w.heap.size ≤ lb) (n : Int) : Mid Z B w p r nm F lb V n ps F' ov (wr.setCell ⟨lb, 2, none⟩ (.int .i64 n)) :=
  ⟨h.disk.setLog h.log _, h.sep.setNew hb _ _, h.log.set n, h.rows.setLog h.log _⟩

theorem Mid.append {x : Value} {B' : Nat} (h : Mid Z B w p r nm F lb V last ps F' ov wr) (hx : OwnR B' wr x qs) (hB : wr.heap.size ≤ B' ∨ (w.heap.size ≤ B' ∧ ∀ b, F' b → b < B')) (hlen : ps.length + qs.length ≤ 1000000000000) :
    ∃ v' w', (Builtin.append_ #[22, 22] 22 #[ov, x]).run Tryd.prog wr = .ok v' w' ∧ Mid Z B w p r nm F lb V last (ps ++ qs) F' v' w' ∧ ∀ {C : Nat} {u : Value} {l : List UInt8}, OwnB C wr u l → OwnB C w' u l := by
  have hsz := h.sep.size
  have hap : OwnRF B' F' wr x qs := hx.apart (fun b hb => by
    rcases hB with hB | hB
    · have := (h.disk.foot hb).2; omega
    · exact hB.2 b hb)
  have hBB : w.heap.size ≤ B' := by rcases hB with hB | hB <;> omega
  obtain ⟨v', w', h1, h2, h3, h4⟩ := append_rows h.rows hap hsz hBB hlen
  refine ⟨v', w', h1, ⟨h.disk.row h3 (fun g hg => ?_), h.sep.row h3 (fun g hg => (h4 g hg).1), h.log.row h3 (fun g hg => ?_), h2⟩, fun hu => hu.row h3 (fun g hg => ?_)⟩
  · obtain ⟨_, cur, hc⟩ := h4 g hg; exact ⟨_, cur, hc, by decide, by decide, by decide⟩
  · obtain ⟨_, cur, hc⟩ := h4 g hg; exact ⟨_, cur, hc, by decide⟩
  · obtain ⟨_, cur, hc⟩ := h4 g hg; exact ⟨_, cur, hc, by decide⟩

theorem Mid.nums {N : Nat} (h : Mid Z B w p r nm F lb V last ps F' ov wr) (hN : Nums N B w) {V0 : Vw} (h0 : Dk Z B w p r V0 F) : Nums N B wr := hN.dk h0 h.sep

theorem Mid.cells (h : Mid Z B w p r nm F lb V last ps F' ov wr) : wr.cell? ⟨lb, 0, none⟩ = some (.pointer (some ⟨p, 0, none⟩)) ∧ lb < wr.heap.size := ⟨h.log.cells.1, h.log.cells.2.2.2⟩

/-- The second loop: what stands behind the last segment is taken away. -/
def Op4Inv (Z B : Nat) (w : World) (p r a : Nat) (nm : List UInt8) (F : Nat → Prop) (lb : Nat) (S rest : Sg) (m : Nat) (ps : List (List UInt8)) (ov : Value) (C : Nat) (nv iv : Value) (wr : World) : Prop :=
  ∃ (i : Nat) (F' : Nat → Prop), iv = .int .i64 (i : Int) ∧ i ≤ S.length + rest.length ∧ Mid Z B w p r nm F lb (LV nm a S ++ LV nm (a + S.length + (i - S.length)) (rest.drop (i - S.length))) (m : Int) ps F' ov wr ∧ OwnI C wr nv (List.range' a (S ++ rest).length)

theorem OwnI.dk {C : Nat} {v : Value} {ns : List Nat} (h : OwnI C wr v ns) (hd : Dk Z B wr p r V F') (hs : Sep F' wr w' F'') : OwnI C w' v ns :=
  Row1.keep h (fun g hg => by
    obtain ⟨cur, hb⟩ := Row1.block h hg
    exact hs.out g (lt_of_getElem? hb) (hd.apart hb (by decide) (by decide) (by decide)))
end Go.Proofs.YtpiedpdffkfhpaaDoor

/- wal.Open: the walk. -/
namespace Go.Proofs.YtpiedpdffkfhpaaDoor
open Go.RowKit Go.Gl Go.Wal Go.Sort

def OpenPost (Z B : Nat) (w : World) (p r a : Nat) (nm : List UInt8) (F : Nat → Prop) (L : Sg) (e : Ending) (w' : World) : Prop :=
  ∃ (lb : Nat) (v : Value) (F' : Nat → Prop), e = .returned (.tuple #[.pointer (some ⟨lb, 0, none⟩), v, .int .i64 0]) ∧ w.heap.size ≤ lb ∧ Dk Z B w' p r (LV nm a (openS crcTab L)) F' ∧ Sep F w w' F' ∧ LogAt w' lb p nm ((a + ((openS crcTab L).length - 1) : Nat) : Int) ∧ OwnRF w.heap.size F' w' v (openL crcTab L).1

set_option maxRecDepth 100000 in
set_option maxHeartbeats 4000000 in
theorem open_any {N Z B : Nat} {w : World} {p r a : Nat} {nm : List UInt8} (hm : NmOk nm) (hnm : ∀ w, Calls Tryd.prog 20 #[.string ⟨nm.toArray⟩] w fun e w' => e = .returned (.bool true) ∧ w' = w) {L : Sg} {F : Nat → Prop} (h : Dk Z B w p r (LV nm a L) F) (hN : Nums N B w) (haN : a + L.length < N) (ha6 : a + L.length < 1000000) (hroom : 2 * tot (LV nm a L) ≤ Z) :
    Calls Tryd.prog 8 #[.pointer (some ⟨p, 0, none⟩), .string ⟨nm.toArray⟩, .int .i64 a] w (OpenPost Z B w p r a nm F L) := by
  have ha0 : (0 : Int) ≤ (a : Int) := by omega
  have ha : (a : Int) ≤ 999999 := by omega
  have Hn := Lib.hid (hnm w)
  have H := Lib.hid h
  have HN := Lib.hid hN
  clear hnm h hN
  go_enter Tryd.func8, Tryd.ntmps8
  go_wp2_with fail
  (with_reducible refine Hn.out.mono ?_)
  rintro e w1 ⟨rfl, hw⟩
  have hw' := hw.symm
  subst hw'
  clear hw
  go_upto_block 0 with fail
  go_cut [10] from 36 to 84 (fun ov wx => Op2Inv Z B w p r a nm F L w.heap.size ov wx)
  case first =>
    have hgA := Grow.alloc w (.cells #[.pointer (some ⟨p, 0, none⟩), .string ⟨nm.toArray⟩, .int .i64 a] 55)
    have Hst : Hid (Op1 Z B w p r a nm F L w.heap.size [] L F (.slice none 0 0) (w.alloc (.cells #[.pointer (some ⟨p, 0, none⟩), .string ⟨nm.toArray⟩, .int .i64 a] 55))) := Lib.hid ⟨rfl, (fun q hq => by cases hq), H.out.grow hgA, Sep.ofGrow hgA, ⟨heap_alloc_new _ _⟩, ownRF_nil _ _ _⟩
    clear hgA
    go_wp2_with fail
    go_loopw [10, 11] (fun ov nv wr => Op1Inv Z B w p r a nm F L w.heap.size ov nv wr) (fun _ nv _ => a + L.length + 1 - (intOf nv).toNat)
    case atStart => exact ⟨a, [], L, F, rfl, rfl, Hst.out⟩
    case round =>
      obtain ⟨n, P, R, F', rfl, hn, h1⟩ := hrel
      have hlen : P.length + R.length = L.length := by rw [h1.cut, List.length_append]
      have hNr := HN.out.dk H.out h1.sep
      obtain ⟨l0, l1, l2, ll⟩ := h1.log.cells
      have ht := dk_there h1.log hm.len h1.disk hNr (n := n) (by omega) (by omega)
      obtain ⟨oa, oc, hov⟩ := h1.rows.slice
      subst hov
      have H1 := Lib.hid h1
      have HNr := Lib.hid hNr
      clear h1 hNr l2
      cases R with
      | nil =>
        rw [hn, look_end, ← hn] at ht
        have Ht := Lib.hid ht
        have Hn2 := Lib.hid hn
        clear ht hn
        go_wp2_with fail
        (with_reducible refine Ht.out.mono ?_)
        rintro e w1 ⟨rfl, hg1⟩
        have Hex := Lib.hid (H1.out.grow hg1).exit
        clear hg1
        go_wp2
        go_meet
        exact ⟨[], F', Hex.out⟩
      | cons q R =>
        rw [hn, look_mid, ← hn] at ht
        have Ht := Lib.hid ht
        have Hn2 := Lib.hid hn
        clear ht hn
        go_wp2_with fail
        (with_reducible refine Ht.out.mono ?_)
        rintro e w1 ⟨rfl, hg1⟩
        have h2 := H1.out.grow hg1
        obtain ⟨k0, k1, k2, kl⟩ := h2.log.cells
        have ff : ∀ i, w1.frozen? ⟨w.heap.size, i, none⟩ = false := fun i => by simp [World.frozen?, h2.log.self]
        obtain ⟨w2, hw2⟩ : ∃ x, x = w1.setCell ⟨w.heap.size, 2, none⟩ (.int .i64 n) := ⟨_, rfl⟩
        have hm2 := h2.mid.set (Nat.le_refl _) n
        rw [← hw2] at hm2
        have Hw2 := Lib.hid hw2
        have H2 := Lib.hid h2
        have M2 := Lib.hid hm2
        have hqt := tot_at nm P R q a
        have hcutL := h2.cut
        rw [← hcutL] at hqt
        have H2t : tot (LV nm a (P ++ q :: R)) = tot (LV nm a L) := by rw [hcutL]
        have hqt' : (rowsOf P).length + q.1.length ≤ 16777216 := by have := H.out.1; have := H.out.2.1; omega
        clear hg1 h2 H1 HNr l0 l1 ll hm2 hw2 hcutL
        go_upto_region 9 with fail
        rw [← Hw2.out]
        clear ff Hw2 k0 k1 k2 kl
        refine wp_region_pi (fun W => W.cell? ⟨w.heap.size, 0, none⟩ = some (.pointer (some ⟨p, 0, none⟩)) ∧ w.heap.size < W.heap.size) [(0, false), (1, false), (2, false), (3, false), (4, false), (5, false), (6, true), (7, true), (8, false), (9, false), (10, false), (11, false), (12, false)] (by kernel_rfl) (by kernel_rfl) (fun c a d v w h => by cases d <;> exact h) (M2.out.grow (Grow.drew w2)).cells ?_
        simp only [arrange, nth]
        repeat (first | (refine wpPi_quiet (v := ?_) (by rfl) (fun W hW => ?_) ?_; rotate_left; (obtain ⟨hW0, hW1⟩ := hW; go_simp; with_reducible rfl); simp only [Act.put, List.setIfInBounds_toArray, List.set_cons_zero, List.set_cons_succ]) | (refine wpPi_off (by rfl) ?_; simp only [Act.put, List.setIfInBounds_toArray, List.set_cons_zero, List.set_cons_succ]))
        have hgD := Grow.drew w2
        refine wpPi_call (by rfl) (by go_simp) (segment_any ((M2.out.nums HN.out H.out).grow hgD M2.out.disk.base) (n := n) (by have := Hn2.out; omega) (by have := Hn2.out; omega) (name := nm) (by have := hm.len; omega)) ?_
        rintro e w3 ⟨rfl, hg3⟩
        have hg23 := hgD.trans hg3
        refine ⟨_, rfl, (M2.out.grow hg23).cells, ?_⟩
        try simp only [Act.put, List.setIfInBounds_toArray, List.set_cons_zero, List.set_cons_succ]
        have hrd := dk_read (M2.out.disk.grow hg23) (segT nm n)
        rw [Hn2.out, look_mid, ← Hn2.out] at hrd
        refine wpPi_call (by rfl) (by go_simp) hrd ?_
        rintro e w4 ⟨⟨bv, rfl, hbv⟩, hg4⟩
        have hg24 := hg23.trans hg4
        have hm4 := M2.out.grow hg24
        refine ⟨_, rfl, hm4.cells, ?_⟩
        have hbq := ownB_bv hbv
        obtain ⟨ba, bc, rfl⟩ := hbq.slice
        have hrf := readFrames_any hbq (by omega)
        have hle := rfD_le crcTab q.1
        have hnum := rfD_num crcTab q.1
        have hex := fun (F2 : Nat → Prop) (ov' : Value) (wr' : World) (x : List UInt8) (a1 : (rfD crcTab q.1).2.2 ≠ 0) a2 (b : Mid Z B w p r nm F w.heap.size (LV nm a ((synP P ++ [(x, x.length)]) ++ R)) (n : Int) (rowsOf P ++ (rfD crcTab q.1).1) F2 ov' wr') => H2.out.torn a1 (x := x) a2 b.disk b.sep (by rw [← Hn2.out]; exact b.log) b.rows
        have hnx := fun (F2 : Nat → Prop) (ov' : Value) (wr' : World) (a1 : (rfD crcTab q.1).2.2 = 0) (b : Mid Z B w p r nm F w.heap.size (LV nm a (synP (P ++ [q]) ++ R)) (n : Int) (rowsOf P ++ (rfD crcTab q.1).1) F2 ov' wr') => H2.out.next a1 b.disk b.sep (by rw [← Hn2.out]; exact b.log) b.rows
        generalize rfD crcTab q.1 = RF at *
        obtain ⟨sm, sz, er⟩ := RF
        dsimp only at hle hnum hrf hex hnx
        have Hrf := Lib.hid hrf
        have Hex := Lib.hid hex
        have Hnx := Lib.hid hnx
        have Hbq := Lib.hid hbv
        have M4 := Lib.hid hm4
        clear hrf hex hnx hbq hbv hm4 hg24 hg23 hg4 hg3 hgD hrd H2 M2
        try simp only [Act.put, List.setIfInBounds_toArray, List.set_cons_zero, List.set_cons_succ]
        repeat (first | (refine wpPi_quiet (v := ?_) (by rfl) (fun W hW => ?_) ?_; rotate_left; (obtain ⟨hW0, hW1⟩ := hW; go_simp; with_reducible rfl); simp only [Act.put, List.setIfInBounds_toArray, List.set_cons_zero, List.set_cons_succ]) | (refine wpPi_off (by rfl) ?_; simp only [Act.put, List.setIfInBounds_toArray, List.set_cons_zero, List.set_cons_succ]))
        refine wpPi_nil ?_
        go_wp2_with fail
        (with_reducible refine Hrf.out.mono ?_)
        rintro e w5 ⟨rv, rfl, hrv, hg5⟩
        have hm5 := M4.out.grow hg5
        obtain ⟨v', w6, r1, hm6, hkeep⟩ := hm5.append hrv (.inr ⟨M4.out.sep.size, fun b hb => (M4.out.disk.foot hb).2⟩) (by omega)
        have hb6 := ownB_bv (hkeep (Hbq.out.grow hg5))
        obtain ⟨ra, rc, rfl⟩ := hrv.slice
        obtain ⟨va, vc, rfl⟩ := hm6.rows.slice
        have hbc : q.1.length ≤ bc := by obtain ⟨_, _, he, hlc, _⟩ := hb6; cases he; exact hlc
        have hN6 := hm6.nums HN.out H.out
        have Hrun := Lib.hid r1
        have M6 := Lib.hid hm6
        clear r1 hm6 hm5 hkeep hrv hg5 M4 Hrf
        by_cases her : er = 0
        · subst her
          have HN6 := Lib.hid hN6
          clear hN6 hb6 Hex Hbq
          go_wp2_with (at_builtin; refine wpList_append rfl rfl rfl rfl Hrun.out ?_)
          refine wp_region_pi (fun W => W.cell? ⟨w.heap.size, 0, none⟩ = some (.pointer (some ⟨p, 0, none⟩)) ∧ w.heap.size < W.heap.size) [(0, false), (1, false), (2, false), (3, false), (4, false), (5, false), (6, true), (7, true), (8, true)] (by kernel_rfl) (by kernel_rfl) (fun c a d v w h => by cases d <;> exact h) (M6.out.grow (Grow.drew w6)).cells ?_
          simp only [arrange, nth]
          repeat (first | (refine wpPi_quiet (v := ?_) (by rfl) (fun W hW => ?_) ?_; rotate_left; (obtain ⟨hW0, hW1⟩ := hW; go_simp; with_reducible rfl); simp only [Act.put, List.setIfInBounds_toArray, List.set_cons_zero, List.set_cons_succ]) | (refine wpPi_off (by rfl) ?_; simp only [Act.put, List.setIfInBounds_toArray, List.set_cons_zero, List.set_cons_succ]))
          have hgD := Grow.drew w6
          refine wpPi_call (by rfl) (by go_simp) (segment_any (HN6.out.grow hgD M6.out.disk.base) (n := n) (by have := Hn2.out; omega) (by have := Hn2.out; omega) (name := nm) (by have := hm.len; omega)) ?_
          rintro e w7 ⟨rfl, hg7⟩
          have hg67 := hgD.trans hg7
          refine ⟨_, rfl, (M6.out.grow hg67).cells, ?_⟩
          try simp only [Act.put, List.setIfInBounds_toArray, List.set_cons_zero, List.set_cons_succ]
          have hg8 := hg67.trans (Grow.alloc w7 (.cells #[.string (segT nm n)] 9))
          have hm8 := M6.out.grow hg8
          refine wpPi_act (by rfl) (fun K hK => ?_)
          go_simp
          refine hK _ _ ⟨hm8.cells, ?_⟩
          clear hK K
          try simp only [Act.put, List.setIfInBounds_toArray, List.set_cons_zero, List.set_cons_succ]
          have hsy := dk_sync hm8.disk (n := segT nm n) (by rw [Hn2.out, look_mid]) (heap_alloc_new _ _)
          rw [Hn2.out, syn_mid, ← Hn2.out] at hsy
          refine wpPi_call (by rfl) (by go_simp) hsy ?_
          rintro e w9 ⟨rfl, F9, hd9, hs9⟩
          have hm9 := hm8.dk hd9 hs9
          have hnx9 := Hnx.out F9 _ w9 (by trivial) hm9
          rw [List.length_append] at hnx9
          have M9 := Lib.hid hnx9
          refine ⟨_, rfl, hm9.cells, ?_⟩
          clear hm9 hd9 hs9 hsy hm8 hg8 hg67 hg7 hgD Hnx hnx9
          try simp only [Act.put, List.setIfInBounds_toArray, List.set_cons_zero, List.set_cons_succ]
          refine wpPi_nil ?_
          have hw1 : IntKind.i64.wrap ((n : Int) + 1) = (n : Int) + 1 := IntWalk.i64_in _ (by have := Hn2.out; omega)
          go_wp2
          go_roundw
          case rel =>
            rw [show (rowsOf P).length + sm.length = (rowsOf P).length + sm.length from rfl]
            exact ⟨n + 1, P ++ [q], R, F9, by simp, by have := Hn2.out; rw [List.length_append, List.length_singleton]; omega, M9.out⟩
          case measure => simp [intOf]; have := Hn2.out; omega
        · have e0 : ((er : Int) != 0) = true := by simp; omega
          have e1 : ¬ (er : Int) = 0 := by omega
          have hbx := bv_take hb6 hle
          have hroom2 : tot (LV nm a (synP P ++ q :: R)) + (q.1.take sz).length ≤ Z := by
            rw [tot_syn_append, H2t, List.length_take]; omega
          have hcut := cut_any hm.len M6.out.log M6.out.disk hN6 (look_tmp nm _ a) (tmpT_ok hm) (n := n) (tmpT_ne nm n) (segT_ok hm (by have := Hn2.out; omega)) (b0 := q.1) (s0 := q.2) (by rw [Hn2.out, look_mid]) (by have := Hn2.out; omega) (by have := Hn2.out; omega) hbx hroom2
          rw [Hn2.out, set_mid, ← Hn2.out] at hcut
          have Hcut := Lib.hid hcut
          clear hcut hbx hb6 hN6 Hnx Hbq
          have z0 : (0 : Int) ≤ (sz : Int) := by omega
          have z1 : (sz : Int) ≤ (bc : Int) := by omega
          go_wp2_with (at_builtin; refine wpList_append rfl rfl rfl rfl Hrun.out ?_)
          (with_reducible refine Hcut.out.mono ?_)
          rintro e w7 ⟨rfl, F7, hd7, hs7⟩
          have hm7 := M6.out.dk hd7 hs7
          have hex7 := Hex.out F7 _ w7 (q.1.take sz) her rfl hm7
          rw [List.length_append] at hex7
          have M7 := Lib.hid hex7
          clear hex7 hm7 hd7 hs7
          go_wp2
          go_meet
          exact ⟨R, F7, M7.out⟩
  case rest =>
    obtain ⟨rest, F2, h2⟩ := hcut
    obtain ⟨oa, oc, hov⟩ := h2.rows.slice
    subst hov
    obtain ⟨S, hS⟩ : ∃ S, S = openS crcTab L := ⟨_, rfl⟩
    have HS := Lib.hid hS
    clear hS
    have hlen := h2.len
    have hL := openL_len crcTab L
    have ht := dk_there h2.log hm.len h2.disk (HN.out.dk H.out h2.sep) (n := a) (by omega) (by omega)
    have hcase : (lookV (segT nm a) (LV nm a ((openL crcTab L).2 ++ rest))).isSome = true ∧ S = (openL crcTab L).2 ∨ (lookV (segT nm a) (LV nm a ((openL crcTab L).2 ++ rest))).isSome = false ∧ LV nm a ((openL crcTab L).2 ++ rest) = [] ∧ S = [([], 0)] ∧ rest = [] ∧ (openL crcTab L).2.length = 0 := by
      rw [HS.out]
      unfold openS
      by_cases hL0 : L = []
      · right
        subst hL0
        have h00 : (openL crcTab ([] : Sg)).2.length = 0 := rfl
        have hr : rest = [] := List.eq_nil_of_length_eq_zero (by have h01 := hlen; rw [h00] at h01; change 0 + rest.length = 0 at h01; omega)
        subst hr
        exact ⟨rfl, rfl, rfl, rfl, rfl⟩
      · left
        rw [if_neg hL0]
        refine ⟨?_, rfl⟩
        have hp := openL_pos crcTab hL0
        have := look_LV nm ((openL crcTab L).2 ++ rest) a 0
        rw [Nat.add_zero] at this
        have hlt : 0 < ((openL crcTab L).2 ++ rest).length := by rw [List.length_append]; omega
        rw [this, List.getElem?_eq_getElem hlt]
        rfl
    have hSlen : S.length + rest.length ≤ L.length + 1 ∧ S.length + rest.length ≤ N - a ∧ S.length + rest.length ≤ 1000000 - a ∧ 0 < S.length := by
      rcases hcase with ⟨c1, c2⟩ | ⟨c1, c2, c3, c4, c5⟩
      · have : 0 < (openL crcTab L).2.length := by
          have e1 := look_LV nm ((openL crcTab L).2 ++ rest) a 0
          rw [Nat.add_zero] at e1
          rw [e1] at c1
          cases hl0 : (openL crcTab L).2 with
          | nil =>
            have hLn : L = [] := Decidable.byContradiction fun hne => by
              have := openL_pos crcTab hne
              rw [hl0] at this; exact absurd this (by simp)
            rw [hl0] at hlen
            subst hLn
            have hr : rest = [] := List.eq_nil_of_length_eq_zero (by have h01 := hlen; change 0 + rest.length = 0 at h01; omega)
            rw [hl0, hr] at c1
            simp at c1
          | cons x y => simp
        rw [c2]; omega
      · rw [c3, c4]; simp; omega
    generalize hbb : (lookV (segT nm a) (LV nm a ((openL crcTab L).2 ++ rest))).isSome = bb at ht hcase
    have Ht := Lib.hid ht
    have H2 := Lib.hid h2
    have Hcase := Lib.hid hcase
    clear ht h2 hcase hbb hlen hL
    go_wp2_with fail
    (with_reducible refine Ht.out.mono ?_)
    rintro e w1 ⟨rfl, hg1⟩
    have Hg1 := Lib.hid hg1
    clear hg1
    go_upto_if 88 with fail
    go_cut [] from 89 to 96 (fun wx => ∃ F', Mid Z B w p r nm F w.heap.size (LV nm a (S ++ rest)) ((a + (S.length - 1) : Nat) : Int) (openL crcTab L).1 F' (.slice oa (openL crcTab L).1.length oc) wx)
    case first =>
      have hm1 := (Mid.mk H2.out.disk H2.out.sep H2.out.log H2.out.rows).grow Hg1.out
      rcases Hcase.out with ⟨rfl, c2⟩ | ⟨rfl, c2, c3, c4, c5⟩
      · rw [← c2] at hm1
        have M1 := Lib.hid hm1
        clear hm1 c2
        go_wp2
        go_meet
        exact ⟨F2, M1.out⟩
      · rw [c2] at hm1
        rw [c5] at hm1
        have e3 : LV nm a (S ++ rest) = [] ++ [(segT nm a, ([] : List UInt8), 0)] := by rw [c3, c4]; rfl
        have e4 : S.length = 1 := by rw [c3]; rfl
        have M1 := Lib.hid hm1
        have E34 := Lib.hid (And.intro e3 e4)
        clear hm1 c2 c3 c4 c5 e3 e4
        go_wp2_with fail
        refine wp_region_pi (fun W => W.cell? ⟨w.heap.size, 0, none⟩ = some (.pointer (some ⟨p, 0, none⟩)) ∧ w.heap.size < W.heap.size) [(0, false), (1, false), (2, false), (3, false), (4, false), (5, false), (6, true), (7, true)] (by kernel_rfl) (by kernel_rfl) (fun c a d v w h => by cases d <;> exact h) (M1.out.grow (Grow.drew w1)).cells ?_
        simp only [arrange, nth]
        repeat (first | (refine wpPi_quiet (v := ?_) (by rfl) (fun W hW => ?_) ?_; rotate_left; (obtain ⟨hW0, hW1⟩ := hW; go_simp; with_reducible rfl); simp only [Act.put, List.setIfInBounds_toArray, List.set_cons_zero, List.set_cons_succ]) | (refine wpPi_off (by rfl) ?_; simp only [Act.put, List.setIfInBounds_toArray, List.set_cons_zero, List.set_cons_succ]))
        have hgD := Grow.drew w1
        refine wpPi_call (by rfl) (by go_simp) (segment_any ((M1.out.nums HN.out H.out).grow hgD M1.out.disk.base) (n := a) (by omega) (by omega) (name := nm) (by have := hm.len; omega)) ?_
        rintro e w7 ⟨rfl, hg7⟩
        have hg17 := hgD.trans hg7
        have hm7 := M1.out.grow hg17
        refine ⟨_, rfl, hm7.cells, ?_⟩
        try simp only [Act.put, List.setIfInBounds_toArray, List.set_cons_zero, List.set_cons_succ]
        refine wpPi_call (by rfl) (by go_simp) (dk_app0 hm7.disk (n := segT nm a) (segT_ok hm (by omega)) rfl) ?_
        rintro e w9 ⟨rfl, F9, hd9, hs9⟩
        have hm9 := hm7.dk hd9 hs9
        rw [← E34.out.1] at hm9
        have M9 := Lib.hid hm9
        refine ⟨_, rfl, hm9.cells, ?_⟩
        clear hm9 hd9 hs9 hm7 hg17 hg7 hgD
        try simp only [Act.put, List.setIfInBounds_toArray, List.set_cons_zero, List.set_cons_succ]
        refine wpPi_nil ?_
        go_wp2
        go_meet
        exact ⟨F9, by rw [E34.out.2]; exact M9.out⟩
    case rest =>
      obtain ⟨F3, h3⟩ := hcut
      clear Hg1 Hcase H2 Ht
      generalize wc = w2 at *
      obtain ⟨ps, hps⟩ : ∃ ps, ps = (openL crcTab L).1 := ⟨_, rfl⟩
      obtain ⟨m, hmm⟩ : ∃ m, m = a + (S.length - 1) := ⟨_, rfl⟩
      rw [← hps, ← hmm] at h3
      rw [← hps]
      have hN3 := h3.nums HN.out H.out
      have hlv : (LV nm a (S ++ rest)).length = (S ++ rest).length := LV_len nm _ a
      rw [List.length_append] at hlv
      have hseg := segments_any (N := N) hm h3.log h3.disk hN3 (by omega) (ns := List.range' a (S ++ rest).length) (fun n hn => by have := List.mem_range'_1.1 hn; rw [List.length_append] at this; omega) (segNames_LV (by rw [List.length_append]; omega))
      have Hseg := Lib.hid hseg
      have H3 := Lib.hid h3
      have Hps := Lib.hid hps
      clear hseg h3 hps hlv hN3
      go_wp2_with fail
      (with_reducible refine Hseg.out.mono ?_)
      rintro e w3 ⟨nv, rfl, hown, hg3⟩
      have hm3 := H3.out.grow hg3
      rcases id hown with ⟨rfl, hn0⟩ | ⟨gN, cap, cur, rfl, hrest⟩
      · exfalso
        have h01 := congrArg List.length hn0
        rw [List.length_map, List.length_range', List.length_append, List.length_nil] at h01
        omega
      clear hrest
      have hkl : ((List.range' a (S ++ rest).length).map fun n : Nat => Value.int .i64 n).length = S.length + rest.length := by rw [List.length_map, List.length_range', List.length_append]
      rw [hkl]
      rw [hkl] at hown
      have M3 := Lib.hid hm3
      have Hown := Lib.hid hown
      have hwm : m + 1 = a + S.length := by omega
      have hgNs : gN < w3.heap.size := (hown.lt rfl).2
      clear hm3 hown hkl hmm hg3
      go_wp2_with fail
      go_loopw [100] (fun iv wr => Op4Inv Z B w p r a nm F w.heap.size S rest m ps (.slice oa ps.length oc) w2.heap.size (.slice (some ⟨gN, 0, none⟩) (S.length + rest.length) cap) iv wr) (fun iv _ => S.length + rest.length - (intOf iv).toNat)
      case atStart =>
        refine ⟨0, F3, rfl, Nat.zero_le _, ?_, Hown.out⟩
        have hm3 := M3.out
        rw [LV_append] at hm3
        rw [Nat.zero_sub, List.drop_zero]
        exact hm3
      case round =>
        obtain ⟨i, F4, rfl, hi, h4, ho4⟩ := hrel
        by_cases hlt : i < S.length + rest.length
        · obtain ⟨n, hn⟩ : ∃ n, n = a + i := ⟨_, rfl⟩
          have hc : wr.cell? ⟨gN, i, none⟩ = some (.int .i64 n) := Row1.cells ho4 rfl (by rw [hn, List.getElem?_map, List.getElem?_range' (by rw [List.length_append]; exact hlt)]; simp)
          have lgN := (Row1.lt ho4 rfl).2
          obtain ⟨l0, l1, l2, ll⟩ := h4.log.cells
          have hi0 : (0 : Int) ≤ (i : Int) := by omega
          have hi1 : (i : Int) < (S.length : Int) + (rest.length : Int) := by omega
          have hw1 : IntKind.i64.wrap ((i : Int) + 1) = (i : Int) + 1 := IntWalk.i64_in _ (by omega)
          have Hn2 := Lib.hid hn
          by_cases hgt : m < n
          · have hgt' : (m : Int) < (n : Int) := by omega
            obtain ⟨j, hj⟩ : ∃ j, j = i - S.length := ⟨_, rfl⟩
            obtain ⟨q, hq⟩ : ∃ q, rest.drop j = q :: rest.drop (j + 1) := ⟨_, List.drop_eq_getElem_cons (by omega)⟩
            have h5 := h4
            rw [← hj, hq, show a + S.length + j = n by omega] at h5
            have M5 := Lib.hid h5
            have Ho4 := Lib.hid ho4
            have Hj := Lib.hid hj
            clear hn h4 ho4 h5 hq hj
            go_wp2_with fail
            refine wp_region_pi (fun W => W.cell? ⟨w.heap.size, 0, none⟩ = some (.pointer (some ⟨p, 0, none⟩)) ∧ w.heap.size < W.heap.size) [(0, false), (1, false), (2, false), (3, false), (4, false), (5, false), (6, true), (7, true), (8, true)] (by kernel_rfl) (by kernel_rfl) (fun c a d v w h => by cases d <;> exact h) (M5.out.grow (Grow.drew wr)).cells ?_
            clear l0 l1 l2 ll hc
            simp only [arrange, nth]
            repeat (first | (refine wpPi_quiet (v := ?_) (by rfl) (fun W hW => ?_) ?_; rotate_left; (obtain ⟨hW0, hW1⟩ := hW; go_simp; with_reducible rfl); simp only [Act.put, List.setIfInBounds_toArray, List.set_cons_zero, List.set_cons_succ]) | (refine wpPi_off (by rfl) ?_; simp only [Act.put, List.setIfInBounds_toArray, List.set_cons_zero, List.set_cons_succ]))
            have hgD := Grow.drew wr
            refine wpPi_call (by rfl) (by go_simp) (segment_any ((M5.out.nums HN.out H.out).grow hgD M5.out.disk.base) (n := n) (by have := Hn2.out; omega) (by have := Hn2.out; omega) (name := nm) (by have := hm.len; omega)) ?_
            rintro e w7 ⟨rfl, hg7⟩
            have hg67 := hgD.trans hg7
            refine ⟨_, rfl, (M5.out.grow hg67).cells, ?_⟩
            try simp only [Act.put, List.setIfInBounds_toArray, List.set_cons_zero, List.set_cons_succ]
            have hg8 := hg67.trans (Grow.alloc w7 (.cells #[.string (segT nm n)] 9))
            have hm8 := M5.out.grow hg8
            have ho8 := Ho4.out.grow hg8
            refine wpPi_act (by rfl) (fun K hK => ?_)
            go_simp
            refine hK _ _ ⟨hm8.cells, ?_⟩
            clear hK K
            try simp only [Act.put, List.setIfInBounds_toArray, List.set_cons_zero, List.set_cons_succ]
            have hde := dk_del hm8.disk (n := segT nm n) (b := q.1) (s := q.2) (by rw [look_gap nm S a n _ (by have := Hn2.out; omega), LV, look_cons, if_pos rfl]) (heap_alloc_new _ _)
            rw [del_gap nm S (rest.drop (j + 1)) q (by have := Hn2.out; omega)] at hde
            refine wpPi_call (by rfl) (by go_simp) hde ?_
            rintro e w9 ⟨rfl, F9, hd9, hs9⟩
            have hm9 := hm8.dk hd9 hs9
            have M9 := Lib.hid hm9
            have Ho9 := Lib.hid (ho8.dk hm8.disk hs9)
            refine ⟨_, rfl, hm9.cells, ?_⟩
            clear hm9 hd9 hs9 hde hm8 hg8 hg67 hg7 hgD ho8
            try simp only [Act.put, List.setIfInBounds_toArray, List.set_cons_zero, List.set_cons_succ]
            refine wpPi_nil ?_
            go_wp2
            go_roundw
            case rel =>
              have hn := Hn2.out
              have hj := Hj.out
              refine ⟨i + 1, F9, by simp, hlt, ?_, Ho9.out⟩
              have h6 := M9.out
              rw [show i + 1 - S.length = j + 1 by omega, show a + S.length + (j + 1) = n + 1 by omega]
              exact h6
            case measure => simp [intOf]; omega
          · have hgt' : (n : Int) ≤ (m : Int) := by omega
            have M4 := Lib.hid h4
            have Ho4 := Lib.hid ho4
            clear hn h4 ho4
            go_wp2
            go_roundw
            case rel =>
              have hn := Hn2.out
              refine ⟨i + 1, F4, by simp, hlt, ?_, Ho4.out⟩
              have h5 := M4.out
              rw [show i - S.length = 0 by omega] at h5
              rw [show i + 1 - S.length = 0 by omega]
              exact h5
            case measure => simp [intOf]; omega
        · have hie : S.length + rest.length ≤ i := by omega
          have hi1 : (S.length : Int) + (rest.length : Int) ≤ (i : Int) := by omega
          have M4 := Lib.hid h4
          clear h4 ho4
          go_wp2
          refine bodyPost_ret (v := .tuple #[.pointer (some ⟨w.heap.size, 0, none⟩), .slice oa ps.length oc, .int .i64 0]) ?_ rfl ?_
          · simp [results, Tryd.results8, go_sem]
          · have h5 := M4.out
            rw [List.drop_eq_nil_of_le (by omega)] at h5
            rw [show LV nm (a + S.length + (i - S.length)) [] = [] from rfl, List.append_nil] at h5
            refine ⟨w.heap.size, _, F4, rfl, Nat.le_refl _, ?_, h5.sep, ?_, ?_⟩
            · rw [← HS.out]; exact h5.disk
            · rw [← HS.out, show a + (S.length - 1) = m by omega]; exact h5.log
            · rw [← Hps.out]; exact h5.rows
end Go.Proofs.YtpiedpdffkfhpaaDoor

/- wal's Log.Append and Log.Sync: the walks. -/
namespace Go.Proofs.YtpiedpdffkfhpaaDoor
open Go.RowKit Go.Gl Go.Wal Go.Sort

/-- A log on a disk, behind an operation. -/
def LgTo (Z B : Nat) (w : World) (p r : Nat) (nm : List UInt8) (lb m : Nat) (F : Nat → Prop) (w' : World) (V' : Vw) : Prop := ∃ F', Dk Z B w' p r V' F' ∧ LogAt w' lb p nm (m : Int) ∧ Sep F w w' F'

variable {N Z B : Nat} {w : World} {p r lb m : Nat} {nm : List UInt8} {V : Vw} {F : Nat → Prop}

set_option maxRecDepth 100000 in
set_option maxHeartbeats 4000000 in
theorem lappend_any (hm : NmOk nm) (hN : Nums N B w) (hd : Dk Z B w p r V F) (hl : LogAt w lb p nm (m : Int)) (hmN : m < N) (h6 : m < 1000000) {v : Value} {ps : List (List UInt8)} (hr : Rv w v ps) (hps : ∀ p ∈ ps, p.length ≤ 67108864) (hroom : tot V + (framesD crcTab ps).length ≤ Z) (hpl : ps.length ≤ 1000000000000) :
    Calls Tryd.prog 9 #[.pointer (some ⟨lb, 0, none⟩), v] w fun e w' => e = .returned (.int .i64 0) ∧ LgTo Z B w p r nm lb m F w' (appV (segT nm m) (framesD crcTab ps) V) := by
  have hZ : Z ≤ 16777216 := hd.1
  have hfr := fun (W : World) (hg : Grow w W) => frames_any (hr.grow hg) hps (by omega) hpl
  obtain ⟨va, vc, rfl, hr⟩ := hr
  have H := Lib.hid hr
  have Hd := Lib.hid hd
  have Hl := Lib.hid hl
  have HN := Lib.hid hN
  have Hfr := Lib.hid hfr
  have Hps := Lib.hid hps
  clear hr hd hl hN hfr hps
  go_enter Tryd.func9, Tryd.ntmps9
  go_wp2_with fail
  go_loopw [9] (fun iv wr => ∃ i : Nat, iv = .int .i64 i ∧ i ≤ ps.length ∧ wr = w) (fun iv _ => ps.length - (intOf iv).toNat)
  case atStart => exact ⟨0, rfl, Nat.zero_le _, rfl⟩
  case round =>
    obtain ⟨i, rfl, hi, hw⟩ := hrel
    subst hw
    by_cases hlt : i < ps.length
    · obtain ⟨p', hp⟩ : ∃ p, ps[i]? = some p := ⟨ps[i], by simp [hlt]⟩
      obtain ⟨b, o, rfl, lb', hc⟩ : ∃ b o, va = some ⟨b, o, none⟩ ∧ b < wr.heap.size ∧ ∀ (j : Nat) (p : List UInt8), ps[j]? = some p → ∃ pv, wr.cell? ⟨b, o + j, none⟩ = some pv ∧ Bv wr pv p := by
        rcases H.out with h1 | h1
        · rw [h1] at hlt; simp at hlt
        · exact h1
      obtain ⟨pv, c1, hbv⟩ := hc i p' hp
      have hpp := Hps.out p' (List.mem_of_getElem? hp)
      have hpp' : (p'.length : Int) ≤ 67108864 := by omega
      have hi1 : (i : Int) < (ps.length : Int) := by omega
      have hi0 : (0 : Int) ≤ (i : Int) := by omega
      have hwi : IntKind.i64.wrap ((i : Int) + 1) = (i : Int) + 1 := IntWalk.i64_in _ (by omega)
      obtain ⟨pa, pc, rfl⟩ := hbv.slice
      clear hc hp hbv
      go_wp2_with fail
      go_roundw
      case rel => exact ⟨i + 1, by simp, hlt, (by trivial)⟩
      case measure => simp [intOf]; omega
    · obtain rfl : i = ps.length := by omega
      go_wp2_with fail
      refine wp_region_pi (fun W => W.cell? ⟨lb, 0, none⟩ = some (.pointer (some ⟨p, 0, none⟩)) ∧ W.cell? ⟨lb, 1, none⟩ = some (.string ⟨nm.toArray⟩) ∧ W.cell? ⟨lb, 2, none⟩ = some (.int .i64 (m : Int)) ∧ lb < W.heap.size) [(0, false), (1, false), (2, false), (3, false), (4, false), (5, false), (6, false), (7, false), (8, false), (9, false), (10, false), (11, false), (13, false), (12, true), (14, true), (15, true), (16, true), (17, false)] (by kernel_rfl) (by kernel_rfl) (fun c a d v w h => by cases d <;> exact h) (Hl.out.grow (Grow.drew wr)).cells ?_
      simp only [arrange, nth]
      repeat (first | (refine wpPi_quiet (v := ?_) (by rfl) (fun W hW => ?_) ?_; rotate_left; (obtain ⟨hW0, hW1, hW2, hW3⟩ := hW; go_simp; with_reducible rfl); simp only [Act.put, List.setIfInBounds_toArray, List.set_cons_zero, List.set_cons_succ]) | (refine wpPi_off (by rfl) ?_; simp only [Act.put, List.setIfInBounds_toArray, List.set_cons_zero, List.set_cons_succ]))
      have hgD := Grow.drew wr
      refine wpPi_call (by rfl) (by go_simp) (segment_any (HN.out.grow hgD Hd.out.base) (n := m) hmN h6 (name := nm) (by have := hm.len; omega)) ?_
      rintro e w7 ⟨rfl, hg7⟩
      have hg17 := hgD.trans hg7
      refine ⟨_, rfl, (Hl.out.grow hg17).cells, ?_⟩
      try simp only [Act.put, List.setIfInBounds_toArray, List.set_cons_zero, List.set_cons_succ]
      refine wpPi_call (by rfl) (by go_simp) (Hfr.out w7 hg17) ?_
      rintro e w8 ⟨fv, rfl, hfv, hg8⟩
      have hg18 := hg17.trans hg8
      refine ⟨_, rfl, (Hl.out.grow hg18).cells, ?_⟩
      have hfb := ownB_bv hfv
      obtain ⟨fa, fc, rfl⟩ := hfb.slice
      try simp only [Act.put, List.setIfInBounds_toArray, List.set_cons_zero, List.set_cons_succ]
      have hgA := Grow.alloc w8 (.cells #[.slice fa (framesD crcTab ps).length fc] 23)
      have hg19 := hg18.trans hgA
      refine wpPi_act (by rfl) (fun K hK => ?_)
      go_simp
      refine hK _ _ ⟨(Hl.out.grow hg19).cells, ?_⟩
      clear hK K
      try simp only [Act.put, List.setIfInBounds_toArray, List.set_cons_zero, List.set_cons_succ]
      refine wpPi_call (by rfl) (by go_simp) (dk_app (Hd.out.grow hg19) (segT_ok hm h6) (heap_alloc_new _ _) (hfb.grow hgA) hroom) ?_
      rintro e w9 ⟨rfl, F9, hd9, hs9⟩
      have hl9 := (Hl.out.grow hg19).sep (Hd.out.grow hg19) hs9
      have Hend : Hid (LgTo Z B wr p r nm lb m F w9 (appV (segT nm m) (framesD crcTab ps) V)) := Lib.hid ⟨F9, hd9, hl9, (Sep.ofGrow hg19).trans hs9⟩
      refine ⟨_, rfl, hl9.cells, ?_⟩
      clear hd9 hs9 hl9 hg19 hgA hfb hfv hg18 hg8 hg17 hg7 hgD
      try simp only [Act.put, List.setIfInBounds_toArray, List.set_cons_zero, List.set_cons_succ]
      repeat (first | (refine wpPi_quiet (v := ?_) (by rfl) (fun W hW => ?_) ?_; rotate_left; (obtain ⟨hW0, hW1, hW2, hW3⟩ := hW; go_simp; with_reducible rfl); simp only [Act.put, List.setIfInBounds_toArray, List.set_cons_zero, List.set_cons_succ]) | (refine wpPi_off (by rfl) ?_; simp only [Act.put, List.setIfInBounds_toArray, List.set_cons_zero, List.set_cons_succ]))
      refine wpPi_nil ?_
      go_wp2
      go_ret
      exact ⟨rfl, Hend.out⟩

set_option maxRecDepth 100000 in
set_option maxHeartbeats 4000000 in
theorem lsync_any (hm : NmOk nm) (hN : Nums N B w) (hd : Dk Z B w p r V F) (hl : LogAt w lb p nm (m : Int)) (hmN : m < N) (h6 : m < 1000000) {b : List UInt8} {s : Nat} (hlk : lookV (segT nm m) V = some (b, s)) :
    Calls Tryd.prog 15 #[.pointer (some ⟨lb, 0, none⟩)] w fun e w' => e = .returned (.int .i64 0) ∧ LgTo Z B w p r nm lb m F w' (synV (segT nm m) V) := by
  have Hd := Lib.hid hd
  have Hl := Lib.hid hl
  have HN := Lib.hid hN
  have Hk := Lib.hid hlk
  clear hd hl hN hlk
  go_enter Tryd.func15, Tryd.ntmps15
  go_wp2_with fail
  refine wp_region_pi (fun W => W.cell? ⟨lb, 0, none⟩ = some (.pointer (some ⟨p, 0, none⟩)) ∧ W.cell? ⟨lb, 1, none⟩ = some (.string ⟨nm.toArray⟩) ∧ W.cell? ⟨lb, 2, none⟩ = some (.int .i64 (m : Int)) ∧ lb < W.heap.size) [(0, false), (1, false), (2, false), (3, false), (4, false), (5, false), (6, false), (7, false), (8, false), (9, false), (10, false), (11, false), (12, true), (13, true), (14, true), (15, false)] (by kernel_rfl) (by kernel_rfl) (fun c a d v w h => by cases d <;> exact h) (Hl.out.grow (Grow.drew w)).cells ?_
  simp only [arrange, nth]
  repeat (first | (refine wpPi_quiet (v := ?_) (by rfl) (fun W hW => ?_) ?_; rotate_left; (obtain ⟨hW0, hW1, hW2, hW3⟩ := hW; go_simp; with_reducible rfl); simp only [Act.put, List.setIfInBounds_toArray, List.set_cons_zero, List.set_cons_succ]) | (refine wpPi_off (by rfl) ?_; simp only [Act.put, List.setIfInBounds_toArray, List.set_cons_zero, List.set_cons_succ]))
  have hgD := Grow.drew w
  refine wpPi_call (by rfl) (by go_simp) (segment_any (HN.out.grow hgD Hd.out.base) (n := m) hmN h6 (name := nm) (by have := hm.len; omega)) ?_
  rintro e w7 ⟨rfl, hg7⟩
  have hg17 := hgD.trans hg7
  refine ⟨_, rfl, (Hl.out.grow hg17).cells, ?_⟩
  try simp only [Act.put, List.setIfInBounds_toArray, List.set_cons_zero, List.set_cons_succ]
  have hg19 := hg17.trans (Grow.alloc w7 (.cells #[.string (segT nm m)] 9))
  refine wpPi_act (by rfl) (fun K hK => ?_)
  go_simp
  refine hK _ _ ⟨(Hl.out.grow hg19).cells, ?_⟩
  clear hK K
  try simp only [Act.put, List.setIfInBounds_toArray, List.set_cons_zero, List.set_cons_succ]
  refine wpPi_call (by rfl) (by go_simp) (dk_sync (Hd.out.grow hg19) Hk.out (heap_alloc_new _ _)) ?_
  rintro e w9 ⟨rfl, F9, hd9, hs9⟩
  have hl9 := (Hl.out.grow hg19).sep (Hd.out.grow hg19) hs9
  have Hend : Hid (LgTo Z B w p r nm lb m F w9 (synV (segT nm m) V)) := Lib.hid ⟨F9, hd9, hl9, (Sep.ofGrow hg19).trans hs9⟩
  refine ⟨_, rfl, hl9.cells, ?_⟩
  clear hd9 hs9 hl9 hg19 hg17 hg7 hgD
  try simp only [Act.put, List.setIfInBounds_toArray, List.set_cons_zero, List.set_cons_succ]
  repeat (first | (refine wpPi_quiet (v := ?_) (by rfl) (fun W hW => ?_) ?_; rotate_left; (obtain ⟨hW0, hW1, hW2, hW3⟩ := hW; go_simp; with_reducible rfl); simp only [Act.put, List.setIfInBounds_toArray, List.set_cons_zero, List.set_cons_succ]) | (refine wpPi_off (by rfl) ?_; simp only [Act.put, List.setIfInBounds_toArray, List.set_cons_zero, List.set_cons_succ]))
  refine wpPi_nil ?_
  go_wp2
  go_ret
  exact ⟨rfl, Hend.out⟩
end Go.Proofs.YtpiedpdffkfhpaaDoor

/- glacierlaw4.same. -/
namespace Go.Proofs.YtpiedpdffkfhpaaDoor
open Go.RowKit Go.Gl Go.Wal Go.Sort

theorem Bv.string {w : World} {v : Value} {l : List UInt8} (h : Bv w v l) : (convert 23 9 v).run Tryd.prog w = .ok (.string ⟨l.toArray⟩) w := by
  obtain ⟨a, c, rfl, hlc, hm, hn, h⟩ := h
  cases a with
  | none =>
    have hc := hn rfl
    have hl : l = [] := List.eq_nil_of_length_eq_zero (by omega)
    subst hl hc
    rw [List.length_nil, run_convert_bytes_string w 23 9 5 none 0 0 Tryd.underlying23 Tryd.underlying5 Tryd.underlying9]
    rfl
  | some x =>
    refine run_convert_bytes_back w 23 9 5 x c l Tryd.underlying23 Tryd.underlying5 Tryd.underlying9 fun j hj => ?_
    rcases h with rfl | ⟨b, o, hx, hb, hc⟩
    · cases hj
    · cases hx
      rw [Addr.add_lit]
      exact hc j l[j] (by simp [hj])

theorem Rv.slice {w : World} {v : Value} {ps : List (List UInt8)} (h : Rv w v ps) : ∃ a c, v = .slice a ps.length c := by
  obtain ⟨a, c, h, _⟩ := h; exact ⟨a, c, h⟩

theorem Rv.at {w : World} {a : Option Addr} {n c i : Nat} {ps : List (List UInt8)} (h : Rv w (.slice a n c) ps) (hi : i < ps.length) : ∃ b o pa pc, a = some ⟨b, o, none⟩ ∧ b < w.heap.size ∧ w.cell? ⟨b, o + i, none⟩ = some (.slice pa ps[i].length pc) ∧ Bv w (.slice pa ps[i].length pc) ps[i] := by
  obtain ⟨a', c', he, h⟩ := h
  cases he
  rcases h with rfl | ⟨b, o, rfl, hb, hc⟩
  · cases hi
  · obtain ⟨pv, h1, h2⟩ := hc i ps[i] (by simp [hi])
    obtain ⟨pa, pc, rfl⟩ := h2.slice
    exact ⟨b, o, pa, pc, rfl, hb, h1, h2⟩

set_option maxRecDepth 100000 in
set_option maxHeartbeats 4000000 in
theorem same_any {w : World} {v1 v2 : Value} {ps qs : List (List UInt8)} (h1 : Rv w v1 ps) (h2 : Rv w v2 qs) (hl1 : ps.length ≤ 1000000000000) (hl2 : qs.length ≤ 1000000000000) :
    Calls Tryd.prog 13 #[v1, v2] w fun e w' => e = .returned (.bool (decide (ps = qs))) ∧ Grow w w' := by
  obtain ⟨a1, c1, rfl⟩ := h1.slice
  obtain ⟨a2, c2, rfl⟩ := h2.slice
  have H1 := Lib.hid h1
  have H2 := Lib.hid h2
  clear h1 h2
  by_cases hlen : ps.length = qs.length
  · have e0 : ((ps.length : Int) != (qs.length : Int)) = false := by simp [hlen]
    have Hlen := Lib.hid hlen
    clear hlen
    go_enter Tryd.func13, Tryd.ntmps13
    go_wp2_with fail
    go_loopw [5] (fun iv wr => ∃ i : Nat, iv = .int .i64 i ∧ i ≤ ps.length ∧ ps.take i = qs.take i ∧ Grow w wr) (fun iv _ => ps.length - (intOf iv).toNat)
    case atStart => exact ⟨0, rfl, Nat.zero_le _, by simp, Grow.refl _⟩
    case round =>
      obtain ⟨i, rfl, hi, heq, hg⟩ := hrel
      by_cases hlt : i < ps.length
      · have hlt2 : i < qs.length := by have := Hlen.out; omega
        obtain ⟨b1, o1, pa1, pc1, rfl, lb1, d1, bv1⟩ := (H1.out.grow hg).at hlt
        obtain ⟨b2, o2, pa2, pc2, rfl, lb2, d2, bv2⟩ := (H2.out.grow hg).at hlt2
        have hi1 : (i : Int) < (ps.length : Int) := by omega
        have hi2 : (i : Int) < (qs.length : Int) := by omega
        have hi0 : (0 : Int) ≤ (i : Int) := by omega
        have hwi : IntKind.i64.wrap ((i : Int) + 1) = (i : Int) + 1 := IntWalk.i64_in _ (by omega)
        have k1 : ∀ W, Below wr.heap.size wr W → (convert 23 9 (.slice pa1 ps[i].length pc1)).run Tryd.prog W = .ok (.string ⟨ps[i].toArray⟩) W := fun W hW => (bv1.grow hW).string
        have k2 : ∀ W, Below wr.heap.size wr W → (convert 23 9 (.slice pa2 qs[i].length pc2)).run Tryd.prog W = .ok (.string ⟨qs[i].toArray⟩) W := fun W hW => (bv2.grow hW).string
        have hcl := Grow.cells (w := wr)
        have ht1 : ps.take (i + 1) = ps.take i ++ [ps[i]] := List.take_succ_eq_append_getElem hlt
        have ht2 : qs.take (i + 1) = qs.take i ++ [qs[i]] := List.take_succ_eq_append_getElem hlt2
        have hne : ps[i] ≠ qs[i] → ps ≠ qs := fun hn he => by subst he; exact hn rfl
        generalize ps[i] = x at *
        generalize qs[i] = y at *
        have Hg := Lib.hid hg
        have Ht := Lib.hid (And.intro ht1 (And.intro ht2 heq))
        have Hne := Lib.hid hne
        clear hg bv1 bv2 ht1 ht2 heq hne
        go_wp2_with fail
        refine wp_region_pi (fun W => Below wr.heap.size wr W) [(0, false), (1, false), (2, false), (3, false), (4, false), (5, false), (6, false), (7, false), (8, false), (9, false), (10, false)] (by kernel_rfl) (by kernel_rfl) (fun c a d v w h => by cases d <;> exact h) (Grow.drew _) ?_
        simp only [arrange, nth]
        repeat (first | (refine wpPi_quiet (v := ?_) (by rfl) (fun W hW => ?_) ?_; rotate_left; (obtain hW := hW; go_simp; with_reducible rfl); simp only [Act.put, List.setIfInBounds_toArray, List.set_cons_zero, List.set_cons_succ]) | (refine wpPi_off (by rfl) ?_; simp only [Act.put, List.setIfInBounds_toArray, List.set_cons_zero, List.set_cons_succ]))
        refine wpPi_nil ?_
        clear k1 k2 hcl
        by_cases hxy : x = y
        · rw [show (x == y) = true by simp [hxy]]
          have Hxy := Lib.hid hxy
          clear hxy
          go_wp2
          go_roundw
          case rel =>
            refine ⟨i + 1, by simp, hlt, ?_, Hg.out.trans (Grow.drew wr)⟩
            rw [Ht.out.1, Ht.out.2.1, Ht.out.2.2, Hxy.out]
          case measure => simp [intOf]; omega
        · rw [show (x == y) = false by simp [hxy]]
          have hn := Hne.out hxy
          have hd : decide (ps = qs) = false := by simp [hn]
          have Hd := Lib.hid hd
          clear hxy hn hd
          go_wp2
          go_ret
          exact ⟨by rw [Hd.out]; rfl, Hg.out.trans (Grow.drew wr)⟩
      · have hie : i = ps.length := by omega
        have hd : decide (ps = qs) = true := by
          have h1 : ps.take i = ps := List.take_of_length_le (by omega)
          have h2 : qs.take i = qs := List.take_of_length_le (by have := Hlen.out; omega)
          rw [h1, h2] at heq
          simp [heq]
        have hi1 : (ps.length : Int) ≤ (i : Int) := by omega
        have Hd := Lib.hid hd
        clear hd heq hie
        go_wp2
        go_ret
        exact ⟨by rw [Hd.out]; rfl, hg⟩
  · have e0 : ((ps.length : Int) != (qs.length : Int)) = true := by simp; omega
    have hd : decide (ps = qs) = false := by
      have : ps ≠ qs := fun he => hlen (by rw [he])
      simp [this]
    have e1 : ¬ (ps.length : Int) = (qs.length : Int) := by omega
    have Hd := Lib.hid hd
    clear hd
    go_enter Tryd.func13, Tryd.ntmps13
    go_wp2
    go_ret
    exact ⟨by rw [Hd.out]; rfl, Grow.refl _⟩
end Go.Proofs.YtpiedpdffkfhpaaDoor

/- A new disk and a crash at the level of views; Open of a segment that is cut. -/
namespace Go.Proofs.YtpiedpdffkfhpaaDoor
open Go.RowKit Go.Gl Go.Wal Go.Sort

theorem dk_new (Z : Nat) (w : World) (h1 : 1 ≤ Z) (h2 : Z ≤ 16777216) :
    Calls Tryd.prog 7 #[.int .i64 (Z : Int)] w fun e w' => e = .returned (.tuple #[.pointer (some ⟨w.heap.size + 1, 0, none⟩), .int .i64 0]) ∧ (∃ F, Dk Z w.heap.size w' (w.heap.size + 1) w.heap.size [] F) ∧ Grow w w' := by
  refine (new_ok (Z : Int) w (by omega) (by omega)).mono ?_
  rintro e w' ⟨rfl, hd, hg⟩
  exact ⟨rfl, ⟨_, h2, Nat.zero_le _, 0, [], hd, rfl, rfl⟩, hg⟩

theorem cut_sum (picks : List Int) : ∀ (L : Sg) (i : Nat), ((cutL picks i L).map fun q => q.1.length).sum ≤ (L.map fun q => q.1.length).sum
  | [], _ => Nat.le_refl _
  | q :: L, i => by
    have := cut_sum picks L (i + 1)
    rw [cutL, List.map_cons, List.map_cons, List.sum_cons, List.sum_cons, List.length_take]
    omega

theorem cutL_len (picks : List Int) : ∀ (L : Sg) (i : Nat), (cutL picks i L).length = L.length
  | [], _ => rfl
  | q :: L, i => by rw [cutL, List.length_cons, List.length_cons, cutL_len picks L]

theorem dk_crash {Z B : Nat} {w : World} {p r a : Nat} {nm : List UInt8} {L : Sg} {F : Nat → Prop} (h : Dk Z B w p r (LV nm a L) F) (hlen : a + L.length ≤ 1000000) {pv : Value} {picks : List Int} (hp : Iv w pv picks) (hfree : picks ≠ [] → IvFree F pv) :
    Calls Tryd.prog 12 #[.pointer (some ⟨p, 0, none⟩), pv] w fun e w' => e = .returned (.tuple #[]) ∧ DkTo Z B w p r F w' (LV nm a (cutL picks 0 L)) := by
  obtain ⟨hZ, h0, born, fs, h1, hv, rfl⟩ := h
  have hlv : fs.length = L.length := by have := congrArg List.length hv; rw [LV_len] at this; rw [← this, vw, List.length_map]
  rw [← hv] at h1 h0
  refine (crash_any h1 (by omega) (by omega) hp hfree).mono ?_
  rintro e w' ⟨rfl, fs', hd, hs, hv'⟩
  have hsort : sortN fs = (List.range' a L.length).map (segB nm) := by
    have e1 : pick (fun _ => true) (fs.map Fe.ent) = (List.range' a L.length).map (segB nm) := by
      have e2 : pick (fun _ => true) (fs.map Fe.ent) = ((vw fs).map (·.1)).map fun s => s.data.toList := by
        unfold pick
        rw [names_vw, List.filter_eq_self.2 (fun _ _ => rfl), List.map_map, List.map_map]
        rfl
      rw [e2, hv, LV_names, List.map_map]
      exact congrArg (fun f => (List.range' a L.length).map f) (funext fun n => seg_data nm n)
    unfold sortN
    rw [e1]
    exact sort_names hlen
  have hcr := crash_LV nm picks L [] a
  simp only [List.length_nil, Nat.add_zero, List.nil_append] at hcr
  rw [hsort, hv, hcr] at hv'
  refine ⟨rfl, _, ⟨hZ, ?_, born, fs', ?_, hv', rfl⟩, hs⟩
  · have := cut_sum picks L 0
    rw [hv, tot_LV] at h0
    rw [tot_LV]; omega
  · rw [← hv']; exact hd

/-- n of the payloads end within the first c bytes. -/
def isN (l : List (List UInt8)) (c n : Nat) : Prop := n ≤ l.length ∧ (framesD crcTab (l.take n)).length ≤ c ∧ (n < l.length → c < (framesD crcTab (l.take (n + 1))).length)

theorem framesD_append (T : List Nat) (a b : List (List UInt8)) : framesD T (a ++ b) = framesD T a ++ framesD T b := by simp [framesD]

theorem take_frames {l : List (List UInt8)} {c n : Nat} (hl : ∀ p ∈ l, p.length ≤ 67108864) (h : isN l c n) : ∃ (p : List UInt8) (m : Nat), p.length ≤ 67108864 ∧ m < (frameD crcTab p).length ∧ (framesD crcTab l).take c = framesD crcTab (l.take n) ++ (frameD crcTab p).take m := by
  obtain ⟨h1, h2, h3⟩ := h
  by_cases hn : n < l.length
  · have h4 := h3 hn
    have e1 : framesD crcTab l = framesD crcTab (l.take n) ++ (frameD crcTab l[n] ++ framesD crcTab (l.drop (n + 1))) := by
      have : l = l.take n ++ l[n] :: l.drop (n + 1) := by rw [← List.drop_eq_getElem_cons hn, List.take_append_drop]
      rw [← show framesD crcTab (l[n] :: l.drop (n + 1)) = frameD crcTab l[n] ++ framesD crcTab (l.drop (n + 1)) from rfl, ← framesD_append, ← this]
    have e2 : (framesD crcTab (l.take (n + 1))).length = (framesD crcTab (l.take n)).length + (frameD crcTab l[n]).length := by
      rw [framesD_snoc (p := l[n]) (by simp [hn]), List.length_append]
    refine ⟨l[n], c - (framesD crcTab (l.take n)).length, hl _ (List.getElem_mem hn), by omega, ?_⟩
    rw [e1, List.take_append, List.take_of_length_le h2, List.take_append_of_le_length (by omega)]
  · have hn' : n = l.length := by omega
    refine ⟨[], 0, by simp, frame_ne _ _, ?_⟩
    rw [hn', List.take_length] at h2 ⊢
    rw [List.take_of_length_le h2, List.take_zero, List.append_nil]

theorem openL_cut {l : List (List UInt8)} {c n : Nat} (hl : ∀ p ∈ l, p.length ≤ 67108864) (h : isN l c n) (s : Nat) : openL crcTab [((framesD crcTab l).take c, s)] = (l.take n, [(framesD crcTab (l.take n), (framesD crcTab (l.take n)).length)]) := by
  obtain ⟨p, m, hp, hm, he⟩ := take_frames hl h
  have hr := rf_torn crcTab (l.take n) (fun q hq => hl q (List.mem_of_mem_take hq)) hp hm
  rw [he, openL, hr]
  by_cases h0 : m = 0
  · subst h0
    simp [openL]
  · simp [h0]

theorem openL_frames {l : List (List UInt8)} (hl : ∀ p ∈ l, p.length ≤ 67108864) (s : Nat) : openL crcTab [(framesD crcTab l, s)] = (l, [(framesD crcTab l, (framesD crcTab l).length)]) := by
  rw [openL, rf_whole crcTab l hl, if_pos rfl]
  simp [openL]

theorem openS_one (q : List UInt8 × Nat) : openS crcTab [q] = (openL crcTab [q]).2 := by unfold openS; rw [if_neg (by simp)]

/-- A slice of numbers in a block of its own. -/
theorem iv_block {w : World} {b : Nat} {n : Int} (h : w.heap[b]? = some (.cells #[.int .i64 n] 3 (0, 0))) : Iv w (.slice (some ⟨b, 0, none⟩) 1 1) [n] := by
  refine ⟨some ⟨b, 0, none⟩, 1, rfl, (show 1 ≤ maxLen by decide), .inr ⟨b, 0, rfl, lt_of_getElem? h, fun j k hj => ?_⟩⟩
  match j, hj with
  | 0, hj => cases hj; simp [World.cell?, h]
  | j + 1, hj => simp at hj

theorem ivFree_block {Z B : Nat} {w : World} {p r : Nat} {V : Vw} {F : Nat → Prop} (hd : Dk Z B w p r V F) {b : Nat} {arr : Array Value} {n c : Nat} (h : w.heap[b]? = some (.cells arr 3 (0, 0))) : IvFree F (.slice (some ⟨b, 0, none⟩) n c) := fun x hx => by
  cases hx
  exact hd.apart h (by decide) (by decide) (by decide)

/-- One payload in a block of its own. -/
theorem rv_block {w : World} {b : Nat} {pv : Value} {x : List UInt8} (h : w.heap[b]? = some (.cells #[pv] 23 (0, 0))) (hx : Bv w pv x) : Rv w (.slice (some ⟨b, 0, none⟩) 1 1) [x] := by
  refine ⟨some ⟨b, 0, none⟩, 1, rfl, .inr ⟨b, 0, rfl, lt_of_getElem? h, fun j k hj => ?_⟩⟩
  match j, hj with
  | 0, hj => cases hj; exact ⟨pv, by simp [World.cell?, h], hx⟩
  | j + 1, hj => simp at hj

theorem bv_block {w : World} {b : Nat} {x : UInt8} {f : Nat × Nat} (h : w.heap[b]? = some (.cells #[.int .u8 x.toNat] 5 f)) : Bv w (.slice (some ⟨b, 0, none⟩) 1 1) [x] := by
  refine ⟨some ⟨b, 0, none⟩, 1, rfl, Nat.le_refl _, by decide, (fun h => by cases h), .inr ⟨b, 0, rfl, lt_of_getElem? h, fun j k hj => ?_⟩⟩
  match j, hj with
  | 0, hj => cases hj; simp [World.cell?, h]
  | j + 1, hj => simp at hj

theorem appV_one (nm : List UInt8) (a : Nat) (x : List UInt8) (q : List UInt8 × Nat) : appV (segT nm a) x (LV nm a [q]) = LV nm a [(q.1 ++ x, q.2)] := app_LV nm x (L := [q]) a (i := 0) (by simp)
theorem synV_one (nm : List UInt8) (a : Nat) (q : List UInt8 × Nat) : synV (segT nm a) (LV nm a [q]) = LV nm a [(q.1, q.1.length)] := syn_LV nm [q] a 0
theorem look_one (nm : List UInt8) (a : Nat) (q : List UInt8 × Nat) : lookV (segT nm a) (LV nm a [q]) = some q := look_LV nm [q] a 0
theorem tot_one (nm : List UInt8) (a : Nat) (q : List UInt8 × Nat) : tot (LV nm a [q]) = q.1.length := by rw [tot_LV]; simp

/-- A log behind some operations of a law that began at w0. -/
structure Lw (Z : Nat) (w0 : World) (p r : Nat) (nm : List UInt8) (lb a : Nat) (S : Sg) (F : Nat → Prop) (w : World) : Prop where
  disk : Dk Z w0.heap.size w p r (LV nm a S) F
  log : LogAt w lb p nm ((a + (S.length - 1) : Nat) : Int)
  below : Below w0.heap.size w0 w

section
variable {Z : Nat} {w0 w w' : World} {p r lb a : Nat} {nm : List UInt8} {S S' : Sg} {F F' : Nat → Prop}

theorem Lw.grow (h : Lw Z w0 p r nm lb a S F w) (hg : Grow w w') : Lw Z w0 p r nm lb a S F w' :=
  ⟨h.disk.grow hg, h.log.grow hg, h.below.trans (hg.mono h.below.size)⟩

theorem Lw.step (h : Lw Z w0 p r nm lb a S F w) (hd : Dk Z w0.heap.size w' p r (LV nm a S') F') (hl : LogAt w' lb p nm ((a + (S'.length - 1) : Nat) : Int)) (hs : Sep F w w' F') : Lw Z w0 p r nm lb a S' F' w' :=
  ⟨hd, hl, h.below.trans (hs.below (fun _ hb => (h.disk.foot hb).1) h.disk.base)⟩

theorem Lw.lg (h : Lw Z w0 p r nm lb a S F w) {m : Nat} (hm : m = a + (S.length - 1)) (hlen : S'.length = S.length) (hd : LgTo Z w0.heap.size w p r nm lb m F w' (LV nm a S')) : ∃ F', Lw Z w0 p r nm lb a S' F' w' ∧ Sep F w w' F' := by
  obtain ⟨F', h1, h2, h3⟩ := hd
  exact ⟨F', h.step h1 (by rw [hlen, ← hm]; exact h2) h3, h3⟩

theorem Lw.opened {L : Sg} {F : Nat → Prop} (hd : Dk Z w0.heap.size w p r (LV nm a L) F) (hb : Below w0.heap.size w0 w) {lb : Nat} (h1 : Dk Z w0.heap.size w' p r (LV nm a (openS crcTab L)) F') (h2 : Sep F w w' F') (h3 : LogAt w' lb p nm ((a + ((openS crcTab L).length - 1) : Nat) : Int)) : Lw Z w0 p r nm lb a (openS crcTab L) F' w' :=
  ⟨h1, h3, hb.trans (h2.below (fun _ hb => (hd.foot hb).1) hd.base)⟩
end
end Go.Proofs.YtpiedpdffkfhpaaDoor

/- The operations of a log in the middle of a law. -/
namespace Go.Proofs.YtpiedpdffkfhpaaDoor
open Go.RowKit Go.Gl Go.Wal Go.Sort

variable {Z N : Nat} {w0 w : World} {p r lb a : Nat} {nm : List UInt8} {T S : Sg} {q : List UInt8 × Nat} {F : Nat → Prop}

theorem Nums.below {B : Nat} {w0 w : World} (h : Nums N B w0) (hb : Below B w0 w) : Nums N B w := h.keep (fun b hb' => hb.block b hb')

theorem mod_last {g : List UInt8 × Nat → List UInt8 × Nat} : (T ++ [q]).modify T.length g = T ++ [g q] := modify_mid g q [] T

theorem look_last' : lookV (segT nm (a + T.length)) (LV nm a (T ++ [q])) = some q := by
  rw [look_LV, List.getElem?_append_right (Nat.le_refl _), Nat.sub_self]; rfl

theorem lw_append (h : Lw Z w0 p r nm lb a (T ++ [q]) F w) (hm : NmOk nm) (hN : Nums N w0.heap.size w0) (hlN : a + T.length < N) (h6 : a + T.length < 1000000) {v : Value} {ps : List (List UInt8)} (hr : Rv w v ps) (hps : ∀ p ∈ ps, p.length ≤ 67108864) (hroom : tot (LV nm a (T ++ [q])) + (framesD crcTab ps).length ≤ Z) (hpl : ps.length ≤ 1000000000000) :
    Calls Tryd.prog 9 #[.pointer (some ⟨lb, 0, none⟩), v] w fun e w' => e = .returned (.int .i64 0) ∧ ∃ F', Lw Z w0 p r nm lb a (T ++ [(q.1 ++ framesD crcTab ps, q.2)]) F' w' ∧ Sep F w w' F' := by
  have hl := h.log
  rw [List.length_append, List.length_singleton, Nat.add_sub_cancel] at hl
  refine (lappend_any hm (hN.below h.below) h.disk hl hlN h6 hr hps hroom hpl).mono ?_
  rintro e w' ⟨rfl, hd⟩
  rw [app_LV nm _ a (by simp), mod_last] at hd
  exact ⟨rfl, h.lg (by simp) (by simp) hd⟩

theorem lw_sync (h : Lw Z w0 p r nm lb a (T ++ [q]) F w) (hm : NmOk nm) (hN : Nums N w0.heap.size w0) (hlN : a + T.length < N) (h6 : a + T.length < 1000000) :
    Calls Tryd.prog 15 #[.pointer (some ⟨lb, 0, none⟩)] w fun e w' => e = .returned (.int .i64 0) ∧ ∃ F', Lw Z w0 p r nm lb a (T ++ [(q.1, q.1.length)]) F' w' ∧ Sep F w w' F' := by
  have hl := h.log
  rw [List.length_append, List.length_singleton, Nat.add_sub_cancel] at hl
  refine (lsync_any hm (hN.below h.below) h.disk hl hlN h6 look_last').mono ?_
  rintro e w' ⟨rfl, hd⟩
  rw [syn_LV, mod_last] at hd
  exact ⟨rfl, h.lg (by simp) (by simp) hd⟩

/-- A disk alone, in the middle of a law. -/
structure Ld (Z : Nat) (w0 : World) (p r : Nat) (nm : List UInt8) (a : Nat) (S : Sg) (F : Nat → Prop) (w : World) : Prop where
  disk : Dk Z w0.heap.size w p r (LV nm a S) F
  below : Below w0.heap.size w0 w

theorem Lw.ld (h : Lw Z w0 p r nm lb a S F w) : Ld Z w0 p r nm a S F w := ⟨h.disk, h.below⟩
theorem Ld.grow {w' : World} (h : Ld Z w0 p r nm a S F w) (hg : Grow w w') : Ld Z w0 p r nm a S F w' := ⟨h.disk.grow hg, h.below.trans (hg.mono h.below.size)⟩

theorem ld_crash (h : Ld Z w0 p r nm a S F w) (h6 : a + S.length ≤ 1000000) {pv : Value} {picks : List Int} (hp : Iv w pv picks) (hfree : picks ≠ [] → IvFree F pv) :
    Calls Tryd.prog 12 #[.pointer (some ⟨p, 0, none⟩), pv] w fun e w' => e = .returned (.tuple #[]) ∧ ∃ F', Ld Z w0 p r nm a (cutL picks 0 S) F' w' ∧ Sep F w w' F' := by
  refine (dk_crash h.disk h6 hp hfree).mono ?_
  rintro e w' ⟨rfl, F', hd, hs⟩
  exact ⟨rfl, F', ⟨hd, h.below.trans (hs.below (fun _ hb => (h.disk.foot hb).1) h.disk.base)⟩, hs⟩

theorem ld_open (h : Ld Z w0 p r nm a S F w) (hm : NmOk nm) (hnm : ∀ w, Calls Tryd.prog 20 #[.string ⟨nm.toArray⟩] w fun e w' => e = .returned (.bool true) ∧ w' = w) (hN : Nums N w0.heap.size w0) (hlN : a + S.length < N) (h6 : a + S.length < 1000000) (hroom : 2 * tot (LV nm a S) ≤ Z) :
    Calls Tryd.prog 8 #[.pointer (some ⟨p, 0, none⟩), .string ⟨nm.toArray⟩, .int .i64 a] w fun e w' => ∃ (lb : Nat) (va : Option Addr) (vc : Nat) (F' : Nat → Prop), e = .returned (.tuple #[.pointer (some ⟨lb, 0, none⟩), .slice va (openL crcTab S).1.length vc, .int .i64 0]) ∧ Lw Z w0 p r nm lb a (openS crcTab S) F' w' ∧ OwnRF w.heap.size F' w' (.slice va (openL crcTab S).1.length vc) (openL crcTab S).1 ∧ Sep F w w' F' ∧ w.heap.size ≤ lb := by
  refine (open_any hm hnm h.disk (hN.below h.below) hlN h6 hroom).mono ?_
  rintro e w' ⟨lb, v, F', rfl, h1, h2, h3, h4, h5⟩
  obtain ⟨va, vc, rfl⟩ := h5.slice
  exact ⟨lb, va, vc, F', rfl, Lw.opened h.disk h.below h2 h3 h4, h5, h3, h1⟩
end Go.Proofs.YtpiedpdffkfhpaaDoor

/- glacierlaw4.known. -/
namespace Go.Proofs.YtpiedpdffkfhpaaDoor
open Go.RowKit Go.Gl Go.Wal Go.Sort

theorem frame1_len (x : UInt8) : (frameD crcTab [x]).length = 6 := by rw [frame_len]; rfl
theorem framesD_one (x : UInt8) : framesD crcTab [[x]] = frameD crcTab [x] := by simp [framesD]

theorem one_row {W : World} {x : UInt8} : Rv ((W.alloc (.cells #[.int .u8 x.toNat] 5 (1, 2))).alloc (.cells #[.slice (some ⟨W.heap.size, 0, none⟩) 1 1] 23)) (.slice (some ⟨W.heap.size + 1, 0, none⟩) 1 1) [[x]] := by
  have h1 := heap_alloc_new (W.alloc (.cells #[.int .u8 x.toNat] 5 (1, 2))) (.cells #[.slice (some ⟨W.heap.size, 0, none⟩) 1 1] 23)
  rw [show (W.alloc (.cells #[.int .u8 x.toNat] 5 (1, 2))).heap.size = W.heap.size + 1 by simp] at h1
  exact rv_block h1 ((bv_block (heap_alloc_new W (.cells #[.int .u8 x.toNat] 5 (1, 2)))).grow (Grow.alloc _ _))

theorem known_cut : cutL [3] 0 [(frameD crcTab [97] ++ frameD crcTab [98], 6)] = [((framesD crcTab [[97], [98]]).take 9, 9)] := by
  simp [cutL, keptD, framesD, frame1_len]
theorem known_seg : segT logN 7 = ⟨#[108, 111, 103, 45, 48, 48, 48, 48, 48, 55]⟩ := by
  simp [segT, segB, padD, Lib.decDigits, logN, List.replicate]
theorem known_isN : isN [[97], [98]] 9 1 := by
  refine ⟨by decide, ?_, fun _ => ?_⟩
  · simp [framesD, frame1_len]
  · simp [framesD, frame1_len]

set_option maxRecDepth 100000 in
set_option maxHeartbeats 4000000 in
theorem known_true (w : World) : Calls Tryd.prog 6 #[] w fun e w' => e = .returned (.bool true) ∧ Grow w w' := by
  have hnew : Calls Tryd.prog 7 #[.int .i64 1000] w fun e w' => e = .returned (.tuple #[.pointer (some ⟨w.heap.size + 1, 0, none⟩), .int .i64 0]) ∧ (∃ F, Dk 1000 w.heap.size w' (w.heap.size + 1) w.heap.size [] F) ∧ Grow w w' := dk_new 1000 w (by decide) (by decide)
  have Hnew := Lib.hid hnew
  clear hnew
  go_enter Tryd.func6, Tryd.ntmps6
  go_wp2_with fail
  (with_reducible refine Hnew.out.mono ?_)
  rintro e w1 ⟨rfl, ⟨F1, hd1⟩, hg1⟩
  have D1 : Ld 1000 w (w.heap.size + 1) w.heap.size logN 0 [] F1 w1 := ⟨hd1, hg1⟩
  have hop : Calls Tryd.prog 8 #[.pointer (some ⟨w.heap.size + 1, 0, none⟩), .string ⟨#[108, 111, 103]⟩, .int .i64 0] w1 _ := ld_open (N := 100) (a := 0) D1 nmOk_log named_log (nums_small _ _) (by decide) (by decide) (by decide)
  have Hop := Lib.hid hop
  clear hop hd1 hg1 D1
  go_wp2_with fail
  (with_reducible refine Hop.out.mono ?_)
  rintro e w2 ⟨lb, va, vc, F2, rfl, hw2, hr2, _⟩
  have W2 : Hid (Lw 1000 w (w.heap.size + 1) w.heap.size logN lb 0 ([] ++ [([], 0)]) F2 w2) := Lib.hid hw2
  have el : (openL crcTab []).1.length = 0 := rfl
  rw [el]
  have kc := Lib.run_convert_bytes_const (P := Tryd.prog) w2 23 5 #[.int .u8 97] 1 1 Tryd.underlying23 Tryd.underlying5
  have hap : Calls Tryd.prog 9 #[.pointer (some ⟨lb, 0, none⟩), .slice (some ⟨w2.heap.size + 1, 0, none⟩) 1 1] ((w2.alloc (.cells #[.int .u8 97] 5 (1, 2))).alloc (.cells #[.slice (some ⟨w2.heap.size, 0, none⟩) 1 1] 23)) _ :=
    lw_append (N := 100) (W2.out.grow ((Grow.alloc w2 (.cells #[.int .u8 97] 5 (1, 2))).trans (Grow.alloc _ _))) nmOk_log (nums_small _ _) (by decide) (by decide) (one_row (x := 97)) (by decide) (by rw [framesD_one, frame1_len, List.nil_append, tot_one]; decide) (by decide)
  rw [framesD_one] at hap
  have Hap := Lib.hid hap
  clear hw2 hr2 hap
  go_wp2_with fail
  (with_reducible refine Hap.out.mono ?_)
  rintro e w3 ⟨rfl, F3, hw3, _⟩
  have hsy := lw_sync (N := 100) hw3 nmOk_log (nums_small _ _) (by decide) (by decide)
  have Hsy := Lib.hid hsy
  clear hsy hw3 kc
  go_wp2_with fail
  (with_reducible refine Hsy.out.mono ?_)
  rintro e w4 ⟨rfl, F4, hw4, _⟩
  have kc := Lib.run_convert_bytes_const (P := Tryd.prog) w4 23 5 #[.int .u8 98] 1 1 Tryd.underlying23 Tryd.underlying5
  have hap : Calls Tryd.prog 9 #[.pointer (some ⟨lb, 0, none⟩), .slice (some ⟨w4.heap.size + 1, 0, none⟩) 1 1] ((w4.alloc (.cells #[.int .u8 98] 5 (1, 2))).alloc (.cells #[.slice (some ⟨w4.heap.size, 0, none⟩) 1 1] 23)) _ :=
    lw_append (N := 100) (hw4.grow ((Grow.alloc w4 (.cells #[.int .u8 98] 5 (1, 2))).trans (Grow.alloc _ _))) nmOk_log (nums_small _ _) (by decide) (by decide) (one_row (x := 98)) (by decide) (by rw [framesD_one, frame1_len, List.nil_append, tot_one]; simp [frame1_len]) (by decide)
  rw [framesD_one] at hap
  have Hap2 := Lib.hid hap
  clear hw4 hap
  go_wp2_with fail
  (with_reducible refine Hap2.out.mono ?_)
  rintro e w5 ⟨rfl, F5, hw5, _⟩
  have hw5' : Ld 1000 w (w.heap.size + 1) w.heap.size logN 0 [(frameD crcTab [97] ++ frameD crcTab [98], 6)] F5 w5 := by
    have := hw5.ld
    simpa [frame1_len] using this
  have W5 := Lib.hid hw5'
  clear hw5 hw5' kc Hap2 Hap Hsy
  have hcr := ld_crash (W5.out.grow (Grow.alloc w5 (.cells #[.int .i64 3] 3))) (by decide) (iv_block (heap_alloc_new _ _)) (fun _ => ivFree_block (W5.out.grow (Grow.alloc w5 (.cells #[.int .i64 3] 3))).disk (heap_alloc_new _ _))
  rw [known_cut] at hcr
  have Hcr := Lib.hid hcr
  clear hcr
  go_wp2_with fail
  (with_reducible refine Hcr.out.mono ?_)
  rintro e w6 ⟨rfl, F6, D6, _⟩
  have hop2 : Calls Tryd.prog 8 #[.pointer (some ⟨w.heap.size + 1, 0, none⟩), .string ⟨#[108, 111, 103]⟩, .int .i64 0] w6 _ := ld_open (N := 100) (a := 0) D6 nmOk_log named_log (nums_small _ _) (by decide) (by decide) (by rw [tot_one, List.length_take]; omega)
  rw [openL_cut (l := [[97], [98]]) (c := 9) (n := 1) (by decide) known_isN] at hop2
  have Hop2 := Lib.hid hop2
  clear hop2 D6
  go_wp2_with fail
  (with_reducible refine Hop2.out.mono ?_)
  rintro e w7 ⟨lb2, va2, vc2, F7, rfl, hw7, hr7, _⟩
  have hr7' : Rv w7 (.slice va2 1 vc2) [[97]] := hr7.own.rv
  rw [show (List.take 1 ([[97], [98]] : List (List UInt8))).length = 1 from rfl]
  obtain ⟨b, o, pa, pc, rfl, lb7, c7, bv7⟩ := hr7'.at (i := 0) (by decide)
  have c7' : w7.cell? ⟨b, o, none⟩ = some (.slice pa 1 pc) := c7
  have s7 : (convert 23 9 (.slice pa 1 pc)).run Tryd.prog w7 = .ok (.string ⟨#[97]⟩) w7 := bv7.string
  have hsg : Calls Tryd.prog 11 #[.string ⟨#[108, 111, 103]⟩, .int .i64 7] w7 fun e w' => e = .returned (.string ⟨#[108, 111, 103, 45, 48, 48, 48, 48, 48, 55]⟩) ∧ Grow w7 w' := by
    have := segment_any (N := 100) (B := w.heap.size) (nums_small _ w7) (n := 7) (by decide) (by decide) (name := logN) (by decide)
    rw [known_seg] at this
    exact this
  have Hsg := Lib.hid hsg
  clear hsg
  have Hg7 := Lib.hid hw7.below
  clear c7 bv7 hr7 hr7' hw7
  go_wp2_with fail
  (with_reducible refine Hsg.out.mono ?_)
  rintro e w8 ⟨rfl, hg8⟩
  have Hend := Lib.hid (Hg7.out.trans (hg8.mono Hg7.out.size))
  clear hg8
  go_wp2
  go_ret
  exact ⟨rfl, Hend.out⟩
end Go.Proofs.YtpiedpdffkfhpaaDoor

/- For the law WalTorn: plain facts; the row of ends. -/
namespace Go.Proofs.YtpiedpdffkfhpaaDoor
open Go.RowKit Go.Gl Go.Wal Go.Sort

theorem Rv.take {w : World} {x : Option Addr} {m c k : Nat} {ps : List (List UInt8)} (h : Rv w (.slice x m c) ps) (hk : k ≤ ps.length) : Rv w (.slice x k c) (ps.take k) := by
  obtain ⟨a', c', he, h⟩ := h
  cases he
  have hl : (ps.take k).length = k := by simp; omega
  refine ⟨x, c, by rw [hl], ?_⟩
  rcases h with rfl | ⟨b, o, hx, hb, hc⟩
  · left; simp
  · right
    refine ⟨b, o, hx, hb, fun j p hj => hc j p ?_⟩
    rw [List.getElem?_take] at hj
    split at hj
    · exact hj
    · cases hj

theorem OwnRF.cap {B : Nat} {F : Nat → Prop} {w : World} {v : Value} {ps : List (List UInt8)} (h : OwnRF B F w v ps) {x : Option Addr} {n c : Nat} (hv : v = .slice x n c) : n ≤ c ∧ c ≤ maxLen := by
  obtain ⟨vals, h1, h2, _⟩ := h
  rcases h1 with ⟨rfl, rfl⟩ | ⟨g, cap, cur, rfl, hB, hg, hn, hc, hm, ht⟩
  · cases hv; exact ⟨Nat.le_refl _, Nat.zero_le _⟩
  · cases hv; exact ⟨hn, hm⟩

theorem numD_le (n : Nat) : (numD n).length ≤ 10 := numF_len 10 n

theorem frames_bound {l : List (List UInt8)} {k : Nat} (h : ∀ p ∈ l, p.length ≤ k) : (framesD crcTab l).length ≤ l.length * (k + 14) := by
  induction l with
  | nil => simp [framesD]
  | cons p l ih =>
    have h1 := h p (List.mem_cons_self ..)
    have h2 := ih (fun q hq => h q (List.mem_cons_of_mem _ hq))
    have h3 := frame_len crcTab p
    have h4 := numD_le p.length
    have e : framesD crcTab (p :: l) = frameD crcTab p ++ framesD crcTab l := rfl
    rw [e, List.length_append, List.length_cons, Nat.succ_mul]
    omega

/-- Where the first n payloads end. -/
def endsL (l : List (List UInt8)) (n : Nat) : List Nat := (List.range n).map fun i => (framesD crcTab (l.take (i + 1))).length

theorem endsL_snoc (l : List (List UInt8)) (n : Nat) : endsL l (n + 1) = endsL l n ++ [(framesD crcTab (l.take (n + 1))).length] := by simp [endsL, List.range_succ]
theorem endsL_len (l : List (List UInt8)) (n : Nat) : (endsL l n).length = n := by simp [endsL]
theorem endsL_at {l : List (List UInt8)} {n i : Nat} (h : i < n) : (endsL l n)[i]? = some (framesD crcTab (l.take (i + 1))).length := by simp [endsL, h]

theorem cut_one (c : Nat) (x : List UInt8) (h : c ≤ x.length) : cutL [(c : Int)] 0 [(x, 0)] = [(x.take c, c)] := by
  have : keptD [(c : Int)] 0 x.length 0 = c := by
    unfold keptD
    simp only [List.getElem?_cons_zero]
    rw [if_pos (by omega), Nat.sub_zero, Nat.zero_add, ← Int.natCast_emod, Int.toNat_natCast]
    exact Nat.mod_eq_of_lt (by omega)
  rw [cutL, this]
  rfl

/-- Go's remainder, without its sign. -/
theorem tmod_abs (x : Int) (n : Nat) : ∃ c : Nat, c ≤ n ∧ (x.tmod ((n : Int) + 1) < 0 → x.tmod ((n : Int) + 1) = -(c : Int)) ∧ (¬ x.tmod ((n : Int) + 1) < 0 → x.tmod ((n : Int) + 1) = (c : Int)) := by
  have h1 := Int.tmod_lt_of_pos x (b := (n : Int) + 1) (by omega)
  have h2 : -((n : Int) + 1) < x.tmod ((n : Int) + 1) := by
    have h3 := Int.tmod_lt_of_pos (-x) (b := (n : Int) + 1) (by omega)
    rw [Int.neg_tmod] at h3
    omega
  refine ⟨(x.tmod ((n : Int) + 1)).natAbs, by omega, by omega, by omega⟩

variable {Z : Nat} {w0 w w' : World} {p r lb a : Nat} {nm : List UInt8} {S S' : Sg} {F F' : Nat → Prop}

/-- 'append(ends, n)'. -/
theorem lw_ends {v : Value} {ns : List Nat} (n : Nat) (h : Lw Z w0 p r nm lb a S F w) (ho : OwnI w0.heap.size w v ns) (hlen : ns.length + 1 ≤ 1000000000000) :
    ∃ v' w', (Builtin.append_ #[32, 32] 32 #[v, .slice (some ⟨w.heap.size, 0, none⟩) 1 1]).run Tryd.prog (w.alloc (.cells #[.int .i64 n] 3)) = .ok v' w' ∧ OwnI w0.heap.size w' v' (ns ++ [n]) ∧ Lw Z w0 p r nm lb a S F w' := by
  have hga : Grow w (w.alloc (.cells #[.int .i64 n] 3)) := Grow.alloc _ _
  have hs0 := h.below.size
  have hsrc : Src Tryd.prog 1 32 (.slice (some ⟨w.heap.size, 0, none⟩) 1 1) 1 [.int .i64 n] (w.alloc (.cells #[.int .i64 n] 3)) :=
    Src.ofSlice _ Tryd.underlying32 _ _ _ _ rfl (cell_one_new w _ _) (fun x hx => by rw [List.mem_singleton.1 hx]; rfl)
  have ho1 : OwnI w0.heap.size (w.alloc (.cells #[.int .i64 n] 3)) v ns := ho.grow hga
  obtain ⟨v', w', r1, r2, r3, r4⟩ := run_append_row (ty := 32) Tryd.underlying32 Tryd.infoI rfl ho1 hsrc (by simp; omega) (by rw [List.length_map]; unfold maxLen; omega) (by rw [List.length_map]; omega)
  have h1 := h.grow hga
  refine ⟨v', w', r1, ?_, ⟨h1.disk.row r3 (fun g hg => ?_), h1.log.row r3 (fun g hg => ?_), below_grown h1.below (by simp; omega) ho1 r3⟩⟩
  · unfold OwnI; rw [List.map_append]; exact r2
  · obtain ⟨cur, hc⟩ := Row1.block ho1 hg; exact ⟨_, cur, hc, by decide, by decide, by decide⟩
  · obtain ⟨cur, hc⟩ := Row1.block ho1 hg; exact ⟨_, cur, hc, by decide⟩
end Go.Proofs.YtpiedpdffkfhpaaDoor

/- wal's Log.Segment, First, Rotate: the walks. -/
namespace Go.Proofs.YtpiedpdffkfhpaaDoor
open Go.RowKit Go.Gl Go.Wal Go.Sort

/-- A disk's blocks and a log's. -/
def FL (F : Nat → Prop) (lb : Nat) : Nat → Prop := fun b => F b ∨ b = lb

theorem Sep.wide {F F' : Nat → Prop} {w w' : World} (h : Sep F w w' F') (lb : Nat) : Sep (FL F lb) w w' (FL F' lb) :=
  ⟨h.os, h.tape, h.output, h.size, fun b hb hn => h.out b hb (fun hf => hn (.inl hf)), fun b hb => by
    rcases hb with hb | rfl
    · rcases h.foot b hb with h1 | h1
      · exact .inl (.inl h1)
      · exact .inr h1
    · exact .inl (.inr rfl)⟩

theorem Sep.wset (F : Nat → Prop) (w : World) (lb j : Nat) (v : Value) : Sep (FL F lb) w (w.setCell ⟨lb, j, none⟩ v) (FL F lb) :=
  ⟨rfl, rfl, rfl, by simp, fun b _ hn => Below.heap_setCell _ _ _ _ (fun e => hn (.inr e)), fun b hb => .inl hb⟩

theorem OwnI.lw {C Z B : Nat} {w w' : World} {p r lb p' : Nat} {V : Vw} {F F' : Nat → Prop} {v : Value} {ns : List Nat} {nm : List UInt8} {last : Int} (h : OwnI C w v ns) (hd : Dk Z B w p r V F) (hl : LogAt w lb p' nm last) (hs : Sep (FL F lb) w w' F') : OwnI C w' v ns :=
  Row1.keep h (fun g hg => by
    obtain ⟨cur, hb⟩ := Row1.block h hg
    refine hs.out g (lt_of_getElem? hb) (fun hf => ?_)
    rcases hf with hf | rfl
    · exact hd.apart hb (by decide) (by decide) (by decide) hf
    · rw [hl.self] at hb; cases hb)

variable {Z N : Nat} {w0 w : World} {p r lb a : Nat} {nm : List UInt8} {T S : Sg} {q : List UInt8 × Nat} {F : Nat → Prop}

set_option maxRecDepth 100000 in
set_option maxHeartbeats 4000000 in
theorem lsegment_any {last : Int} (hl : LogAt w lb p nm last) : Calls Tryd.prog 17 #[.pointer (some ⟨lb, 0, none⟩)] w fun e w' => e = .returned (.int .i64 last) ∧ w' = w := by
  obtain ⟨l0, l1, l2, ll⟩ := hl.cells
  clear hl
  go_enter Tryd.func17, Tryd.ntmps17
  go_wp2
  go_ret
  exact ⟨rfl, rfl⟩

set_option maxRecDepth 100000 in
set_option maxHeartbeats 4000000 in
theorem lw_first (h : Lw Z w0 p r nm lb a S F w) (hm : NmOk nm) (hN : Nums N w0.heap.size w0) (hlN : a + S.length ≤ N) (h6 : a + S.length ≤ 1000000) (hS : 0 < S.length) :
    Calls Tryd.prog 19 #[.pointer (some ⟨lb, 0, none⟩)] w fun e w' => e = .returned (.int .i64 (a : Int)) ∧ Grow w w' := by
  have hlv : (LV nm a S).length = S.length := LV_len nm S a
  have hseg := segments_any (N := N) hm h.log h.disk (hN.below h.below) (by omega) (ns := List.range' a S.length) (fun n hn => by have := List.mem_range'_1.1 hn; omega) (segNames_LV h6)
  have Hseg := Lib.hid hseg
  clear hseg
  go_enter Tryd.func19, Tryd.ntmps19
  go_wp2_with fail
  (with_reducible refine Hseg.out.mono ?_)
  rintro e w1 ⟨v, rfl, ho, hg1⟩
  rcases id ho with ⟨rfl, hn0⟩ | ⟨gN, cap, cur, rfl, hrest⟩
  · exfalso
    have := congrArg List.length hn0
    rw [List.length_map, List.length_range', List.length_nil] at this
    omega
  have hc : w1.cell? ⟨gN, 0, none⟩ = some (.int .i64 (a : Int)) := Row1.cells ho rfl (by rw [List.getElem?_map, List.getElem?_range' hS]; simp)
  have hlt := (Row1.lt ho rfl).2
  have hkl : ((List.range' a S.length).map fun n : Nat => Value.int .i64 n).length = S.length := by rw [List.length_map, List.length_range']
  rw [hkl]
  have h0 : (0 : Int) < (S.length : Int) := by omega
  have Hg1 := Lib.hid hg1
  clear ho hrest hg1 hkl
  go_wp2
  go_ret
  exact ⟨rfl, Hg1.out⟩

set_option maxRecDepth 100000 in
set_option maxHeartbeats 4000000 in
theorem lw_rotate (h : Lw Z w0 p r nm lb a (T ++ [q]) F w) (hlb : w0.heap.size ≤ lb) (hm : NmOk nm) (hN : Nums N w0.heap.size w0) (hlN : a + T.length + 1 < N) (h6 : a + T.length + 1 < 1000000) :
    Calls Tryd.prog 16 #[.pointer (some ⟨lb, 0, none⟩)] w fun e w' => e = .returned (.int .i64 0) ∧ ∃ F', Lw Z w0 p r nm lb a ((T ++ [(q.1, q.1.length)]) ++ [([], 0)]) F' w' ∧ Sep (FL F lb) w w' (FL F' lb) := by
  have hlog := h.log
  rw [List.length_append, List.length_singleton, Nat.add_sub_cancel] at hlog
  obtain ⟨m, hmm⟩ : ∃ m, m = a + T.length := ⟨_, rfl⟩
  rw [← hmm] at hlog
  obtain ⟨l0, l1, l2, ll⟩ := hlog.cells
  have hne : ¬ (m : Int) = 999999 := by omega
  have hne' : ((m : Int) == 999999) = false := by simp; omega
  have hsy := lw_sync h hm hN (by omega) (by omega)
  have Hsy := Lib.hid hsy
  have Hm := Lib.hid hmm
  have H := Lib.hid h
  clear hsy hlog h hmm
  go_enter Tryd.func16, Tryd.ntmps16
  go_wp2_with fail
  (with_reducible refine Hsy.out.mono ?_)
  rintro e w1 ⟨rfl, F1, h1, hs1⟩
  have hlog1 := h1.log
  rw [List.length_append, List.length_singleton, Nat.add_sub_cancel, ← Hm.out] at hlog1
  obtain ⟨k0, k1, k2, kl⟩ := hlog1.cells
  have ff : ∀ i, w1.frozen? ⟨lb, i, none⟩ = false := fun i => by simp [World.frozen?, hlog1.self]
  obtain ⟨m1, hm1⟩ : ∃ m1, m1 = m + 1 := ⟨_, rfl⟩
  have hw1 : IntKind.i64.wrap ((m : Int) + 1) = (m1 : Int) := (IntWalk.i64_in _ (by have := Hm.out; omega)).trans (by omega)
  obtain ⟨w2, hw2⟩ : ∃ x, x = w1.setCell ⟨lb, 2, none⟩ (.int .i64 (m1 : Int)) := ⟨_, rfl⟩
  have hlog2 : LogAt w2 lb p nm (m1 : Int) := by rw [hw2]; exact hlog1.set _
  have hd2 : Dk Z w0.heap.size w2 p r (LV nm a (T ++ [(q.1, q.1.length)])) F1 := by rw [hw2]; exact h1.disk.setLog hlog1 _
  have hs2 : Sep (FL F lb) w w2 (FL F1 lb) := by rw [hw2]; exact (hs1.wide lb).trans (Sep.wset F1 w1 lb 2 _)
  have hb2 : Below w0.heap.size w0 w2 := by
    rw [hw2]; exact h1.below.trans ((Below.refl _ _).setCell hlb _)
  have Hw2 := Lib.hid hw2
  have L2 := Lib.hid hlog2
  have D2 := Lib.hid hd2
  have S2 := Lib.hid hs2
  have B2 := Lib.hid hb2
  have Hm1 := Lib.hid hm1
  clear hs1 h1 hlog1 hlog2 hd2 hs2 hb2 hw2 hm1 l0 l1 l2 ll hne hne'
  go_upto_region 5 with fail
  rw [← Hw2.out]
  clear ff Hw2 k0 k1 k2 kl hw1
  refine wp_region_pi (fun W => W.cell? ⟨lb, 0, none⟩ = some (.pointer (some ⟨p, 0, none⟩)) ∧ W.cell? ⟨lb, 1, none⟩ = some (.string ⟨nm.toArray⟩) ∧ W.cell? ⟨lb, 2, none⟩ = some (.int .i64 (m1 : Int)) ∧ lb < W.heap.size) [(0, false), (1, false), (2, false), (3, false), (4, false), (5, false), (6, false), (7, false), (8, false), (9, false), (10, false), (11, false), (12, true), (13, true), (14, false)] (by kernel_rfl) (by kernel_rfl) (fun c a d v w h => by cases d <;> exact h) (L2.out.grow (Grow.drew w2)).cells ?_
  simp only [arrange, nth]
  repeat (first | (refine wpPi_quiet (v := ?_) (by rfl) (fun W hW => ?_) ?_; rotate_left; (obtain ⟨hW0, hW1, hW2, hW3⟩ := hW; go_simp; with_reducible rfl); simp only [Act.put, List.setIfInBounds_toArray, List.set_cons_zero, List.set_cons_succ]) | (refine wpPi_off (by rfl) ?_; simp only [Act.put, List.setIfInBounds_toArray, List.set_cons_zero, List.set_cons_succ]))
  have hgD := Grow.drew w2
  refine wpPi_call (by rfl) (by go_simp) (segment_any ((hN.below B2.out).grow hgD D2.out.base) (n := m1) (by have := Hm.out; have := Hm1.out; omega) (by have := Hm.out; have := Hm1.out; omega) (name := nm) (by have := hm.len; omega)) ?_
  rintro e w7 ⟨rfl, hg7⟩
  have hg17 := hgD.trans hg7
  refine ⟨_, rfl, (L2.out.grow hg17).cells, ?_⟩
  try simp only [Act.put, List.setIfInBounds_toArray, List.set_cons_zero, List.set_cons_succ]
  have hlen : m1 = a + (T ++ [(q.1, q.1.length)]).length := by rw [Hm1.out, Hm.out, List.length_append, List.length_singleton]; omega
  refine wpPi_call (by rfl) (by go_simp) (dk_app0 (D2.out.grow hg17) (n := segT nm m1) (segT_ok hm (by have := Hm.out; have := Hm1.out; omega)) (by rw [hlen, look_LV, List.getElem?_eq_none (Nat.le_refl _)])) ?_
  rintro e w9 ⟨rfl, F9, hd9, hs9⟩
  rw [hlen, snoc_LV] at hd9
  have hs29 := (Sep.ofGrow hg17).trans hs9
  have hl9 := L2.out.sep D2.out hs29
  have hw9 : Lw Z w0 p r nm lb a ((T ++ [(q.1, q.1.length)]) ++ [([], 0)]) F9 w9 :=
    ⟨hd9, by rw [List.length_append, List.length_singleton, Nat.add_sub_cancel, ← hlen]; exact hl9, B2.out.trans (hs29.below (fun _ hb => (D2.out.foot hb).1) D2.out.base)⟩
  have Hend := Lib.hid (And.intro hw9 (S2.out.trans (hs29.wide lb)))
  refine ⟨_, rfl, hl9.cells, ?_⟩
  clear hd9 hs9 hl9 hs29 hw9 hg17 hg7 hgD hlen
  try simp only [Act.put, List.setIfInBounds_toArray, List.set_cons_zero, List.set_cons_succ]
  repeat (first | (refine wpPi_quiet (v := ?_) (by rfl) (fun W hW => ?_) ?_; rotate_left; (obtain ⟨hW0, hW1, hW2, hW3⟩ := hW; go_simp; with_reducible rfl); simp only [Act.put, List.setIfInBounds_toArray, List.set_cons_zero, List.set_cons_succ]) | (refine wpPi_off (by rfl) ?_; simp only [Act.put, List.setIfInBounds_toArray, List.set_cons_zero, List.set_cons_succ]))
  refine wpPi_nil ?_
  go_wp2
  go_ret
  exact ⟨rfl, F9, Hend.out⟩
end Go.Proofs.YtpiedpdffkfhpaaDoor

/- wal's Log.Truncate: the walk. -/
namespace Go.Proofs.YtpiedpdffkfhpaaDoor
open Go.RowKit Go.Gl Go.Wal Go.Sort

structure Tr (Z B : Nat) (w : World) (p r : Nat) (nm : List UInt8) (lb : Nat) (S : Sg) (F : Nat → Prop) (C : Nat) (nv : Value) (k : Nat) (F' : Nat → Prop) (wr : World) : Prop where
  disk : Dk Z B wr p r (LV nm k (S.drop k)) F'
  log : LogAt wr lb p nm ((S.length - 1 : Nat) : Int)
  sep : Sep F w wr F'
  row : OwnI C wr nv (List.range' 0 S.length)

theorem Tr.grow {Z B : Nat} {w wr w' : World} {p r : Nat} {nm : List UInt8} {lb : Nat} {S : Sg} {F F' : Nat → Prop} {C : Nat} {nv : Value} {k : Nat} (h : Tr Z B w p r nm lb S F C nv k F' wr) (hg : Grow wr w') : Tr Z B w p r nm lb S F C nv k F' w' :=
  ⟨h.disk.grow hg, h.log.grow hg, h.sep.trans (Sep.ofGrow hg), h.row.grow hg⟩

theorem Tr.step {Z B : Nat} {w wr w' : World} {p r : Nat} {nm : List UInt8} {lb : Nat} {S : Sg} {F F' F'' : Nat → Prop} {C : Nat} {nv : Value} {k j : Nat} (h : Tr Z B w p r nm lb S F C nv k F' wr) (hd : Dk Z B w' p r (LV nm j (S.drop j)) F'') (hs : Sep F' wr w' F'') : Tr Z B w p r nm lb S F C nv j F'' w' :=
  ⟨hd, h.log.sep h.disk hs, h.sep.trans hs, h.row.dk h.disk hs⟩

def TrInv (Z B : Nat) (w : World) (p r : Nat) (nm : List UInt8) (lb : Nat) (S : Sg) (F : Nat → Prop) (C b : Nat) (nv iv : Value) (wr : World) : Prop :=
  ∃ (i : Nat) (F' : Nat → Prop), iv = .int .i64 (i : Int) ∧ i ≤ S.length ∧ Tr Z B w p r nm lb S F C nv (min i b) F' wr

variable {Z N : Nat} {w0 w : World} {p r lb b : Nat} {nm : List UInt8} {S : Sg} {F : Nat → Prop}

set_option maxRecDepth 100000 in
set_option maxHeartbeats 4000000 in
theorem lw_truncate (h : Lw Z w0 p r nm lb 0 S F w) (hm : NmOk nm) (hN : Nums N w0.heap.size w0) (hlN : S.length ≤ N) (h6 : S.length ≤ 1000000) (hb : b < S.length) :
    Calls Tryd.prog 18 #[.pointer (some ⟨lb, 0, none⟩), .int .i64 (b : Int)] w fun e w' => e = .returned (.int .i64 0) ∧ ∃ F', Lw Z w0 p r nm lb b (S.drop b) F' w' ∧ Sep F w w' F' := by
  obtain ⟨m, hmm⟩ : ∃ m, m = S.length - 1 := ⟨_, rfl⟩
  have hlog : LogAt w lb p nm (m : Int) := by have := h.log; rw [Nat.zero_add, ← hmm] at this; exact this
  obtain ⟨l0, l1, l2, ll⟩ := hlog.cells
  have hbm : (b : Int) ≤ (m : Int) := by omega
  have hlv : (LV nm 0 S).length = S.length := LV_len nm S 0
  have hseg := segments_any (N := N) hm hlog h.disk (hN.below h.below) (by omega) (ns := List.range' 0 S.length) (fun n hn => by have := List.mem_range'_1.1 hn; omega) (segNames_LV (by omega))
  have Hseg := Lib.hid hseg
  have H := Lib.hid h
  have Hm := Lib.hid hmm
  have Hl := Lib.hid hlog
  clear hseg h hlog hlv hmm
  go_enter Tryd.func18, Tryd.ntmps18
  go_wp2_with fail
  (with_reducible refine Hseg.out.mono ?_)
  rintro e w1 ⟨nv, rfl, ho, hg1⟩
  rcases id ho with ⟨rfl, hn0⟩ | ⟨gN, cap, cur, rfl, hrest⟩
  · exfalso
    have := congrArg List.length hn0
    rw [List.length_map, List.length_range', List.length_nil] at this
    omega
  have hkl : ((List.range' 0 S.length).map fun n : Nat => Value.int .i64 n).length = S.length := by rw [List.length_map, List.length_range']
  rw [hkl]
  rw [hkl] at ho
  have T1 : Hid (Tr Z w0.heap.size w p r nm lb S F w.heap.size (.slice (some ⟨gN, 0, none⟩) S.length cap) 0 F w1) := Lib.hid ⟨H.out.disk.grow hg1, by rw [← Hm.out]; exact Hl.out.grow hg1, Sep.ofGrow hg1, ho⟩
  clear ho hrest hg1 hkl l0 l1 l2 ll
  go_wp2_with fail
  go_loopw [16] (fun iv wr => TrInv Z w0.heap.size w p r nm lb S F w.heap.size b (.slice (some ⟨gN, 0, none⟩) S.length cap) iv wr) (fun iv _ => S.length - (intOf iv).toNat)
  case atStart => exact ⟨0, F, rfl, Nat.zero_le _, by rw [Nat.zero_min]; exact T1.out⟩
  case round =>
    obtain ⟨i, F2, rfl, hi, h2⟩ := hrel
    have hi0 : (0 : Int) ≤ (i : Int) := by omega
    have hw1 : IntKind.i64.wrap ((i : Int) + 1) = (i : Int) + 1 := IntWalk.i64_in _ (by omega)
    by_cases hlt : i < S.length
    · have hi1 : (i : Int) < (S.length : Int) := by omega
      have hc : wr.cell? ⟨gN, i, none⟩ = some (.int .i64 (i : Int)) := Row1.cells h2.row rfl (by rw [List.getElem?_map, List.getElem?_range' hlt]; simp)
      have lgN := (Row1.lt h2.row rfl).2
      by_cases hib : i < b
      · have hib1 : (i : Int) < (b : Int) := by omega
        rw [Nat.min_eq_left (by omega)] at h2
        obtain ⟨k0, k1, k2, kl⟩ := h2.log.cells
        have H2 := Lib.hid h2
        clear h2 k2
        go_wp2_with fail
        refine wp_region_pi (fun W => (W.cell? ⟨lb, 0, none⟩ = some (.pointer (some ⟨p, 0, none⟩)) ∧ W.cell? ⟨lb, 1, none⟩ = some (.string ⟨nm.toArray⟩)) ∧ lb < W.heap.size) [(0, false), (1, false), (2, false), (3, false), (4, false), (5, false), (6, false), (7, false), (8, false), (9, true), (10, true), (11, true)] (by kernel_rfl) (by kernel_rfl) (fun c a d v w h => by cases d <;> exact h) (by obtain ⟨q0, q1, _, q3⟩ := (H2.out.grow (Grow.drew wr)).log.cells; exact ⟨⟨q0, q1⟩, q3⟩) ?_
        clear k0 k1 kl hc
        simp only [arrange, nth]
        repeat (first | (refine wpPi_quiet (v := ?_) (by rfl) (fun W hW => ?_) ?_; rotate_left; (obtain ⟨⟨hW0, hW1⟩, hW2⟩ := hW; go_simp; with_reducible rfl); simp only [Act.put, List.setIfInBounds_toArray, List.set_cons_zero, List.set_cons_succ]) | (refine wpPi_off (by rfl) ?_; simp only [Act.put, List.setIfInBounds_toArray, List.set_cons_zero, List.set_cons_succ]))
        have hgD := Grow.drew wr
        have hNr := (hN.below H.out.below).dk H.out.disk H2.out.sep
        refine wpPi_call (by rfl) (by go_simp) (segment_any (hNr.grow hgD H2.out.disk.base) (n := i) (by omega) (by omega) (name := nm) (by have := hm.len; omega)) ?_
        rintro e w7 ⟨rfl, hg7⟩
        have hg67 := hgD.trans hg7
        refine ⟨_, rfl, (by obtain ⟨q0, q1, _, q3⟩ := (H2.out.grow hg67).log.cells; exact ⟨⟨q0, q1⟩, q3⟩), ?_⟩
        try simp only [Act.put, List.setIfInBounds_toArray, List.set_cons_zero, List.set_cons_succ]
        have hg8 := hg67.trans (Grow.alloc w7 (.cells #[.string (segT nm i)] 9))
        have h8 := H2.out.grow hg8
        refine wpPi_act (by rfl) (fun K hK => ?_)
        go_simp
        refine hK _ _ ⟨(by obtain ⟨q0, q1, _, q3⟩ := h8.log.cells; exact ⟨⟨q0, q1⟩, q3⟩), ?_⟩
        clear hK K
        try simp only [Act.put, List.setIfInBounds_toArray, List.set_cons_zero, List.set_cons_succ]
        have hdr : S.drop i = S[i] :: S.drop (i + 1) := List.drop_eq_getElem_cons hlt
        have hd8 := h8.disk
        rw [hdr] at hd8
        have hde := dk_del hd8 (n := segT nm i) (b := S[i].1) (s := S[i].2) (by rw [LV, look_cons, if_pos rfl]) (heap_alloc_new _ _)
        rw [del_LV] at hde
        refine wpPi_call (by rfl) (by go_simp) hde ?_
        rintro e w9 ⟨rfl, F9, hd9, hs9⟩
        have h9 := h8.step hd9 hs9
        have H9 := Lib.hid h9
        refine ⟨_, rfl, (by obtain ⟨q0, q1, _, q3⟩ := h9.log.cells; exact ⟨⟨q0, q1⟩, q3⟩), ?_⟩
        clear h9 hd9 hs9 hde hd8 h8 hg8 hg67 hg7 hgD hNr hdr
        try simp only [Act.put, List.setIfInBounds_toArray, List.set_cons_zero, List.set_cons_succ]
        refine wpPi_nil ?_
        go_wp2
        go_roundw
        case rel => exact ⟨i + 1, F9, by simp, hlt, by rw [Nat.min_eq_left (by omega)]; exact H9.out⟩
        case measure => simp [intOf]; omega
      · have hib1 : (b : Int) ≤ (i : Int) := by omega
        rw [Nat.min_eq_right (by omega)] at h2
        have H2 := Lib.hid h2
        clear h2
        go_wp2
        go_roundw
        case rel => exact ⟨i + 1, F2, by simp, hlt, by rw [Nat.min_eq_right (by omega)]; exact H2.out⟩
        case measure => simp [intOf]; omega
    · have hi1 : (S.length : Int) ≤ (i : Int) := by omega
      rw [Nat.min_eq_right (by omega)] at h2
      have H2 := Lib.hid h2
      clear h2
      go_wp2
      go_ret
      refine ⟨rfl, F2, ⟨H2.out.disk, ?_, H.out.below.trans (H2.out.sep.below (fun _ hb => (H.out.disk.foot hb).1) H.out.disk.base)⟩, H2.out.sep⟩
      rw [List.length_drop, show b + (S.length - b - 1) = S.length - 1 by omega]
      exact H2.out.log
end Go.Proofs.YtpiedpdffkfhpaaDoor

/- For the law WalSpans: plain facts. -/
namespace Go.Proofs.YtpiedpdffkfhpaaDoor
open Go.RowKit Go.Gl Go.Wal Go.Sort

abbrev Grp := List (List UInt8)

def segOf (ps : Grp) : List UInt8 × Nat := (framesD crcTab ps, (framesD crcTab ps).length)

/-- The number of each payload's segment. -/
def inL : List Grp → Nat → List Nat
  | [], _ => []
  | g :: G, k => List.replicate g.length k ++ inL G (k + 1)

theorem inL_append : ∀ (A B : List Grp) (k : Nat), inL (A ++ B) k = inL A k ++ inL B (k + A.length)
  | [], B, k => by simp [inL]
  | g :: A, B, k => by
    rw [List.cons_append, inL, inL_append A B, inL, List.append_assoc, List.length_cons, show k + 1 + A.length = k + (A.length + 1) by omega]

theorem inL_snoc (G : List Grp) (c : Grp) (x : List UInt8) : inL (G ++ [c ++ [x]]) 0 = inL (G ++ [c]) 0 ++ [G.length] := by
  rw [inL_append, inL_append, List.append_assoc]
  congr 1
  simp [inL, List.replicate_succ']

theorem inL_new (G : List Grp) : inL (G ++ [[]]) 0 = inL G 0 := by rw [inL_append]; simp [inL]

theorem inL_len : ∀ (G : List Grp) (k : Nat), (inL G k).length = G.flatten.length
  | [], _ => rfl
  | g :: G, k => by rw [inL, List.length_append, List.length_replicate, inL_len G, List.flatten_cons, List.length_append]

theorem inL_mem : ∀ (G : List Grp) (k n : Nat), n ∈ inL G k → k ≤ n ∧ n < k + G.length
  | [], _, _, h => by cases h
  | g :: G, k, n, h => by
    rw [inL] at h
    rw [List.length_cons]
    rcases List.mem_append.1 h with h | h
    · have := (List.mem_replicate.1 h).2; omega
    · have := inL_mem G (k + 1) n h; omega

/-- How many payloads the first b segments have. -/
def preN (Gs : List Grp) (b : Nat) : Nat := (Gs.take b).flatten.length

theorem preN_le (Gs : List Grp) (b : Nat) : preN Gs b ≤ Gs.flatten.length := by
  have : Gs.flatten = (Gs.take b).flatten ++ (Gs.drop b).flatten := by rw [← List.flatten_append, List.take_append_drop]
  rw [this, List.length_append]; unfold preN; omega

theorem drop_pre (Gs : List Grp) (b : Nat) : Gs.flatten.drop (preN Gs b) = (Gs.drop b).flatten := by
  have : Gs.flatten = (Gs.take b).flatten ++ (Gs.drop b).flatten := by rw [← List.flatten_append, List.take_append_drop]
  rw [this]; unfold preN; exact List.drop_left

theorem inL_at {Gs : List Grp} {b n v : Nat} (hb : b ≤ Gs.length) (h : (inL Gs 0)[n]? = some v) : v < b ↔ n < preN Gs b := by
  have e : inL Gs 0 = inL (Gs.take b) 0 ++ inL (Gs.drop b) b := by
    have := inL_append (Gs.take b) (Gs.drop b) 0
    rw [List.take_append_drop, List.length_take, Nat.min_eq_left hb, Nat.zero_add] at this
    exact this
  have hl : (inL (Gs.take b) 0).length = preN Gs b := inL_len _ _
  rw [e] at h
  by_cases hn : n < preN Gs b
  · rw [List.getElem?_append_left (by omega)] at h
    have := inL_mem _ _ _ (List.mem_of_getElem? h)
    rw [List.length_take] at this
    omega
  · rw [List.getElem?_append_right (by omega)] at h
    have := inL_mem _ _ _ (List.mem_of_getElem? h)
    omega

theorem cutL_synced : ∀ (L : Sg) (i : Nat), (∀ q ∈ L, q.2 = q.1.length) → cutL [] i L = L
  | [], _, _ => rfl
  | q :: L, i, h => by
    have h1 := h q (List.mem_cons_self ..)
    have h2 : keptD [] i q.1.length q.2 = q.1.length := by simp [keptD, h1]
    rw [cutL, h2, cutL_synced L _ (fun g hg => h g (List.mem_cons_of_mem _ hg)), List.take_length]
    rw [← h1]

theorem segOf_synced (G : List Grp) : ∀ q ∈ G.map segOf, q.2 = q.1.length := fun q hq => by
  obtain ⟨g, _, rfl⟩ := List.mem_map.1 hq; rfl

theorem whole_segs {G : List Grp} (h : ∀ g ∈ G, ∀ p ∈ g, p.length ≤ 67108864) : wholeL (G.map segOf) := fun q hq => by
  obtain ⟨g, hg, rfl⟩ := List.mem_map.1 hq
  have := rf_whole crcTab g (h g hg)
  unfold segOf
  rw [this]

theorem rows_segs : ∀ {G : List Grp}, (∀ g ∈ G, ∀ p ∈ g, p.length ≤ 67108864) → rowsOf (G.map segOf) = G.flatten
  | [], _ => rfl
  | g :: G, h => by
    have h1 := rows_segs (G := G) (fun g' hg => h g' (List.mem_cons_of_mem _ hg))
    have h2 := rf_whole crcTab g (h g (List.mem_cons_self ..))
    unfold rowsOf at h1 ⊢
    rw [List.map_cons, List.map_cons, List.flatten_cons, h1, List.flatten_cons]
    unfold segOf
    rw [h2]

theorem openL_segs {G : List Grp} (h : ∀ g ∈ G, ∀ p ∈ g, p.length ≤ 67108864) : (openL crcTab (G.map segOf)).1 = G.flatten := by
  rw [openL_whole (whole_segs h), rows_segs h]

theorem framesD_flat : ∀ (G : List Grp), (framesD crcTab G.flatten).length = ((G.map fun g => (framesD crcTab g).length)).sum
  | [] => rfl
  | g :: G => by rw [List.flatten_cons, framesD_append, List.length_append, framesD_flat G, List.map_cons, List.sum_cons]

theorem tot_segs (nm : List UInt8) (a : Nat) (G : List Grp) (c : Grp) (s : Nat) : tot (LV nm a (G.map segOf ++ [(framesD crcTab c, s)])) = (framesD crcTab (G ++ [c]).flatten).length := by
  rw [tot_LV, framesD_flat, List.map_append, List.map_append, List.map_map]
  rfl

theorem tot_segs' (nm : List UInt8) (a : Nat) (G : List Grp) : tot (LV nm a (G.map segOf)) = (framesD crcTab G.flatten).length := by
  rw [tot_LV, framesD_flat, List.map_map]
  rfl

/-- The value reads as a row of truth values. -/
def Ov (w : World) (v : Value) (bs : List Bool) : Prop :=
  ∃ a c, v = .slice a bs.length c ∧ bs.length ≤ maxLen ∧ (bs = [] ∨ ∃ b o, a = some ⟨b, o, none⟩ ∧ b < w.heap.size ∧ ∀ (j : Nat) (x : Bool), bs[j]? = some x → w.cell? ⟨b, o + j, none⟩ = some (.bool x))

theorem Ov.slice {w : World} {v : Value} {bs : List Bool} (h : Ov w v bs) : ∃ a c, v = .slice a bs.length c := by
  obtain ⟨a, c, h, _⟩ := h; exact ⟨a, c, h⟩

theorem Ov.grow {w w' : World} {v : Value} {bs : List Bool} (h : Ov w v bs) (hg : Grow w w') : Ov w' v bs := by
  obtain ⟨a, c, hv, hm, h⟩ := h
  refine ⟨a, c, hv, hm, ?_⟩
  rcases h with h | ⟨b, o, ha, hb, hc⟩
  · exact .inl h
  · exact .inr ⟨b, o, ha, Nat.lt_of_lt_of_le hb hg.size, fun j x hx => by rw [Grow.cells _ _ _ hg hb]; exact hc j x hx⟩

theorem Ov.at {w : World} {a : Option Addr} {n c i : Nat} {bs : List Bool} (h : Ov w (.slice a n c) bs) (hi : i < bs.length) : ∃ b o, a = some ⟨b, o, none⟩ ∧ b < w.heap.size ∧ w.cell? ⟨b, o + i, none⟩ = some (.bool bs[i]) := by
  obtain ⟨a', c', he, hm, h⟩ := h
  cases he
  rcases h with rfl | ⟨b, o, rfl, hb, hc⟩
  · cases hi
  · exact ⟨b, o, rfl, hb, hc i bs[i] (by simp [hi])⟩

/-- A row of payloads from a place on. -/
theorem Rv.drop {w : World} {x : Option Addr} {m c k : Nat} {ps : List (List UInt8)} (h : Rv w (.slice x m c) ps) (hk : k ≤ ps.length) (hcap : ps.length ≤ c) : Rv w (.slice (if c = k then x else x.map (fun a => a.add k)) (m - k) (c - k)) (ps.drop k) := by
  obtain ⟨a', c', he, h⟩ := h
  cases he
  have hl : (ps.drop k).length = ps.length - k := List.length_drop
  refine ⟨_, c - k, by rw [hl], ?_⟩
  by_cases hz : ps.drop k = []
  · exact .inl hz
  · right
    rcases h with rfl | ⟨b, o, rfl, hb, hc⟩
    · simp at hz
    · by_cases hck : c = k
      · exfalso
        apply hz
        exact List.drop_eq_nil_of_le (by omega)
      · rw [if_neg hck]
        refine ⟨b, o + k, by rw [Option.map_some, Addr.add_lit], hb, fun j p hj => ?_⟩
        rw [List.getElem?_drop] at hj
        have := hc (k + j) p hj
        rw [show o + k + j = o + (k + j) by omega]
        exact this
end Go.Proofs.YtpiedpdffkfhpaaDoor

/- Bytes, and rows of bytes, that came in, opened; no condition. -/
namespace Go.Proofs.YtpiedpdffkfhpaaDoor
open Go.ChangeShapes Go.WideShapes Go.ChangeAt Go.RowKit Go.Gl Go.Wal

section
variable {H : Type} {enc : TypeId × Value → H} {w : World} {base : Nat} {spare : Nat → Bool} {held : Bool}

theorem spot_of_cell {w : World} {a : Addr} {v : Value} (h : w.cell? a = some v) : a.spot = none := by
  unfold World.cell? at h
  split at h
  · cases hs : a.spot with
    | none => rfl
    | some s => simp [hs] at h
  · cases h

theorem opened1 {a : Addr} {cs : List Value} (h : w.cells? base a 1 = some cs) : ∃ v0, cs = [v0] ∧ w.cell? a = some v0 := by
  unfold World.cells? at h
  split at h
  · have e : List.range 1 = [0] := rfl
    rw [e] at h
    simp only [List.mapM_cons, List.mapM_nil, Option.bind_eq_bind, Option.bind_eq_some_iff, Option.pure_def, Option.some.injEq] at h
    obtain ⟨v0, h0, _, rfl, rfl⟩ := h
    exact ⟨v0, rfl, by simpa [Addr.add] using h0⟩
  · cases h

theorem open_b {v : Value} {fuel : Nat} {x : DataW H × List MemPlace} (h : DataW.trod enc Tryd.prog w base spare held fuel 23 [v] = some x) : ∃ l : List UInt8, Bv w v l := by
  rcases open_ints Tryd.underlying23 Tryd.underlying5 (by kernel_rfl) h with ⟨hcs, _⟩ | ⟨a, l, c, zs, hcs, _, hl, hm, hz, _, hcell, hwz⟩
  · simp only [List.cons.injEq, and_true] at hcs
    exact ⟨[], none, 0, by rw [hcs]; rfl, Nat.le_refl _, Nat.zero_le _, fun _ => rfl, .inl rfl⟩
  · simp only [List.cons.injEq, and_true] at hcs
    subst hcs
    have hzl : l ≤ zs.length := by rw [hz]; split <;> omega
    by_cases hl0 : l = 0
    · subst hl0
      exact ⟨[], some a, c, rfl, hl, hm, fun h => (by cases h), .inl rfl⟩
    · have h0 := hcell 0 (by omega)
      have hsp := spot_of_cell h0
      obtain ⟨b, o, sp⟩ := a
      simp only [Addr.add, if_true] at hsp
      subst hsp
      have hlt := World.block_lt_of_cell? w _ h0
      rw [Addr.add_lit] at hlt
      have e : ((zs.take l).map fun n => UInt8.ofNat n.toNat).length = l := by simp; omega
      have hcs : ∀ (j : Nat) (k : UInt8), ((zs.take l).map fun n => UInt8.ofNat n.toNat)[j]? = some k → w.cell? ⟨b, o + j, none⟩ = some (.int .u8 k.toNat) := fun j k hk => by
        simp only [List.getElem?_map, Option.map_eq_some_iff] at hk
        obtain ⟨n, hn, rfl⟩ := hk
        rw [List.getElem?_take] at hn
        split at hn
        · have h1 := hcell j (by omega)
          rw [Addr.add_lit] at h1
          rw [h1]
          have h2 : zs.getD j 0 = n := by simp [List.getD, hn]
          rw [h2]
          have h3 := hwz n (List.mem_of_getElem? hn)
          simp only [Lit.wf, Bool.and_eq_true, decide_eq_true_eq] at h3
          have h4 : (0 : Int) ≤ n ∧ n ≤ 255 := h3
          congr 2
          rw [UInt8.toNat_ofNat_of_lt' (by simp [UInt8.size]; omega)]
          omega
        · cases hn
      exact ⟨(zs.take l).map fun n => UInt8.ofNat n.toNat, some ⟨b, o, none⟩, c, by rw [e], by rw [e]; exact hl, hm, fun h => (by cases h), .inr ⟨b, o, rfl, hlt, hcs⟩⟩

theorem open_i {v : Value} {fuel : Nat} {x : DataW H × List MemPlace} (h : DataW.trod enc Tryd.prog w base spare held fuel 3 [v] = some x) : ∃ n : Int, v = .int .i64 n := by
  obtain ⟨n0, e0, _⟩ := DataW.trod_int Tryd.underlying3 h
  simp only [List.cons.injEq, and_true] at e0
  exact ⟨n0, e0⟩

theorem open_n {v : Value} {fuel : Nat} {x : DataW H × List MemPlace} (h : DataW.trod enc Tryd.prog w base spare held fuel 32 [v] = some x) : ∃ ks, Iv w v ks := by
  rcases open_ints Tryd.underlying32 Tryd.underlying3 (by kernel_rfl) h with ⟨hcs, _⟩ | ⟨a, l, c, zs, hcs, _, hl, hm, hz, _, hcell, hwz⟩
  · simp only [List.cons.injEq, and_true] at hcs
    exact ⟨[], none, 0, by rw [hcs]; rfl, Nat.zero_le _, .inl rfl⟩
  · simp only [List.cons.injEq, and_true] at hcs
    subst hcs
    have hzl : l ≤ zs.length := by rw [hz]; split <;> omega
    by_cases hl0 : l = 0
    · subst hl0
      exact ⟨[], some a, c, rfl, Nat.zero_le _, .inl rfl⟩
    · have h0 := hcell 0 (by omega)
      have hsp := spot_of_cell h0
      obtain ⟨b, o, sp⟩ := a
      simp only [Addr.add, if_true] at hsp
      subst hsp
      have hlt := World.block_lt_of_cell? w _ h0
      rw [Addr.add_lit] at hlt
      have e : (zs.take l).length = l := by simp; omega
      refine ⟨zs.take l, some ⟨b, o, none⟩, c, by rw [e], by rw [e]; omega, .inr ⟨b, o, rfl, hlt, fun j k hk => ?_⟩⟩
      rw [List.getElem?_take] at hk
      split at hk
      · have h1 := hcell j (by omega)
        rw [Addr.add_lit] at h1
        rw [h1]
        simp [List.getD, hk]
      · cases hk

theorem open_o {v : Value} {fuel : Nat} {x : DataW H × List MemPlace} (h : DataW.trod enc Tryd.prog w base spare held fuel 46 [v] = some x) : ∃ bs, Ov w v bs := by
  have k1 : Tryd.prog.cellsOf 4 = 1 := by kernel_rfl
  rcases Go.Deep.open_slice Tryd.underlying46 h with ⟨hcs, _⟩ | ⟨a, len, cap, m, n, D, Pl, hcs, _, hl, hm, hmm, _, hel⟩
  · simp only [List.cons.injEq, and_true] at hcs
    subst hcs
    exact ⟨[], none, 0, rfl, Nat.zero_le _, .inl rfl⟩
  · simp only [List.cons.injEq, and_true] at hcs
    subst hcs
    rw [k1] at hel
    have hlm : len ≤ m := by rw [hmm]; split <;> omega
    by_cases hl0 : len = 0
    · subst hl0
      exact ⟨[], some a, cap, rfl, Nat.zero_le _, .inl rfl⟩
    · obtain ⟨cs0, hc0, _⟩ := hel 0 (by omega)
      obtain ⟨b, o, sp⟩ := a
      obtain ⟨v0, _, hz0⟩ := opened1 hc0
      have hz : w.cell? ⟨b, o, sp⟩ = some v0 := by simpa [Addr.add] using hz0
      have hsp := spot_of_cell hz
      simp only at hsp
      subst hsp
      have hlt := World.block_lt_of_cell? w _ hz
      have hall : ∀ i, i < len → ∃ t : Bool, w.cell? ⟨b, o + i, none⟩ = some (.bool t) := fun i hi => by
        obtain ⟨cs', h1, h2⟩ := hel i (by omega)
        rw [Addr.add_lit, Nat.mul_one] at h1
        obtain ⟨pv, rfl, h3⟩ := opened1 h1
        obtain ⟨t, e0, _⟩ := DataW.trod_bool Tryd.underlying4 h2
        simp only [List.cons.injEq, and_true] at e0
        exact ⟨t, by rw [h3, e0]⟩
      obtain ⟨f, hf⟩ := Go.Deep.choose_lt hall
      refine ⟨(List.range len).map f, some ⟨b, o, none⟩, cap, by simp, by simp; omega, .inr ⟨b, o, rfl, hlt, fun i y hy => ?_⟩⟩
      simp only [List.getElem?_map, Option.map_eq_some_iff] at hy
      obtain ⟨j, hj, rfl⟩ := hy
      have hil : i < len := by have := (List.getElem?_eq_some_iff.1 hj).1; simpa using this
      rw [List.getElem?_range hil] at hj
      cases hj
      exact hf i hil

/-- A row of payloads that came in: its bounds. -/
def RvOk (w : World) (v : Value) (ps : List (List UInt8)) : Prop := Rv w v ps ∧ (∀ a n c, v = .slice a n c → n ≤ c ∧ c ≤ maxLen) ∧ ∀ p ∈ ps, p.length ≤ maxLen

theorem open_rows {v : Value} {fuel : Nat} {x : DataW H × List MemPlace} (h : DataW.trod enc Tryd.prog w base spare held fuel 22 [v] = some x) : ∃ ps, RvOk w v ps := by
  have k1 : Tryd.prog.cellsOf 23 = 1 := by kernel_rfl
  rcases Go.Deep.open_slice Tryd.underlying22 h with ⟨hcs, _⟩ | ⟨a, len, cap, m, n, D, Pl, hcs, _, hl, hm, hmm, _, hel⟩
  · simp only [List.cons.injEq, and_true] at hcs
    subst hcs
    exact ⟨[], ⟨none, 0, rfl, .inl rfl⟩, fun a n c h => by cases h; exact ⟨Nat.le_refl _, Nat.zero_le _⟩, fun p h => by cases h⟩
  · simp only [List.cons.injEq, and_true] at hcs
    subst hcs
    rw [k1] at hel
    have hlm : len ≤ m := by rw [hmm]; split <;> omega
    have hb : ∀ a' n c, Value.slice (some a) len cap = .slice a' n c → n ≤ c ∧ c ≤ maxLen := fun a' n c h => by cases h; exact ⟨hl, hm⟩
    by_cases hl0 : len = 0
    · subst hl0
      exact ⟨[], ⟨some a, cap, rfl, .inl rfl⟩, hb, fun p h => by cases h⟩
    · obtain ⟨cs0, hc0, _⟩ := hel 0 (by omega)
      obtain ⟨b, o, sp⟩ := a
      obtain ⟨v0, _, hz0⟩ := opened1 hc0
      have hz : w.cell? ⟨b, o, sp⟩ = some v0 := by simpa [Addr.add] using hz0
      have hsp := spot_of_cell hz
      simp only at hsp
      subst hsp
      have hlt := World.block_lt_of_cell? w _ hz
      have hall : ∀ i, i < len → ∃ p : List UInt8, ∃ pv, w.cell? ⟨b, o + i, none⟩ = some pv ∧ Bv w pv p := fun i hi => by
        obtain ⟨cs', h1, h2⟩ := hel i (by omega)
        rw [Addr.add_lit, Nat.mul_one] at h1
        obtain ⟨pv, rfl, h3⟩ := opened1 h1
        obtain ⟨p, hp⟩ := open_b h2
        exact ⟨p, pv, h3, hp⟩
      obtain ⟨f, hf⟩ := Go.Deep.choose_lt hall
      refine ⟨(List.range len).map f, ⟨some ⟨b, o, none⟩, cap, by simp, .inr ⟨b, o, rfl, hlt, fun i y hy => ?_⟩⟩, hb, fun p hp => ?_⟩
      · simp only [List.getElem?_map, Option.map_eq_some_iff] at hy
        obtain ⟨j, hj, rfl⟩ := hy
        have hil : i < len := by have := (List.getElem?_eq_some_iff.1 hj).1; simpa using this
        rw [List.getElem?_range hil] at hj
        cases hj
        exact hf i hil
      · simp only [List.mem_map, List.mem_range] at hp
        obtain ⟨i, hi, rfl⟩ := hp
        obtain ⟨pv, _, _, _, _, h5, h6, _⟩ := hf i hi
        omega
end
end Go.Proofs.YtpiedpdffkfhpaaDoor
