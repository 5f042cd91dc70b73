/- Merged out of Y0, Y1, Y2, Y3, Y4, Y5, Y6, Y7, Y8, Y9: helpers. -/
import Derived.Test.YtdegmpimcappjaaGreatDoorFA
import Derived.Test.YtdegmpimcappjaaGreatDoorFL
import Derived.Test.YtdegmpimcappjaaGreatDoorFB
import Derived.Test.YtdegmpimcappjaaGreatDoorRows
import Derived.Deep.QuietTactic
import Derived.BigQuiet
import Derived.Lib.Hide
import Derived.Lib.LaidTab
import Derived.Lib.ItoaMem
import Derived.Laws.Cover1
import Derived.Laws.BitsAllLaws
import Derived.Laws.ShiftsVarLaws
/- What stays below in every world of the walks; slices of bytes, texts, as lists. -/
namespace Go.Proofs.YtdegmpimcappjaaGreatDoor
open Go.RowKit Go.Gl Go.Front

theorem grow_below (w : World) (k : Nat) (os : Array Obj) : Grow w (Go.Sort.grow (w.drewN k) os) := by
  refine ⟨rfl, rfl, rfl, ?_, fun b hb => ?_⟩
  · show w.heap.size ≤ (w.heap ++ os).size
    simp
  · show (w.heap ++ os)[b]? = w.heap[b]?
    exact Array.getElem?_append_left hb

/-- What the walks ask of the package variables' blocks. -/
structure Base (w : World) : Prop where
  size : 8 ≤ w.heap.size
  max : ∃ m, w.cell? ⟨0, 0, none⟩ = some (.int .i64 m)
  pow : Lib.TabIs Tryz.prog w "internal/strconv.uint64pow10" .u64 Lib.pow10Tab
  syn : ∃ ev, w.cell? ⟨2, 0, none⟩ = some ev ∧ (ev = .nilIface ∨ ∃ te pe, ev = .iface te pe)
  ran : ∃ ev, w.cell? ⟨3, 0, none⟩ = some ev ∧ (ev = .nilIface ∨ ∃ te pe, ev = .iface te pe)
  deb : w.cell? ⟨5, 15, none⟩ = some (.int .u8 4)

theorem globalPow : Tryz.prog.globalNamed "internal/strconv.uint64pow10" = some 1 := by kernel_rfl

theorem cell_keep {w w' : World} {b i : Nat} {v : Value} (h : w.cell? ⟨b, i, none⟩ = some v) (hk : w'.heap[b]? = w.heap[b]?) : w'.cell? ⟨b, i, none⟩ = some v := by
  rw [← h]; simp only [World.cell?, hk]

theorem Base.grow {w w' : World} (h : Base w) (hg : Grow w w') : Base w' := by
  have hk : ∀ b, b < 8 → w'.heap[b]? = w.heap[b]? := fun b hb => hg.block b (Nat.lt_of_lt_of_le hb h.size)
  refine ⟨Nat.le_trans h.size hg.size, ?_, ?_, ?_, ?_, ?_⟩
  · obtain ⟨m, hm⟩ := h.max; exact ⟨m, cell_keep hm (hk 0 (by omega))⟩
  · have hp := h.pow
    unfold Lib.TabIs World.var? at hp ⊢
    rw [globalPow] at hp ⊢
    simp only [Option.bind_some] at hp ⊢
    rw [hk 1 (by omega)]
    exact hp
  · obtain ⟨ev, h1, h2⟩ := h.syn; exact ⟨ev, cell_keep h1 (hk 2 (by omega)), h2⟩
  · obtain ⟨ev, h1, h2⟩ := h.ran; exact ⟨ev, cell_keep h1 (hk 3 (by omega)), h2⟩
  · exact cell_keep h.deb (hk 5 (by omega))

/-- The value reads as the bytes l. -/
def Bv (w : World) (v : Value) (l : List UInt8) : Prop :=
  ∃ a c, v = .slice a l.length c ∧ l.length ≤ c ∧ c ≤ maxLen ∧ (a = none → c = 0) ∧ (l = [] ∨ ∃ b o, a = some ⟨b, o, none⟩ ∧ b < w.heap.size ∧ ∀ (j : Nat) (k : UInt8), l[j]? = some k → w.cell? ⟨b, o + j, none⟩ = some (.int .u8 k.toNat))

theorem Bv.grow {w w' : World} {v : Value} {l : List UInt8} (h : Bv w v l) (hg : Grow w w') : Bv w' v l := by
  obtain ⟨a, c, hv, hl, hm, hn, h⟩ := h
  refine ⟨a, c, hv, hl, hm, hn, ?_⟩
  rcases h with h | ⟨b, o, ha, hb, hc⟩
  · exact .inl h
  · refine .inr ⟨b, o, ha, Nat.lt_of_lt_of_le hb hg.size, fun j k hk => ?_⟩
    rw [Grow.cells _ _ _ hg hb]; exact hc j k hk

theorem Bv.slice {w : World} {v : Value} {l : List UInt8} (h : Bv w v l) : ∃ a c, v = .slice a l.length c := by
  obtain ⟨a, c, hv, _⟩ := h
  exact ⟨a, c, hv⟩

theorem Bv.bytes {w : World} {v : Value} {l : List UInt8} (h : Bv w v l) (h0 : l ≠ []) : Bytes w v l := by
  obtain ⟨a, c, hv, hl, hm, hn, h⟩ := h
  rcases h with h | ⟨b, o, ha, hb, hc⟩
  · exact absurd h h0
  · exact .inr ⟨b, o, c, by rw [hv, ha], hb, hc⟩

theorem bv_nil (w : World) : Bv w (.slice none 0 0) [] := ⟨none, 0, rfl, Nat.le_refl _, Nat.zero_le _, fun _ => rfl, .inl rfl⟩

theorem Tryz.infoB : (Tryz.prog.info? 5).map (fun i => (i.zero, i.size, i.bytes)) = some (some (.int .u8 0), 1, 1) := by kernel_rfl
theorem Tryz.infoI : (Tryz.prog.info? 3).map (fun i => (i.zero, i.size, i.bytes)) = some (some (.int .i64 0), 1, 8) := by kernel_rfl
theorem Tryz.infoStr : (Tryz.prog.info? 9).map (fun i => (i.zero, i.size, i.bytes)) = some (some (.string ByteArray.empty), 1, 16) := by kernel_rfl

/-- A row of bytes of one's own. -/
abbrev OwnB (B : Nat) (w : World) (v : Value) (l : List UInt8) : Prop := Row1 5 B w v (bcells l)

theorem bcells_len (l : List UInt8) : (bcells l).length = l.length := by simp [bcells]
theorem bcells_append (a b : List UInt8) : bcells (a ++ b) = bcells a ++ bcells b := by simp [bcells]
theorem bcells_one (l : List UInt8) : ∀ u ∈ bcells l, u.oneCell' = true := fun u hu => by
  obtain ⟨x, _, rfl⟩ := List.mem_map.1 hu
  rfl

theorem ownB_bv {B : Nat} {w : World} {v : Value} {l : List UInt8} (h : OwnB B w v l) : Bv w v l := by
  rcases h with ⟨rfl, h0⟩ | ⟨g, cap, cur, rfl, hB, hg, hn, hc, hm, ht⟩
  · have : l = [] := List.eq_nil_of_length_eq_zero (by rw [← bcells_len, h0]; rfl)
    subst this
    exact bv_nil w
  · have hrow : OwnB B w (.slice (some ⟨g, 0, none⟩) (bcells l).length cap) l := .inr ⟨g, cap, cur, rfl, hB, hg, hn, hc, hm, ht⟩
    rw [bcells_len] at hn
    refine ⟨some ⟨g, 0, none⟩, cap, by rw [bcells_len], hn, hm, (fun h => by cases h), .inr ⟨g, 0, rfl, lt_of_getElem? hg, fun j k hk => ?_⟩⟩
    rw [Nat.zero_add]
    exact hrow.cells rfl (by simp [bcells, hk])

theorem OwnB.slice' {B : Nat} {w : World} {v : Value} {l : List UInt8} (h : OwnB B w v l) : ∃ a c, v = .slice a l.length c := by
  obtain ⟨a, c, rfl⟩ := Row1.slice h
  exact ⟨a, c, by rw [bcells_len]⟩

theorem Bv.src {w : World} {v : Value} {l : List UInt8} (h : Bv w v l) : Src Tryz.prog 1 24 v l.length (bcells l) w := by
  obtain ⟨a, c, rfl, hl, hm, hn, h⟩ := h
  cases a with
  | none =>
    have hc := hn rfl
    have : l = [] := List.eq_nil_of_length_eq_zero (by omega)
    subst this
    exact Src.ofNil w Tryz.underlying24 c
  | some a =>
    refine Src.ofSlice w Tryz.underlying24 a l.length c (bcells l) (by simp [bcells]) (fun j u hu => ?_) (bcells_one l)
    simp only [bcells, List.getElem?_map, Option.map_eq_some_iff] at hu
    obtain ⟨x, hx, rfl⟩ := hu
    rcases h with rfl | ⟨b, o, ha, hb, hc⟩
    · simp at hx
    · cases ha
      rw [Addr.add_lit]
      exact hc j x hx

/-- 'append(b, p...)'. -/
theorem append_bytes {B : Nat} {w : World} {v pv : Value} {l p : List UInt8} (h : OwnB B w v l) (hp : Bv w pv p) (hB : B ≤ w.heap.size) (hlen : l.length + p.length ≤ 140737488355328) :
    ∃ v' w', (Builtin.append_ #[24, 24] 24 #[v, pv]).run Tryz.prog w = .ok v' w' ∧ OwnB B w' v' (l ++ p) ∧ w.grownBy w' v.ownBlock ∧ (v'.ownBlock = v.ownBlock ∨ v'.ownBlock = some w.heap.size) := by
  obtain ⟨v', w', h1, h2, h3, h4⟩ := run_append_row (ty := 24) Tryz.underlying24 Tryz.infoB rfl h hp.src hB (by rw [bcells_len]; unfold maxLen; omega) (by rw [bcells_len]; omega)
  exact ⟨v', w', h1, by rw [OwnB, bcells_append]; exact h2, h3, h4⟩

/-- 'append(b, s...)' of a text. -/
theorem append_text {B : Nat} {w : World} {v : Value} {l p : List UInt8} (h : OwnB B w v l) (hB : B ≤ w.heap.size) (hlen : l.length + p.length ≤ 140737488355328) :
    ∃ v' w', (Builtin.append_ #[24, 9] 24 #[v, .string ⟨p.toArray⟩]).run Tryz.prog w = .ok v' w' ∧ OwnB B w' v' (l ++ p) ∧ w.grownBy w' v.ownBlock ∧ (v'.ownBlock = v.ownBlock ∨ v'.ownBlock = some w.heap.size) := by
  have hsrc : Src Tryz.prog 1 9 (.string ⟨p.toArray⟩) p.length (bcells p) w := by
    have := Src.ofString (P := Tryz.prog) w Tryz.underlying9 ⟨p.toArray⟩
    simpa [bcells, byteCells, ByteArray.size] using this
  obtain ⟨v', w', h1, h2, h3, h4⟩ := run_append_row (ty := 24) Tryz.underlying24 Tryz.infoB rfl h hsrc hB (by rw [bcells_len]; unfold maxLen; omega) (by rw [bcells_len]; omega)
  exact ⟨v', w', h1, by rw [OwnB, bcells_append]; exact h2, h3, h4⟩

/-- A row of bytes that has just been built. -/
theorem bv_built {w : World} {l : List UInt8} {arr : Array Value} (h : arr = (bcells l).toArray) (hlen : l.length ≤ 1000) : Bv (w.alloc (.cells arr 5)) (.slice (some ⟨w.heap.size, 0, none⟩) l.length l.length) l := by
  subst h
  refine ⟨some ⟨w.heap.size, 0, none⟩, l.length, rfl, Nat.le_refl _, by unfold maxLen; omega, (fun h => by cases h), .inr ⟨w.heap.size, 0, rfl, by simp, fun j k hk => ?_⟩⟩
  simp only [World.cell?, heap_alloc_new]
  simp [bcells, hk]

/-- 'append(b, x, y, ..)'. -/
theorem append_built {B : Nat} {w : World} {v : Value} {l p : List UInt8} {n : Nat} {arr : Array Value} (h : OwnB B w v l) (ha : arr = (bcells p).toArray) (hn : n = p.length) (hp : p.length ≤ 1000) (hB : B ≤ w.heap.size) (hlen : l.length + p.length ≤ 140737488355328) :
    ∃ v' w', (Builtin.append_ #[24, 24] 24 #[v, .slice (some ⟨w.heap.size, 0, none⟩) n n]).run Tryz.prog (w.alloc (.cells arr 5)) = .ok v' w' ∧ OwnB B w' v' (l ++ p) ∧ Below B w w' := by
  subst hn
  have hga : Grow w (w.alloc (.cells arr 5)) := Grow.alloc _ _
  obtain ⟨v', w', h1, h2, h3, _⟩ := append_bytes (h.grow hga) (bv_built ha hp) (by simp; omega) hlen
  exact ⟨v', w', h1, h2, below_grown (hga.mono hB) (by simp; omega) (h.grow hga) h3⟩

theorem ba_append (x y : List UInt8) : (⟨x.toArray⟩ : ByteArray) ++ ⟨y.toArray⟩ = ⟨(x ++ y).toArray⟩ := by
  apply ByteArray.ext
  simp

/-- A sum of texts. -/
theorem run_addS {t : TypeId} {a b : List UInt8} {w : World} (h : a.length + b.length ≤ 140737488355328) : (binOp .add t (.string ⟨a.toArray⟩) (.string ⟨b.toArray⟩)).run Tryz.prog w = .ok (.string ⟨(a ++ b).toArray⟩) w := by
  simp [binOp, Op.stringOp, ByteArray.size, ba_append]
  omega

theorem exec_addS {o : Oper} {r : Act} {x y : Operand} {t u : TypeId} {a b : List UInt8} {w : World} (ho : o.op = .binOp .add t x y u) (hx : r.eval x = .string ⟨a.toArray⟩) (hy : r.eval y = .string ⟨b.toArray⟩) (h : a.length + b.length ≤ 140737488355328) :
    (execOp r.eval o).run Tryz.prog w = .ok (.value (.string ⟨(a ++ b).toArray⟩)) w := by
  unfold execOp
  simp [ho, hx, hy, run_addS h, eqGuard]
end Go.Proofs.YtdegmpimcappjaaGreatDoor

/- Bytes that are written as they are; digits of sixteen. -/
namespace Go.Proofs.YtdegmpimcappjaaGreatDoor
open Go.RowKit Go.Gl Go.Front

set_option maxRecDepth 100000 in
set_option maxHeartbeats 4000000 in
theorem plain_any (c : UInt8) (w : World) : Calls Tryz.prog 39 #[.int .u8 c.toNat] w fun e w' => e = .returned (.bool (plainB c)) ∧ w' = w := by
  have hlt : c.toNat < 256 := c.toNat_lt
  unfold plainB
  generalize c.toNat = k at *
  have hk : (0 ≤ k ∧ k ≤ 44) ∨ (45 ≤ k ∧ k ≤ 45) ∨ (46 ≤ k ∧ k ≤ 46) ∨ (47 ≤ k ∧ k ≤ 47) ∨ (48 ≤ k ∧ k ≤ 57) ∨ (58 ≤ k ∧ k ≤ 64) ∨ (65 ≤ k ∧ k ≤ 90) ∨ (91 ≤ k ∧ k ≤ 94) ∨ (95 ≤ k ∧ k ≤ 95) ∨ (96 ≤ k ∧ k ≤ 96) ∨ (97 ≤ k ∧ k ≤ 122) ∨ (123 ≤ k ∧ k ≤ 125) ∨ (126 ≤ k ∧ k ≤ 126) ∨ (127 ≤ k ∧ k ≤ 255) := by omega
  rcases hk with h | h | h | h | h | h | h | h | h | h | h | h | h | h
  · have Hk := Lib.hid h
    have f0 : decide ((65 : Int) ≤ (k : Int)) = false := by simp; omega
    have f1 : decide ((k : Int) ≤ 90) = true := by simp; omega
    have f2 : decide ((97 : Int) ≤ (k : Int)) = false := by simp; omega
    have f3 : decide ((k : Int) ≤ 122) = true := by simp; omega
    have f4 : decide ((48 : Int) ≤ (k : Int)) = false := by simp; omega
    have f5 : decide ((k : Int) ≤ 57) = true := by simp; omega
    have f6 : ((k : Int) == 45) = false := by simp; omega
    have f7 : ((k : Int) == 46) = false := by simp; omega
    have f8 : ((k : Int) == 95) = false := by simp; omega
    have f9 : ((k : Int) == 126) = false := by simp; omega
    have Hv : Hid (((decide (65 ≤ k) && decide (k ≤ 90)) || (decide (97 ≤ k) && decide (k ≤ 122)) || (decide (48 ≤ k) && decide (k ≤ 57)) || decide (k = 45) || decide (k = 46) || decide (k = 95) || decide (k = 126)) = false) := Lib.hid (by simp; omega)
    rw [Hv.out]
    clear h hlt
    go_enter Tryz.func39, Tryz.ntmps39
    go_wp2
    go_ret
    exact ⟨rfl, rfl⟩
  · have Hk := Lib.hid h
    have f0 : decide ((65 : Int) ≤ (k : Int)) = false := by simp; omega
    have f1 : decide ((k : Int) ≤ 90) = true := by simp; omega
    have f2 : decide ((97 : Int) ≤ (k : Int)) = false := by simp; omega
    have f3 : decide ((k : Int) ≤ 122) = true := by simp; omega
    have f4 : decide ((48 : Int) ≤ (k : Int)) = false := by simp; omega
    have f5 : decide ((k : Int) ≤ 57) = true := by simp; omega
    have f6 : ((k : Int) == 45) = true := by simp; omega
    have f7 : ((k : Int) == 46) = false := by simp; omega
    have f8 : ((k : Int) == 95) = false := by simp; omega
    have f9 : ((k : Int) == 126) = false := by simp; omega
    have Hv : Hid (((decide (65 ≤ k) && decide (k ≤ 90)) || (decide (97 ≤ k) && decide (k ≤ 122)) || (decide (48 ≤ k) && decide (k ≤ 57)) || decide (k = 45) || decide (k = 46) || decide (k = 95) || decide (k = 126)) = true) := Lib.hid (by simp; omega)
    rw [Hv.out]
    clear h hlt
    go_enter Tryz.func39, Tryz.ntmps39
    go_wp2
    go_ret
    exact ⟨rfl, rfl⟩
  · have Hk := Lib.hid h
    have f0 : decide ((65 : Int) ≤ (k : Int)) = false := by simp; omega
    have f1 : decide ((k : Int) ≤ 90) = true := by simp; omega
    have f2 : decide ((97 : Int) ≤ (k : Int)) = false := by simp; omega
    have f3 : decide ((k : Int) ≤ 122) = true := by simp; omega
    have f4 : decide ((48 : Int) ≤ (k : Int)) = false := by simp; omega
    have f5 : decide ((k : Int) ≤ 57) = true := by simp; omega
    have f6 : ((k : Int) == 45) = false := by simp; omega
    have f7 : ((k : Int) == 46) = true := by simp; omega
    have f8 : ((k : Int) == 95) = false := by simp; omega
    have f9 : ((k : Int) == 126) = false := by simp; omega
    have Hv : Hid (((decide (65 ≤ k) && decide (k ≤ 90)) || (decide (97 ≤ k) && decide (k ≤ 122)) || (decide (48 ≤ k) && decide (k ≤ 57)) || decide (k = 45) || decide (k = 46) || decide (k = 95) || decide (k = 126)) = true) := Lib.hid (by simp; omega)
    rw [Hv.out]
    clear h hlt
    go_enter Tryz.func39, Tryz.ntmps39
    go_wp2
    go_ret
    exact ⟨rfl, rfl⟩
  · have Hk := Lib.hid h
    have f0 : decide ((65 : Int) ≤ (k : Int)) = false := by simp; omega
    have f1 : decide ((k : Int) ≤ 90) = true := by simp; omega
    have f2 : decide ((97 : Int) ≤ (k : Int)) = false := by simp; omega
    have f3 : decide ((k : Int) ≤ 122) = true := by simp; omega
    have f4 : decide ((48 : Int) ≤ (k : Int)) = false := by simp; omega
    have f5 : decide ((k : Int) ≤ 57) = true := by simp; omega
    have f6 : ((k : Int) == 45) = false := by simp; omega
    have f7 : ((k : Int) == 46) = false := by simp; omega
    have f8 : ((k : Int) == 95) = false := by simp; omega
    have f9 : ((k : Int) == 126) = false := by simp; omega
    have Hv : Hid (((decide (65 ≤ k) && decide (k ≤ 90)) || (decide (97 ≤ k) && decide (k ≤ 122)) || (decide (48 ≤ k) && decide (k ≤ 57)) || decide (k = 45) || decide (k = 46) || decide (k = 95) || decide (k = 126)) = false) := Lib.hid (by simp; omega)
    rw [Hv.out]
    clear h hlt
    go_enter Tryz.func39, Tryz.ntmps39
    go_wp2
    go_ret
    exact ⟨rfl, rfl⟩
  · have Hk := Lib.hid h
    have f0 : decide ((65 : Int) ≤ (k : Int)) = false := by simp; omega
    have f1 : decide ((k : Int) ≤ 90) = true := by simp; omega
    have f2 : decide ((97 : Int) ≤ (k : Int)) = false := by simp; omega
    have f3 : decide ((k : Int) ≤ 122) = true := by simp; omega
    have f4 : decide ((48 : Int) ≤ (k : Int)) = true := by simp; omega
    have f5 : decide ((k : Int) ≤ 57) = true := by simp; omega
    have f6 : ((k : Int) == 45) = false := by simp; omega
    have f7 : ((k : Int) == 46) = false := by simp; omega
    have f8 : ((k : Int) == 95) = false := by simp; omega
    have f9 : ((k : Int) == 126) = false := by simp; omega
    have Hv : Hid (((decide (65 ≤ k) && decide (k ≤ 90)) || (decide (97 ≤ k) && decide (k ≤ 122)) || (decide (48 ≤ k) && decide (k ≤ 57)) || decide (k = 45) || decide (k = 46) || decide (k = 95) || decide (k = 126)) = true) := Lib.hid (by simp; omega)
    rw [Hv.out]
    clear h hlt
    go_enter Tryz.func39, Tryz.ntmps39
    go_wp2
    go_ret
    exact ⟨rfl, rfl⟩
  · have Hk := Lib.hid h
    have f0 : decide ((65 : Int) ≤ (k : Int)) = false := by simp; omega
    have f1 : decide ((k : Int) ≤ 90) = true := by simp; omega
    have f2 : decide ((97 : Int) ≤ (k : Int)) = false := by simp; omega
    have f3 : decide ((k : Int) ≤ 122) = true := by simp; omega
    have f4 : decide ((48 : Int) ≤ (k : Int)) = true := by simp; omega
    have f5 : decide ((k : Int) ≤ 57) = false := by simp; omega
    have f6 : ((k : Int) == 45) = false := by simp; omega
    have f7 : ((k : Int) == 46) = false := by simp; omega
    have f8 : ((k : Int) == 95) = false := by simp; omega
    have f9 : ((k : Int) == 126) = false := by simp; omega
    have Hv : Hid (((decide (65 ≤ k) && decide (k ≤ 90)) || (decide (97 ≤ k) && decide (k ≤ 122)) || (decide (48 ≤ k) && decide (k ≤ 57)) || decide (k = 45) || decide (k = 46) || decide (k = 95) || decide (k = 126)) = false) := Lib.hid (by simp; omega)
    rw [Hv.out]
    clear h hlt
    go_enter Tryz.func39, Tryz.ntmps39
    go_wp2
    go_ret
    exact ⟨rfl, rfl⟩
  · have Hk := Lib.hid h
    have f0 : decide ((65 : Int) ≤ (k : Int)) = true := by simp; omega
    have f1 : decide ((k : Int) ≤ 90) = true := by simp; omega
    have f2 : decide ((97 : Int) ≤ (k : Int)) = false := by simp; omega
    have f3 : decide ((k : Int) ≤ 122) = true := by simp; omega
    have f4 : decide ((48 : Int) ≤ (k : Int)) = true := by simp; omega
    have f5 : decide ((k : Int) ≤ 57) = false := by simp; omega
    have f6 : ((k : Int) == 45) = false := by simp; omega
    have f7 : ((k : Int) == 46) = false := by simp; omega
    have f8 : ((k : Int) == 95) = false := by simp; omega
    have f9 : ((k : Int) == 126) = false := by simp; omega
    have Hv : Hid (((decide (65 ≤ k) && decide (k ≤ 90)) || (decide (97 ≤ k) && decide (k ≤ 122)) || (decide (48 ≤ k) && decide (k ≤ 57)) || decide (k = 45) || decide (k = 46) || decide (k = 95) || decide (k = 126)) = true) := Lib.hid (by simp; omega)
    rw [Hv.out]
    clear h hlt
    go_enter Tryz.func39, Tryz.ntmps39
    go_wp2
    go_ret
    exact ⟨rfl, rfl⟩
  · have Hk := Lib.hid h
    have f0 : decide ((65 : Int) ≤ (k : Int)) = true := by simp; omega
    have f1 : decide ((k : Int) ≤ 90) = false := by simp; omega
    have f2 : decide ((97 : Int) ≤ (k : Int)) = false := by simp; omega
    have f3 : decide ((k : Int) ≤ 122) = true := by simp; omega
    have f4 : decide ((48 : Int) ≤ (k : Int)) = true := by simp; omega
    have f5 : decide ((k : Int) ≤ 57) = false := by simp; omega
    have f6 : ((k : Int) == 45) = false := by simp; omega
    have f7 : ((k : Int) == 46) = false := by simp; omega
    have f8 : ((k : Int) == 95) = false := by simp; omega
    have f9 : ((k : Int) == 126) = false := by simp; omega
    have Hv : Hid (((decide (65 ≤ k) && decide (k ≤ 90)) || (decide (97 ≤ k) && decide (k ≤ 122)) || (decide (48 ≤ k) && decide (k ≤ 57)) || decide (k = 45) || decide (k = 46) || decide (k = 95) || decide (k = 126)) = false) := Lib.hid (by simp; omega)
    rw [Hv.out]
    clear h hlt
    go_enter Tryz.func39, Tryz.ntmps39
    go_wp2
    go_ret
    exact ⟨rfl, rfl⟩
  · have Hk := Lib.hid h
    have f0 : decide ((65 : Int) ≤ (k : Int)) = true := by simp; omega
    have f1 : decide ((k : Int) ≤ 90) = false := by simp; omega
    have f2 : decide ((97 : Int) ≤ (k : Int)) = false := by simp; omega
    have f3 : decide ((k : Int) ≤ 122) = true := by simp; omega
    have f4 : decide ((48 : Int) ≤ (k : Int)) = true := by simp; omega
    have f5 : decide ((k : Int) ≤ 57) = false := by simp; omega
    have f6 : ((k : Int) == 45) = false := by simp; omega
    have f7 : ((k : Int) == 46) = false := by simp; omega
    have f8 : ((k : Int) == 95) = true := by simp; omega
    have f9 : ((k : Int) == 126) = false := by simp; omega
    have Hv : Hid (((decide (65 ≤ k) && decide (k ≤ 90)) || (decide (97 ≤ k) && decide (k ≤ 122)) || (decide (48 ≤ k) && decide (k ≤ 57)) || decide (k = 45) || decide (k = 46) || decide (k = 95) || decide (k = 126)) = true) := Lib.hid (by simp; omega)
    rw [Hv.out]
    clear h hlt
    go_enter Tryz.func39, Tryz.ntmps39
    go_wp2
    go_ret
    exact ⟨rfl, rfl⟩
  · have Hk := Lib.hid h
    have f0 : decide ((65 : Int) ≤ (k : Int)) = true := by simp; omega
    have f1 : decide ((k : Int) ≤ 90) = false := by simp; omega
    have f2 : decide ((97 : Int) ≤ (k : Int)) = false := by simp; omega
    have f3 : decide ((k : Int) ≤ 122) = true := by simp; omega
    have f4 : decide ((48 : Int) ≤ (k : Int)) = true := by simp; omega
    have f5 : decide ((k : Int) ≤ 57) = false := by simp; omega
    have f6 : ((k : Int) == 45) = false := by simp; omega
    have f7 : ((k : Int) == 46) = false := by simp; omega
    have f8 : ((k : Int) == 95) = false := by simp; omega
    have f9 : ((k : Int) == 126) = false := by simp; omega
    have Hv : Hid (((decide (65 ≤ k) && decide (k ≤ 90)) || (decide (97 ≤ k) && decide (k ≤ 122)) || (decide (48 ≤ k) && decide (k ≤ 57)) || decide (k = 45) || decide (k = 46) || decide (k = 95) || decide (k = 126)) = false) := Lib.hid (by simp; omega)
    rw [Hv.out]
    clear h hlt
    go_enter Tryz.func39, Tryz.ntmps39
    go_wp2
    go_ret
    exact ⟨rfl, rfl⟩
  · have Hk := Lib.hid h
    have f0 : decide ((65 : Int) ≤ (k : Int)) = true := by simp; omega
    have f1 : decide ((k : Int) ≤ 90) = false := by simp; omega
    have f2 : decide ((97 : Int) ≤ (k : Int)) = true := by simp; omega
    have f3 : decide ((k : Int) ≤ 122) = true := by simp; omega
    have f4 : decide ((48 : Int) ≤ (k : Int)) = true := by simp; omega
    have f5 : decide ((k : Int) ≤ 57) = false := by simp; omega
    have f6 : ((k : Int) == 45) = false := by simp; omega
    have f7 : ((k : Int) == 46) = false := by simp; omega
    have f8 : ((k : Int) == 95) = false := by simp; omega
    have f9 : ((k : Int) == 126) = false := by simp; omega
    have Hv : Hid (((decide (65 ≤ k) && decide (k ≤ 90)) || (decide (97 ≤ k) && decide (k ≤ 122)) || (decide (48 ≤ k) && decide (k ≤ 57)) || decide (k = 45) || decide (k = 46) || decide (k = 95) || decide (k = 126)) = true) := Lib.hid (by simp; omega)
    rw [Hv.out]
    clear h hlt
    go_enter Tryz.func39, Tryz.ntmps39
    go_wp2
    go_ret
    exact ⟨rfl, rfl⟩
  · have Hk := Lib.hid h
    have f0 : decide ((65 : Int) ≤ (k : Int)) = true := by simp; omega
    have f1 : decide ((k : Int) ≤ 90) = false := by simp; omega
    have f2 : decide ((97 : Int) ≤ (k : Int)) = true := by simp; omega
    have f3 : decide ((k : Int) ≤ 122) = false := by simp; omega
    have f4 : decide ((48 : Int) ≤ (k : Int)) = true := by simp; omega
    have f5 : decide ((k : Int) ≤ 57) = false := by simp; omega
    have f6 : ((k : Int) == 45) = false := by simp; omega
    have f7 : ((k : Int) == 46) = false := by simp; omega
    have f8 : ((k : Int) == 95) = false := by simp; omega
    have f9 : ((k : Int) == 126) = false := by simp; omega
    have Hv : Hid (((decide (65 ≤ k) && decide (k ≤ 90)) || (decide (97 ≤ k) && decide (k ≤ 122)) || (decide (48 ≤ k) && decide (k ≤ 57)) || decide (k = 45) || decide (k = 46) || decide (k = 95) || decide (k = 126)) = false) := Lib.hid (by simp; omega)
    rw [Hv.out]
    clear h hlt
    go_enter Tryz.func39, Tryz.ntmps39
    go_wp2
    go_ret
    exact ⟨rfl, rfl⟩
  · have Hk := Lib.hid h
    have f0 : decide ((65 : Int) ≤ (k : Int)) = true := by simp; omega
    have f1 : decide ((k : Int) ≤ 90) = false := by simp; omega
    have f2 : decide ((97 : Int) ≤ (k : Int)) = true := by simp; omega
    have f3 : decide ((k : Int) ≤ 122) = false := by simp; omega
    have f4 : decide ((48 : Int) ≤ (k : Int)) = true := by simp; omega
    have f5 : decide ((k : Int) ≤ 57) = false := by simp; omega
    have f6 : ((k : Int) == 45) = false := by simp; omega
    have f7 : ((k : Int) == 46) = false := by simp; omega
    have f8 : ((k : Int) == 95) = false := by simp; omega
    have f9 : ((k : Int) == 126) = true := by simp; omega
    have Hv : Hid (((decide (65 ≤ k) && decide (k ≤ 90)) || (decide (97 ≤ k) && decide (k ≤ 122)) || (decide (48 ≤ k) && decide (k ≤ 57)) || decide (k = 45) || decide (k = 46) || decide (k = 95) || decide (k = 126)) = true) := Lib.hid (by simp; omega)
    rw [Hv.out]
    clear h hlt
    go_enter Tryz.func39, Tryz.ntmps39
    go_wp2
    go_ret
    exact ⟨rfl, rfl⟩
  · have Hk := Lib.hid h
    have f0 : decide ((65 : Int) ≤ (k : Int)) = true := by simp; omega
    have f1 : decide ((k : Int) ≤ 90) = false := by simp; omega
    have f2 : decide ((97 : Int) ≤ (k : Int)) = true := by simp; omega
    have f3 : decide ((k : Int) ≤ 122) = false := by simp; omega
    have f4 : decide ((48 : Int) ≤ (k : Int)) = true := by simp; omega
    have f5 : decide ((k : Int) ≤ 57) = false := by simp; omega
    have f6 : ((k : Int) == 45) = false := by simp; omega
    have f7 : ((k : Int) == 46) = false := by simp; omega
    have f8 : ((k : Int) == 95) = false := by simp; omega
    have f9 : ((k : Int) == 126) = false := by simp; omega
    have Hv : Hid (((decide (65 ≤ k) && decide (k ≤ 90)) || (decide (97 ≤ k) && decide (k ≤ 122)) || (decide (48 ≤ k) && decide (k ≤ 57)) || decide (k = 45) || decide (k = 46) || decide (k = 95) || decide (k = 126)) = false) := Lib.hid (by simp; omega)
    rw [Hv.out]
    clear h hlt
    go_enter Tryz.func39, Tryz.ntmps39
    go_wp2
    go_ret
    exact ⟨rfl, rfl⟩

set_option maxRecDepth 100000 in
set_option maxHeartbeats 4000000 in
theorem kept_any (c : UInt8) (w : World) : Calls Tryz.prog 40 #[.int .u8 c.toNat] w fun e w' => e = .returned (.bool (plainB c)) ∧ w' = w := by
  have hlt : c.toNat < 256 := c.toNat_lt
  unfold plainB
  generalize c.toNat = k at *
  have hk : (0 ≤ k ∧ k ≤ 44) ∨ (45 ≤ k ∧ k ≤ 45) ∨ (46 ≤ k ∧ k ≤ 46) ∨ (47 ≤ k ∧ k ≤ 47) ∨ (48 ≤ k ∧ k ≤ 57) ∨ (58 ≤ k ∧ k ≤ 64) ∨ (65 ≤ k ∧ k ≤ 90) ∨ (91 ≤ k ∧ k ≤ 94) ∨ (95 ≤ k ∧ k ≤ 95) ∨ (96 ≤ k ∧ k ≤ 96) ∨ (97 ≤ k ∧ k ≤ 122) ∨ (123 ≤ k ∧ k ≤ 125) ∨ (126 ≤ k ∧ k ≤ 126) ∨ (127 ≤ k ∧ k ≤ 255) := by omega
  rcases hk with h | h | h | h | h | h | h | h | h | h | h | h | h | h
  · have Hk := Lib.hid h
    have f0 : decide ((65 : Int) ≤ (k : Int)) = false := by simp; omega
    have f1 : decide ((k : Int) ≤ 90) = true := by simp; omega
    have f2 : decide ((97 : Int) ≤ (k : Int)) = false := by simp; omega
    have f3 : decide ((k : Int) ≤ 122) = true := by simp; omega
    have f4 : decide ((48 : Int) ≤ (k : Int)) = false := by simp; omega
    have f5 : decide ((k : Int) ≤ 57) = true := by simp; omega
    have f6 : ((k : Int) == 45) = false := by simp; omega
    have f7 : ((k : Int) == 46) = false := by simp; omega
    have f8 : ((k : Int) == 95) = false := by simp; omega
    have f9 : ((k : Int) == 126) = false := by simp; omega
    have Hv : Hid (((decide (65 ≤ k) && decide (k ≤ 90)) || (decide (97 ≤ k) && decide (k ≤ 122)) || (decide (48 ≤ k) && decide (k ≤ 57)) || decide (k = 45) || decide (k = 46) || decide (k = 95) || decide (k = 126)) = false) := Lib.hid (by simp; omega)
    rw [Hv.out]
    clear h hlt
    go_enter Tryz.func40, Tryz.ntmps40
    go_wp2
    go_ret
    exact ⟨rfl, rfl⟩
  · have Hk := Lib.hid h
    have f0 : decide ((65 : Int) ≤ (k : Int)) = false := by simp; omega
    have f1 : decide ((k : Int) ≤ 90) = true := by simp; omega
    have f2 : decide ((97 : Int) ≤ (k : Int)) = false := by simp; omega
    have f3 : decide ((k : Int) ≤ 122) = true := by simp; omega
    have f4 : decide ((48 : Int) ≤ (k : Int)) = false := by simp; omega
    have f5 : decide ((k : Int) ≤ 57) = true := by simp; omega
    have f6 : ((k : Int) == 45) = true := by simp; omega
    have f7 : ((k : Int) == 46) = false := by simp; omega
    have f8 : ((k : Int) == 95) = false := by simp; omega
    have f9 : ((k : Int) == 126) = false := by simp; omega
    have Hv : Hid (((decide (65 ≤ k) && decide (k ≤ 90)) || (decide (97 ≤ k) && decide (k ≤ 122)) || (decide (48 ≤ k) && decide (k ≤ 57)) || decide (k = 45) || decide (k = 46) || decide (k = 95) || decide (k = 126)) = true) := Lib.hid (by simp; omega)
    rw [Hv.out]
    clear h hlt
    go_enter Tryz.func40, Tryz.ntmps40
    go_wp2
    go_ret
    exact ⟨rfl, rfl⟩
  · have Hk := Lib.hid h
    have f0 : decide ((65 : Int) ≤ (k : Int)) = false := by simp; omega
    have f1 : decide ((k : Int) ≤ 90) = true := by simp; omega
    have f2 : decide ((97 : Int) ≤ (k : Int)) = false := by simp; omega
    have f3 : decide ((k : Int) ≤ 122) = true := by simp; omega
    have f4 : decide ((48 : Int) ≤ (k : Int)) = false := by simp; omega
    have f5 : decide ((k : Int) ≤ 57) = true := by simp; omega
    have f6 : ((k : Int) == 45) = false := by simp; omega
    have f7 : ((k : Int) == 46) = true := by simp; omega
    have f8 : ((k : Int) == 95) = false := by simp; omega
    have f9 : ((k : Int) == 126) = false := by simp; omega
    have Hv : Hid (((decide (65 ≤ k) && decide (k ≤ 90)) || (decide (97 ≤ k) && decide (k ≤ 122)) || (decide (48 ≤ k) && decide (k ≤ 57)) || decide (k = 45) || decide (k = 46) || decide (k = 95) || decide (k = 126)) = true) := Lib.hid (by simp; omega)
    rw [Hv.out]
    clear h hlt
    go_enter Tryz.func40, Tryz.ntmps40
    go_wp2
    go_ret
    exact ⟨rfl, rfl⟩
  · have Hk := Lib.hid h
    have f0 : decide ((65 : Int) ≤ (k : Int)) = false := by simp; omega
    have f1 : decide ((k : Int) ≤ 90) = true := by simp; omega
    have f2 : decide ((97 : Int) ≤ (k : Int)) = false := by simp; omega
    have f3 : decide ((k : Int) ≤ 122) = true := by simp; omega
    have f4 : decide ((48 : Int) ≤ (k : Int)) = false := by simp; omega
    have f5 : decide ((k : Int) ≤ 57) = true := by simp; omega
    have f6 : ((k : Int) == 45) = false := by simp; omega
    have f7 : ((k : Int) == 46) = false := by simp; omega
    have f8 : ((k : Int) == 95) = false := by simp; omega
    have f9 : ((k : Int) == 126) = false := by simp; omega
    have Hv : Hid (((decide (65 ≤ k) && decide (k ≤ 90)) || (decide (97 ≤ k) && decide (k ≤ 122)) || (decide (48 ≤ k) && decide (k ≤ 57)) || decide (k = 45) || decide (k = 46) || decide (k = 95) || decide (k = 126)) = false) := Lib.hid (by simp; omega)
    rw [Hv.out]
    clear h hlt
    go_enter Tryz.func40, Tryz.ntmps40
    go_wp2
    go_ret
    exact ⟨rfl, rfl⟩
  · have Hk := Lib.hid h
    have f0 : decide ((65 : Int) ≤ (k : Int)) = false := by simp; omega
    have f1 : decide ((k : Int) ≤ 90) = true := by simp; omega
    have f2 : decide ((97 : Int) ≤ (k : Int)) = false := by simp; omega
    have f3 : decide ((k : Int) ≤ 122) = true := by simp; omega
    have f4 : decide ((48 : Int) ≤ (k : Int)) = true := by simp; omega
    have f5 : decide ((k : Int) ≤ 57) = true := by simp; omega
    have f6 : ((k : Int) == 45) = false := by simp; omega
    have f7 : ((k : Int) == 46) = false := by simp; omega
    have f8 : ((k : Int) == 95) = false := by simp; omega
    have f9 : ((k : Int) == 126) = false := by simp; omega
    have Hv : Hid (((decide (65 ≤ k) && decide (k ≤ 90)) || (decide (97 ≤ k) && decide (k ≤ 122)) || (decide (48 ≤ k) && decide (k ≤ 57)) || decide (k = 45) || decide (k = 46) || decide (k = 95) || decide (k = 126)) = true) := Lib.hid (by simp; omega)
    rw [Hv.out]
    clear h hlt
    go_enter Tryz.func40, Tryz.ntmps40
    go_wp2
    go_ret
    exact ⟨rfl, rfl⟩
  · have Hk := Lib.hid h
    have f0 : decide ((65 : Int) ≤ (k : Int)) = false := by simp; omega
    have f1 : decide ((k : Int) ≤ 90) = true := by simp; omega
    have f2 : decide ((97 : Int) ≤ (k : Int)) = false := by simp; omega
    have f3 : decide ((k : Int) ≤ 122) = true := by simp; omega
    have f4 : decide ((48 : Int) ≤ (k : Int)) = true := by simp; omega
    have f5 : decide ((k : Int) ≤ 57) = false := by simp; omega
    have f6 : ((k : Int) == 45) = false := by simp; omega
    have f7 : ((k : Int) == 46) = false := by simp; omega
    have f8 : ((k : Int) == 95) = false := by simp; omega
    have f9 : ((k : Int) == 126) = false := by simp; omega
    have Hv : Hid (((decide (65 ≤ k) && decide (k ≤ 90)) || (decide (97 ≤ k) && decide (k ≤ 122)) || (decide (48 ≤ k) && decide (k ≤ 57)) || decide (k = 45) || decide (k = 46) || decide (k = 95) || decide (k = 126)) = false) := Lib.hid (by simp; omega)
    rw [Hv.out]
    clear h hlt
    go_enter Tryz.func40, Tryz.ntmps40
    go_wp2
    go_ret
    exact ⟨rfl, rfl⟩
  · have Hk := Lib.hid h
    have f0 : decide ((65 : Int) ≤ (k : Int)) = true := by simp; omega
    have f1 : decide ((k : Int) ≤ 90) = true := by simp; omega
    have f2 : decide ((97 : Int) ≤ (k : Int)) = false := by simp; omega
    have f3 : decide ((k : Int) ≤ 122) = true := by simp; omega
    have f4 : decide ((48 : Int) ≤ (k : Int)) = true := by simp; omega
    have f5 : decide ((k : Int) ≤ 57) = false := by simp; omega
    have f6 : ((k : Int) == 45) = false := by simp; omega
    have f7 : ((k : Int) == 46) = false := by simp; omega
    have f8 : ((k : Int) == 95) = false := by simp; omega
    have f9 : ((k : Int) == 126) = false := by simp; omega
    have Hv : Hid (((decide (65 ≤ k) && decide (k ≤ 90)) || (decide (97 ≤ k) && decide (k ≤ 122)) || (decide (48 ≤ k) && decide (k ≤ 57)) || decide (k = 45) || decide (k = 46) || decide (k = 95) || decide (k = 126)) = true) := Lib.hid (by simp; omega)
    rw [Hv.out]
    clear h hlt
    go_enter Tryz.func40, Tryz.ntmps40
    go_wp2
    go_ret
    exact ⟨rfl, rfl⟩
  · have Hk := Lib.hid h
    have f0 : decide ((65 : Int) ≤ (k : Int)) = true := by simp; omega
    have f1 : decide ((k : Int) ≤ 90) = false := by simp; omega
    have f2 : decide ((97 : Int) ≤ (k : Int)) = false := by simp; omega
    have f3 : decide ((k : Int) ≤ 122) = true := by simp; omega
    have f4 : decide ((48 : Int) ≤ (k : Int)) = true := by simp; omega
    have f5 : decide ((k : Int) ≤ 57) = false := by simp; omega
    have f6 : ((k : Int) == 45) = false := by simp; omega
    have f7 : ((k : Int) == 46) = false := by simp; omega
    have f8 : ((k : Int) == 95) = false := by simp; omega
    have f9 : ((k : Int) == 126) = false := by simp; omega
    have Hv : Hid (((decide (65 ≤ k) && decide (k ≤ 90)) || (decide (97 ≤ k) && decide (k ≤ 122)) || (decide (48 ≤ k) && decide (k ≤ 57)) || decide (k = 45) || decide (k = 46) || decide (k = 95) || decide (k = 126)) = false) := Lib.hid (by simp; omega)
    rw [Hv.out]
    clear h hlt
    go_enter Tryz.func40, Tryz.ntmps40
    go_wp2
    go_ret
    exact ⟨rfl, rfl⟩
  · have Hk := Lib.hid h
    have f0 : decide ((65 : Int) ≤ (k : Int)) = true := by simp; omega
    have f1 : decide ((k : Int) ≤ 90) = false := by simp; omega
    have f2 : decide ((97 : Int) ≤ (k : Int)) = false := by simp; omega
    have f3 : decide ((k : Int) ≤ 122) = true := by simp; omega
    have f4 : decide ((48 : Int) ≤ (k : Int)) = true := by simp; omega
    have f5 : decide ((k : Int) ≤ 57) = false := by simp; omega
    have f6 : ((k : Int) == 45) = false := by simp; omega
    have f7 : ((k : Int) == 46) = false := by simp; omega
    have f8 : ((k : Int) == 95) = true := by simp; omega
    have f9 : ((k : Int) == 126) = false := by simp; omega
    have Hv : Hid (((decide (65 ≤ k) && decide (k ≤ 90)) || (decide (97 ≤ k) && decide (k ≤ 122)) || (decide (48 ≤ k) && decide (k ≤ 57)) || decide (k = 45) || decide (k = 46) || decide (k = 95) || decide (k = 126)) = true) := Lib.hid (by simp; omega)
    rw [Hv.out]
    clear h hlt
    go_enter Tryz.func40, Tryz.ntmps40
    go_wp2
    go_ret
    exact ⟨rfl, rfl⟩
  · have Hk := Lib.hid h
    have f0 : decide ((65 : Int) ≤ (k : Int)) = true := by simp; omega
    have f1 : decide ((k : Int) ≤ 90) = false := by simp; omega
    have f2 : decide ((97 : Int) ≤ (k : Int)) = false := by simp; omega
    have f3 : decide ((k : Int) ≤ 122) = true := by simp; omega
    have f4 : decide ((48 : Int) ≤ (k : Int)) = true := by simp; omega
    have f5 : decide ((k : Int) ≤ 57) = false := by simp; omega
    have f6 : ((k : Int) == 45) = false := by simp; omega
    have f7 : ((k : Int) == 46) = false := by simp; omega
    have f8 : ((k : Int) == 95) = false := by simp; omega
    have f9 : ((k : Int) == 126) = false := by simp; omega
    have Hv : Hid (((decide (65 ≤ k) && decide (k ≤ 90)) || (decide (97 ≤ k) && decide (k ≤ 122)) || (decide (48 ≤ k) && decide (k ≤ 57)) || decide (k = 45) || decide (k = 46) || decide (k = 95) || decide (k = 126)) = false) := Lib.hid (by simp; omega)
    rw [Hv.out]
    clear h hlt
    go_enter Tryz.func40, Tryz.ntmps40
    go_wp2
    go_ret
    exact ⟨rfl, rfl⟩
  · have Hk := Lib.hid h
    have f0 : decide ((65 : Int) ≤ (k : Int)) = true := by simp; omega
    have f1 : decide ((k : Int) ≤ 90) = false := by simp; omega
    have f2 : decide ((97 : Int) ≤ (k : Int)) = true := by simp; omega
    have f3 : decide ((k : Int) ≤ 122) = true := by simp; omega
    have f4 : decide ((48 : Int) ≤ (k : Int)) = true := by simp; omega
    have f5 : decide ((k : Int) ≤ 57) = false := by simp; omega
    have f6 : ((k : Int) == 45) = false := by simp; omega
    have f7 : ((k : Int) == 46) = false := by simp; omega
    have f8 : ((k : Int) == 95) = false := by simp; omega
    have f9 : ((k : Int) == 126) = false := by simp; omega
    have Hv : Hid (((decide (65 ≤ k) && decide (k ≤ 90)) || (decide (97 ≤ k) && decide (k ≤ 122)) || (decide (48 ≤ k) && decide (k ≤ 57)) || decide (k = 45) || decide (k = 46) || decide (k = 95) || decide (k = 126)) = true) := Lib.hid (by simp; omega)
    rw [Hv.out]
    clear h hlt
    go_enter Tryz.func40, Tryz.ntmps40
    go_wp2
    go_ret
    exact ⟨rfl, rfl⟩
  · have Hk := Lib.hid h
    have f0 : decide ((65 : Int) ≤ (k : Int)) = true := by simp; omega
    have f1 : decide ((k : Int) ≤ 90) = false := by simp; omega
    have f2 : decide ((97 : Int) ≤ (k : Int)) = true := by simp; omega
    have f3 : decide ((k : Int) ≤ 122) = false := by simp; omega
    have f4 : decide ((48 : Int) ≤ (k : Int)) = true := by simp; omega
    have f5 : decide ((k : Int) ≤ 57) = false := by simp; omega
    have f6 : ((k : Int) == 45) = false := by simp; omega
    have f7 : ((k : Int) == 46) = false := by simp; omega
    have f8 : ((k : Int) == 95) = false := by simp; omega
    have f9 : ((k : Int) == 126) = false := by simp; omega
    have Hv : Hid (((decide (65 ≤ k) && decide (k ≤ 90)) || (decide (97 ≤ k) && decide (k ≤ 122)) || (decide (48 ≤ k) && decide (k ≤ 57)) || decide (k = 45) || decide (k = 46) || decide (k = 95) || decide (k = 126)) = false) := Lib.hid (by simp; omega)
    rw [Hv.out]
    clear h hlt
    go_enter Tryz.func40, Tryz.ntmps40
    go_wp2
    go_ret
    exact ⟨rfl, rfl⟩
  · have Hk := Lib.hid h
    have f0 : decide ((65 : Int) ≤ (k : Int)) = true := by simp; omega
    have f1 : decide ((k : Int) ≤ 90) = false := by simp; omega
    have f2 : decide ((97 : Int) ≤ (k : Int)) = true := by simp; omega
    have f3 : decide ((k : Int) ≤ 122) = false := by simp; omega
    have f4 : decide ((48 : Int) ≤ (k : Int)) = true := by simp; omega
    have f5 : decide ((k : Int) ≤ 57) = false := by simp; omega
    have f6 : ((k : Int) == 45) = false := by simp; omega
    have f7 : ((k : Int) == 46) = false := by simp; omega
    have f8 : ((k : Int) == 95) = false := by simp; omega
    have f9 : ((k : Int) == 126) = true := by simp; omega
    have Hv : Hid (((decide (65 ≤ k) && decide (k ≤ 90)) || (decide (97 ≤ k) && decide (k ≤ 122)) || (decide (48 ≤ k) && decide (k ≤ 57)) || decide (k = 45) || decide (k = 46) || decide (k = 95) || decide (k = 126)) = true) := Lib.hid (by simp; omega)
    rw [Hv.out]
    clear h hlt
    go_enter Tryz.func40, Tryz.ntmps40
    go_wp2
    go_ret
    exact ⟨rfl, rfl⟩
  · have Hk := Lib.hid h
    have f0 : decide ((65 : Int) ≤ (k : Int)) = true := by simp; omega
    have f1 : decide ((k : Int) ≤ 90) = false := by simp; omega
    have f2 : decide ((97 : Int) ≤ (k : Int)) = true := by simp; omega
    have f3 : decide ((k : Int) ≤ 122) = false := by simp; omega
    have f4 : decide ((48 : Int) ≤ (k : Int)) = true := by simp; omega
    have f5 : decide ((k : Int) ≤ 57) = false := by simp; omega
    have f6 : ((k : Int) == 45) = false := by simp; omega
    have f7 : ((k : Int) == 46) = false := by simp; omega
    have f8 : ((k : Int) == 95) = false := by simp; omega
    have f9 : ((k : Int) == 126) = false := by simp; omega
    have Hv : Hid (((decide (65 ≤ k) && decide (k ≤ 90)) || (decide (97 ≤ k) && decide (k ≤ 122)) || (decide (48 ≤ k) && decide (k ≤ 57)) || decide (k = 45) || decide (k = 46) || decide (k = 95) || decide (k = 126)) = false) := Lib.hid (by simp; omega)
    rw [Hv.out]
    clear h hlt
    go_enter Tryz.func40, Tryz.ntmps40
    go_wp2
    go_ret
    exact ⟨rfl, rfl⟩

end Go.Proofs.YtdegmpimcappjaaGreatDoor

/- The document's digits of sixteen. -/
namespace Go.Proofs.YtdegmpimcappjaaGreatDoor
open Go.RowKit Go.Gl Go.Front

theorem digN_toNat {t k : Nat} (ht : t = 65 ∨ t = 97) (hk : k < 16) : (digN t k).toNat = if k < 10 then 48 + k else t + (k - 10) := by
  unfold digN
  rw [UInt8.toNat_ofNat_of_lt']
  simp only [UInt8.size]
  split <;> omega

set_option maxRecDepth 100000 in
set_option maxHeartbeats 4000000 in
theorem digit_any {t k : Nat} (ht : t = 65 ∨ t = 97) (hk : k < 16) (w : World) : Calls Tryz.prog 41 #[.int .u8 k, .int .u8 t] w fun e w' => e = .returned (.int .u8 (digN t k).toNat) ∧ w' = w := by
  rw [digN_toNat ht hk]
  by_cases h : k < 10
  · rw [if_pos h]
    have f : decide ((k : Int) < 10) = true := by simp; omega
    have g : IntKind.u8.wrap (48 + (k : Int)) = 48 + (k : Int) := IntWalk.u8_in _ (by omega)
    go_enter Tryz.func41, Tryz.ntmps41
    go_wp2
    go_ret
    exact ⟨by simp, rfl⟩
  · rw [if_neg h]
    have f : decide ((k : Int) < 10) = false := by simp; omega
    have g : IntKind.u8.wrap ((t : Int) + (k : Int)) = (t : Int) + (k : Int) := IntWalk.u8_in _ (by omega)
    have g2 : IntKind.u8.wrap ((t : Int) + (k : Int) - 10) = (t : Int) + (k : Int) - 10 := IntWalk.u8_in _ (by omega)
    have Ht := Lib.hid ht
    clear ht
    go_enter Tryz.func41, Tryz.ntmps41
    go_wp2
    go_ret
    exact ⟨by rcases Ht.out with rfl | rfl <;> (simp; omega), rfl⟩

/-- A digit's value, -1 for none. -/
def valI (t : Nat) (c : UInt8) : Int := match digV t c with | some d => (d : Int) | none => -1

set_option maxRecDepth 100000 in
set_option maxHeartbeats 4000000 in
theorem value_any65 (c : UInt8) (w : World) : Calls Tryz.prog 43 #[.int .u8 c.toNat, .int .u8 65] w fun e w' => e = .returned (.int .i64 (valI 65 c)) ∧ w' = w := by
  have hlt : c.toNat < 256 := c.toNat_lt
  unfold valI digV
  generalize c.toNat = k at *
  by_cases h1 : 48 ≤ k ∧ k ≤ 57
  · rw [if_pos h1]
    have Hk := Lib.hid h1
    have f1 : decide ((48 : Int) ≤ (k : Int)) = true := by simp; omega
    have f2 : decide ((k : Int) ≤ 57) = true := by simp; omega
    have g : IntKind.u8.wrap ((k : Int) - 48) = (k : Int) - 48 := IntWalk.u8_in _ (by omega)
    have g2 : IntKind.i64.wrap ((k : Int) - 48) = (k : Int) - 48 := IntWalk.i64_in _ (by omega)
    clear h1 hlt
    go_enter Tryz.func43, Tryz.ntmps43
    go_wp2
    go_ret
    have := Hk.out
    exact ⟨by simp; omega, rfl⟩
  · rw [if_neg h1]
    have H1 := Lib.hid h1
    have e1 : (decide ((48 : Int) ≤ (k : Int)) = true ∧ decide ((k : Int) ≤ 57) = false) ∨ decide ((48 : Int) ≤ (k : Int)) = false := by
      by_cases h : 48 ≤ k
      · exact .inl ⟨by simp; omega, by simp; omega⟩
      · exact .inr (by simp; omega)
    by_cases h2 : 65 ≤ k ∧ k < 65 + 6
    · rw [if_pos h2]
      have H2 := Lib.hid h2
      have f3 : decide ((65 : Int) ≤ (k : Int)) = true := by simp; omega
      have f4 : decide ((k : Int) < 71) = true := by simp; omega
      have g : IntKind.u8.wrap ((k : Int) - 65) = (k : Int) - 65 := IntWalk.u8_in _ (by omega)
      have g2 : IntKind.i64.wrap ((k : Int) - 65) = (k : Int) - 65 := IntWalk.i64_in _ (by omega)
      have g3 : IntKind.i64.wrap ((k : Int) - 65 + 10) = (k : Int) - 65 + 10 := IntWalk.i64_in _ (by omega)
      clear h2 h1 hlt
      rcases e1 with ⟨e1, e2⟩ | e1
      all_goals
        go_enter Tryz.func43, Tryz.ntmps43
        go_wp2
        go_ret
        have h2 := H2.out
        exact ⟨by simp; omega, rfl⟩
    · rw [if_neg h2]
      have H2 := Lib.hid h2
      have e3 : (decide ((65 : Int) ≤ (k : Int)) = true ∧ decide ((k : Int) < 71) = false) ∨ decide ((65 : Int) ≤ (k : Int)) = false := by
        by_cases h : 65 ≤ k
        · exact .inl ⟨by simp; omega, by simp; omega⟩
        · exact .inr (by simp; omega)
      clear h2 h1 hlt
      rcases e1 with ⟨e1, e2⟩ | e1 <;> rcases e3 with ⟨e3, e4⟩ | e3
      all_goals
        go_enter Tryz.func43, Tryz.ntmps43
        go_wp2
        go_ret
        exact ⟨rfl, rfl⟩

set_option maxRecDepth 100000 in
set_option maxHeartbeats 4000000 in
theorem value_any97 (c : UInt8) (w : World) : Calls Tryz.prog 43 #[.int .u8 c.toNat, .int .u8 97] w fun e w' => e = .returned (.int .i64 (valI 97 c)) ∧ w' = w := by
  have hlt : c.toNat < 256 := c.toNat_lt
  unfold valI digV
  generalize c.toNat = k at *
  by_cases h1 : 48 ≤ k ∧ k ≤ 57
  · rw [if_pos h1]
    have Hk := Lib.hid h1
    have f1 : decide ((48 : Int) ≤ (k : Int)) = true := by simp; omega
    have f2 : decide ((k : Int) ≤ 57) = true := by simp; omega
    have g : IntKind.u8.wrap ((k : Int) - 48) = (k : Int) - 48 := IntWalk.u8_in _ (by omega)
    have g2 : IntKind.i64.wrap ((k : Int) - 48) = (k : Int) - 48 := IntWalk.i64_in _ (by omega)
    clear h1 hlt
    go_enter Tryz.func43, Tryz.ntmps43
    go_wp2
    go_ret
    have := Hk.out
    exact ⟨by simp; omega, rfl⟩
  · rw [if_neg h1]
    have H1 := Lib.hid h1
    have e1 : (decide ((48 : Int) ≤ (k : Int)) = true ∧ decide ((k : Int) ≤ 57) = false) ∨ decide ((48 : Int) ≤ (k : Int)) = false := by
      by_cases h : 48 ≤ k
      · exact .inl ⟨by simp; omega, by simp; omega⟩
      · exact .inr (by simp; omega)
    by_cases h2 : 97 ≤ k ∧ k < 97 + 6
    · rw [if_pos h2]
      have H2 := Lib.hid h2
      have f3 : decide ((97 : Int) ≤ (k : Int)) = true := by simp; omega
      have f4 : decide ((k : Int) < 103) = true := by simp; omega
      have g : IntKind.u8.wrap ((k : Int) - 97) = (k : Int) - 97 := IntWalk.u8_in _ (by omega)
      have g2 : IntKind.i64.wrap ((k : Int) - 97) = (k : Int) - 97 := IntWalk.i64_in _ (by omega)
      have g3 : IntKind.i64.wrap ((k : Int) - 97 + 10) = (k : Int) - 97 + 10 := IntWalk.i64_in _ (by omega)
      clear h2 h1 hlt
      rcases e1 with ⟨e1, e2⟩ | e1
      all_goals
        go_enter Tryz.func43, Tryz.ntmps43
        go_wp2
        go_ret
        have h2 := H2.out
        exact ⟨by simp; omega, rfl⟩
    · rw [if_neg h2]
      have H2 := Lib.hid h2
      have e3 : (decide ((97 : Int) ≤ (k : Int)) = true ∧ decide ((k : Int) < 103) = false) ∨ decide ((97 : Int) ≤ (k : Int)) = false := by
        by_cases h : 97 ≤ k
        · exact .inl ⟨by simp; omega, by simp; omega⟩
        · exact .inr (by simp; omega)
      clear h2 h1 hlt
      rcases e1 with ⟨e1, e2⟩ | e1 <;> rcases e3 with ⟨e3, e4⟩ | e3
      all_goals
        go_enter Tryz.func43, Tryz.ntmps43
        go_wp2
        go_ret
        exact ⟨rfl, rfl⟩

end Go.Proofs.YtdegmpimcappjaaGreatDoor

/- front.Escape. -/
namespace Go.Proofs.YtdegmpimcappjaaGreatDoor
open Go.RowKit Go.Gl Go.Front

theorem exec_index {o : Oper} {r : Act} {x y : Operand} {t : TypeId} {v : Value} {w : World} (ho : o.op = .index t x y) (hr : (Instr.index t (r.eval x) (r.eval y)).run Tryz.prog w = .ok v w) : (execOp r.eval o).run Tryz.prog w = .ok (.value v) w := by
  unfold execOp
  simp [ho, hr]

/-- One of sixteen digits, by its place. -/
theorem digits_at {d : Nat} (hd : d < 16) (w : World) : (Instr.index 9 (.string ⟨#[48, 49, 50, 51, 52, 53, 54, 55, 56, 57, 65, 66, 67, 68, 69, 70]⟩) (.int .u8 (d : Int))).run Tryz.prog w = .ok (.int .u8 (digN 65 d).toNat) w := by
  have h16 : d = 0 ∨ d = 1 ∨ d = 2 ∨ d = 3 ∨ d = 4 ∨ d = 5 ∨ d = 6 ∨ d = 7 ∨ d = 8 ∨ d = 9 ∨ d = 10 ∨ d = 11 ∨ d = 12 ∨ d = 13 ∨ d = 14 ∨ d = 15 := by omega
  rcases h16 with rfl | rfl | rfl | rfl | rfl | rfl | rfl | rfl | rfl | rfl | rfl | rfl | rfl | rfl | rfl | rfl <;> simp [Instr.index, digN, go_sem] <;> rfl

theorem at_list {s : ByteArray} {i : Nat} (h : i < s.size) : s.data.toList[i]? = some s[i] := by
  have h' : i < s.data.toList.length := by rw [Array.length_toList]; exact h
  rw [List.getElem?_eq_getElem h']
  rfl

theorem esc_snoc {l : List UInt8} {i : Nat} {c : UInt8} (h : l[i]? = some c) : esc (l.take (i + 1)) = esc (l.take i) ++ esc1 c := by
  obtain ⟨hi, rfl⟩ := List.getElem?_eq_some_iff.1 h
  rw [List.take_succ_eq_append_getElem hi, esc, List.flatMap_append, List.flatMap_singleton]
  rfl

theorem esc_take_len (l : List UInt8) (i : Nat) : (esc (l.take i)).length ≤ 3 * i := by
  have h := esc_len (l.take i)
  have := List.length_take_le i l
  omega

def EscInv (w : World) (s : ByteArray) (bv iv : Value) (wr : World) : Prop :=
  ∃ i : Nat, iv = .int .i64 i ∧ i ≤ s.size ∧ OwnB w.heap.size wr bv (esc (s.data.toList.take i)) ∧ Below w.heap.size w wr

theorem run_text {w : World} {v : Value} {l : List UInt8} (h : Bv w v l) : (convert 24 9 v).run Tryz.prog w = .ok (.string ⟨l.toArray⟩) w := by
  by_cases h0 : l = []
  · obtain ⟨a, c, rfl, _⟩ := h
    subst h0
    rw [List.length_nil, run_convert_bytes_string w 24 9 5 a 0 c Tryz.underlying24 Tryz.underlying5 Tryz.underlying9]
    cases a with
    | none => rfl
    | some a => simp [Conv.bytesToString, loadCells, loadCellsFrom]; rfl
  · exact run_string Tryz.underlying24 Tryz.underlying5 Tryz.underlying9 (h.bytes h0)

set_option maxRecDepth 100000 in
set_option maxHeartbeats 8000000 in
theorem escape_any (s : ByteArray) (w : World) (hs : s.size ≤ 1000000000000) :
    Calls Tryz.prog 15 #[.string s] w fun e w' => e = .returned (.string ⟨(esc s.data.toList).toArray⟩) ∧ Grow w w' := by
  go_enter Tryz.func15, Tryz.ntmps15
  go_wp2_with fail
  go_loopw [3, 8] (fun bv iv wr => EscInv w s bv iv wr) (fun _ iv _ => s.size - (intOf iv).toNat)
  case atStart => exact ⟨0, rfl, Nat.zero_le _, row1_nil _ _ _, Below.refl _ _⟩
  case round =>
    obtain ⟨i, rfl, hi, hown, hg⟩ := hrel
    by_cases hlt : i < s.size
    · have hi1 : (i : Int) < (s.size : Int) := by omega
      have hi0 : (0 : Int) ≤ (i : Int) := by omega
      have hwi : IntKind.i64.wrap ((i : Int) + 1) = (i : Int) + 1 := IntWalk.i64_in _ (by omega)
      have hsn := esc_snoc (at_list hlt)
      have hl3 := esc_take_len s.data.toList i
      have hBr := hg.size
      obtain ⟨ba, bc, hbv⟩ := hown.slice'
      have Hp := Lib.hid (plain_any s[i])
      have hc256 : s[i].toNat < 256 := s[i].toNat_lt
      by_cases hpl : plainB s[i] = true
      · rw [hpl] at Hp
        have e1 : esc1 s[i] = [s[i]] := by unfold esc1; rw [if_pos hpl]
        rw [e1] at hsn
        obtain ⟨v', w', h1, h2, h3⟩ := append_built (n := 1) (arr := #[.int .u8 s[i].toNat]) (p := [s[i]]) hown rfl rfl (by simp) hBr (by simp; omega)
        rw [← hsn] at h2
        have Hrel : Hid (EscInv w s v' (.int .i64 ((i : Int) + 1)) w') := Lib.hid ⟨i + 1, by simp, hlt, h2, Below.trans hg h3⟩
        have Hrun := Lib.hid h1
        subst hbv
        clear h1 h2 h3 hsn hl3 hown hg hpl e1 hBr
        go_wp2_with (first | ((with_reducible refine (Hp.out wr).mono ?_); rintro e w1 ⟨rfl, hw1⟩; have hw2 := hw1.symm; subst hw2; clear hw1) | (at_builtin; refine wpList_append rfl rfl rfl rfl Hrun.out ?_))
        go_roundw
        case rel => exact Hrel.out
        case measure => simp [intOf]; omega
      · have hpf : plainB s[i] = false := by simpa using hpl
        rw [hpf] at Hp
        have e1 : esc1 s[i] = [37, digN 65 (s[i].toNat / 16), digN 65 (s[i].toNat % 16)] := by unfold esc1; rw [if_neg hpl]
        rw [e1] at hsn
        have x1 := fun W => digits_at (show s[i].toNat / 16 < 16 by omega) W
        have x2 := fun W => digits_at (show s[i].toNat % 16 < 16 by omega) W
        rw [show ((s[i].toNat / 16 : Nat) : Int) = (s[i].toNat : Int) / 16 by omega] at x1
        rw [show ((s[i].toNat % 16 : Nat) : Int) = (s[i].toNat : Int) % 16 by omega] at x2
        have g1 : IntKind.u8.wrap ((s[i].toNat : Int) / 16) = (s[i].toNat : Int) / 16 := IntWalk.u8_in _ (by omega)
        have g2 : IntKind.u8.wrap ((s[i].toNat : Int) % 16) = (s[i].toNat : Int) % 16 := IntWalk.u8_in _ (by omega)
        have X1 := Lib.hid x1
        have X2 := Lib.hid x2
        have hBd : w.heap.size ≤ wr.drew.heap.size := hBr
        obtain ⟨v', w', h1, h2, h3⟩ := append_built (w := wr.drew) (n := 3) (arr := #[.int .u8 37, .int .u8 (digN 65 (s[i].toNat / 16)).toNat, .int .u8 (digN 65 (s[i].toNat % 16)).toNat]) (p := [37, digN 65 (s[i].toNat / 16), digN 65 (s[i].toNat % 16)]) (hown.grow (Grow.drew wr)) rfl rfl (by simp) hBd (by simp; omega)
        rw [← hsn] at h2
        have Hrel : Hid (EscInv w s v' (.int .i64 ((i : Int) + 1)) w') := Lib.hid ⟨i + 1, by simp, hlt, h2, Below.trans (hg.drew) h3⟩
        have Hrun := Lib.hid h1
        subst hbv
        clear h1 h2 h3 hsn hl3 hown hg hpl e1 hBr x1 x2 hBd
        go_wp2_with ((with_reducible refine (Hp.out wr).mono ?_); rintro e w1 ⟨rfl, hw1⟩; have hw2 := hw1.symm; subst hw2; clear hw1)
        refine wp_region_pi (fun _ => True) [(0, false), (1, false), (2, false), (3, false), (4, false), (5, false), (6, false), (7, true), (8, true), (9, false)] (by kernel_rfl) (by kernel_rfl) (fun c a d v w h => by cases d <;> exact h) trivial ?_
        simp only [arrange, nth]
        (first | (refine wpPi_quiet (v := ?_) (by rfl) (fun W hW => ?_) ?_; rotate_left; (obtain _ := hW; go_simp; with_reducible rfl); simp only [Act.put, List.setIfInBounds_toArray, List.set_cons_zero, List.set_cons_succ]) | (refine wpPi_off (by rfl) ?_; simp only [Act.put, List.setIfInBounds_toArray, List.set_cons_zero, List.set_cons_succ]))
        (first | (refine wpPi_quiet (v := ?_) (by rfl) (fun W hW => ?_) ?_; rotate_left; (obtain _ := hW; go_simp; with_reducible rfl); simp only [Act.put, List.setIfInBounds_toArray, List.set_cons_zero, List.set_cons_succ]) | (refine wpPi_off (by rfl) ?_; simp only [Act.put, List.setIfInBounds_toArray, List.set_cons_zero, List.set_cons_succ]))
        (first | (refine wpPi_quiet (v := ?_) (by rfl) (fun W hW => ?_) ?_; rotate_left; (obtain _ := hW; go_simp; with_reducible rfl); simp only [Act.put, List.setIfInBounds_toArray, List.set_cons_zero, List.set_cons_succ]) | (refine wpPi_off (by rfl) ?_; simp only [Act.put, List.setIfInBounds_toArray, List.set_cons_zero, List.set_cons_succ]))
        refine wpPi_quiet (by rfl) (fun W hW => exec_index rfl (X1.out W)) ?_
        try simp only [Act.put, List.setIfInBounds_toArray, List.set_cons_zero, List.set_cons_succ]
        (first | (refine wpPi_quiet (v := ?_) (by rfl) (fun W hW => ?_) ?_; rotate_left; (obtain _ := hW; go_simp; with_reducible rfl); simp only [Act.put, List.setIfInBounds_toArray, List.set_cons_zero, List.set_cons_succ]) | (refine wpPi_off (by rfl) ?_; simp only [Act.put, List.setIfInBounds_toArray, List.set_cons_zero, List.set_cons_succ]))
        (first | (refine wpPi_quiet (v := ?_) (by rfl) (fun W hW => ?_) ?_; rotate_left; (obtain _ := hW; go_simp; with_reducible rfl); simp only [Act.put, List.setIfInBounds_toArray, List.set_cons_zero, List.set_cons_succ]) | (refine wpPi_off (by rfl) ?_; simp only [Act.put, List.setIfInBounds_toArray, List.set_cons_zero, List.set_cons_succ]))
        refine wpPi_quiet (by rfl) (fun W hW => exec_index rfl (X2.out W)) ?_
        try simp only [Act.put, List.setIfInBounds_toArray, List.set_cons_zero, List.set_cons_succ]
        refine wpPi_act (by rfl) (fun K hK => ?_)
        go_simp
        refine hK _ _ ⟨trivial, ?_⟩
        clear hK K
        try simp only [Act.put, List.setIfInBounds_toArray, List.set_cons_zero, List.set_cons_succ]
        refine wpPi_run (by rfl) (execOp_append rfl rfl rfl Hrun.out) trivial ?_
        try simp only [Act.put, List.setIfInBounds_toArray, List.set_cons_zero, List.set_cons_succ]
        repeat (first | (refine wpPi_quiet (v := ?_) (by rfl) (fun W hW => ?_) ?_; rotate_left; (obtain _ := hW; go_simp; with_reducible rfl); simp only [Act.put, List.setIfInBounds_toArray, List.set_cons_zero, List.set_cons_succ]) | (refine wpPi_off (by rfl) ?_; simp only [Act.put, List.setIfInBounds_toArray, List.set_cons_zero, List.set_cons_succ]))
        refine wpPi_nil ?_
        go_wp2
        go_roundw
        case rel => exact Hrel.out
        case measure => simp [intOf]; omega
    · obtain rfl : i = s.size := by omega
      have hfull : s.data.toList.take s.size = s.data.toList := List.take_of_length_le (by rw [Array.length_toList]; exact Nat.le_refl _)
      rw [hfull] at hown
      have hconv := run_text (ownB_bv hown)
      obtain ⟨ba, bc, rfl⟩ := hown.slice'
      have Hg := Lib.hid hg
      clear hg hown hfull
      go_wp2
      go_ret
      exact ⟨rfl, Hg.out⟩
end Go.Proofs.YtdegmpimcappjaaGreatDoor

/- The document's Escape. -/
namespace Go.Proofs.YtdegmpimcappjaaGreatDoor
open Go.RowKit Go.Gl Go.Front

theorem digit_call {t d : Nat} (ht : t = 65 ∨ t = 97) (hd : d < 16) {x y : Int} (hx : x = (d : Int)) (hy : y = (t : Int)) (w : World) : Calls Tryz.prog 41 #[.int .u8 x, .int .u8 y] w fun e w' => e = .returned (.int .u8 (digN t d).toNat) ∧ w' = w := by
  subst hx hy
  exact digit_any ht hd w

set_option maxRecDepth 100000 in
set_option maxHeartbeats 8000000 in
theorem escapeR_any (s : ByteArray) (w : World) (hs : s.size ≤ 1000000000000) :
    Calls Tryz.prog 16 #[.string s] w fun e w' => e = .returned (.string ⟨(esc s.data.toList).toArray⟩) ∧ Grow w w' := by
  go_enter Tryz.func16, Tryz.ntmps16
  go_wp2_with fail
  go_loopw [3, 4] (fun bv iv wr => EscInv w s bv iv wr) (fun _ iv _ => s.size - (intOf iv).toNat)
  case atStart => exact ⟨0, rfl, Nat.zero_le _, row1_nil _ _ _, Below.refl _ _⟩
  case round =>
    obtain ⟨i, rfl, hi, hown, hg⟩ := hrel
    by_cases hlt : i < s.size
    · have hi1 : (i : Int) < (s.size : Int) := by omega
      have hi0 : (0 : Int) ≤ (i : Int) := by omega
      have hwi : IntKind.i64.wrap ((i : Int) + 1) = (i : Int) + 1 := IntWalk.i64_in _ (by omega)
      have hsn := esc_snoc (at_list hlt)
      have hl3 := esc_take_len s.data.toList i
      have hBr := hg.size
      obtain ⟨ba, bc, hbv⟩ := hown.slice'
      have Hp := Lib.hid (kept_any s[i])
      have hc256 : s[i].toNat < 256 := s[i].toNat_lt
      by_cases hpl : plainB s[i] = true
      · rw [hpl] at Hp
        have e1 : esc1 s[i] = [s[i]] := by unfold esc1; rw [if_pos hpl]
        rw [e1] at hsn
        obtain ⟨v', w', h1, h2, h3⟩ := append_built (n := 1) (arr := #[.int .u8 s[i].toNat]) (p := [s[i]]) hown rfl rfl (by simp) hBr (by simp; omega)
        rw [← hsn] at h2
        have Hrel : Hid (EscInv w s v' (.int .i64 ((i : Int) + 1)) w') := Lib.hid ⟨i + 1, by simp, hlt, h2, Below.trans hg h3⟩
        have Hrun := Lib.hid h1
        subst hbv
        clear h1 h2 h3 hsn hl3 hown hg hpl e1 hBr
        go_wp2_with (first | ((with_reducible refine (Hp.out wr).mono ?_); rintro e w1 ⟨rfl, hw1⟩; have hw2 := hw1.symm; subst hw2; clear hw1) | (at_builtin; refine wpList_append rfl rfl rfl rfl Hrun.out ?_))
        go_roundw
        case rel => exact Hrel.out
        case measure => simp [intOf]; omega
      · have hpf : plainB s[i] = false := by simpa using hpl
        rw [hpf] at Hp
        have e1 : esc1 s[i] = [37, digN 65 (s[i].toNat / 16), digN 65 (s[i].toNat % 16)] := by unfold esc1; rw [if_neg hpl]
        rw [e1] at hsn
        have a1 : bits .and .u8 (s[i].toNat : Int) 15 = ((s[i].toNat &&& 15 : Nat) : Int) := u8_and_nat s[i].toNat 15 (by omega) (by decide)
        have a2 : s[i].toNat &&& 15 = s[i].toNat % 16 := Nat.and_two_pow_sub_one_eq_mod s[i].toNat 4
        rw [a2] at a1
        have hBd : w.heap.size ≤ wr.drew.heap.size := hBr
        obtain ⟨v', w', h1, h2, h3⟩ := append_built (w := wr.drew) (n := 3) (arr := #[.int .u8 37, .int .u8 (digN 65 (s[i].toNat / 16)).toNat, .int .u8 (digN 65 (s[i].toNat % 16)).toNat]) (p := [37, digN 65 (s[i].toNat / 16), digN 65 (s[i].toNat % 16)]) (hown.grow (Grow.drew wr)) rfl rfl (by simp) hBd (by simp; omega)
        rw [← hsn] at h2
        have Hrel : Hid (EscInv w s v' (.int .i64 ((i : Int) + 1)) w') := Lib.hid ⟨i + 1, by simp, hlt, h2, Below.trans (hg.drew) h3⟩
        have Hrun := Lib.hid h1
        have Hc := Lib.hid hc256
        subst hbv
        clear h1 h2 h3 hsn hl3 hown hg hpl e1 hBr hBd a2
        go_wp2_with ((with_reducible refine (Hp.out wr).mono ?_); rintro e w1 ⟨rfl, hw1⟩; have hw2 := hw1.symm; subst hw2; clear hw1)
        refine wp_region_pi (fun _ => True) [(0, false), (1, false), (2, false), (3, false), (4, false), (6, false), (7, false), (8, false), (9, false), (5, true), (10, true), (11, true), (12, true), (13, false)] (by kernel_rfl) (by kernel_rfl) (fun c a d v w h => by cases d <;> exact h) trivial ?_
        simp only [arrange, nth]
        repeat (first | (refine wpPi_quiet (v := ?_) (by rfl) (fun W hW => ?_) ?_; rotate_left; (obtain _ := hW; go_simp; with_reducible rfl); simp only [Act.put, List.setIfInBounds_toArray, List.set_cons_zero, List.set_cons_succ]) | (refine wpPi_off (by rfl) ?_; simp only [Act.put, List.setIfInBounds_toArray, List.set_cons_zero, List.set_cons_succ]))
        refine wpPi_call (by rfl) (by go_simp) (digit_call (t := 65) (d := s[i].toNat / 16) (x := (s[i].toNat : Int) / 16) (.inl rfl) (by have := Hc.out; omega) (by simp) rfl _) ?_
        rintro e w1 ⟨rfl, rfl⟩
        refine ⟨_, rfl, trivial, ?_⟩
        try simp only [Act.put, List.setIfInBounds_toArray, List.set_cons_zero, List.set_cons_succ]
        refine wpPi_call (by rfl) (by go_simp) (digit_call (t := 65) (d := s[i].toNat % 16) (x := (s[i].toNat : Int) % 16) (.inl rfl) (by have := Hc.out; omega) (by simp) rfl _) ?_
        rintro e w1 ⟨rfl, rfl⟩
        refine ⟨_, rfl, trivial, ?_⟩
        try simp only [Act.put, List.setIfInBounds_toArray, List.set_cons_zero, List.set_cons_succ]
        refine wpPi_act (by rfl) (fun K hK => ?_)
        go_simp
        refine hK _ _ ⟨trivial, ?_⟩
        clear hK K
        try simp only [Act.put, List.setIfInBounds_toArray, List.set_cons_zero, List.set_cons_succ]
        refine wpPi_run (by rfl) (execOp_append rfl rfl rfl Hrun.out) trivial ?_
        try simp only [Act.put, List.setIfInBounds_toArray, List.set_cons_zero, List.set_cons_succ]
        repeat (first | (refine wpPi_quiet (v := ?_) (by rfl) (fun W hW => ?_) ?_; rotate_left; (obtain _ := hW; go_simp; with_reducible rfl); simp only [Act.put, List.setIfInBounds_toArray, List.set_cons_zero, List.set_cons_succ]) | (refine wpPi_off (by rfl) ?_; simp only [Act.put, List.setIfInBounds_toArray, List.set_cons_zero, List.set_cons_succ]))
        refine wpPi_nil ?_
        go_wp2
        go_roundw
        case rel => exact Hrel.out
        case measure => simp [intOf]; omega
    · obtain rfl : i = s.size := by omega
      have hfull : s.data.toList.take s.size = s.data.toList := List.take_of_length_le (by rw [Array.length_toList]; exact Nat.le_refl _)
      rw [hfull] at hown
      have hconv := run_text (ownB_bv hown)
      obtain ⟨ba, bc, rfl⟩ := hown.slice'
      have Hg := Lib.hid hg
      clear hg hown hfull
      go_wp2
      go_ret
      exact ⟨rfl, Hg.out⟩
end Go.Proofs.YtdegmpimcappjaaGreatDoor

/- front.Unescape. -/
namespace Go.Proofs.YtdegmpimcappjaaGreatDoor
open Go.RowKit Go.Gl Go.Front

theorem idx_digits (a : UInt8) : Lib.indexByte [48, 49, 50, 51, 52, 53, 54, 55, 56, 57, 65, 66, 67, 68, 69, 70] a = valI 65 a := by
  have h : ∀ n : Nat, n < 256 → Lib.indexByte [48, 49, 50, 51, 52, 53, 54, 55, 56, 57, 65, 66, 67, 68, 69, 70] (UInt8.ofNat n) = valI 65 (UInt8.ofNat n) := by decide +kernel
  have := h a.toNat a.toNat_lt
  simpa using this

theorem idx_call (a : UInt8) (w : World) : Calls Tryz.prog 42 #[.string ⟨#[48, 49, 50, 51, 52, 53, 54, 55, 56, 57, 65, 66, 67, 68, 69, 70]⟩, .int .u8 a.toNat] w fun e w' => e = .returned (.int .i64 (valI 65 a)) ∧ w' = w := by
  refine (Tryz.strings_IndexByte _ _ w).mono ?_
  rintro e w' ⟨rfl, rfl⟩
  refine ⟨?_, rfl⟩
  have h1 : ((a.toNat : Int)).toNat.toUInt8 = a := by simp
  have h2 : (⟨#[48, 49, 50, 51, 52, 53, 54, 55, 56, 57, 65, 66, 67, 68, 69, 70]⟩ : ByteArray).data.toList = [48, 49, 50, 51, 52, 53, 54, 55, 56, 57, 65, 66, 67, 68, 69, 70] := rfl
  rw [h1, h2, idx_digits]

theorem drop_at {s : ByteArray} {i : Nat} (h : i < s.size) : s.data.toList.drop i = s[i] :: s.data.toList.drop (i + 1) := by
  have h' : i < s.data.toList.length := by rw [Array.length_toList]; exact h
  rw [List.drop_eq_getElem_cons h']
  rfl

theorem unescP_short {c : UInt8} : ∀ {r : List UInt8}, r.length ≤ 1 → unescP (c :: r) = (unescP r).map (c :: ·)
  | [], _ => rfl
  | [_], _ => rfl
  | _ :: _ :: _, h => by simp at h

theorem unescP_pct {a b : UInt8} {r : List UInt8} : unescP (37 :: a :: b :: r) = match digV 65 a, digV 65 b with
      | some x, some y => (unescP r).map (UInt8.ofNat (16 * x + y) :: ·)
      | _, _ => none := by
  rw [unescP, if_pos rfl]
  cases digV 65 a <;> cases digV 65 b <;> rfl

def UneInv (w : World) (s : ByteArray) (bv iv : Value) (wr : World) : Prop :=
  ∃ (i : Nat) (acc : List UInt8), iv = .int .i64 i ∧ i ≤ s.size ∧ acc.length ≤ i ∧ OwnB w.heap.size wr bv acc ∧ Below w.heap.size w wr ∧ unescP s.data.toList = (unescP (s.data.toList.drop i)).map (acc ++ ·)

/-- What Unescape tells. -/
def uneV (o : Option (List UInt8)) : Value := match o with
  | some t => .tuple #[.string ⟨t.toArray⟩, .bool true]
  | none => .tuple #[.string ⟨#[]⟩, .bool false]

theorem map_app {o : Option (List UInt8)} (acc : List UInt8) (c : UInt8) : (o.map (c :: ·)).map (acc ++ ·) = o.map ((acc ++ [c]) ++ ·) := by
  cases o <;> simp

set_option maxRecDepth 100000 in
set_option maxHeartbeats 16000000 in
theorem unescape_any (s : ByteArray) (w : World) (hs : s.size ≤ 1000000000000) :
    Calls Tryz.prog 17 #[.string s] w fun e w' => e = .returned (uneV (unesc s.data.toList)) ∧ Grow w w' := by
  go_enter Tryz.func17, Tryz.ntmps17
  go_wp2_with fail
  go_loopw [4, 5] (fun bv iv wr => UneInv w s bv iv wr) (fun _ iv _ => s.size - (intOf iv).toNat)
  case atStart => exact ⟨0, [], rfl, Nat.zero_le _, Nat.le_refl _, row1_nil _ _ _, Below.refl _ _, by simp⟩
  case round =>
    obtain ⟨i, acc, rfl, hi, hal, hown, hg, hun⟩ := hrel
    have hBr := hg.size
    by_cases hlt : i < s.size
    · have hi1 : (i : Int) < (s.size : Int) := by omega
      have hi0 : (0 : Int) ≤ (i : Int) := by omega
      have hwi : IntKind.i64.wrap ((i : Int) + 1) = (i : Int) + 1 := IntWalk.i64_in _ (by omega)
      have hwi2 : IntKind.i64.wrap ((i : Int) + 2) = (i : Int) + 2 := IntWalk.i64_in _ (by omega)
      have hwi3 : IntKind.i64.wrap ((i : Int) + 2 + 1) = (i : Int) + 2 + 1 := IntWalk.i64_in _ (by omega)
      have hdr := drop_at hlt
      have hc256 : s[i].toNat < 256 := s[i].toNat_lt
      obtain ⟨ba, bc, hbv⟩ := hown.slice'
      by_cases hpc : s[i] = 37 ∧ i + 2 < s.size
      · obtain ⟨hpe, hi2⟩ := hpc
        have ht : s[i].toNat = 37 := by rw [hpe]; decide
        have f1 : ((s[i].toNat : Int) == 37) = true := by rw [ht]; rfl
        have f2 : decide ((i : Int) + 2 < (s.size : Int)) = true := by simp; omega
        have d1 := drop_at (show i + 1 < s.size by omega)
        have d2 := drop_at hi2
        rw [show i + 1 + 1 = i + 2 by omega] at d1
        rw [show i + 2 + 1 = i + 3 by omega] at d2
        rw [hdr, d1, d2, hpe, unescP_pct] at hun
        have k1 : ((i : Int) + 1).toNat = i + 1 := by omega
        have k2 : ((i : Int) + 2).toNat = i + 2 := by omega
        have l1 : (i : Int) + 1 < (s.size : Int) := by omega
        have l2 : (i : Int) + 2 < (s.size : Int) := by omega
        have l10 : (0 : Int) ≤ (i : Int) + 1 := by omega
        have l20 : (0 : Int) ≤ (i : Int) + 2 := by omega
        have n1 : i + 1 < s.size := by omega
        have C1 := Lib.hid (idx_call s[i + 1])
        have C2 := Lib.hid (idx_call s[i + 2])
        have Hg := Lib.hid hg
        have Hown := Lib.hid hown
        have Hhpe := Lib.hid hpe
        subst hbv
        clear hdr d1 d2 hg hown hpe ht hBr
        cases h1 : digV 65 s[i + 1] with
        | none =>
          have v1 : valI 65 s[i + 1] = -1 := by unfold valI; rw [h1]
          rw [v1] at C1
          rw [h1] at hun
          have hno : unesc s.data.toList = none := by unfold unesc; rw [hun]; rfl
          have Hno := Lib.hid hno
          clear hun hno h1 v1
          go_wp2_with fail
          refine wp_region_pi (fun _ => True) [(0, false), (1, false), (2, false), (3, false), (5, false), (6, false), (7, false), (8, false), (4, true), (9, true), (10, false), (11, false)] (by kernel_rfl) (by kernel_rfl) (fun c a d v w h => by cases d <;> exact h) trivial ?_
          simp only [arrange, nth]
          repeat (first | (refine wpPi_quiet (v := ?_) (by rfl) (fun W hW => ?_) ?_; rotate_left; (obtain _ := hW; go_simp; with_reducible rfl); simp only [Act.put, List.setIfInBounds_toArray, List.set_cons_zero, List.set_cons_succ]) | (refine wpPi_off (by rfl) ?_; simp only [Act.put, List.setIfInBounds_toArray, List.set_cons_zero, List.set_cons_succ]))
          refine wpPi_call (by rfl) (by go_simp) (C1.out _) ?_
          rintro e w1 ⟨rfl, rfl⟩
          refine ⟨_, rfl, trivial, ?_⟩
          try simp only [Act.put, List.setIfInBounds_toArray, List.set_cons_zero, List.set_cons_succ]
          refine wpPi_call (by rfl) (by go_simp) (C2.out _) ?_
          rintro e w1 ⟨rfl, rfl⟩
          refine ⟨_, rfl, trivial, ?_⟩
          try simp only [Act.put, List.setIfInBounds_toArray, List.set_cons_zero, List.set_cons_succ]
          repeat (first | (refine wpPi_quiet (v := ?_) (by rfl) (fun W hW => ?_) ?_; rotate_left; (obtain _ := hW; go_simp; with_reducible rfl); simp only [Act.put, List.setIfInBounds_toArray, List.set_cons_zero, List.set_cons_succ]) | (refine wpPi_off (by rfl) ?_; simp only [Act.put, List.setIfInBounds_toArray, List.set_cons_zero, List.set_cons_succ]))
          refine wpPi_nil ?_
          go_wp2
          go_ret2
          exact ⟨by rw [Hno.out]; rfl, Hg.out.drew⟩
        | some x =>
          cases h2 : digV 65 s[i + 2] with
          | none =>
            have v1 : valI 65 s[i + 1] = (x : Int) := by unfold valI; rw [h1]
            have v2 : valI 65 s[i + 2] = -1 := by unfold valI; rw [h2]
            have hx0 : decide ((x : Int) < 0) = false := by simp
            rw [v1] at C1
            rw [v2] at C2
            rw [h1, h2] at hun
            have hno : unesc s.data.toList = none := by unfold unesc; rw [hun]; rfl
            have Hno := Lib.hid hno
            clear hun hno h1 v1 v2 h2
            go_wp2_with fail
            refine wp_region_pi (fun _ => True) [(0, false), (1, false), (2, false), (3, false), (5, false), (6, false), (7, false), (8, false), (4, true), (9, true), (10, false), (11, false)] (by kernel_rfl) (by kernel_rfl) (fun c a d v w h => by cases d <;> exact h) trivial ?_
            simp only [arrange, nth]
            repeat (first | (refine wpPi_quiet (v := ?_) (by rfl) (fun W hW => ?_) ?_; rotate_left; (obtain _ := hW; go_simp; with_reducible rfl); simp only [Act.put, List.setIfInBounds_toArray, List.set_cons_zero, List.set_cons_succ]) | (refine wpPi_off (by rfl) ?_; simp only [Act.put, List.setIfInBounds_toArray, List.set_cons_zero, List.set_cons_succ]))
            refine wpPi_call (by rfl) (by go_simp) (C1.out _) ?_
            rintro e w1 ⟨rfl, rfl⟩
            refine ⟨_, rfl, trivial, ?_⟩
            try simp only [Act.put, List.setIfInBounds_toArray, List.set_cons_zero, List.set_cons_succ]
            refine wpPi_call (by rfl) (by go_simp) (C2.out _) ?_
            rintro e w1 ⟨rfl, rfl⟩
            refine ⟨_, rfl, trivial, ?_⟩
            try simp only [Act.put, List.setIfInBounds_toArray, List.set_cons_zero, List.set_cons_succ]
            repeat (first | (refine wpPi_quiet (v := ?_) (by rfl) (fun W hW => ?_) ?_; rotate_left; (obtain _ := hW; go_simp; with_reducible rfl); simp only [Act.put, List.setIfInBounds_toArray, List.set_cons_zero, List.set_cons_succ]) | (refine wpPi_off (by rfl) ?_; simp only [Act.put, List.setIfInBounds_toArray, List.set_cons_zero, List.set_cons_succ]))
            refine wpPi_nil ?_
            go_wp2
            go_ret2
            exact ⟨by rw [Hno.out]; rfl, Hg.out.drew⟩
          | some y =>
            have v1 : valI 65 s[i + 1] = (x : Int) := by unfold valI; rw [h1]
            have v2 : valI 65 s[i + 2] = (y : Int) := by unfold valI; rw [h2]
            have hx16 := (digN_digV h1).1
            have hy16 := (digN_digV h2).1
            have hx0 : decide ((x : Int) < 0) = false := by simp
            have hy0 : decide ((y : Int) < 0) = false := by simp
            have g1 : IntKind.i64.wrap (16 * (x : Int)) = 16 * (x : Int) := IntWalk.i64_in _ (by omega)
            have g2 : IntKind.i64.wrap (16 * (x : Int) + (y : Int)) = 16 * (x : Int) + (y : Int) := IntWalk.i64_in _ (by omega)
            have g3 : IntKind.u8.wrap (16 * (x : Int) + (y : Int)) = 16 * (x : Int) + (y : Int) := IntWalk.u8_in _ (by omega)
            have hxy : (UInt8.ofNat (16 * x + y)).toNat = 16 * x + y := UInt8.toNat_ofNat_of_lt' (by simp [UInt8.size]; omega)
            rw [v1] at C1
            rw [v2] at C2
            rw [h1, h2] at hun
            simp only at hun
            rw [map_app] at hun
            obtain ⟨v', w', q1, q2, q3⟩ := append_built (w := wr.drew) (n := 1) (arr := #[.int .u8 (16 * (x : Int) + (y : Int))]) (p := [UInt8.ofNat (16 * x + y)]) (Hown.out.grow (Grow.drew wr)) (by simp only [bcells, List.map_cons, List.map_nil, hxy]; simp) rfl (by simp) Hg.out.size (by simp; omega)
            have Hrel : Hid (UneInv w s v' (.int .i64 ((i : Int) + 2 + 1)) w') := Lib.hid ⟨i + 3, acc ++ [UInt8.ofNat (16 * x + y)], by simp; omega, by omega, by simp; omega, q2, Below.trans (Hg.out.drew) q3, hun⟩
            have Hrun := Lib.hid q1
            have Hx := Lib.hid (And.intro hx16 hy16)
            clear hun h1 v1 v2 h2 q1 q2 q3 hxy hx16 hy16 hal
            go_wp2_with fail
            refine wp_region_pi (fun _ => True) [(0, false), (1, false), (2, false), (3, false), (5, false), (6, false), (7, false), (8, false), (4, true), (9, true), (10, false), (11, false)] (by kernel_rfl) (by kernel_rfl) (fun c a d v w h => by cases d <;> exact h) trivial ?_
            simp only [arrange, nth]
            repeat (first | (refine wpPi_quiet (v := ?_) (by rfl) (fun W hW => ?_) ?_; rotate_left; (obtain _ := hW; go_simp; with_reducible rfl); simp only [Act.put, List.setIfInBounds_toArray, List.set_cons_zero, List.set_cons_succ]) | (refine wpPi_off (by rfl) ?_; simp only [Act.put, List.setIfInBounds_toArray, List.set_cons_zero, List.set_cons_succ]))
            refine wpPi_call (by rfl) (by go_simp) (C1.out _) ?_
            rintro e w1 ⟨rfl, rfl⟩
            refine ⟨_, rfl, trivial, ?_⟩
            try simp only [Act.put, List.setIfInBounds_toArray, List.set_cons_zero, List.set_cons_succ]
            refine wpPi_call (by rfl) (by go_simp) (C2.out _) ?_
            rintro e w1 ⟨rfl, rfl⟩
            refine ⟨_, rfl, trivial, ?_⟩
            try simp only [Act.put, List.setIfInBounds_toArray, List.set_cons_zero, List.set_cons_succ]
            repeat (first | (refine wpPi_quiet (v := ?_) (by rfl) (fun W hW => ?_) ?_; rotate_left; (obtain _ := hW; go_simp; with_reducible rfl); simp only [Act.put, List.setIfInBounds_toArray, List.set_cons_zero, List.set_cons_succ]) | (refine wpPi_off (by rfl) ?_; simp only [Act.put, List.setIfInBounds_toArray, List.set_cons_zero, List.set_cons_succ]))
            refine wpPi_nil ?_
            go_wp2_with (at_builtin; refine wpList_append rfl rfl rfl rfl Hrun.out ?_)
            go_roundw
            case rel => exact Hrel.out
            case measure => simp [intOf]; omega
      · have hstep : unescP (s[i] :: s.data.toList.drop (i + 1)) = (unescP (s.data.toList.drop (i + 1))).map (s[i] :: ·) := by
          by_cases hp : s[i] = 37
          · have hlen : (s.data.toList.drop (i + 1)).length ≤ 1 := by
              rw [List.length_drop, Array.length_toList]
              have : ¬ i + 2 < s.size := fun h => hpc ⟨hp, h⟩
              show s.size - (i + 1) ≤ 1
              omega
            exact unescP_short hlen
          · exact unescP_cons hp _
        rw [hdr, hstep, map_app] at hun
        obtain ⟨v', w', q1, q2, q3⟩ := append_built (n := 1) (arr := #[.int .u8 s[i].toNat]) (p := [s[i]]) hown rfl rfl (by simp) hBr (by simp; omega)
        have Hrel : Hid (UneInv w s v' (.int .i64 ((i : Int) + 1)) w') := Lib.hid ⟨i + 1, acc ++ [s[i]], by simp, hlt, by simp; omega, q2, Below.trans hg q3, hun⟩
        have Hrun := Lib.hid q1
        have e1 : ((s[i].toNat : Int) == 37) = false ∨ (((s[i].toNat : Int) == 37) = true ∧ decide ((i : Int) + 2 < (s.size : Int)) = false) := by
          by_cases hp : s[i] = 37
          · right
            refine ⟨by rw [hp]; rfl, ?_⟩
            have : ¬ i + 2 < s.size := fun h => hpc ⟨hp, h⟩
            simp; omega
          · left
            cases hb : ((s[i].toNat : Int) == 37) with
            | false => rfl
            | true =>
              have h1 : s[i].toNat = 37 := by have := eq_of_beq hb; omega
              exact absurd (UInt8.toNat_inj.1 (h1.trans (by decide : 37 = (37 : UInt8).toNat))) hp
        subst hbv
        clear hun hstep hpc q1 q2 q3 hown hg hdr hBr hal
        rcases e1 with e1 | ⟨e1, e2⟩
        all_goals
          go_wp2_with (at_builtin; refine wpList_append rfl rfl rfl rfl Hrun.out ?_)
          go_roundw
          case rel => exact Hrel.out
          case measure => simp [intOf]; omega
    · obtain rfl : i = s.size := by omega
      have hnil : s.data.toList.drop s.size = [] := List.drop_of_length_le (by rw [Array.length_toList]; exact Nat.le_refl _)
      rw [hnil] at hun
      have hun' : unescP s.data.toList = some acc := by rw [hun]; simp [unescP]
      have hu : unesc s.data.toList = if esc acc = s.data.toList then some acc else none := by unfold unesc; rw [hun']
      have hconv := fun W (hW : Grow wr W) => run_text ((ownB_bv hown).grow hW)
      have HE := Lib.hid (escape_any ⟨acc.toArray⟩ wr (by show acc.length ≤ _; omega))
      have hc0 := hconv wr (Grow.refl _)
      have Hconv := Lib.hid hconv
      obtain ⟨ba, bc, rfl⟩ := hown.slice'
      have Hg := Lib.hid hg
      clear hg hown hnil hun hun' hconv
      have hsl : s.toList = s.data.toList := ByteArray.toList_eq ..
      by_cases heq : esc acc = s.data.toList
      · have Hno : Hid (unesc s.data.toList = some acc) := Lib.hid (by rw [hu, if_pos heq])
        have hne : (esc acc == s.toList) = true := by rw [hsl]; simp [heq]
        have hne2 : (esc acc != s.toList) = false := by rw [bne, hne]; rfl
        clear hu heq hsl
        go_wp2_with fail
        (with_reducible refine HE.out.mono ?_)
        rintro e w1 ⟨rfl, hg1⟩
        have hc1 := Hconv.out w1 hg1
        have Hg1 := Lib.hid (Below.trans Hg.out (hg1.mono Hg.out.size))
        clear hg1 hc0
        go_wp2
        go_ret2
        exact ⟨by rw [Hno.out]; rfl, Hg1.out⟩
      · have Hno : Hid (unesc s.data.toList = none) := Lib.hid (by rw [hu, if_neg heq])
        have hne : (esc acc == s.toList) = false := by rw [hsl]; simp [heq]
        have hne2 : (esc acc != s.toList) = true := by rw [bne, hne]; rfl
        clear hu heq hsl
        go_wp2_with fail
        (with_reducible refine HE.out.mono ?_)
        rintro e w1 ⟨rfl, hg1⟩
        have Hg1 := Lib.hid (Below.trans Hg.out (hg1.mono Hg.out.size))
        clear hg1 hc0
        go_wp2
        go_ret2
        exact ⟨by rw [Hno.out]; rfl, Hg1.out⟩
end Go.Proofs.YtdegmpimcappjaaGreatDoor

/- The document's Unescape. -/
namespace Go.Proofs.YtdegmpimcappjaaGreatDoor
open Go.RowKit Go.Gl Go.Front

theorem unescR_short : ∀ {r : List UInt8}, r.length ≤ 1 → unescR (37 :: r) = none
  | [], _ => rfl
  | [_], _ => rfl
  | _ :: _ :: _, h => by simp at h

theorem unescR_pct {a b : UInt8} {r : List UInt8} : unescR (37 :: a :: b :: r) = match digV 65 a, digV 65 b with
      | some x, some y => (unescR r).map (UInt8.ofNat (16 * x + y) :: ·)
      | _, _ => none := by
  rw [unescR, if_pos rfl]
  cases digV 65 a <;> cases digV 65 b <;> rfl

def UnrInv (w : World) (s : ByteArray) (bv iv : Value) (wr : World) : Prop :=
  ∃ (i : Nat) (acc : List UInt8), iv = .int .i64 i ∧ i ≤ s.size ∧ acc.length ≤ i ∧ OwnB w.heap.size wr bv acc ∧ Below w.heap.size w wr ∧ unescR s.data.toList = (unescR (s.data.toList.drop i)).map (acc ++ ·)

theorem unesc_none {l : List UInt8} (h : unescR l = none) : unesc l = none := by rw [← unescR_same, h]

theorem byte_eq {c d : UInt8} (h : c.toNat = d.toNat) : c = d := UInt8.toNat_inj.1 h

set_option maxRecDepth 100000 in
set_option maxHeartbeats 16000000 in
theorem unescapeR_any (s : ByteArray) (w : World) (hs : s.size ≤ 1000000000000) :
    Calls Tryz.prog 18 #[.string s] w fun e w' => e = .returned (uneV (unesc s.data.toList)) ∧ Grow w w' := by
  go_enter Tryz.func18, Tryz.ntmps18
  go_wp2_with fail
  go_loopw [4, 5] (fun bv iv wr => UnrInv w s bv iv wr) (fun _ iv _ => s.size - (intOf iv).toNat)
  case atStart => exact ⟨0, [], rfl, Nat.zero_le _, Nat.le_refl _, row1_nil _ _ _, Below.refl _ _, by simp⟩
  case round =>
    obtain ⟨i, acc, rfl, hi, hal, hown, hg, hun⟩ := hrel
    have hBr := hg.size
    by_cases hlt : i < s.size
    · have hi1 : (i : Int) < (s.size : Int) := by omega
      have hi0 : (0 : Int) ≤ (i : Int) := by omega
      have hwi : IntKind.i64.wrap ((i : Int) + 1) = (i : Int) + 1 := IntWalk.i64_in _ (by omega)
      have hwi2 : IntKind.i64.wrap ((i : Int) + 2) = (i : Int) + 2 := IntWalk.i64_in _ (by omega)
      have hwi3 : IntKind.i64.wrap ((i : Int) + 3) = (i : Int) + 3 := IntWalk.i64_in _ (by omega)
      have hdr := drop_at hlt
      have hc256 : s[i].toNat < 256 := s[i].toNat_lt
      obtain ⟨ba, bc, hbv⟩ := hown.slice'
      by_cases hpe : s[i] = 37
      · have ht : s[i].toNat = 37 := by rw [hpe]; decide
        have f1 : ((s[i].toNat : Int) == 37) = true := by rw [ht]; rfl
        have f1n : ((s[i].toNat : Int) != 37) = false := by rw [bne, f1]; rfl
        by_cases hi2 : i + 2 < s.size
        · have f2 : decide ((s.size : Int) ≤ (i : Int) + 2) = false := by simp; omega
          have d1 := drop_at (show i + 1 < s.size by omega)
          have d2 := drop_at hi2
          rw [show i + 1 + 1 = i + 2 by omega] at d1
          rw [show i + 2 + 1 = i + 3 by omega] at d2
          rw [hdr, d1, d2, hpe, unescR_pct] at hun
          have k1 : ((i : Int) + 1).toNat = i + 1 := by omega
          have k2 : ((i : Int) + 2).toNat = i + 2 := by omega
          have l1 : (i : Int) + 1 < (s.size : Int) := by omega
          have l2 : (i : Int) + 2 < (s.size : Int) := by omega
          have l10 : (0 : Int) ≤ (i : Int) + 1 := by omega
          have l20 : (0 : Int) ≤ (i : Int) + 2 := by omega
          have n1 : i + 1 < s.size := by omega
          have C1 := Lib.hid (value_any65 s[i + 1])
          have C2 := Lib.hid (value_any65 s[i + 2])
          have Hg := Lib.hid hg
          have Hown := Lib.hid hown
          subst hbv
          clear hdr d1 d2 hg hown hpe ht hBr
          cases h1 : digV 65 s[i + 1] with
          | none =>
            have v1 : valI 65 s[i + 1] = -1 := by unfold valI; rw [h1]
            rw [v1] at C1
            rw [h1] at hun
            have Hno : Hid (unesc s.data.toList = none) := Lib.hid (unesc_none (by rw [hun]; rfl))
            clear hun h1 v1
            go_wp2_with ((with_reducible refine (C1.out _).mono ?_); rintro e w1 ⟨rfl, hw1⟩; have hw2 := hw1.symm; subst hw2; clear hw1)
            go_ret2
            exact ⟨by rw [Hno.out]; rfl, Hg.out⟩
          | some x =>
            have v1 : valI 65 s[i + 1] = (x : Int) := by unfold valI; rw [h1]
            have hx0 : decide ((x : Int) < 0) = false := by simp
            have hx16 := (digN_digV h1).1
            rw [v1] at C1
            cases h2 : digV 65 s[i + 2] with
            | none =>
              have v2 : valI 65 s[i + 2] = -1 := by unfold valI; rw [h2]
              rw [v2] at C2
              rw [h1, h2] at hun
              have Hno : Hid (unesc s.data.toList = none) := Lib.hid (unesc_none (by rw [hun]; rfl))
              clear hun h1 v1 v2 h2 hx16
              go_wp2_with fail
              (with_reducible refine (C1.out _).mono ?_)
              rintro e w1 ⟨rfl, hw1⟩
              have hw2 := hw1.symm
              subst hw2
              clear hw1
              go_wp2_with fail
              (with_reducible refine (C2.out _).mono ?_)
              rintro e w1 ⟨rfl, hw1⟩
              have hw2 := hw1.symm
              subst hw2
              clear hw1
              go_wp2
              go_ret2
              exact ⟨by rw [Hno.out]; rfl, Hg.out⟩
            | some y =>
              have v2 : valI 65 s[i + 2] = (y : Int) := by unfold valI; rw [h2]
              have hy16 := (digN_digV h2).1
              have hy0 : decide ((y : Int) < 0) = false := by simp
              have g1 : IntKind.i64.wrap (16 * (x : Int)) = 16 * (x : Int) := IntWalk.i64_in _ (by omega)
              have g2 : IntKind.i64.wrap (16 * (x : Int) + (y : Int)) = 16 * (x : Int) + (y : Int) := IntWalk.i64_in _ (by omega)
              have g3 : IntKind.u8.wrap (16 * (x : Int) + (y : Int)) = 16 * (x : Int) + (y : Int) := IntWalk.u8_in _ (by omega)
              have hxy : (UInt8.ofNat (16 * x + y)).toNat = 16 * x + y := UInt8.toNat_ofNat_of_lt' (by simp [UInt8.size]; omega)
              rw [v2] at C2
              rw [h1, h2] at hun
              simp only at hun
              rw [map_app] at hun
              obtain ⟨v', w', q1, q2, q3⟩ := append_built (w := wr.drew) (n := 1) (arr := #[.int .u8 (16 * (x : Int) + (y : Int))]) (p := [UInt8.ofNat (16 * x + y)]) (Hown.out.grow (Grow.drew wr)) (by simp only [bcells, List.map_cons, List.map_nil, hxy]; simp) rfl (by simp) Hg.out.size (by simp; omega)
              have Hrel : Hid (UnrInv w s v' (.int .i64 ((i : Int) + 3)) w') := Lib.hid ⟨i + 3, acc ++ [UInt8.ofNat (16 * x + y)], by simp, by omega, by simp; omega, q2, Below.trans (Hg.out.drew) q3, hun⟩
              have Hrun := Lib.hid q1
              have Hx := Lib.hid (And.intro hx16 hy16)
              clear hun h1 v1 v2 h2 q1 q2 q3 hxy hx16 hy16 hal
              go_wp2_with fail
              (with_reducible refine (C1.out _).mono ?_)
              rintro e w1 ⟨rfl, hw1⟩
              have hw2 := hw1.symm
              subst hw2
              clear hw1
              go_wp2_with fail
              (with_reducible refine (C2.out _).mono ?_)
              rintro e w1 ⟨rfl, hw1⟩
              have hw2 := hw1.symm
              subst hw2
              clear hw1
              go_wp2_with fail
              refine wp_region_pi (fun _ => True) [(0, false), (1, false), (2, false), (3, false), (4, false), (7, false), (8, false), (9, false), (10, false), (5, true), (6, false), (11, true), (12, false), (13, false), (14, true), (15, true), (16, false)] (by kernel_rfl) (by kernel_rfl) (fun c a d v w h => by cases d <;> exact h) trivial ?_
              simp only [arrange, nth]
              repeat (first | (refine wpPi_quiet (v := ?_) (by rfl) (fun W hW => ?_) ?_; rotate_left; (obtain _ := hW; go_simp; with_reducible rfl); simp only [Act.put, List.setIfInBounds_toArray, List.set_cons_zero, List.set_cons_succ]) | (refine wpPi_off (by rfl) ?_; simp only [Act.put, List.setIfInBounds_toArray, List.set_cons_zero, List.set_cons_succ]))
              refine wpPi_call (by rfl) (by go_simp) (C1.out _) ?_
              rintro e w1 ⟨rfl, rfl⟩
              refine ⟨_, rfl, trivial, ?_⟩
              try simp only [Act.put, List.setIfInBounds_toArray, List.set_cons_zero, List.set_cons_succ]
              repeat (first | (refine wpPi_quiet (v := ?_) (by rfl) (fun W hW => ?_) ?_; rotate_left; (obtain _ := hW; go_simp; with_reducible rfl); simp only [Act.put, List.setIfInBounds_toArray, List.set_cons_zero, List.set_cons_succ]) | (refine wpPi_off (by rfl) ?_; simp only [Act.put, List.setIfInBounds_toArray, List.set_cons_zero, List.set_cons_succ]))
              refine wpPi_call (by rfl) (by go_simp) (C2.out _) ?_
              rintro e w1 ⟨rfl, rfl⟩
              refine ⟨_, rfl, trivial, ?_⟩
              try simp only [Act.put, List.setIfInBounds_toArray, List.set_cons_zero, List.set_cons_succ]
              repeat (first | (refine wpPi_quiet (v := ?_) (by rfl) (fun W hW => ?_) ?_; rotate_left; (obtain _ := hW; go_simp; with_reducible rfl); simp only [Act.put, List.setIfInBounds_toArray, List.set_cons_zero, List.set_cons_succ]) | (refine wpPi_off (by rfl) ?_; simp only [Act.put, List.setIfInBounds_toArray, List.set_cons_zero, List.set_cons_succ]))
              refine wpPi_act (by rfl) (fun K hK => ?_)
              go_simp
              refine hK _ _ ⟨trivial, ?_⟩
              clear hK K
              try simp only [Act.put, List.setIfInBounds_toArray, List.set_cons_zero, List.set_cons_succ]
              refine wpPi_run (by rfl) (execOp_append rfl rfl rfl Hrun.out) trivial ?_
              try simp only [Act.put, List.setIfInBounds_toArray, List.set_cons_zero, List.set_cons_succ]
              repeat (first | (refine wpPi_quiet (v := ?_) (by rfl) (fun W hW => ?_) ?_; rotate_left; (obtain _ := hW; go_simp; with_reducible rfl); simp only [Act.put, List.setIfInBounds_toArray, List.set_cons_zero, List.set_cons_succ]) | (refine wpPi_off (by rfl) ?_; simp only [Act.put, List.setIfInBounds_toArray, List.set_cons_zero, List.set_cons_succ]))
              refine wpPi_nil ?_
              go_wp2
              go_roundw
              case rel => exact Hrel.out
              case measure => simp [intOf]; omega
        · have f2 : decide ((s.size : Int) ≤ (i : Int) + 2) = true := by simp; omega
          have hlen : (s.data.toList.drop (i + 1)).length ≤ 1 := by
            rw [List.length_drop, Array.length_toList]
            show s.size - (i + 1) ≤ 1
            omega
          rw [hdr, hpe, unescR_short hlen] at hun
          have Hno : Hid (unesc s.data.toList = none) := Lib.hid (unesc_none (by rw [hun]; rfl))
          have Hg := Lib.hid hg
          subst hbv
          clear hun hdr hg hown hpe ht hBr hlen hal
          go_wp2
          go_ret2
          exact ⟨by rw [Hno.out]; rfl, Hg.out⟩
      · rw [hdr, unescR_cons hpe, map_app] at hun
        obtain ⟨v', w', q1, q2, q3⟩ := append_built (n := 1) (arr := #[.int .u8 s[i].toNat]) (p := [s[i]]) hown rfl rfl (by simp) hBr (by simp; omega)
        have Hrel : Hid (UnrInv w s v' (.int .i64 ((i : Int) + 1)) w') := Lib.hid ⟨i + 1, acc ++ [s[i]], by simp, hlt, by simp; omega, q2, Below.trans hg q3, hun⟩
        have Hrun := Lib.hid q1
        have e1 : ((s[i].toNat : Int) == 37) = false := by
          cases hb : ((s[i].toNat : Int) == 37) with
          | false => rfl
          | true =>
            have h1 : s[i].toNat = 37 := by have := eq_of_beq hb; omega
            exact absurd (byte_eq (d := 37) h1) hpe
        have e2 : ((s[i].toNat : Int) != 37) = true := by rw [bne, e1]; rfl
        subst hbv
        clear hun q1 q2 q3 hown hg hdr hBr hal hpe
        go_wp2_with (at_builtin; refine wpList_append rfl rfl rfl rfl Hrun.out ?_)
        go_roundw
        case rel => exact Hrel.out
        case measure => simp [intOf]; omega
    · obtain rfl : i = s.size := by omega
      have hnil : s.data.toList.drop s.size = [] := List.drop_of_length_le (by rw [Array.length_toList]; exact Nat.le_refl _)
      rw [hnil] at hun
      have hun' : unescR s.data.toList = some acc := by rw [hun]; simp [unescR]
      have hu : unesc s.data.toList = if esc acc = s.data.toList then some acc else none := by rw [← unescR_same, hun']
      have hc0 := run_text (ownB_bv hown)
      have HE := Lib.hid (escapeR_any ⟨acc.toArray⟩ wr (by show acc.length ≤ _; omega))
      obtain ⟨ba, bc, rfl⟩ := hown.slice'
      have Hg := Lib.hid hg
      clear hg hown hnil hun hun'
      have hsl : s.toList = s.data.toList := ByteArray.toList_eq ..
      by_cases heq : esc acc = s.data.toList
      · have Hno : Hid (unesc s.data.toList = some acc) := Lib.hid (by rw [hu, if_pos heq])
        have hne : (esc acc == s.toList) = true := by rw [hsl]; simp [heq]
        have hne2 : (esc acc != s.toList) = false := by rw [bne, hne]; rfl
        clear hu heq hsl
        go_wp2_with fail
        (with_reducible refine HE.out.mono ?_)
        rintro e w1 ⟨rfl, hg1⟩
        have Hg1 := Lib.hid (Below.trans Hg.out (hg1.mono Hg.out.size))
        clear hg1 hc0
        go_wp2
        go_ret2
        exact ⟨by rw [Hno.out]; rfl, Hg1.out⟩
      · have Hno : Hid (unesc s.data.toList = none) := Lib.hid (by rw [hu, if_neg heq])
        have hne : (esc acc == s.toList) = false := by rw [hsl]; simp [heq]
        have hne2 : (esc acc != s.toList) = true := by rw [bne, hne]; rfl
        clear hu heq hsl
        go_wp2_with fail
        (with_reducible refine HE.out.mono ?_)
        rintro e w1 ⟨rfl, hg1⟩
        have Hg1 := Lib.hid (Below.trans Hg.out (hg1.mono Hg.out.size))
        clear hg1 hc0
        go_wp2
        go_ret2
        exact ⟨by rw [Hno.out]; rfl, Hg1.out⟩
end Go.Proofs.YtdegmpimcappjaaGreatDoor

/- The document's Hex, Decimal, numbers. -/
namespace Go.Proofs.YtdegmpimcappjaaGreatDoor
open Go.RowKit Go.Gl Go.Front

def HexInv (w : World) (u : Nat) (bv iv : Value) (wr : World) : Prop :=
  ∃ (k : Nat) (pre : List UInt8), k ≤ 16 ∧ iv = .int .i64 (4 * (k : Int) - 4) ∧ pre.length + k = 16 ∧ hex16 u = pre ++ hexF k u ∧ OwnB w.heap.size wr bv pre ∧ Below w.heap.size w wr

set_option maxRecDepth 100000 in
set_option maxHeartbeats 8000000 in
theorem hex_any (u : Nat) (hu : u < 18446744073709551616) (w : World) :
    Calls Tryz.prog 58 #[.int .u64 u] w fun e w' => e = .returned (.string ⟨(hex16 u).toArray⟩) ∧ Grow w w' := by
  go_enter Tryz.func58, Tryz.ntmps58
  go_wp2_with fail
  go_loopw [3, 4] (fun bv iv wr => HexInv w u bv iv wr) (fun _ iv _ => (intOf iv + 4).toNat)
  case atStart => exact ⟨16, [], Nat.le_refl _, rfl, rfl, rfl, row1_nil _ _ _, Below.refl _ _⟩
  case round =>
    obtain ⟨k, pre, hk, rfl, hpl, hhex, hown, hg⟩ := hrel
    have hBr := hg.size
    obtain ⟨ba, bc, hbv⟩ := hown.slice'
    cases k with
    | zero =>
      have hpre : hex16 u = pre := by rw [hhex]; simp [hexF]
      have f1 : decide ((0 : Int) ≤ 4 * ((0 : Nat) : Int) - 4) = false := by decide
      have hconv := run_text (ownB_bv hown)
      have Hp := Lib.hid hpre
      have Hg := Lib.hid hg
      subst hbv
      clear hpre hhex hown hg hpl
      go_wp2
      go_ret
      exact ⟨by rw [Hp.out]; rfl, Hg.out⟩
    | succ k =>
      rw [hexF_split] at hhex
      have e1 : (4 * ((k + 1 : Nat) : Int) - 4) = 4 * (k : Int) := by omega
      have hd : u / 16 ^ k % 16 < 16 := Nat.mod_lt _ (by decide)
      have hdiv : u / 16 ^ k < 18446744073709551616 := Nat.lt_of_le_of_lt (Nat.div_le_self _ _) hu
      have hx : bits BinOp.and IntKind.u64 ((u : Int) / 2 ^ (4 * k)) 15 % 256 = ((u / 16 ^ k % 16 : Nat) : Int) := by
        have h1 : (u : Int) / 2 ^ (4 * k) = ((u / 16 ^ k : Nat) : Int) := by
          rw [show (16 : Nat) ^ k = 2 ^ (4 * k) by rw [Nat.pow_mul]]
          simp
        have h2 : bits BinOp.and IntKind.u64 ((u / 16 ^ k : Nat) : Int) 15 = ((u / 16 ^ k &&& 15 : Nat) : Int) := u64_and_nat (u / 16 ^ k) 15 hdiv (by decide)
        have h3 : u / 16 ^ k &&& 15 = u / 16 ^ k % 16 := Nat.and_two_pow_sub_one_eq_mod (u / 16 ^ k) 4
        rw [h1, h2, h3]
        omega
      have HC := Lib.hid (fun W => digit_call (t := 97) (d := u / 16 ^ k % 16) (y := 97) (.inr rfl) hd hx rfl W)
      obtain ⟨v', w', q1, q2, q3⟩ := append_built (n := 1) (arr := #[.int .u8 (digN 97 (u / 16 ^ k % 16)).toNat]) (p := [digN 97 (u / 16 ^ k % 16)]) hown rfl rfl (by simp) hBr (by simp; omega)
      have hw4 : IntKind.i64.wrap (4 * (k : Int) - 4) = 4 * (k : Int) - 4 := IntWalk.i64_in _ (by omega)
      have Hrel : Hid (HexInv w u v' (.int .i64 (4 * (k : Int) - 4)) w') := Lib.hid ⟨k, pre ++ [digN 97 (u / 16 ^ k % 16)], by omega, rfl, by simp; omega, by rw [hhex]; simp, q2, Below.trans hg q3⟩
      have Hrun := Lib.hid q1
      rw [e1]
      have f1 : decide ((0 : Int) ≤ 4 * (k : Int)) = true := by simp; omega
      subst hbv
      clear q1 q2 q3 hx hhex hown hg hd hdiv hBr e1 hpl
      go_wp2_with fail
      (with_reducible refine (HC.out wr).mono ?_)
      rintro e w1 ⟨rfl, hw1⟩
      have hw2 := hw1.symm
      subst hw2
      clear hw1
      go_wp2_with (at_builtin; refine wpList_append rfl rfl rfl rfl Hrun.out ?_)
      go_roundw
      case rel => exact Hrel.out
      case measure => simp [intOf]; omega

/-- The value reads as the numbers l. -/
def Iv (w : World) (v : Value) (l : List Int) : Prop :=
  ∃ a c, v = .slice a l.length c ∧ (l = [] ∨ ∃ b o, a = some ⟨b, o, none⟩ ∧ b < w.heap.size ∧ ∀ (j : Nat) (k : Int), l[j]? = some k → w.cell? ⟨b, o + j, none⟩ = some (.int .i64 k))

theorem Iv.grow {w w' : World} {v : Value} {l : List Int} (h : Iv w v l) (hg : Grow w w') : Iv w' v l := by
  obtain ⟨a, c, hv, h⟩ := h
  refine ⟨a, c, hv, ?_⟩
  rcases h with h | ⟨b, o, ha, hb, hc⟩
  · exact .inl h
  · refine .inr ⟨b, o, ha, Nat.lt_of_lt_of_le hb hg.size, fun j k hk => ?_⟩
    rw [Grow.cells _ _ _ hg hb]; exact hc j k hk

/-- A number's last digit. -/
def digC (m : Nat) : UInt8 := UInt8.ofNat (48 + m % 10)

def DecInv (w : World) (n : Nat) (nv sv : Value) (wr : World) : Prop :=
  ∃ (m : Nat) (rest : List UInt8), nv = .int .i64 m ∧ m < 10000000000000 ∧ sv = .string ⟨(digC m :: rest).toArray⟩ ∧ decF n = decF m ++ rest ∧ Grow w wr

theorem dig_nat (m : Nat) : (digC m).toNat = 48 + m % 10 := by unfold digC; exact UInt8.toNat_ofNat_of_lt' (by simp [UInt8.size]; omega)

theorem digit_conv (w : World) (m : Nat) : (convert 24 9 (.slice (some ⟨w.heap.size, 0, none⟩) 1 1)).run Tryz.prog (w.alloc (.cells #[.int .u8 (48 + (m : Int) % 10)] 5)) = .ok (.string ⟨#[digC m]⟩) (w.alloc (.cells #[.int .u8 (48 + (m : Int) % 10)] 5)) := by
  have h := bv_built (w := w) (l := [digC m]) (arr := #[.int .u8 (48 + (m : Int) % 10)]) (by simp only [bcells, List.map_cons, List.map_nil, dig_nat]; simp) (by simp)
  exact run_text h

theorem decF_ten {m : Nat} (h : 10 ≤ m) : decF m = decF (m / 10) ++ [digC m] := by
  show Lib.decDigits m = _
  rw [Lib.decDigits, dif_neg (by omega)]
  rfl
theorem decF_one {m : Nat} (h : m < 10) : decF m = [UInt8.ofNat (48 + m)] := by
  show Lib.decDigits m = _
  rw [Lib.decDigits, dif_pos h]

theorem add_dig (x : UInt8) (l : List UInt8) : (⟨#[x]⟩ : ByteArray) ++ ⟨l.toArray⟩ = ⟨(x :: l).toArray⟩ := ba_append [x] l

set_option maxRecDepth 100000 in
set_option maxHeartbeats 8000000 in
theorem decimal_any (n : Nat) (hn : n < 10000000000000) (w : World) :
    Calls Tryz.prog 38 #[.int .i64 n] w fun e w' => e = .returned (.string ⟨(decF n).toArray⟩) ∧ Grow w w' := by
  have hc0 := digit_conv w n
  have hst : DecInv w n (.int .i64 n) (.string ⟨#[digC n]⟩) (w.alloc (.cells #[.int .u8 (48 + (n : Int) % 10)] 5)) := ⟨n, [], rfl, hn, rfl, by simp, Grow.alloc _ _⟩
  have Hst := Lib.hid hst
  have hdl := decF_len 12 n (by omega)
  clear hst
  go_enter Tryz.func38, Tryz.ntmps38
  go_wp2_with fail
  clear hc0
  go_loopw [0, 3] (fun nv sv wr => DecInv w n nv sv wr) (fun nv _ _ => (intOf nv).toNat)
  case atStart => exact Hst.out
  case round =>
    clear Hst
    obtain ⟨m, rest, rfl, hm, rfl, hdec, hg⟩ := hrel
    by_cases hlt : 10 ≤ m
    · have f1 : decide ((10 : Int) ≤ (m : Int)) = true := by simp; omega
      have hc1 := digit_conv wr (m / 10)
      rw [show ((m / 10 : Nat) : Int) = (m : Int) / 10 by omega] at hc1
      rw [decF_ten hlt] at hdec
      have hrl : rest.length + 1 ≤ 13 := by
        have := congrArg List.length hdec
        simp at this
        omega
      have hl63 : (rest.length : Int) + 1 + 1 ≤ 9223372036854775807 := by omega
      have Hrel : Hid (DecInv w n (.int .i64 ((m : Int) / 10)) (.string ⟨(digC (m / 10) :: digC m :: rest).toArray⟩) (wr.alloc (.cells #[.int .u8 (48 + (m : Int) / 10 % 10)] 5))) := Lib.hid ⟨m / 10, digC m :: rest, by simp, by omega, rfl, by rw [hdec]; simp, hg.trans (Grow.alloc _ _)⟩
      have Ha := Lib.hid (add_dig (digC (m / 10)) (digC m :: rest))
      have hadd := fun W => run_addS (t := 9) (a := [digC (m / 10)]) (b := digC m :: rest) (w := W) (by simp; omega)
      clear hdec hg hrl
      go_wp2_with fail
      exact ⟨by rw [Ha.out]; exact Hrel.out, by simp [intOf]; omega⟩
    · have f1 : decide ((10 : Int) ≤ (m : Int)) = false := by simp; omega
      have Hd : Hid (decF n = digC m :: rest) := Lib.hid (by rw [hdec, decF_one (by omega), digC, show m % 10 = m by omega]; rfl)
      have Hg := Lib.hid hg
      clear hdec hg
      go_wp2
      go_ret
      exact ⟨by rw [Hd.out]; rfl, Hg.out⟩
end Go.Proofs.YtdegmpimcappjaaGreatDoor

/- The document's numbers; hexed. -/
namespace Go.Proofs.YtdegmpimcappjaaGreatDoor
open Go.RowKit Go.Gl Go.Front

theorem decimalI {n : Int} (h0 : 0 ≤ n) (h1 : n < 10000000000000) (w : World) : Calls Tryz.prog 38 #[.int .i64 n] w fun e w' => e = .returned (.string ⟨(decF n.toNat).toArray⟩) ∧ Grow w w' := by
  have := decimal_any n.toNat (by omega) w
  rw [show ((n.toNat : Nat) : Int) = n by omega] at this
  exact this

theorem commas_snoc : ∀ (m : List (List UInt8)) (x : List UInt8), m ≠ [] → commas (m ++ [x]) = commas m ++ 44 :: x
  | [], _, h => absurd rfl h
  | [a], x, _ => rfl
  | a :: b :: m, x, _ => by
    have ih := commas_snoc (b :: m) x (by simp)
    have : a :: b :: m ++ [x] = a :: b :: (m ++ [x]) := rfl
    rw [this, commas_two, commas_two, show b :: (m ++ [x]) = b :: m ++ [x] from rfl, ih]
    simp

/-- Numbers in digits, with commas between. -/
def numsD (l : List Int) : List UInt8 := commas (l.map fun n => decF n.toNat)

theorem numsD_len {l : List Int} (h : ∀ n ∈ l, 0 ≤ n ∧ n < 10000000000000) : (numsD l).length ≤ l.length * 14 := by
  have := commas_le (l.map fun n => decF n.toNat) 13 (fun a ha => by
    obtain ⟨n, hn, rfl⟩ := List.mem_map.1 ha
    have := h n hn
    exact decF_len 12 _ (by omega))
  rw [List.length_map] at this
  exact this

theorem numsD_snoc {l : List Int} {i : Nat} {n : Int} (h : l[i]? = some n) : numsD (l.take (i + 1)) = (if i = 0 then [] else numsD (l.take i) ++ [44]) ++ decF n.toNat := by
  obtain ⟨hi, rfl⟩ := List.getElem?_eq_some_iff.1 h
  rw [List.take_succ_eq_append_getElem hi]
  unfold numsD
  rw [List.map_append]
  by_cases h0 : i = 0
  · subst h0
    simp [commas]
  · rw [if_neg h0, List.map_singleton, commas_snoc _ _ (fun e => h0 (by
      have := congrArg List.length e
      rw [List.length_map, List.length_take, List.length_nil] at this
      omega))]
    simp

def NumsInv (w : World) (l : List Int) (bv iv : Value) (wr : World) : Prop :=
  ∃ i : Nat, iv = .int .i64 i ∧ i ≤ l.length ∧ OwnB w.heap.size wr bv (numsD (l.take i)) ∧ Below w.heap.size w wr

set_option maxRecDepth 100000 in
set_option maxHeartbeats 8000000 in
theorem numbers_any {w : World} {v : Value} {l : List Int} (h : Iv w v l) (hl : l.length ≤ 100000) (hb : ∀ n ∈ l, 0 ≤ n ∧ n < 10000000000000) :
    Calls Tryz.prog 98 #[v] w fun e w' => e = .returned (.string ⟨(numsD l).toArray⟩) ∧ Grow w w' := by
  have H := Lib.hid h
  have Hb := Lib.hid hb
  obtain ⟨va, vc, rfl, hv⟩ := h
  have Hv := Lib.hid hv
  clear hv hb
  go_enter Tryz.func98, Tryz.ntmps98
  go_wp2_with fail
  go_loopw [3, 4] (fun bv iv wr => NumsInv w l bv iv wr) (fun _ iv _ => l.length - (intOf iv).toNat)
  case atStart => exact ⟨0, rfl, Nat.zero_le _, row1_nil _ _ _, Below.refl _ _⟩
  case round =>
    obtain ⟨i, rfl, hi, hown, hg⟩ := hrel
    have hBr := hg.size
    by_cases hlt : i < l.length
    · obtain ⟨n, hn⟩ : ∃ n, l[i]? = some n := ⟨l[i], by simp [hlt]⟩
      obtain ⟨b, o, rfl, hbs, hc⟩ := Hv.out.resolve_left (fun e => by rw [e] at hlt; simp at hlt)
      have hcn : wr.cell? ⟨b, o + i, none⟩ = some (.int .i64 n) := by rw [Grow.cells _ _ _ hg hbs]; exact hc i n hn
      obtain ⟨hn0, hn1⟩ := Hb.out n (List.mem_of_getElem? hn)
      have hi1 : (i : Int) < (l.length : Int) := by omega
      have hi0 : (0 : Int) ≤ (i : Int) := by omega
      have hwi : IntKind.i64.wrap ((i : Int) + 1) = (i : Int) + 1 := IntWalk.i64_in _ (by omega)
      have hsn := numsD_snoc hn
      have hpl : (numsD (l.take i)).length ≤ i * 14 := by
        have h1 := numsD_len (l := l.take i) (fun m hm => Hb.out m (List.mem_of_mem_take hm))
        rw [List.length_take, Nat.min_eq_left (by omega)] at h1
        exact h1
      have hdl := decF_len 12 n.toNat (by omega)
      have Hg := Lib.hid hg
      have Hown := Lib.hid hown
      have Hd := Lib.hid (fun W => decimalI hn0 hn1 W)
      obtain ⟨ba, bc, hbv⟩ := hown.slice'
      by_cases h0 : i = 0
      · subst h0
        rw [if_pos rfl, List.nil_append] at hsn
        have hnil : numsD (l.take 0) = [] := rfl
        have f1 : decide ((0 : Int) < ((0 : Nat) : Int)) = false := by decide
        have hcn0 : wr.cell? ⟨b, o, none⟩ = some (.int .i64 n) := by simpa using hcn
        have Hs := Lib.hid hsn
        have lb : b < wr.heap.size := Nat.lt_of_lt_of_le hbs hBr
        subst hbv
        clear hown hg hn hc hsn
        go_wp2_with fail
        (with_reducible refine (Hd.out wr).mono ?_)
        rintro e w1 ⟨rfl, hg1⟩
        have hg01 := Below.trans Hg.out (hg1.mono hBr)
        obtain ⟨v', w', q1, q2, q3, q4⟩ := append_text (p := decF n.toNat) (Hown.out.grow hg1) (Nat.le_trans hBr hg1.size) (by rw [hnil]; simp; omega)
        have Hrel : Hid (NumsInv w l v' (.int .i64 (((0 : Nat) : Int) + 1)) w') := Lib.hid ⟨1, by simp, hlt, by rw [Hs.out]; rw [hnil, List.nil_append] at q2; exact q2, below_grown hg01 (Nat.le_trans hBr hg1.size) (Hown.out.grow hg1) q3⟩
        have Hrun := Lib.hid q1
        clear q1 q2 q3 q4 hg1 hg01 hcn hcn0 hnil
        go_wp2_with (at_builtin; refine wpList_append rfl rfl rfl rfl Hrun.out ?_)
        go_roundw
        case rel => exact Hrel.out
        case measure => simp [intOf]; omega
      · rw [if_neg h0] at hsn
        have f1 : decide ((0 : Int) < (i : Int)) = true := by simp; omega
        obtain ⟨v1, w1, r1, r2, r3⟩ := append_built (n := 1) (arr := #[.int .u8 44]) (p := [44]) hown rfl rfl (by simp) hBr (by simp; omega)
        have hg1 := Below.trans hg r3
        have hcn1 : w1.cell? ⟨b, o + i, none⟩ = some (.int .i64 n) := by rw [Grow.cells _ _ _ hg1 hbs]; exact hc i n hn
        have lb : b < w1.heap.size := Nat.lt_of_lt_of_le hbs hg1.size
        have Hs := Lib.hid hsn
        have Hrun1 := Lib.hid r1
        have Hown1 := Lib.hid r2
        have Hg1 := Lib.hid hg1
        obtain ⟨ba1, bc1, hbv0⟩ := OwnB.slice' r2
        have hbv1 : v1 = .slice ba1 ((numsD (l.take i)).length + 1) bc1 := by rw [hbv0, List.length_append]; rfl
        clear hbv0
        have hB1 := hg1.size
        subst hbv hbv1
        clear hown hg hn hc hsn r1 r2 r3 hcn hg1
        go_wp2_with (at_builtin; refine wpList_append rfl rfl rfl rfl Hrun1.out ?_)
        (with_reducible refine (Hd.out w1).mono ?_)
        rintro e w2 ⟨rfl, hg2⟩
        have hg02 := Below.trans Hg1.out (hg2.mono hB1)
        obtain ⟨v', w', q1, q2, q3, q4⟩ := append_text (p := decF n.toNat) (Hown1.out.grow hg2) (Nat.le_trans hB1 hg2.size) (by simp; omega)
        have Hrel : Hid (NumsInv w l v' (.int .i64 ((i : Int) + 1)) w') := Lib.hid ⟨i + 1, by simp, hlt, by rw [Hs.out]; exact q2, below_grown hg02 (Nat.le_trans hB1 hg2.size) (Hown1.out.grow hg2) q3⟩
        have Hrun := Lib.hid q1
        clear q1 q2 q3 q4 hg2 hg02 hcn1
        go_wp2_with (at_builtin; refine wpList_append rfl rfl rfl rfl Hrun.out ?_)
        go_roundw
        case rel => exact Hrel.out
        case measure => simp [intOf]; omega
    · obtain rfl : i = l.length := by omega
      rw [List.take_length] at hown
      have hconv := run_text (ownB_bv hown)
      obtain ⟨ba, bc, rfl⟩ := hown.slice'
      have Hg := Lib.hid hg
      clear hg hown
      go_wp2
      go_ret
      exact ⟨rfl, Hg.out⟩

def HexedInv (w : World) (s : ByteArray) (uv iv : Value) (wr : World) : Prop :=
  ∃ (i u : Nat), iv = .int .i64 i ∧ i ≤ 16 ∧ uv = .int .u64 u ∧ u < 16 ^ i ∧ hexV 0 s.data.toList = hexV u (s.data.toList.drop i) ∧ wr = w

/-- What hexed tells. -/
def hexedV (o : Option Nat) : Value := match o with
  | some u => .tuple #[.int .u64 u, .bool true]
  | none => .tuple #[.int .u64 0, .bool false]

set_option maxRecDepth 100000 in
set_option maxHeartbeats 8000000 in
theorem hexed_any (s : ByteArray) (w : World) (_ : s.size ≤ 1000000000000) :
    Calls Tryz.prog 64 #[.string s] w fun e w' => e = .returned (hexedV (unhex s.data.toList)) ∧ w' = w := by
  have hlen : s.data.toList.length = s.size := by rw [Array.length_toList]; rfl
  by_cases h16 : s.size = 16
  · have f1 : ((s.size : Int) == 16) = true := by rw [h16]; rfl
    have f2 : ((s.size : Int) != 16) = false := by rw [bne, f1]; rfl
    have Hu : Hid (unhex s.data.toList = hexV 0 s.data.toList) := Lib.hid (by unfold unhex; rw [if_pos (by rw [hlen, h16])])
    have H16 := Lib.hid h16
    clear h16 hlen
    go_enter Tryz.func64, Tryz.ntmps64
    go_wp2_with fail
    go_loopw [4, 5] (fun uv iv wr => HexedInv w s uv iv wr) (fun _ iv _ => 16 - (intOf iv).toNat)
    case atStart => exact ⟨0, 0, rfl, by omega, rfl, by decide, rfl, rfl⟩
    case round =>
      obtain ⟨i, u, rfl, hi, rfl, hu, hv, hwr⟩ := hrel
      have hwr' := hwr.symm
      subst hwr'
      clear hwr
      have h16 := H16.out
      by_cases hlt : i < 16
      · have g1 : decide ((i : Int) < 16) = true := by simp; omega
        have hi1 : i < s.size := by omega
        have hi2 : (i : Int) < (s.size : Int) := by omega
        have hi0 : (0 : Int) ≤ (i : Int) := by omega
        have hwi : IntKind.i64.wrap ((i : Int) + 1) = (i : Int) + 1 := IntWalk.i64_in _ (by omega)
        have hd := drop_at hi1
        rw [hd, hexV] at hv
        have HC := Lib.hid (value_any97 s[i])
        clear h16 hd
        cases h1 : digV 97 s[i] with
        | none =>
          have v1 : valI 97 s[i] = -1 := by unfold valI; rw [h1]
          rw [v1] at HC
          rw [h1] at hv
          have Hno : Hid (unhex s.data.toList = none) := Lib.hid (by rw [Hu.out, hv]; rfl)
          clear hv h1 v1
          go_wp2_with fail
          (with_reducible refine (HC.out _).mono ?_)
          rintro e w1 ⟨rfl, hw1⟩
          have hw2 := hw1.symm
          subst hw2
          clear hw1
          go_wp2
          go_ret2
          exact ⟨by rw [Hno.out]; rfl, rfl⟩
        | some d =>
          have v1 : valI 97 s[i] = (d : Int) := by unfold valI; rw [h1]
          rw [v1] at HC
          rw [h1] at hv
          simp only [Option.bind_some] at hv
          have hd16 := (digN_digV h1).1
          have hd0 : decide ((d : Int) < 0) = false := by simp
          have hpow : 16 ^ i ≤ 16 ^ 15 := Nat.pow_le_pow_right (by decide) (by omega)
          have hu64 : u < 1152921504606846976 := Nat.lt_of_lt_of_le hu hpow
          have Hor : Hid (bits BinOp.or IntKind.u64 ((u : Int) * 16) (d : Int) = ((16 * u + d : Nat) : Int)) := Lib.hid (by
            have := u64_or_nat (16 * u) d (by omega) (by omega)
            rw [show (u : Int) * 16 = ((16 * u : Nat) : Int) by omega, this]
            have h2 := Nat.two_pow_add_eq_or_of_lt (i := 4) (b := d) hd16 u
            rw [show (2 : Nat) ^ 4 = 16 from rfl] at h2
            rw [h2])
          have Hrel : Hid (HexedInv w s (.int .u64 ((16 * u + d : Nat) : Int)) (.int .i64 ((i : Int) + 1)) w) := Lib.hid ⟨i + 1, 16 * u + d, by simp, by omega, rfl, by rw [Nat.pow_succ]; omega, hv, rfl⟩
          clear hv h1 v1 hpow hu
          go_wp2_with fail
          (with_reducible refine (HC.out _).mono ?_)
          rintro e w1 ⟨rfl, hw1⟩
          have hw2 := hw1.symm
          subst hw2
          clear hw1
          go_wp2
          exact ⟨by rw [Hor.out]; exact Hrel.out, by simp [intOf]; omega⟩
      · obtain rfl : i = 16 := by omega
        have hnil : s.data.toList.drop 16 = [] := List.drop_of_length_le (by rw [Array.length_toList]; exact Nat.le_of_eq h16)
        rw [hnil] at hv
        have Hv : Hid (unhex s.data.toList = some u) := Lib.hid (by rw [Hu.out, hv]; rfl)
        clear hv hnil h16
        go_wp2
        go_ret2
        exact ⟨by rw [Hv.out]; rfl, rfl⟩
  · have f1 : ((s.size : Int) == 16) = false := by
      cases hb : ((s.size : Int) == 16) with
      | false => rfl
      | true => exact absurd (by have := eq_of_beq hb; omega) h16
    have f2 : ((s.size : Int) != 16) = true := by rw [bne, f1]; rfl
    have Hu : Hid (unhex s.data.toList = none) := Lib.hid (by unfold unhex; rw [if_neg (by rw [hlen]; exact h16)])
    clear h16 hlen
    go_enter Tryz.func64, Tryz.ntmps64
    go_wp2
    go_ret2
    exact ⟨by rw [Hu.out]; rfl, rfl⟩
end Go.Proofs.YtdegmpimcappjaaGreatDoor

/- The document's decimal, small. -/
namespace Go.Proofs.YtdegmpimcappjaaGreatDoor
open Go.RowKit Go.Gl Go.Front

/-- What decimal tells. -/
def DecPost (l : List UInt8) (e : Ending) : Prop := match decR l with
  | none => e = .returned (.tuple #[.int .i64 0, .bool false, .bool false])
  | some m => ∃ n : Nat, n < 100000000000000 ∧ e = .returned (.tuple #[.int .i64 n, .bool (decide (1099511627776 < m)), .bool true]) ∧ (m ≤ 1099511627776 → n = m)

def DlInv (w : World) (s : ByteArray) (nv gv iv : Value) (wr : World) : Prop :=
  ∃ (i n : Nat) (g : Bool), iv = .int .i64 i ∧ i ≤ s.size ∧ nv = .int .i64 n ∧ gv = .bool g ∧ n ≤ 10995116277769 ∧ (s.data.toList.take i).all isDig = true ∧
    (g = false → n = valD 0 (s.data.toList.take i)) ∧ (g = true → 1099511627776 < n ∧ 1099511627776 < valD 0 (s.data.toList.take i)) ∧ wr = w

theorem take_snoc' {s : ByteArray} {i : Nat} (h : i < s.size) : s.data.toList.take (i + 1) = s.data.toList.take i ++ [s[i]] := by
  have h' : i < s.data.toList.length := by rw [Array.length_toList]; exact h
  rw [List.take_succ_eq_append_getElem h']
  rfl

theorem valD_snoc (l : List UInt8) (c : UInt8) : valD 0 (l ++ [c]) = 10 * valD 0 l + (c.toNat - 48) := by
  rw [valD_app, valD_cons]
  unfold valD
  rfl

theorem str_list (s : ByteArray) : s.toList = s.data.toList := ByteArray.toList_eq ..
theorem str_len (s : ByteArray) : s.data.toList.length = s.size := by rw [Array.length_toList]; rfl

set_option maxRecDepth 100000 in
set_option maxHeartbeats 16000000 in
theorem decimalR_any (s : ByteArray) (w : World) (hs : s.size ≤ 1000000000000) :
    Calls Tryz.prog 53 #[.string s] w fun e w' => DecPost s.data.toList e ∧ w' = w := by
  have hlen := str_len s
  have hsl := str_list s
  have post0 : decR s.data.toList = none → DecPost s.data.toList (.returned (.tuple #[.int .i64 0, .bool false, .bool false])) := fun h => by unfold DecPost; rw [h]
  by_cases hA : s.data.toList = []
  · have HP := Lib.hid (post0 (by unfold decR; rw [if_neg]; rintro ⟨h1, _⟩; rw [hA] at h1; simp [canon] at h1))
    have e1 : s.toList = [] := by rw [hsl, hA]
    have e2 : s.toList.isEmpty = true := by rw [e1]; rfl
    clear post0 hA hlen hsl
    go_enter Tryz.func53, Tryz.ntmps53
    go_wp2
    go_ret3
    exact ⟨HP.out, rfl⟩
  have e2 : s.toList.isEmpty = false := by
    rw [hsl]
    cases h : s.data.toList with
    | nil => exact absurd h hA
    | cons _ _ => rfl
  have hpos : 0 < s.size := by
    rw [← hlen]
    exact List.length_pos_iff.2 hA
  by_cases hB : 19 < s.size
  · have HP := Lib.hid (post0 (by unfold decR; rw [if_neg]; rintro ⟨_, h1⟩; rw [hlen] at h1; omega))
    have f1 : decide ((19 : Int) < (s.size : Int)) = true := by simp; omega
    clear post0 hA hlen hsl
    go_enter Tryz.func53, Tryz.ntmps53
    go_wp2
    go_ret3
    exact ⟨HP.out, rfl⟩
  have f1 : decide ((19 : Int) < (s.size : Int)) = false := by simp; omega
  have h0 : s.data.toList.head? = some s[0] := by
    have := at_list (s := s) (i := 0) hpos
    rw [List.head?_eq_getElem?]
    exact this
  by_cases hC : 1 < s.size ∧ s[0] = 48
  · have HP := Lib.hid (post0 (by
      unfold decR
      rw [if_neg]
      rintro ⟨h1, _⟩
      unfold canon at h1
      simp only [Bool.and_eq_true, Bool.or_eq_true, decide_eq_true_eq] at h1
      rcases h1.2 with h2 | h2
      · rw [hlen] at h2; omega
      · rw [h0, hC.2] at h2; exact h2 rfl))
    have f2 : decide ((1 : Int) < (s.size : Int)) = true := by simp; omega
    have f3 : ((s[0].toNat : Int) == 48) = true := by rw [hC.2]; rfl
    clear post0 hA hlen hsl hC h0 hB
    go_enter Tryz.func53, Tryz.ntmps53
    go_wp2
    go_ret3
    exact ⟨HP.out, rfl⟩
  have f2 : decide ((1 : Int) < (s.size : Int)) = false ∨ (decide ((1 : Int) < (s.size : Int)) = true ∧ ((s[0].toNat : Int) == 48) = false) := by
    by_cases h1 : 1 < s.size
    · right
      refine ⟨by simp; omega, ?_⟩
      cases hb : ((s[0].toNat : Int) == 48) with
      | false => rfl
      | true =>
        have h2 : s[0].toNat = 48 := by have := eq_of_beq hb; omega
        exact absurd ⟨h1, byte_eq (d := 48) h2⟩ hC
    · left; simp; omega
  have Hcan : Hid (s.data.toList.all isDig = true → decR s.data.toList = some (valD 0 s.data.toList)) := Lib.hid (fun h => by
    have hc : canon s.data.toList = true := by
      unfold canon
      simp only [Bool.and_eq_true, Bool.or_eq_true, decide_eq_true_eq]
      refine ⟨⟨h, hA⟩, ?_⟩
      by_cases h1 : s.size = 1
      · left; rw [hlen, h1]
      · right
        rw [h0]
        intro he
        exact hC ⟨by omega, Option.some.inj he⟩
    unfold decR
    rw [if_pos ⟨hc, by rw [hlen]; omega⟩])
  have Hnd : Hid (s.data.toList.all isDig = false → DecPost s.data.toList (.returned (.tuple #[.int .i64 0, .bool false, .bool false]))) := Lib.hid (fun h => post0 (by
    unfold decR
    rw [if_neg]
    rintro ⟨h1, _⟩
    unfold canon at h1
    simp only [Bool.and_eq_true] at h1
    rw [h] at h1
    exact absurd h1.1.1 (by simp)))
  have H19 := Lib.hid hB
  have Hlen := Lib.hid hlen
  clear post0 hA hsl hC h0 hB hlen
  rcases f2 with f2 | ⟨f2, f3⟩
  all_goals
    go_enter Tryz.func53, Tryz.ntmps53
    go_wp2_with fail
    go_loopw [5, 6, 7] (fun nv gv iv wr => DlInv w s nv gv iv wr) (fun _ _ iv _ => s.size - (intOf iv).toNat)
    case atStart => exact ⟨0, 0, false, rfl, Nat.zero_le _, rfl, rfl, by omega, rfl, fun _ => rfl, fun h => (by cases h), rfl⟩
    case round =>
      obtain ⟨i, n, g, rfl, hi, rfl, rfl, hn, hdig, hg0, hg1, hwr⟩ := hrel
      have hwr' := hwr.symm
      subst hwr'
      clear hwr
      by_cases hlt : i < s.size
      · have hi1 : (i : Int) < (s.size : Int) := by omega
        have hi0 : (0 : Int) ≤ (i : Int) := by omega
        have hwi : IntKind.i64.wrap ((i : Int) + 1) = (i : Int) + 1 := IntWalk.i64_in _ (by omega)
        have hts := take_snoc' hlt
        have hc256 : s[i].toNat < 256 := s[i].toNat_lt
        by_cases hd : 48 ≤ s[i].toNat ∧ s[i].toNat ≤ 57
        · have g1 : decide ((s[i].toNat : Int) < 48) = false := by simp; omega
          have g2 : decide ((57 : Int) < (s[i].toNat : Int)) = false := by simp; omega
          have w1 : IntKind.u8.wrap ((s[i].toNat : Int) - 48) = (s[i].toNat : Int) - 48 := IntWalk.u8_in _ (by omega)
          have w2 : IntKind.i64.wrap ((s[i].toNat : Int) - 48) = (s[i].toNat : Int) - 48 := IntWalk.i64_in _ (by omega)
          have w3 : IntKind.i64.wrap (10 * (n : Int)) = 10 * (n : Int) := IntWalk.i64_in _ (by omega)
          have w4 : IntKind.i64.wrap (10 * (n : Int) + ((s[i].toNat : Int) - 48)) = 10 * (n : Int) + ((s[i].toNat : Int) - 48) := IntWalk.i64_in _ (by omega)
          have hdig' : (s.data.toList.take (i + 1)).all isDig = true := by
            rw [hts, List.all_append, hdig]
            simp [isDig, hd.1, hd.2]
          have hval : valD 0 (s.data.toList.take (i + 1)) = 10 * valD 0 (s.data.toList.take i) + (s[i].toNat - 48) := by rw [hts, valD_snoc]
          have Hd := Lib.hid hd
          by_cases hbig : 1099511627776 < n
          · have g3 : decide ((1099511627776 : Int) < (n : Int)) = true := by simp; omega
            have Hrel : Hid (DlInv w s (.int .i64 n) (.bool true) (.int .i64 ((i : Int) + 1)) w) := Lib.hid ⟨i + 1, n, true, by simp, hlt, rfl, rfl, hn, hdig', fun h => (by cases h), fun _ => ⟨hbig, by
              rw [hval]
              cases g with
              | false => have := hg0 rfl; omega
              | true => have := hg1 rfl; omega⟩, rfl⟩
            clear hts hval hdig' hdig hg0 hg1 hd hbig
            go_wp2
            go_roundw
            case rel => exact Hrel.out
            case measure => simp [intOf]; omega
          · have g3 : decide ((1099511627776 : Int) < (n : Int)) = false := by simp; omega
            have hgf : g = false := by
              cases g with
              | false => rfl
              | true => exact absurd (hg1 rfl).1 hbig
            have Hrel : Hid (DlInv w s (.int .i64 (10 * (n : Int) + ((s[i].toNat : Int) - 48))) (.bool g) (.int .i64 ((i : Int) + 1)) w) := Lib.hid ⟨i + 1, 10 * n + (s[i].toNat - 48), g, by simp, hlt, by congr 1; omega, rfl, by omega, hdig', fun _ => by rw [hval, hg0 hgf], fun h => (by rw [hgf] at h; cases h), rfl⟩
            clear hts hval hdig' hdig hg0 hg1 hd hgf
            go_wp2
            go_roundw
            case rel => exact Hrel.out
            case measure => simp [intOf]; omega
        · have hnd : s.data.toList.all isDig = false := by
            cases h : s.data.toList.all isDig with
            | false => rfl
            | true =>
              exfalso
              have h1 := List.all_eq_true.1 h s[i] (List.mem_of_getElem? (at_list hlt))
              simp only [isDig, Bool.and_eq_true, decide_eq_true_eq] at h1
              exact hd h1
          have HP := Lib.hid (Hnd.out hnd)
          have g1 : decide ((s[i].toNat : Int) < 48) = true ∨ (decide ((s[i].toNat : Int) < 48) = false ∧ decide ((57 : Int) < (s[i].toNat : Int)) = true) := by
            by_cases h1 : s[i].toNat < 48
            · left; simp; omega
            · right; exact ⟨by simp; omega, by simp; omega⟩
          clear hnd hts hdig hg0 hg1 hd
          rcases g1 with g1 | ⟨g1, g2⟩
          all_goals
            go_wp2
            go_ret3
            exact ⟨HP.out, rfl⟩
      · obtain rfl : i = s.size := by omega
        have hfull : s.data.toList.take s.size = s.data.toList := List.take_of_length_le (by rw [Array.length_toList]; exact Nat.le_refl _)
        rw [hfull] at hdig hg0 hg1
        have hdec := Hcan.out hdig
        have key : DecPost s.data.toList (.returned (.tuple #[.int .i64 n, .bool (g || decide ((1099511627776 : Int) < (n : Int))), .bool true])) := by
          unfold DecPost
          rw [hdec]
          refine ⟨n, by omega, ?_, fun hle => ?_⟩
          · have : (g || decide ((1099511627776 : Int) < (n : Int))) = decide (1099511627776 < valD 0 s.data.toList) := by
              cases g with
              | false =>
                have := hg0 rfl
                rw [← this]
                simp
                omega
              | true =>
                have := (hg1 rfl).2
                simp [this]
            rw [this]
          · cases g with
            | false => exact hg0 rfl
            | true => have := (hg1 rfl).2; omega
        have HP := Lib.hid key
        clear hdig hg0 hg1 hdec key hfull
        cases g with
        | true =>
          go_wp2
          go_ret3
          exact ⟨HP.out, rfl⟩
        | false =>
          go_wp2
          go_ret3
          exact ⟨HP.out, rfl⟩

/-- What small tells. -/
def SmallPost (l : List UInt8) (e : Ending) : Prop := match smallR l with
  | none => ∃ n : Nat, n < 100000000000000 ∧ e = .returned (.tuple #[.int .i64 n, .bool false])
  | some m => m ≤ 1099511627776 ∧ e = .returned (.tuple #[.int .i64 m, .bool true])

set_option maxRecDepth 100000 in
set_option maxHeartbeats 4000000 in
theorem smallR_any (s : ByteArray) (w : World) (hs : s.size ≤ 1000000000000) :
    Calls Tryz.prog 63 #[.string s] w fun e w' => SmallPost s.data.toList e ∧ w' = w := by
  have HC := Lib.hid (decimalR_any s w hs)
  have hp0 : decR s.data.toList = none → ∃ n : Nat, n < 100000000000000 ∧ True → SmallPost s.data.toList (.returned (.tuple #[.int .i64 n, .bool false])) := fun h => ⟨0, fun _ => by unfold SmallPost smallR; rw [h]; exact ⟨0, by omega, rfl⟩⟩
  go_enter Tryz.func63, Tryz.ntmps63
  go_wp2_with fail
  (with_reducible refine HC.out.mono ?_)
  rintro e w1 ⟨he, hw1⟩
  have hw2 := hw1.symm
  subst hw2
  clear hw1 hp0
  unfold DecPost at he
  cases hd : decR s.data.toList with
  | none =>
    rw [hd] at he
    obtain rfl := he
    have HP : Hid (SmallPost s.data.toList (.returned (.tuple #[.int .i64 0, .bool false]))) := Lib.hid (by unfold SmallPost smallR; rw [hd]; exact ⟨0, by omega, rfl⟩)
    clear hd
    go_wp2
    go_ret2
    exact ⟨HP.out, rfl⟩
  | some m =>
    rw [hd] at he
    obtain ⟨n, hn, rfl, hnm⟩ := he
    by_cases hm : m ≤ 1099511627776
    · have hnm' := hnm hm
      subst hnm'
      have HP : Hid (SmallPost s.data.toList (.returned (.tuple #[.int .i64 n, .bool true]))) := Lib.hid (by unfold SmallPost smallR; rw [hd]; simp [hm])
      have hg : decide (1099511627776 < n) = false := by simp; omega
      rw [hg]
      clear hd hnm hm
      go_wp2
      go_ret2
      exact ⟨HP.out, rfl⟩
    · have HP : Hid (SmallPost s.data.toList (.returned (.tuple #[.int .i64 n, .bool false]))) := Lib.hid (by unfold SmallPost smallR; rw [hd]; simp [hm]; exact ⟨n, hn, rfl⟩)
      have hg : decide (1099511627776 < m) = true := by simp; omega
      rw [hg]
      clear hd hnm hm
      go_wp2
      go_ret2
      exact ⟨HP.out, rfl⟩
end Go.Proofs.YtdegmpimcappjaaGreatDoor
