/- Merged out of YA, YB, YC, YD, YE, YF, YG, YH: helpers. -/
import Derived.Test.YtdegmpimcappjaaGreatDoorFC
/- strconv.FormatUint at base 16, front.sixteen. -/
namespace Go.Proofs.YtdegmpimcappjaaGreatDoor
open Go.RowKit Go.Gl Go.Front

/-- Digits of sixteen, no noughts ahead. -/
def hexMin (u : Nat) : List UInt8 := if u < 16 then [digN 97 u] else hexMin (u / 16) ++ [digN 97 (u % 16)]
decreasing_by omega

theorem hexMin_one {u : Nat} (h : u < 16) : hexMin u = [digN 97 u] := by rw [hexMin, if_pos h]
theorem hexMin_more {u : Nat} (h : ¬ u < 16) : hexMin u = hexMin (u / 16) ++ [digN 97 (u % 16)] := by rw [hexMin, if_neg h]

theorem hexF_zero : ∀ k, hexF k 0 = List.replicate k 48
  | 0 => rfl
  | k + 1 => by
    rw [hexF, Nat.zero_div, Nat.zero_mod, hexF_zero k, show digN 97 0 = 48 by decide, List.replicate_succ']

theorem hexMin_len : ∀ (k u : Nat), u < 16 ^ (k + 1) → (hexMin u).length ≤ k + 1
  | 0, u, h => by rw [hexMin_one (by omega)]; simp
  | k + 1, u, h => by
    by_cases hu : u < 16
    · rw [hexMin_one hu]; simp
    · have := hexMin_len k (u / 16) (by rw [Nat.pow_succ] at h; omega)
      rw [hexMin_more hu]
      simp; omega

theorem hexF_min : ∀ (k u : Nat), u < 16 ^ (k + 1) → hexF (k + 1) u = List.replicate (k + 1 - (hexMin u).length) 48 ++ hexMin u
  | 0, u, h => by
    rw [hexMin_one (by omega), hexF, hexF, Nat.mod_eq_of_lt (by omega)]
    simp
  | k + 1, u, h => by
    rw [hexF]
    by_cases hu : u < 16
    · rw [hexMin_one hu, show u / 16 = 0 by omega, hexF_zero, Nat.mod_eq_of_lt hu]
      simp
    · have hk : u / 16 < 16 ^ (k + 1) := by rw [Nat.pow_succ] at h; omega
      have hl := hexMin_len k (u / 16) hk
      rw [hexF_min k (u / 16) hk, hexMin_more hu]
      simp only [List.length_append, List.length_cons, List.length_nil]
      rw [show k + 1 + 1 - ((hexMin (u / 16)).length + (0 + 1)) = k + 1 - (hexMin (u / 16)).length by omega]
      simp

theorem digits36_at {d : Nat} (hd : d < 16) (w : World) : (Instr.index 9 (.string ⟨#[48, 49, 50, 51, 52, 53, 54, 55, 56, 57, 97, 98, 99, 100, 101, 102, 103, 104, 105, 106, 107, 108, 109, 110, 111, 112, 113, 114, 115, 116, 117, 118, 119, 120, 121, 122]⟩) (.int .u64 (d : Int))).run Tryz.prog w = .ok (.int .u8 (digN 97 d).toNat) w := by
  have h16 : d = 0 ∨ d = 1 ∨ d = 2 ∨ d = 3 ∨ d = 4 ∨ d = 5 ∨ d = 6 ∨ d = 7 ∨ d = 8 ∨ d = 9 ∨ d = 10 ∨ d = 11 ∨ d = 12 ∨ d = 13 ∨ d = 14 ∨ d = 15 := by omega
  rcases h16 with rfl | rfl | rfl | rfl | rfl | rfl | rfl | rfl | rfl | rfl | rfl | rfl | rfl | rfl | rfl | rfl <;> simp [Instr.index, digN, go_sem] <;> rfl

theorem tz16 {w : World} (hb : Base w) : Calls Tryz.prog 144 #[.int .u64 16] w fun e w' => e = .returned (.int .i64 4) ∧ w' = w := by
  have hd := hb.deb
  have hz := hb.size
  have b1 : bits BinOp.and IntKind.u64 16 18446744073709551600 = 16 := by kernel_rfl
  have c1 : IntKind.u64.wrap (-16) = 18446744073709551600 := by decide
  have c2 : IntKind.u64.wrap 4573923408821661840 = 4573923408821661840 := by decide
  go_enter Tryz.func144, Tryz.ntmps144
  go_wp2
  go_ret
  exact ⟨rfl, rfl⟩

theorem pow2_16 (w : World) : Calls Tryz.prog 143 #[.int .i64 16] w fun e w' => e = .returned (.bool true) ∧ w' = w := by
  have b1 : bits BinOp.and IntKind.i64 16 15 = 0 := by kernel_rfl
  go_enter Tryz.func143, Tryz.ntmps143
  go_wp2
  go_ret
  exact ⟨rfl, rfl⟩

theorem drop_set_self {α : Type} (x : α) : ∀ (l : List α) (j : Nat), j < l.length → (l.set j x).drop j = x :: l.drop (j + 1)
  | [], j, h => by simp at h
  | a :: l, 0, _ => rfl
  | a :: l, j + 1, h => by
    rw [List.set_cons_succ, List.drop_succ_cons, List.drop_succ_cons]
    exact drop_set_self x l j (by simpa using h)

theorem slice65 {j : Nat} (hj : j < 65) (b : Nat) (w : World) : (Instr.sliceAt 161 (.pointer (some ⟨b, 0, none⟩)) (some (.int .i64 (j : Int))) none none).run Tryz.prog w = .ok (.slice (some ⟨b, j, none⟩) (65 - j) (65 - j)) w := by
  have hal : Tryz.prog.arrayLen 161 = 65 := by kernel_rfl
  have hel : Tryz.prog.elem 161 = 5 := by kernel_rfl
  have ht : Tryz.prog.underlying 161 = some (.array (Tryz.prog.arrayLen 161) (Tryz.prog.elem 161)) := by kernel_rfl
  have hs : (sizeOf 5).run Tryz.prog w = .ok 1 w := Tryz.sizeOf5 w
  rw [run_sliceAt_array_l w 161 ⟨b, 0, none⟩ ht .i64 j (by omega) (by rw [hal]; omega), hel, hs, hal]
  simp only [Result.andThen, slicedAt, Int.toNat_natCast]
  rw [if_neg (by omega), Nat.mul_one, Addr.add_lit, Nat.zero_add]

def FbInv (w : World) (u : Nat) (uv iv : Value) (wr : World) : Prop :=
  ∃ (v i : Nat) (tail : List UInt8) (arr : Array Value), uv = .int .u64 v ∧ v < 18446744073709551616 ∧ iv = .int .i64 i ∧ i + tail.length = 65 ∧ hexMin u = hexMin v ++ tail ∧
    wr.heap[w.heap.size]? = some (.cells arr 161 (0, 0)) ∧ arr.size = 65 ∧ arr.toList.drop i = bcells tail ∧ Below w.heap.size w wr

set_option maxRecDepth 100000 in
set_option maxHeartbeats 16000000 in
theorem format16 {w : World} (hb : Base w) (u : Nat) (hu : u < 18446744073709551616) :
    Calls Tryz.prog 121 #[.slice none 0 0, .int .u64 u, .int .i64 16, .bool false, .bool false] w fun e w' => e = .returned (.tuple #[.slice none 0 0, .string ⟨(hexMin u).toArray⟩]) ∧ Grow w w' := by
  have hl16 := hexMin_len 15 u (by omega)
  have HT := Lib.hid (fun W (hg : Grow w W) => tz16 (hb.grow hg))
  clear hb
  go_enter Tryz.func121, Tryz.ntmps121
  go_wp2_with fail
  (with_reducible refine (pow2_16 _).mono ?_)
  rintro e w1 ⟨rfl, rfl⟩
  go_wp2_with fail
  (with_reducible refine (HT.out _ (Grow.alloc _ _)).mono ?_)
  rintro e w1 ⟨rfl, rfl⟩
  go_wp2_with fail
  have hg0 := Grow.alloc w (.cells Tryz.zeroCells161 161)
  have hn0 : (w.alloc (.cells Tryz.zeroCells161 161)).heap[w.heap.size]? = some (.cells Tryz.zeroCells161 161 (0, 0)) := heap_alloc_new _ _
  have hz0 : Tryz.zeroCells161.size = 65 := by kernel_rfl
  have Hst : Hid (FbInv w u (.int .u64 u) (.int .i64 65) (w.alloc (.cells Tryz.zeroCells161 161))) := Lib.hid ⟨u, 65, [], _, rfl, hu, rfl, rfl, by simp, hn0, hz0, by rw [List.drop_of_length_le (by rw [Array.length_toList, hz0]; exact Nat.le_refl _)]; rfl, hg0⟩
  clear hg0 hn0 hz0
  go_loopw [1, 13] (fun uv iv wr => FbInv w u uv iv wr) (fun uv _ _ => (intOf uv).toNat)
  case atStart => exact Hst.out
  case round =>
    clear Hst
    obtain ⟨v, i, tail, arr, rfl, hv, rfl, hit, hhex, hblk, hsz, hdrop, hg⟩ := hrel
    by_cases hlt : 16 ≤ v
    · have f1 : decide ((16 : Int) ≤ (v : Int)) = true := by simp; omega
      have hml := congrArg List.length hhex
      rw [hexMin_more (u := v) (by omega)] at hhex hml
      simp only [List.length_append, List.length_cons, List.length_nil] at hml
      have hpos : 0 < (hexMin (v / 16)).length := by
        rw [hexMin]; split <;> simp
      obtain ⟨j, rfl⟩ : ∃ j, i = j + 1 := ⟨i - 1, by omega⟩
      have hx := fun W => digits36_at (show v % 16 < 16 by omega) W
      rw [show ((v % 16 : Nat) : Int) = (v : Int) % 16 by omega] at hx
      have b1 : bits BinOp.and IntKind.u64 (v : Int) 15 = (v : Int) % 16 := by
        have h2 : bits BinOp.and IntKind.u64 (v : Int) 15 = ((v &&& 15 : Nat) : Int) := u64_and_nat v 15 hv (by decide)
        have h3 : v &&& 15 = v % 16 := Nat.and_two_pow_sub_one_eq_mod v 4
        rw [h2, h3]; omega
      have hcell : ∃ x, wr.cell? ⟨w.heap.size, j, none⟩ = some x := ⟨arr[j]'(by omega), by simp [World.cell?, hblk]⟩
      obtain ⟨x, hcell⟩ := hcell
      have hfz : wr.frozen? ⟨w.heap.size, j, none⟩ = false := by simp [World.frozen?, hblk]
      have Hrel : Hid (FbInv w u (.int .u64 ((v : Int) / 16)) (.int .i64 j) (wr.setCell ⟨w.heap.size, j, none⟩ (.int .u8 (digN 97 (v % 16)).toNat))) := Lib.hid (by
        refine ⟨v / 16, j, digN 97 (v % 16) :: tail, _, by simp, by omega, rfl, by simp; omega, by rw [hhex]; simp, setCell_heap hblk _ _, by simp [hsz], ?_, hg.setCell (Nat.le_refl _) _⟩
        rw [Array.toList_setIfInBounds, drop_set_self _ _ _ (by rw [Array.length_toList]; omega), hdrop]
        rfl)
      have lb : w.heap.size < wr.heap.size := lt_of_getElem? hblk
      have hj : j < 65 := by omega
      have hj2 : (j : Int) < 65 := by omega
      have hj0 : (0 : Int) ≤ (j : Int) := by omega
      clear hhex hml hpos hdrop hg hblk hit hl16
      go_wp2
      go_roundw
      case rel => exact Hrel.out
      case measure => simp [intOf]; omega
    · have f1 : decide ((16 : Int) ≤ (v : Int)) = false := by simp; omega
      have hml := congrArg List.length hhex
      rw [hexMin_one (u := v) (by omega)] at hhex hml
      simp only [List.length_append, List.length_cons, List.length_nil] at hml
      obtain ⟨j, rfl⟩ : ∃ j, i = j + 1 := ⟨i - 1, by omega⟩
      have hx := fun W => digits36_at (show v < 16 by omega) W
      have hcell : ∃ x, wr.cell? ⟨w.heap.size, j, none⟩ = some x := ⟨arr[j]'(by omega), by simp [World.cell?, hblk]⟩
      obtain ⟨x, hcell⟩ := hcell
      have hfz : wr.frozen? ⟨w.heap.size, j, none⟩ = false := by simp [World.frozen?, hblk]
      have lb : w.heap.size < wr.heap.size := lt_of_getElem? hblk
      have Hrel : Hid (Bv (wr.setCell ⟨w.heap.size, j, none⟩ (.int .u8 (digN 97 v).toNat)) (.slice (some ⟨w.heap.size, j, none⟩) (65 - j) (65 - j)) (hexMin u)) := Lib.hid (by
        have hlen : (hexMin u).length = 65 - j := by omega
        have hset := setCell_heap hblk j (.int .u8 (digN 97 v).toNat)
        refine ⟨some ⟨w.heap.size, j, none⟩, 65 - j, by rw [hlen], by omega, by unfold maxLen; omega, (fun h => by cases h), .inr ⟨w.heap.size, j, rfl, lt_of_getElem? hset, fun k c hk => ?_⟩⟩
        have hd : (arr.setIfInBounds j (.int .u8 (digN 97 v).toNat)).toList.drop j = bcells (hexMin u) := by
          rw [Array.toList_setIfInBounds, drop_set_self _ _ _ (by rw [Array.length_toList]; omega), hdrop, hhex]
          rfl
        have he : (arr.setIfInBounds j (.int .u8 (digN 97 v).toNat))[j + k]? = some (.int .u8 c.toNat) := by
          rw [← Array.getElem?_toList, ← List.getElem?_drop, hd]
          simp [bcells, hk]
        simp [World.cell?, hset, he])
      have hconv := run_text Hrel.out
      have Hgrow : Hid (Grow w (wr.setCell ⟨w.heap.size, j, none⟩ (.int .u8 (digN 97 v).toNat))) := Lib.hid (hg.setCell (Nat.le_refl _) _)
      have hj : j < 65 := by omega
      have hj2 : (j : Int) < 65 := by omega
      have hj0 : (0 : Int) ≤ (j : Int) := by omega
      have hjn : (65 - (j : Int)).toNat = 65 - j := by omega
      have hv16 : v < 16 := by omega
      have hsl := fun W => slice65 hj w.heap.size W
      clear hhex hml hdrop hg hblk hit hl16
      go_wp2
      go_ret2
      exact ⟨rfl, Hgrow.out⟩

set_option maxRecDepth 100000 in
set_option maxHeartbeats 4000000 in
theorem formatI16 {w : World} (hb : Base w) (u : Nat) (hu : u < 18446744073709551616) :
    Calls Tryz.prog 93 #[.int .u64 u, .int .i64 16] w fun e w' => e = .returned (.string ⟨(hexMin u).toArray⟩) ∧ Grow w w' := by
  have HF := Lib.hid (format16 hb u hu)
  clear hb
  go_enter Tryz.func93, Tryz.ntmps93
  go_wp2_with fail
  (with_reducible refine HF.out.mono ?_)
  rintro e w1 ⟨rfl, hg1⟩
  have Hg := Lib.hid hg1
  clear hg1
  go_wp2
  go_ret
  exact ⟨rfl, Hg.out⟩

theorem formatU16 {w : World} (hb : Base w) (u : Nat) (hu : u < 18446744073709551616) :
    Calls Tryz.prog 71 #[.int .u64 u, .int .i64 16] w fun e w' => e = .returned (.string ⟨(hexMin u).toArray⟩) ∧ Grow w w' := by
  have HF := Lib.hid (formatI16 hb u hu)
  clear hb
  go_enter Tryz.func71, Tryz.ntmps71
  go_wp2_with fail
  (with_reducible refine HF.out.mono ?_)
  rintro e w1 ⟨rfl, hg1⟩
  have Hg := Lib.hid hg1
  clear hg1
  go_wp2
  go_ret
  exact ⟨rfl, Hg.out⟩

theorem repeat_one (c : UInt8) : ∀ n, Lib.repeatL [c] n = List.replicate n c
  | 0 => rfl
  | n + 1 => by
    rw [Lib.repeatL, repeat_one c n]
    rfl

theorem rep_call {x : Int} {n : Nat} (hx : x = (n : Int)) (hn : n ≤ 1000) (w : World) : Calls Tryz.prog 72 #[.string ⟨#[48]⟩, .int .i64 x] w fun e w' => e = .returned (.string ⟨(List.replicate n 48).toArray⟩) ∧ Grow w w' := by
  subst hx
  refine (Tryz.strings_Repeat ⟨#[48]⟩ n w (by omega) (by show 1 * n ≤ _; omega)).mono ?_
  rintro e w' ⟨rfl, hg⟩
  refine ⟨?_, hg⟩
  have : (⟨#[48]⟩ : ByteArray).data.toList = [48] := rfl
  rw [this, repeat_one]

set_option maxRecDepth 100000 in
set_option maxHeartbeats 4000000 in
theorem sixteen_any {w : World} (hb : Base w) (u : Nat) (hu : u < 18446744073709551616) :
    Calls Tryz.prog 35 #[.int .u64 u] w fun e w' => e = .returned (.string ⟨(hex16 u).toArray⟩) ∧ Grow w w' := by
  have HF := Lib.hid (formatU16 hb u hu)
  have hl := hexMin_len 15 u (by omega)
  have Hh : Hid (hex16 u = List.replicate (16 - (hexMin u).length) 48 ++ hexMin u) := Lib.hid (hexF_min 15 u (by omega))
  have hwr : IntKind.i64.wrap (16 - ((hexMin u).length : Int)) = 16 - ((hexMin u).length : Int) := IntWalk.i64_in _ (by omega)
  clear hb
  go_enter Tryz.func35, Tryz.ntmps35
  go_wp2_with fail
  (with_reducible refine HF.out.mono ?_)
  rintro e w1 ⟨rfl, hg1⟩
  have Hg := Lib.hid hg1
  clear hg1
  go_wp2_with fail
  (with_reducible refine (rep_call (x := 16 - ((hexMin u).length : Int)) (n := 16 - (hexMin u).length) (by omega) (by omega) _).mono ?_)
  rintro e w2 ⟨rfl, hg2⟩
  have Hg2 := Lib.hid (Grow.trans Hg.out hg2)
  have hrl : (List.replicate (16 - (hexMin u).length) (48 : UInt8)).length = 16 - (hexMin u).length := List.length_replicate
  rw [show (16 - (hexMin u).length) = 16 - (hexMin u).length from rfl]
  generalize List.replicate (16 - (hexMin u).length) (48 : UInt8) = A at *
  have hs : (A.length : Int) + ((hexMin u).length : Int) ≤ 9223372036854775807 := by omega
  clear hg2 hrl hwr
  go_wp2
  go_ret
  exact ⟨by rw [Hh.out, ← ba_append]; rfl, Hg2.out⟩
end Go.Proofs.YtdegmpimcappjaaGreatDoor

/- strconv.ParseUint at base 16, front.unsixteen. -/
namespace Go.Proofs.YtdegmpimcappjaaGreatDoor
open Go.RowKit Go.Gl Go.Front

/-- '[]byte(s)'. -/
theorem conv_bytes (s : ByteArray) (hs : s.size ≤ 140737488355328) (w : World) : ∃ cap w', (convert 9 24 (.string s)).run Tryz.prog w = .ok (.slice (some ⟨w.heap.size, 0, none⟩) s.size cap) w' ∧ Bv w' (.slice (some ⟨w.heap.size, 0, none⟩) s.size cap) s.data.toList ∧ Grow w w' ∧
    ∃ cur f, w'.heap[w.heap.size]? = some (.cells cur 5 f) ∧ cap ≤ cur.size ∧ s.size ≤ cap ∧ (∀ j, j < cur.size → w'.frozen? ⟨w.heap.size, j, none⟩ = false) ∧ cur.toList.take s.size = bcells s.data.toList := by
  have hr := Lib.run_convert_string_bytes (P := Tryz.prog) w 9 24 5 s Tryz.underlying9 Tryz.underlying24 Tryz.underlying5
  have hge := grownCap_ge w s.size 0 5
  have hmax : grownCap w s.size 0 5 ≤ maxLen := grownCap_le_maxLen w s.size 0 5 (by unfold maxLen; omega)
  have hgrow := Lib.bytesWorld_below w 5 s
  have hcs : (Lib.bytesCells w 5 s).size = grownCap w s.size 0 5 := by
    unfold Lib.bytesCells
    simp only [Array.size_append, Array.size_map, Array.size_replicate]
    have : s.data.size = s.size := rfl
    omega
  have hblk : (Lib.bytesWorld w 5 s).heap[w.heap.size]? = some (.cells (Lib.bytesCells w 5 s) 5 ((Lib.bytesCells w 5 s).size, (Lib.bytesCells w 5 s).size + 1)) := by
    simp [Lib.bytesWorld, World.freeze, World.alloc, World.drew, -World.alloc_eq, -World.drew_eq, Array.getElem_modify]
  have htk : (Lib.bytesCells w 5 s).toList.take s.size = bcells s.data.toList := by
    unfold Lib.bytesCells
    rw [Array.toList_append, Array.toList_map]
    have hl : (s.data.toList.map fun b => Value.int .u8 b.toNat).length = s.size := by rw [List.length_map, Array.length_toList]; rfl
    rw [← hl, List.take_left]
    rfl
  refine ⟨_, _, hr, ?_, hgrow, _, _, hblk, by omega, hge, ?_, htk⟩
  · refine ⟨some ⟨w.heap.size, 0, none⟩, _, by rw [str_len], by rw [str_len]; exact hge, hmax, (fun h => by cases h), .inr ⟨w.heap.size, 0, rfl, lt_of_getElem? hblk, fun j k hk => ?_⟩⟩
    have h1 : (bcells s.data.toList)[j]? = some (.int .u8 k.toNat) := by simp [bcells, hk]
    rw [← htk, List.getElem?_take] at h1
    split at h1
    · simp only [World.cell?, hblk]
      simpa using h1
    · cases h1
  · intro j hj
    simp [World.frozen?, hblk]
    try omega

/-- What the inner ParseUint tells at base 16. -/
def PuPost (l : List UInt8) (e : Ending) : Prop :=
  (∃ n : Nat, n < 18446744073709551616 ∧ l ≠ [] ∧ e = .returned (.tuple #[.int .u64 n, .nilIface]) ∧ ∀ u, unhex l = some u → n = u) ∨
  (unhex l = none ∧ ∃ (n : Nat) (k : Int), n < 18446744073709551616 ∧ (l = [] → n = 0) ∧ (k = 1 ∨ k = 2) ∧ e = .returned (.tuple #[.int .u64 n, .iface 147 (.int .i64 k)]))

def PuInv (w : World) (l : List UInt8) (sv nv iv : Value) (wr : World) : Prop :=
  ∃ i n : Nat, sv = .bool false ∧ iv = .int .i64 i ∧ i ≤ l.length ∧ nv = .int .u64 n ∧ n < 18446744073709551616 ∧ (∀ u, unhex l = some u → hexV n (l.drop i) = some u ∧ n < 16 ^ i) ∧ wr = w

theorem low_or (k : Nat) (hk : k < 256) : bits .or .u8 (k : Int) 32 = ((k ||| 32 : Nat) : Int) := u8_or_nat k 32 (by omega) (by decide)
theorem low_facts : ∀ k : Nat, k < 256 → (k ||| 32 < 256) ∧ (97 ≤ k ∧ k ≤ 122 → k ||| 32 = k) := by decide +kernel

theorem lower_any (k : Nat) (hk : k < 256) (w : World) : Calls Tryz.prog 129 #[.int .u8 k] w fun e w' => e = .returned (.int .u8 ((k ||| 32 : Nat) : Int)) ∧ w' = w := by
  have h := Tryz.internal_strconv_lower (k : Int) w
  rw [low_or k hk] at h
  exact h

theorem unhex_len {l : List UInt8} {u : Nat} (h : unhex l = some u) : l.length = 16 := by
  unfold unhex at h
  split at h
  · assumption
  · cases h

theorem unhex_digit {l : List UInt8} {i : Nat} {c : UInt8} (hc : l[i]? = some c) {n : Nat} (h : ∀ u, unhex l = some u → hexV n (l.drop i) = some u ∧ n < 16 ^ i) (hd : digV 97 c = none) : unhex l = none := by
  cases hu : unhex l with
  | none => rfl
  | some u =>
    exfalso
    obtain ⟨h1, _⟩ := h u hu
    obtain ⟨hi, rfl⟩ := List.getElem?_eq_some_iff.1 hc
    rw [List.drop_eq_getElem_cons hi, hexV, hd] at h1
    cases h1

set_option maxRecDepth 100000 in
set_option maxHeartbeats 32000000 in
theorem parse16_in (s : ByteArray) (w : World) (hs : s.size ≤ 1000000000000) :
    Calls Tryz.prog 110 #[.string s, .int .i64 16, .int .i64 64] w fun e w' => PuPost s.data.toList e ∧ Grow w w' := by
  have hlen := str_len s
  have hsl := str_list s
  by_cases hA : s.data.toList = []
  · have HP : Hid (PuPost s.data.toList (.returned (.tuple #[.int .u64 0, .iface 147 (.int .i64 2)]))) := Lib.hid (.inr ⟨by rw [hA]; rfl, 0, 2, by decide, fun _ => rfl, .inr rfl, rfl⟩)
    have e1 : s.toList = [] := by rw [hsl, hA]
    have e2 : s.toList.isEmpty = true := by rw [e1]; rfl
    clear hA hlen hsl
    go_enter Tryz.func110, Tryz.ntmps110
    go_wp2
    go_ret2
    exact ⟨HP.out, Grow.refl _⟩
  have e2 : s.toList.isEmpty = false := by
    rw [hsl]
    cases h : s.data.toList with
    | nil => exact absurd h hA
    | cons _ _ => rfl
  obtain ⟨cap, w1, hconv, hbv, hg1, _⟩ := conv_bytes s (by omega) w
  have Hg1 := Lib.hid hg1
  obtain ⟨b, o, hbo, hbs, hcell⟩ : ∃ b o, (some (⟨w.heap.size, 0, none⟩ : Addr)) = some ⟨b, o, none⟩ ∧ b < w1.heap.size ∧ ∀ (j : Nat) (k : UInt8), s.data.toList[j]? = some k → w1.cell? ⟨b, o + j, none⟩ = some (.int .u8 k.toNat) := by
    obtain ⟨a, c, hv, _, _, _, hx⟩ := hbv
    cases hv
    exact hx.resolve_left hA
  cases hbo
  have Hcell := Lib.hid hcell
  have HA := Lib.hid hA
  clear hA hsl hcell hbv hg1
  have Hlen := Lib.hid hlen
  have k1 : IntKind.u64.wrap 18446744073709551616 = 0 := by decide
  have k2 : IntKind.u64.wrap (-1) = 18446744073709551615 := by decide
  go_enter Tryz.func110, Tryz.ntmps110
  go_wp2_with fail
  clear k1 k2 hconv
  go_loopw [12, 13, 101] (fun sv nv iv wr => PuInv w1 s.data.toList sv nv iv wr) (fun _ _ iv _ => s.size - (intOf iv).toNat)
  case atStart => exact ⟨0, 0, rfl, rfl, Nat.zero_le _, rfl, by decide, fun u hu => ⟨(by unfold unhex at hu; split at hu; exact hu; cases hu), by decide⟩, rfl⟩
  case round =>
    obtain ⟨i, n, rfl, rfl, hi, rfl, hn, hinv, hwr⟩ := hrel
    have hwr' := hwr.symm
    subst hwr'
    clear hwr
    rw [Hlen.out] at hi
    by_cases hlt : i < s.size
    · have hi1 : (i : Int) < (s.size : Int) := by omega
      have hi0 : (0 : Int) ≤ (i : Int) := by omega
      have hwi : IntKind.i64.wrap ((i : Int) + 1) = (i : Int) + 1 := IntWalk.i64_in _ (by omega)
      have hat := at_list hlt
      have hc := Hcell.out i _ hat
      rw [Nat.zero_add] at hc
      have hk : s[i].toNat < 256 := s[i].toNat_lt
      have hdr := drop_at hlt
      have Hat := Lib.hid hat
      have Hinv := Lib.hid hinv
      have f95 : ((s[i].toNat : Int) == 95) = true ∨ ((s[i].toNat : Int) == 95) = false := by cases ((s[i].toNat : Int) == 95) <;> simp
      have synt : digV 97 s[i] = none → PuPost s.data.toList (.returned (.tuple #[.int .u64 0, .iface 147 (.int .i64 2)])) := fun h => .inr ⟨unhex_digit Hat.out Hinv.out h, 0, 2, by decide, fun _ => rfl, .inr rfl, rfl⟩
      have rang : 1152921504606846976 ≤ n → PuPost s.data.toList (.returned (.tuple #[.int .u64 18446744073709551615, .iface 147 (.int .i64 1)])) := fun h => .inr ⟨by
        cases hu : unhex s.data.toList with
        | none => rfl
        | some u =>
          exfalso
          have h1 := unhex_len hu
          have h2 := (Hinv.out u hu).2
          have h3 : 16 ^ i ≤ 16 ^ 15 := Nat.pow_le_pow_right (by decide) (by rw [Hlen.out] at h1; omega)
          omega, 18446744073709551615, 1, by decide, fun h => absurd h HA.out, .inl rfl, rfl⟩
      have Synt := Lib.hid synt
      have Rang := Lib.hid rang
      have lb : w.heap.size < w1.heap.size := hbs
      clear hat hinv synt rang hlen
      by_cases h1 : 48 ≤ s[i].toNat ∧ s[i].toNat ≤ 57
      · have g1 : decide ((48 : Int) ≤ (s[i].toNat : Int)) = true := by simp; omega
        have g2 : decide ((s[i].toNat : Int) ≤ 57) = true := by simp; omega
        have g3 : ((s[i].toNat : Int) == 95) = false := by simp; omega
        have hdv : digV 97 s[i] = some (s[i].toNat - 48) := by unfold digV; rw [if_pos h1]
        have wd : IntKind.u8.wrap ((s[i].toNat : Int) - 48) = (s[i].toNat : Int) - 48 := IntWalk.u8_in _ (by omega)
        have g4 : decide ((16 : Int) ≤ (s[i].toNat : Int) - 48) = false := by simp; omega
        have wd2 : IntKind.u64.wrap ((s[i].toNat : Int) - 48) = (s[i].toNat : Int) - 48 := IntWalk.u64_in _ (by omega)
        by_cases hbig : 1152921504606846976 ≤ n
        · have t0 : decide ((1152921504606846976 : Int) ≤ (n : Int)) = true := by simp; omega
          have HP := Lib.hid (Rang.out hbig)
          clear hdr hdv f95 h1
          go_wp2
          go_ret2
          exact ⟨HP.out, Hg1.out⟩
        · have hnew : ∀ u, unhex s.data.toList = some u → hexV (16 * n + (s[i].toNat - 48)) (s.data.toList.drop (i + 1)) = some u ∧ 16 * n + (s[i].toNat - 48) < 16 ^ (i + 1) := fun u hu => by
            obtain ⟨q1, q2⟩ := Hinv.out u hu
            rw [hdr, hexV, hdv] at q1
            exact ⟨q1, by rw [Nat.pow_succ]; omega⟩
          have hgt : n < 1152921504606846976 := by omega
          have t0 : decide ((1152921504606846976 : Int) ≤ (n : Int)) = false := by simp; omega
          have t1 : decide ((n : Int) * 16 + ((s[i].toNat : Int) - 48) < (n : Int) * 16) = false := by simp; omega
          have t2 : decide ((18446744073709551615 : Int) < (n : Int) * 16 + ((s[i].toNat : Int) - 48)) = false := by simp; omega
          have w2 : IntKind.u64.wrap ((n : Int) * 16) = (n : Int) * 16 := IntWalk.u64_in _ (by omega)
          have w3 : IntKind.u64.wrap ((n : Int) * 16 + ((s[i].toNat : Int) - 48)) = (n : Int) * 16 + ((s[i].toNat : Int) - 48) := IntWalk.u64_in _ (by omega)
          have Hrel : Hid (PuInv w1 s.data.toList (.bool false) (.int .u64 ((n : Int) * 16 + ((s[i].toNat : Int) - 48))) (.int .i64 ((i : Int) + 1)) w1) := Lib.hid ⟨i + 1, 16 * n + (s[i].toNat - 48), rfl, by simp, by rw [Hlen.out]; omega, by congr 1; omega, by omega, hnew, rfl⟩
          clear hdr hdv f95 hnew h1 hbig
          go_wp2
          go_roundw
          case rel => exact Hrel.out
          case measure => simp [intOf]; omega
      · have HL := Lib.hid (lower_any s[i].toNat hk)
        have hL := low_facts s[i].toNat hk
        have g1 : (decide ((48 : Int) ≤ (s[i].toNat : Int)) = true ∧ decide ((s[i].toNat : Int) ≤ 57) = false) ∨ decide ((48 : Int) ≤ (s[i].toNat : Int)) = false := by
          by_cases h : 48 ≤ s[i].toNat
          · exact .inl ⟨by simp; omega, by simp; omega⟩
          · exact .inr (by simp; omega)
        have hdv : digV 97 s[i] = if 97 ≤ s[i].toNat ∧ s[i].toNat < 97 + 6 then some (s[i].toNat - 97 + 10) else none := by unfold digV; rw [if_neg h1]
        generalize hLL : s[i].toNat ||| 32 = L at *
        by_cases h2 : 97 ≤ L ∧ L ≤ 122
        · have g5 : decide ((97 : Int) ≤ (L : Int)) = true := by simp; omega
          have g6 : decide ((L : Int) ≤ 122) = true := by simp; omega
          have wd0 : IntKind.u8.wrap ((L : Int) - 97) = (L : Int) - 97 := IntWalk.u8_in _ (by omega)
          have wd : IntKind.u8.wrap ((L : Int) - 97 + 10) = (L : Int) - 97 + 10 := IntWalk.u8_in _ (by omega)
          by_cases h3 : L < 103
          · have g4 : decide ((16 : Int) ≤ (L : Int) - 97 + 10) = false := by simp; omega
            have wd2 : IntKind.u64.wrap ((L : Int) - 97 + 10) = (L : Int) - 97 + 10 := IntWalk.u64_in _ (by omega)
            by_cases hbig : 1152921504606846976 ≤ n
            · have t0 : decide ((1152921504606846976 : Int) ≤ (n : Int)) = true := by simp; omega
              have HP := Lib.hid (Rang.out hbig)
              have HLL := Lib.hid hLL
              clear hdr hdv h1 hLL
              rcases g1 with ⟨g1, g2⟩ | g1 <;> rcases f95 with f95 | f95
              all_goals
                go_wp2_with ((with_reducible refine (HL.out _).mono ?_); rintro e w2 ⟨rfl, hw1⟩; have hw2 := hw1.symm; subst hw2; clear hw1)
                go_ret2
                exact ⟨HP.out, Hg1.out⟩
            · have hnew : ∀ u, unhex s.data.toList = some u → hexV (16 * n + (L - 97 + 10)) (s.data.toList.drop (i + 1)) = some u ∧ 16 * n + (L - 97 + 10) < 16 ^ (i + 1) := fun u hu => by
                obtain ⟨q1, q2⟩ := Hinv.out u hu
                rw [hdr, hexV, hdv] at q1
                by_cases hx : 97 ≤ s[i].toNat ∧ s[i].toNat < 97 + 6
                · rw [if_pos hx] at q1
                  have : L = s[i].toNat := hL.2 ⟨hx.1, by omega⟩
                  rw [this]
                  exact ⟨q1, by rw [Nat.pow_succ]; omega⟩
                · rw [if_neg hx] at q1; cases q1
              have hgt : n < 1152921504606846976 := by omega
              have t0 : decide ((1152921504606846976 : Int) ≤ (n : Int)) = false := by simp; omega
              have t1 : decide ((n : Int) * 16 + ((L : Int) - 97 + 10) < (n : Int) * 16) = false := by simp; omega
              have t2 : decide ((18446744073709551615 : Int) < (n : Int) * 16 + ((L : Int) - 97 + 10)) = false := by simp; omega
              have w2 : IntKind.u64.wrap ((n : Int) * 16) = (n : Int) * 16 := IntWalk.u64_in _ (by omega)
              have w3 : IntKind.u64.wrap ((n : Int) * 16 + ((L : Int) - 97 + 10)) = (n : Int) * 16 + ((L : Int) - 97 + 10) := IntWalk.u64_in _ (by omega)
              have Hrel : Hid (PuInv w1 s.data.toList (.bool false) (.int .u64 ((n : Int) * 16 + ((L : Int) - 97 + 10))) (.int .i64 ((i : Int) + 1)) w1) := Lib.hid ⟨i + 1, 16 * n + (L - 97 + 10), rfl, by simp, by rw [Hlen.out]; omega, by congr 1; omega, by omega, hnew, rfl⟩
              have HLL := Lib.hid hLL
              clear hdr hdv hnew h1 hbig hLL
              rcases g1 with ⟨g1, g2⟩ | g1 <;> rcases f95 with f95 | f95
              all_goals
                go_wp2_with ((with_reducible refine (HL.out _).mono ?_); rintro e w2 ⟨rfl, hw1⟩; have hw2 := hw1.symm; subst hw2; clear hw1)
                go_roundw
                case rel => exact Hrel.out
                case measure => simp [intOf]; omega
          · have g4 : decide ((16 : Int) ≤ (L : Int) - 97 + 10) = true := by simp; omega
            have HP := Lib.hid (Synt.out (by
              rw [hdv, if_neg]
              intro hx
              have : L = s[i].toNat := hL.2 ⟨hx.1, by omega⟩
              omega))
            have HLL := Lib.hid hLL
            clear hdr hdv h1 hLL
            rcases g1 with ⟨g1, g2⟩ | g1 <;> rcases f95 with f95 | f95
            all_goals
              go_wp2_with ((with_reducible refine (HL.out _).mono ?_); rintro e w2 ⟨rfl, hw1⟩; have hw2 := hw1.symm; subst hw2; clear hw1)
              go_ret2
              exact ⟨HP.out, Hg1.out⟩
        · have g5 : (decide ((97 : Int) ≤ (L : Int)) = true ∧ decide ((L : Int) ≤ 122) = false) ∨ decide ((97 : Int) ≤ (L : Int)) = false := by
            by_cases h : 97 ≤ L
            · exact .inl ⟨by simp; omega, by simp; omega⟩
            · exact .inr (by simp; omega)
          have HP := Lib.hid (Synt.out (by
            rw [hdv, if_neg]
            intro hx
            have : L = s[i].toNat := hL.2 ⟨hx.1, by omega⟩
            omega))
          have HLL := Lib.hid hLL
          clear hdr hdv h1 hLL h2
          rcases g1 with ⟨g1, g2⟩ | g1 <;> rcases f95 with f95 | f95 <;> rcases g5 with ⟨g5, g6⟩ | g5
          all_goals
            go_wp2_with ((with_reducible refine (HL.out _).mono ?_); rintro e w2 ⟨rfl, hw1⟩; have hw2 := hw1.symm; subst hw2; clear hw1)
            go_ret2
            exact ⟨HP.out, Hg1.out⟩
    · obtain rfl : i = s.size := by omega
      have hnil : s.data.toList.drop s.size = [] := List.drop_of_length_le (by rw [Hlen.out]; exact Nat.le_refl _)
      have HP : Hid (PuPost s.data.toList (.returned (.tuple #[.int .u64 n, .nilIface]))) := Lib.hid (.inl ⟨n, hn, HA.out, rfl, fun u hu => by
        have := (hinv u hu).1
        rw [hnil, hexV] at this
        exact Option.some.inj this⟩)
      clear hinv hnil
      go_wp2
      go_ret2
      exact ⟨HP.out, Hg1.out⟩
end Go.Proofs.YtdegmpimcappjaaGreatDoor

/- front.unsixteen, front.number. -/
namespace Go.Proofs.YtdegmpimcappjaaGreatDoor
open Go.RowKit Go.Gl Go.Front

theorem str_eq {a : List UInt8} {s : ByteArray} : (a == s.toList) = decide (a = s.data.toList) := by
  rw [str_list]
  by_cases h : a = s.data.toList <;> simp [h]

def PoPost (l : List UInt8) (e : Ending) : Prop :=
  (∃ n : Nat, n < 18446744073709551616 ∧ l ≠ [] ∧ e = .returned (.tuple #[.int .u64 n, .nilIface]) ∧ ∀ u, unhex l = some u → n = u) ∨
  (unhex l = none ∧ ∃ (n N : Nat), n < 18446744073709551616 ∧ (l = [] → n = 0) ∧ e = .returned (.tuple #[.int .u64 n, .iface 149 (.pointer (some ⟨N, 0, none⟩))]))

set_option maxRecDepth 100000 in
set_option maxHeartbeats 8000000 in
theorem parse16_any (s : ByteArray) {w : World} (hb : Base w) (hs : s.size ≤ 1000000000000) :
    Calls Tryz.prog 84 #[.string s, .int .i64 16, .int .i64 64] w fun e w' => PoPost s.data.toList e ∧ Grow w w' := by
  have HB := Lib.hid hb
  clear hb
  go_enter Tryz.func84, Tryz.ntmps84
  go_wp2_with fail
  (with_reducible refine (parse16_in s w hs).mono ?_)
  rintro e w1 ⟨hp, hg1⟩
  have HB1 := Lib.hid (HB.out.grow hg1)
  have Hg1 := Lib.hid hg1
  clear hg1
  rcases hp with ⟨n, hn, hne, rfl, hu⟩ | ⟨hu, n, k, hn, hz, hk, rfl⟩
  · have HP : Hid (PoPost s.data.toList (.returned (.tuple #[.int .u64 n, .nilIface]))) := Lib.hid (.inl ⟨n, hn, hne, rfl, hu⟩)
    clear hu hne
    go_wp2
    go_ret2
    exact ⟨HP.out, Hg1.out⟩
  · have HP : ∀ N : Nat, Hid (PoPost s.data.toList (.returned (.tuple #[.int .u64 n, .iface 149 (.pointer (some ⟨N, 0, none⟩))]))) := fun N => Lib.hid (.inr ⟨hu, n, N, hn, hz, rfl⟩)
    have HP' := Lib.hid HP
    clear HP hu hz
    rcases hk with rfl | rfl
    · obtain ⟨ev, h1, h2⟩ := HB1.out.ran
      have HC := Lib.hid (Tryz.strconv_toError_range ⟨#[80, 97, 114, 115, 101, 85, 105, 110, 116]⟩ s 16 64 ev w1 (by omega) h1 h2)
      clear h1 h2
      go_wp2_with fail
      (with_reducible refine HC.out.mono ?_)
      rintro e w2 ⟨N, rfl, _, _, hg2⟩
      have Hg2 := Lib.hid (Grow.trans Hg1.out hg2)
      clear hg2
      go_wp2
      go_ret2
      exact ⟨(HP'.out N).out, Hg2.out⟩
    · obtain ⟨ev, h1, h2⟩ := HB1.out.syn
      have HC := Lib.hid (Tryz.strconv_toError_syntax ⟨#[80, 97, 114, 115, 101, 85, 105, 110, 116]⟩ s 16 64 ev w1 (by omega) h1 h2)
      clear h1 h2
      go_wp2_with fail
      (with_reducible refine HC.out.mono ?_)
      rintro e w2 ⟨N, rfl, _, _, hg2⟩
      have Hg2 := Lib.hid (Grow.trans Hg1.out hg2)
      clear hg2
      go_wp2
      go_ret2
      exact ⟨(HP'.out N).out, Hg2.out⟩

/-- What unsixteen tells. -/
def UnsPost (l : List UInt8) (e : Ending) : Prop := match unhex l with
  | some u => e = .returned (.tuple #[.int .u64 u, .bool true])
  | none => ∃ n : Nat, n < 18446744073709551616 ∧ (l = [] → n = 0) ∧ e = .returned (.tuple #[.int .u64 n, .bool false])

theorem size_ne {s : ByteArray} (h : s.size ≠ 16) : ((s.size : Int) == 16) = false := by
  cases hb : ((s.size : Int) == 16) with
  | false => rfl
  | true => exact absurd (by have := eq_of_beq hb; omega) h

set_option maxRecDepth 100000 in
set_option maxHeartbeats 8000000 in
theorem unsixteen_any (s : ByteArray) {w : World} (hb : Base w) (hs : s.size ≤ 1000000000000) :
    Calls Tryz.prog 83 #[.string s] w fun e w' => UnsPost s.data.toList e ∧ Grow w w' := by
  have HB := Lib.hid hb
  clear hb
  go_enter Tryz.func83, Tryz.ntmps83
  go_wp2_with fail
  (with_reducible refine (parse16_any s HB.out hs).mono ?_)
  rintro e w1 ⟨hp, hg1⟩
  have HB1 := Lib.hid (HB.out.grow hg1)
  have Hg1 := Lib.hid hg1
  clear hg1
  rcases hp with ⟨n, hn, hne, rfl, hu⟩ | ⟨hu, n, N, hn, hz, rfl⟩
  · by_cases h16 : s.size = 16
    · have f1 : ((s.size : Int) == 16) = true := by rw [h16]; rfl
      have hse := str_eq (a := hex16 n) (s := s)
      have HS := Lib.hid (sixteen_any HB1.out n hn)
      cases hx : unhex s.data.toList with
      | some u =>
        have hnu := hu u hx
        subst hnu
        have h2 := (unhex_iff.1 hx).2
        rw [h2] at hse
        have f2 : (s.data.toList == s.toList) = true := by rw [hse]; simp
        have HP : Hid (UnsPost s.data.toList (.returned (.tuple #[.int .u64 n, .bool true]))) := Lib.hid (by unfold UnsPost; rw [hx])
        have H2 := Lib.hid h2
        clear hx hu hse h2 h16
        go_wp2_with fail
        (with_reducible refine HS.out.mono ?_)
        rintro e w2 ⟨rfl, hg2⟩
        have Hg2 := Lib.hid (Grow.trans Hg1.out hg2)
        rw [H2.out]
        clear hg2
        go_wp2
        go_ret2
        exact ⟨HP.out, Hg2.out⟩
      | none =>
        have h2 : hex16 n ≠ s.data.toList := fun h => by rw [unhex_iff.2 ⟨hn, h⟩] at hx; cases hx
        have f2 : (hex16 n == s.toList) = false := by rw [hse]; simp [h2]
        have HP : Hid (UnsPost s.data.toList (.returned (.tuple #[.int .u64 n, .bool false]))) := Lib.hid (by unfold UnsPost; rw [hx]; exact ⟨n, hn, fun h => absurd h hne, rfl⟩)
        clear hx hu hse h2 h16
        go_wp2_with fail
        (with_reducible refine HS.out.mono ?_)
        rintro e w2 ⟨rfl, hg2⟩
        have Hg2 := Lib.hid (Grow.trans Hg1.out hg2)
        clear hg2
        go_wp2
        go_ret2
        exact ⟨HP.out, Hg2.out⟩
    · have f1 := size_ne h16
      have HP : Hid (UnsPost s.data.toList (.returned (.tuple #[.int .u64 n, .bool false]))) := Lib.hid (by
        have : unhex s.data.toList = none := by unfold unhex; rw [if_neg (by rw [str_len]; exact h16)]
        unfold UnsPost; rw [this]; exact ⟨n, hn, fun h => absurd h hne, rfl⟩)
      clear h16 hu hne
      go_wp2
      go_ret2
      exact ⟨HP.out, Hg1.out⟩
  · have HP : Hid (UnsPost s.data.toList (.returned (.tuple #[.int .u64 n, .bool false]))) := Lib.hid (by unfold UnsPost; rw [hu]; exact ⟨n, hn, hz, rfl⟩)
    clear hu hz
    go_wp2
    go_ret2
    exact ⟨HP.out, Hg1.out⟩

theorem itoa_any {n : Int} (h0 : 0 ≤ n) (h1 : n ≤ 9223372036854775807) {w : World} (hb : Base w) : Calls Tryz.prog 36 #[.int .i64 n] w fun e w' => e = .returned (.string ⟨(decF n.toNat).toArray⟩) ∧ Grow w w' := by
  refine (Tryz.strconv_Itoa n (by omega) h1 w hb.pow).mono ?_
  rintro e w' ⟨rfl, k, os, rfl⟩
  refine ⟨?_, grow_below w k os⟩
  have : n = ((n.toNat : Nat) : Int) := by omega
  rw [this, Lib.itoa_nonneg]
  rfl

theorem valD_le : ∀ (l : List UInt8) (acc : Nat), acc ≤ valD acc l
  | [], _ => Nat.le_refl _
  | c :: r, acc => by
    rw [valD_cons]
    exact Nat.le_trans (by omega) (valD_le r (10 * acc + (c.toNat - 48)))

theorem parseU_digits : ∀ (l : List UInt8) (acc : Nat), l.all isDig = true → valD acc l < 18446744073709551616 → Lib.parseUint10 acc l = .ok (valD acc l)
  | [], acc, _, _ => rfl
  | c :: r, acc, h, hv => by
    simp only [List.all_cons, Bool.and_eq_true, isDig, decide_eq_true_eq] at h
    rw [valD_cons] at hv ⊢
    have hle := valD_le r (10 * acc + (c.toNat - 48))
    rw [Lib.parseUint10, if_pos h.1, if_neg (by omega), if_neg (by omega), show acc * 10 + (c.toNat - 48) = 10 * acc + (c.toNat - 48) by omega]
    exact parseU_digits r _ h.2 hv

theorem decF_digits (n : Nat) : (decF n).all isDig = true := List.all_eq_true.2 fun x hx => by
  have := dec_digit n x hx
  simp [isDig, this.1, this.2]

theorem parseMag_dec {n : Nat} (h : n < 18446744073709551616) : Lib.parseMag (decF n) = .ok n := by
  unfold Lib.parseMag
  rw [if_neg (decF_ne n), parseU_digits _ _ (decF_digits n) (by rw [valD_decF]; exact h), valD_decF]

theorem atoiAll_dec {n : Nat} (h : n ≤ 9223372036854775807) : Lib.atoiAll (decF n) = .ok (n : Int) := by
  have hm := parseMag_dec (n := n) (by omega)
  have hd := dec_digit n
  cases hl : decF n with
  | nil => exact absurd hl (decF_ne n)
  | cons c r =>
    have hc := hd c (by rw [hl]; exact List.mem_cons_self ..)
    rw [hl] at hm
    unfold Lib.atoiAll
    simp only
    rw [if_neg (by omega), hm]
    simp only
    rw [if_neg (by omega), if_neg (by omega), if_neg (by omega)]

theorem atoiAll_range {l : List UInt8} {v : Int} (h : Lib.atoiAll l = .ok v) : -9223372036854775808 ≤ v ∧ v ≤ 9223372036854775807 := by
  unfold Lib.atoiAll at h
  split at h
  · cases h
  · rename_i c r
    simp only at h
    split at h
    · cases h
    · cases h
    · rename_i u hu
      split at h
      · cases h
      · rename_i h1
        split at h
        · cases h
        · rename_i h2
          by_cases hn : c.toNat = 45
          · rw [if_pos hn] at h
            have : ¬ 9223372036854775808 < u := fun hx => h2 ⟨hn, hx⟩
            cases h
            omega
          · rw [if_neg hn] at h
            have : ¬ 9223372036854775808 ≤ u := fun hx => h1 ⟨hn, hx⟩
            cases h
            omega

theorem numP_iff {l : List UInt8} {n : Int} : numP l = some n ↔ 0 ≤ n ∧ n ≤ 9223372036854775807 ∧ decF n.toNat = l := by
  constructor
  · intro h
    unfold numP at h
    split at h
    · split at h
      · rename_i hh
        cases h
        exact hh
      · cases h
    · cases h
  · rintro ⟨h0, h1, rfl⟩
    exact numP_dec h0 h1

/-- What number tells. -/
def NumPost (l : List UInt8) (e : Ending) : Prop := match numP l with
  | some n => e = .returned (.tuple #[.int .i64 n, .bool true])
  | none => ∃ n : Int, e = .returned (.tuple #[.int .i64 n, .bool false])

set_option maxRecDepth 100000 in
set_option maxHeartbeats 8000000 in
theorem number_any (s : ByteArray) {w : World} (hb : Base w) (hs : s.size ≤ 1000000000000) :
    Calls Tryz.prog 108 #[.string s] w fun e w' => NumPost s.data.toList e ∧ Grow w w' := by
  have HB := Lib.hid hb
  clear hb
  cases ha : Lib.atoiAll s.data.toList with
  | ok v =>
    have hr := atoiAll_range ha
    have HA := Lib.hid (Tryz.strconv_Atoi_ok s (by omega) v ha w)
    have Hno : ∀ n, numP s.data.toList = some n → n = v := fun n hn => by
      obtain ⟨h0, h1, h2⟩ := numP_iff.1 hn
      have := atoiAll_dec (n := n.toNat) (by omega)
      rw [h2, ha] at this
      have h3 : v = ((n.toNat : Nat) : Int) := by cases this; rfl
      omega
    have HN := Lib.hid Hno
    clear ha Hno
    go_enter Tryz.func108, Tryz.ntmps108
    go_wp2_with fail
    (with_reducible refine HA.out.mono ?_)
    rintro e w1 ⟨rfl, hw1⟩
    have hg1 : Grow w w1 := by
      rcases hw1 with rfl | ⟨t, rfl⟩
      · exact Grow.refl _
      · exact Lib.bytesWorld_below w _ t
    have HB1 := Lib.hid (HB.out.grow hg1)
    have Hg1 := Lib.hid hg1
    clear hw1 hg1
    by_cases h0 : 0 ≤ v
    · have f1 : decide ((0 : Int) ≤ v) = true := by simp [h0]
      have HI := Lib.hid (itoa_any h0 hr.2 HB1.out)
      have hse := str_eq (a := decF v.toNat) (s := s)
      by_cases hq : decF v.toNat = s.data.toList
      · have f2 : (decF v.toNat == s.toList) = true := by rw [hse]; simp [hq]
        have HP : Hid (NumPost s.data.toList (.returned (.tuple #[.int .i64 v, .bool true]))) := Lib.hid (by unfold NumPost; rw [numP_iff.2 ⟨h0, hr.2, hq⟩])
        clear hse hq hr
        go_wp2_with fail
        (with_reducible refine HI.out.mono ?_)
        rintro e w2 ⟨rfl, hg2⟩
        have Hg2 := Lib.hid (Grow.trans Hg1.out hg2)
        clear hg2
        go_wp2
        go_ret2
        exact ⟨HP.out, Hg2.out⟩
      · have f2 : (decF v.toNat == s.toList) = false := by rw [hse]; simp [hq]
        have HP : Hid (NumPost s.data.toList (.returned (.tuple #[.int .i64 v, .bool false]))) := Lib.hid (by
          unfold NumPost
          cases hx : numP s.data.toList with
          | none => exact ⟨v, rfl⟩
          | some n =>
            exfalso
            have := HN.out n hx
            subst this
            exact hq (numP_iff.1 hx).2.2)
        clear hse hq hr
        go_wp2_with fail
        (with_reducible refine HI.out.mono ?_)
        rintro e w2 ⟨rfl, hg2⟩
        have Hg2 := Lib.hid (Grow.trans Hg1.out hg2)
        clear hg2
        go_wp2
        go_ret2
        exact ⟨HP.out, Hg2.out⟩
    · have f1 : decide ((0 : Int) ≤ v) = false := by simp; omega
      have HP : Hid (NumPost s.data.toList (.returned (.tuple #[.int .i64 v, .bool false]))) := Lib.hid (by
        unfold NumPost
        cases hx : numP s.data.toList with
        | none => exact ⟨v, rfl⟩
        | some n =>
          exfalso
          have := HN.out n hx
          subst this
          exact h0 (numP_iff.1 hx).1)
      clear hr
      go_wp2
      go_ret2
      exact ⟨HP.out, Hg1.out⟩
  | range =>
    obtain ⟨ev, h1, h2⟩ := HB.out.ran
    have HA := Lib.hid (Tryz.strconv_Atoi_range s (by omega) ha ev w h1 h2)
    have HP : Hid (∀ n : Int, NumPost s.data.toList (.returned (.tuple #[.int .i64 n, .bool false]))) := Lib.hid (fun n => by
      unfold NumPost
      cases hx : numP s.data.toList with
      | none => exact ⟨n, rfl⟩
      | some m =>
        exfalso
        obtain ⟨q0, q1, q2⟩ := numP_iff.1 hx
        have := atoiAll_dec (n := m.toNat) (by omega)
        rw [q2, ha] at this
        cases this)
    clear ha h1 h2
    go_enter Tryz.func108, Tryz.ntmps108
    go_wp2_with fail
    (with_reducible refine HA.out.mono ?_)
    rintro e w1 ⟨N, rfl, _, _, hg1⟩
    have Hg1 := Lib.hid hg1
    clear hg1
    go_wp2
    go_ret2
    exact ⟨HP.out _, Hg1.out⟩
  | _ =>
    obtain ⟨ev, h1, h2⟩ := HB.out.syn
    have HA := Lib.hid (Tryz.strconv_Atoi_syntax s (by omega) ha ev w h1 h2)
    have HP : Hid (∀ n : Int, NumPost s.data.toList (.returned (.tuple #[.int .i64 n, .bool false]))) := Lib.hid (fun n => by
      unfold NumPost
      cases hx : numP s.data.toList with
      | none => exact ⟨n, rfl⟩
      | some m =>
        exfalso
        obtain ⟨q0, q1, q2⟩ := numP_iff.1 hx
        have := atoiAll_dec (n := m.toNat) (by omega)
        rw [q2, ha] at this
        cases this)
    clear ha h1 h2
    go_enter Tryz.func108, Tryz.ntmps108
    go_wp2_with fail
    (with_reducible refine HA.out.mono ?_)
    rintro e w1 ⟨N, rfl, _, _, hg1⟩
    have Hg1 := Lib.hid hg1
    clear hg1
    go_wp2
    go_ret2
    exact ⟨HP.out _, Hg1.out⟩
end Go.Proofs.YtdegmpimcappjaaGreatDoor

/- Names of buckets, lengths of texts, rising numbers: both sides. -/
namespace Go.Proofs.YtdegmpimcappjaaGreatDoor
open Go.RowKit Go.Gl Go.Front

set_option maxRecDepth 100000 in
theorem long_any (s : ByteArray) (a b : Int) (w : World) : Calls Tryz.prog 68 #[.string s, .int .i64 a, .int .i64 b] w fun e w' => e = .returned (.bool (decide (a ≤ (s.size : Int)) && decide ((s.size : Int) ≤ b))) ∧ w' = w := by
  by_cases h1 : a ≤ (s.size : Int)
  · by_cases h2 : (s.size : Int) ≤ b
    · have f1 : decide (a ≤ (s.size : Int)) = true := by simp [h1]
      have f2 : decide ((s.size : Int) ≤ b) = true := by simp [h2]
      rw [f1, f2]
      clear h1 h2
      go_enter Tryz.func68, Tryz.ntmps68
      go_wp2
      go_ret
      exact ⟨rfl, rfl⟩
    · have f1 : decide (a ≤ (s.size : Int)) = true := by simp [h1]
      have f2 : decide ((s.size : Int) ≤ b) = false := by simp [h2]
      rw [f1, f2]
      clear h1 h2
      go_enter Tryz.func68, Tryz.ntmps68
      go_wp2
      go_ret
      exact ⟨rfl, rfl⟩
  · have f1 : decide (a ≤ (s.size : Int)) = false := by simp [h1]
    rw [f1]
    clear h1
    go_enter Tryz.func68, Tryz.ntmps68
    go_wp2
    go_ret
    exact ⟨rfl, rfl⟩

theorem nameB_eq (s : ByteArray) : nameB s.data.toList = (s.data.toList.all nameC && (decide ((1 : Int) ≤ (s.size : Int)) && decide ((s.size : Int) ≤ 64))) := by
  unfold nameB
  rw [str_len, Bool.and_assoc]
  congr 2
  · rw [Bool.eq_iff_iff]; simp; omega
  · rw [Bool.eq_iff_iff]; simp; omega

theorem all_snoc {s : ByteArray} {i : Nat} (h : i < s.size) (p : UInt8 → Bool) : (s.data.toList.take (i + 1)).all p = ((s.data.toList.take i).all p && p s[i]) := by
  rw [take_snoc' h, List.all_append]
  simp

theorem all_bad {s : ByteArray} {i : Nat} (h : i < s.size) {p : UInt8 → Bool} (hp : p s[i] = false) : s.data.toList.all p = false := by
  cases hx : s.data.toList.all p with
  | false => rfl
  | true =>
    have := List.all_eq_true.1 hx s[i] (List.mem_of_getElem? (at_list h))
    rw [hp] at this; cases this

theorem take_all (s : ByteArray) : s.data.toList.take s.size = s.data.toList := List.take_of_length_le (by rw [str_len]; exact Nat.le_refl _)

def NamInv (w : World) (s : ByteArray) (iv : Value) (wr : World) : Prop := ∃ i : Nat, iv = .int .i64 i ∧ i ≤ s.size ∧ (s.data.toList.take i).all nameC = true ∧ wr = w

set_option maxRecDepth 100000 in
set_option maxHeartbeats 8000000 in
theorem named_any (s : ByteArray) (w : World) (hs : s.size ≤ 9223372036854775807) : Calls Tryz.prog 67 #[.string s] w fun e w' => e = .returned (.bool (nameB s.data.toList)) ∧ w' = w := by
  go_enter Tryz.func67, Tryz.ntmps67
  go_wp2_with fail
  go_loopw [7] (fun iv wr => NamInv w s iv wr) (fun iv _ => s.size - (intOf iv).toNat)
  case atStart => exact ⟨0, rfl, Nat.zero_le _, rfl, rfl⟩
  case round =>
    obtain ⟨i, rfl, hi, hall, hwr⟩ := hrel
    have hwr' := hwr.symm
    subst hwr'
    clear hwr
    by_cases hlt : i < s.size
    · have hi1 : (i : Int) < (s.size : Int) := by omega
      have hi0 : (0 : Int) ≤ (i : Int) := by omega
      have hwi : IntKind.i64.wrap ((i : Int) + 1) = (i : Int) + 1 := IntWalk.i64_in _ (by omega)
      have hc256 : s[i].toNat < 256 := s[i].toNat_lt
      have hk : (97 ≤ s[i].toNat ∧ s[i].toNat ≤ 122) ∨ (48 ≤ s[i].toNat ∧ s[i].toNat ≤ 57) ∨ (45 ≤ s[i].toNat ∧ s[i].toNat ≤ 45) ∨ (46 ≤ s[i].toNat ∧ s[i].toNat ≤ 46) ∨ (0 ≤ s[i].toNat ∧ s[i].toNat ≤ 44) ∨ (47 ≤ s[i].toNat ∧ s[i].toNat ≤ 47) ∨ (58 ≤ s[i].toNat ∧ s[i].toNat ≤ 96) ∨ (123 ≤ s[i].toNat ∧ s[i].toNat ≤ 255) := by omega
      rcases hk with h | h | h | h | h | h | h | h
      · have hn : nameC s[i] = true := by unfold nameC; simp; omega
        have f0 : decide ((97 : Int) ≤ (s[i].toNat : Int)) = true := by simp; omega
        have f1 : decide ((s[i].toNat : Int) ≤ 122) = true := by simp; omega
        have f2 : decide ((48 : Int) ≤ (s[i].toNat : Int)) = true := by simp; omega
        have f3 : decide ((s[i].toNat : Int) ≤ 57) = false := by simp; omega
        have f4 : ((s[i].toNat : Int) == 45) = false := by simp; omega
        have f5 : ((s[i].toNat : Int) == 46) = false := by simp; omega
        have Hrel : Hid (NamInv w s (.int .i64 ((i : Int) + 1)) w) := Lib.hid ⟨i + 1, by simp, hlt, by rw [all_snoc hlt, hall, hn]; rfl, rfl⟩
        clear hall hn h
        go_wp2
        go_roundw
        case rel => exact Hrel.out
        case measure => simp [intOf]; omega
      · have hn : nameC s[i] = true := by unfold nameC; simp; omega
        have f0 : decide ((97 : Int) ≤ (s[i].toNat : Int)) = false := by simp; omega
        have f1 : decide ((s[i].toNat : Int) ≤ 122) = true := by simp; omega
        have f2 : decide ((48 : Int) ≤ (s[i].toNat : Int)) = true := by simp; omega
        have f3 : decide ((s[i].toNat : Int) ≤ 57) = true := by simp; omega
        have f4 : ((s[i].toNat : Int) == 45) = false := by simp; omega
        have f5 : ((s[i].toNat : Int) == 46) = false := by simp; omega
        have Hrel : Hid (NamInv w s (.int .i64 ((i : Int) + 1)) w) := Lib.hid ⟨i + 1, by simp, hlt, by rw [all_snoc hlt, hall, hn]; rfl, rfl⟩
        clear hall hn h
        go_wp2
        go_roundw
        case rel => exact Hrel.out
        case measure => simp [intOf]; omega
      · have hn : nameC s[i] = true := by unfold nameC; simp; omega
        have f0 : decide ((97 : Int) ≤ (s[i].toNat : Int)) = false := by simp; omega
        have f1 : decide ((s[i].toNat : Int) ≤ 122) = true := by simp; omega
        have f2 : decide ((48 : Int) ≤ (s[i].toNat : Int)) = false := by simp; omega
        have f3 : decide ((s[i].toNat : Int) ≤ 57) = true := by simp; omega
        have f4 : ((s[i].toNat : Int) == 45) = true := by simp; omega
        have f5 : ((s[i].toNat : Int) == 46) = false := by simp; omega
        have Hrel : Hid (NamInv w s (.int .i64 ((i : Int) + 1)) w) := Lib.hid ⟨i + 1, by simp, hlt, by rw [all_snoc hlt, hall, hn]; rfl, rfl⟩
        clear hall hn h
        go_wp2
        go_roundw
        case rel => exact Hrel.out
        case measure => simp [intOf]; omega
      · have hn : nameC s[i] = true := by unfold nameC; simp; omega
        have f0 : decide ((97 : Int) ≤ (s[i].toNat : Int)) = false := by simp; omega
        have f1 : decide ((s[i].toNat : Int) ≤ 122) = true := by simp; omega
        have f2 : decide ((48 : Int) ≤ (s[i].toNat : Int)) = false := by simp; omega
        have f3 : decide ((s[i].toNat : Int) ≤ 57) = true := by simp; omega
        have f4 : ((s[i].toNat : Int) == 45) = false := by simp; omega
        have f5 : ((s[i].toNat : Int) == 46) = true := by simp; omega
        have Hrel : Hid (NamInv w s (.int .i64 ((i : Int) + 1)) w) := Lib.hid ⟨i + 1, by simp, hlt, by rw [all_snoc hlt, hall, hn]; rfl, rfl⟩
        clear hall hn h
        go_wp2
        go_roundw
        case rel => exact Hrel.out
        case measure => simp [intOf]; omega
      · have hn : nameC s[i] = false := by unfold nameC; simp; omega
        have f0 : decide ((97 : Int) ≤ (s[i].toNat : Int)) = false := by simp; omega
        have f1 : decide ((s[i].toNat : Int) ≤ 122) = true := by simp; omega
        have f2 : decide ((48 : Int) ≤ (s[i].toNat : Int)) = false := by simp; omega
        have f3 : decide ((s[i].toNat : Int) ≤ 57) = true := by simp; omega
        have f4 : ((s[i].toNat : Int) == 45) = false := by simp; omega
        have f5 : ((s[i].toNat : Int) == 46) = false := by simp; omega
        have HP : Hid (nameB s.data.toList = false) := Lib.hid (by rw [nameB_eq, all_bad hlt hn]; rfl)
        clear hall hn h
        go_wp2
        go_ret
        exact ⟨by rw [HP.out]; rfl, rfl⟩
      · have hn : nameC s[i] = false := by unfold nameC; simp; omega
        have f0 : decide ((97 : Int) ≤ (s[i].toNat : Int)) = false := by simp; omega
        have f1 : decide ((s[i].toNat : Int) ≤ 122) = true := by simp; omega
        have f2 : decide ((48 : Int) ≤ (s[i].toNat : Int)) = false := by simp; omega
        have f3 : decide ((s[i].toNat : Int) ≤ 57) = true := by simp; omega
        have f4 : ((s[i].toNat : Int) == 45) = false := by simp; omega
        have f5 : ((s[i].toNat : Int) == 46) = false := by simp; omega
        have HP : Hid (nameB s.data.toList = false) := Lib.hid (by rw [nameB_eq, all_bad hlt hn]; rfl)
        clear hall hn h
        go_wp2
        go_ret
        exact ⟨by rw [HP.out]; rfl, rfl⟩
      · have hn : nameC s[i] = false := by unfold nameC; simp; omega
        have f0 : decide ((97 : Int) ≤ (s[i].toNat : Int)) = false := by simp; omega
        have f1 : decide ((s[i].toNat : Int) ≤ 122) = true := by simp; omega
        have f2 : decide ((48 : Int) ≤ (s[i].toNat : Int)) = true := by simp; omega
        have f3 : decide ((s[i].toNat : Int) ≤ 57) = false := by simp; omega
        have f4 : ((s[i].toNat : Int) == 45) = false := by simp; omega
        have f5 : ((s[i].toNat : Int) == 46) = false := by simp; omega
        have HP : Hid (nameB s.data.toList = false) := Lib.hid (by rw [nameB_eq, all_bad hlt hn]; rfl)
        clear hall hn h
        go_wp2
        go_ret
        exact ⟨by rw [HP.out]; rfl, rfl⟩
      · have hn : nameC s[i] = false := by unfold nameC; simp; omega
        have f0 : decide ((97 : Int) ≤ (s[i].toNat : Int)) = true := by simp; omega
        have f1 : decide ((s[i].toNat : Int) ≤ 122) = false := by simp; omega
        have f2 : decide ((48 : Int) ≤ (s[i].toNat : Int)) = true := by simp; omega
        have f3 : decide ((s[i].toNat : Int) ≤ 57) = false := by simp; omega
        have f4 : ((s[i].toNat : Int) == 45) = false := by simp; omega
        have f5 : ((s[i].toNat : Int) == 46) = false := by simp; omega
        have HP : Hid (nameB s.data.toList = false) := Lib.hid (by rw [nameB_eq, all_bad hlt hn]; rfl)
        clear hall hn h
        go_wp2
        go_ret
        exact ⟨by rw [HP.out]; rfl, rfl⟩
    · obtain rfl : i = s.size := by omega
      rw [take_all] at hall
      have HP : Hid (nameB s.data.toList = (decide ((1 : Int) ≤ (s.size : Int)) && decide ((s.size : Int) ≤ 64))) := Lib.hid (by rw [nameB_eq, hall]; rfl)
      clear hall
      go_wp2_with fail
      (with_reducible refine (long_any s 1 64 _).mono ?_)
      rintro e w1 ⟨rfl, hw1⟩
      have hw2 := hw1.symm
      subst hw2
      clear hw1
      rw [← HP.out]
      go_wp2
      go_ret
      exact ⟨rfl, rfl⟩

set_option maxRecDepth 100000 in
set_option maxHeartbeats 8000000 in
theorem nameR_any (s : ByteArray) (w : World) (hs : s.size ≤ 9223372036854775807) : Calls Tryz.prog 54 #[.string s] w fun e w' => e = .returned (.bool (nameB s.data.toList)) ∧ w' = w := by
  by_cases h1 : 1 ≤ s.size ∧ s.size ≤ 64
  · have e1 : decide ((s.size : Int) < 1) = false := by simp; omega
    have e2 : decide ((64 : Int) < (s.size : Int)) = false := by simp; omega
    have HB : Hid (nameB s.data.toList = s.data.toList.all nameC) := Lib.hid (by
      rw [nameB_eq, show decide ((1 : Int) ≤ (s.size : Int)) = true by simp; omega, show decide ((s.size : Int) ≤ 64) = true by simp; omega]
      simp)
    clear h1
    go_enter Tryz.func54, Tryz.ntmps54
    go_wp2_with fail
    go_loopw [3] (fun iv wr => NamInv w s iv wr) (fun iv _ => s.size - (intOf iv).toNat)
    case atStart => exact ⟨0, rfl, Nat.zero_le _, rfl, rfl⟩
    case round =>
      obtain ⟨i, rfl, hi, hall, hwr⟩ := hrel
      have hwr' := hwr.symm
      subst hwr'
      clear hwr
      by_cases hlt : i < s.size
      · have hi1 : (i : Int) < (s.size : Int) := by omega
        have hi0 : (0 : Int) ≤ (i : Int) := by omega
        have hwi : IntKind.i64.wrap ((i : Int) + 1) = (i : Int) + 1 := IntWalk.i64_in _ (by omega)
        have hc256 : s[i].toNat < 256 := s[i].toNat_lt
        have hk : (97 ≤ s[i].toNat ∧ s[i].toNat ≤ 122) ∨ (48 ≤ s[i].toNat ∧ s[i].toNat ≤ 57) ∨ (45 ≤ s[i].toNat ∧ s[i].toNat ≤ 45) ∨ (46 ≤ s[i].toNat ∧ s[i].toNat ≤ 46) ∨ (0 ≤ s[i].toNat ∧ s[i].toNat ≤ 44) ∨ (47 ≤ s[i].toNat ∧ s[i].toNat ≤ 47) ∨ (58 ≤ s[i].toNat ∧ s[i].toNat ≤ 96) ∨ (123 ≤ s[i].toNat ∧ s[i].toNat ≤ 255) := by omega
        rcases hk with h | h | h | h | h | h | h | h
        · have hn : nameC s[i] = true := by unfold nameC; simp; omega
          have f0 : decide ((97 : Int) ≤ (s[i].toNat : Int)) = true := by simp; omega
          have f1 : decide ((s[i].toNat : Int) ≤ 122) = true := by simp; omega
          have f2 : decide ((48 : Int) ≤ (s[i].toNat : Int)) = true := by simp; omega
          have f3 : decide ((s[i].toNat : Int) ≤ 57) = false := by simp; omega
          have f4 : ((s[i].toNat : Int) == 45) = false := by simp; omega
          have f5 : ((s[i].toNat : Int) == 46) = false := by simp; omega
          have Hrel : Hid (NamInv w s (.int .i64 ((i : Int) + 1)) w) := Lib.hid ⟨i + 1, by simp, hlt, by rw [all_snoc hlt, hall, hn]; rfl, rfl⟩
          clear hall hn h
          go_wp2
          go_roundw
          case rel => exact Hrel.out
          case measure => simp [intOf]; omega
        · have hn : nameC s[i] = true := by unfold nameC; simp; omega
          have f0 : decide ((97 : Int) ≤ (s[i].toNat : Int)) = false := by simp; omega
          have f1 : decide ((s[i].toNat : Int) ≤ 122) = true := by simp; omega
          have f2 : decide ((48 : Int) ≤ (s[i].toNat : Int)) = true := by simp; omega
          have f3 : decide ((s[i].toNat : Int) ≤ 57) = true := by simp; omega
          have f4 : ((s[i].toNat : Int) == 45) = false := by simp; omega
          have f5 : ((s[i].toNat : Int) == 46) = false := by simp; omega
          have Hrel : Hid (NamInv w s (.int .i64 ((i : Int) + 1)) w) := Lib.hid ⟨i + 1, by simp, hlt, by rw [all_snoc hlt, hall, hn]; rfl, rfl⟩
          clear hall hn h
          go_wp2
          go_roundw
          case rel => exact Hrel.out
          case measure => simp [intOf]; omega
        · have hn : nameC s[i] = true := by unfold nameC; simp; omega
          have f0 : decide ((97 : Int) ≤ (s[i].toNat : Int)) = false := by simp; omega
          have f1 : decide ((s[i].toNat : Int) ≤ 122) = true := by simp; omega
          have f2 : decide ((48 : Int) ≤ (s[i].toNat : Int)) = false := by simp; omega
          have f3 : decide ((s[i].toNat : Int) ≤ 57) = true := by simp; omega
          have f4 : ((s[i].toNat : Int) == 45) = true := by simp; omega
          have f5 : ((s[i].toNat : Int) == 46) = false := by simp; omega
          have Hrel : Hid (NamInv w s (.int .i64 ((i : Int) + 1)) w) := Lib.hid ⟨i + 1, by simp, hlt, by rw [all_snoc hlt, hall, hn]; rfl, rfl⟩
          clear hall hn h
          go_wp2
          go_roundw
          case rel => exact Hrel.out
          case measure => simp [intOf]; omega
        · have hn : nameC s[i] = true := by unfold nameC; simp; omega
          have f0 : decide ((97 : Int) ≤ (s[i].toNat : Int)) = false := by simp; omega
          have f1 : decide ((s[i].toNat : Int) ≤ 122) = true := by simp; omega
          have f2 : decide ((48 : Int) ≤ (s[i].toNat : Int)) = false := by simp; omega
          have f3 : decide ((s[i].toNat : Int) ≤ 57) = true := by simp; omega
          have f4 : ((s[i].toNat : Int) == 45) = false := by simp; omega
          have f5 : ((s[i].toNat : Int) == 46) = true := by simp; omega
          have Hrel : Hid (NamInv w s (.int .i64 ((i : Int) + 1)) w) := Lib.hid ⟨i + 1, by simp, hlt, by rw [all_snoc hlt, hall, hn]; rfl, rfl⟩
          clear hall hn h
          go_wp2
          go_roundw
          case rel => exact Hrel.out
          case measure => simp [intOf]; omega
        · have hn : nameC s[i] = false := by unfold nameC; simp; omega
          have f0 : decide ((97 : Int) ≤ (s[i].toNat : Int)) = false := by simp; omega
          have f1 : decide ((s[i].toNat : Int) ≤ 122) = true := by simp; omega
          have f2 : decide ((48 : Int) ≤ (s[i].toNat : Int)) = false := by simp; omega
          have f3 : decide ((s[i].toNat : Int) ≤ 57) = true := by simp; omega
          have f4 : ((s[i].toNat : Int) == 45) = false := by simp; omega
          have f5 : ((s[i].toNat : Int) == 46) = false := by simp; omega
          have HP : Hid (nameB s.data.toList = false) := Lib.hid (by rw [HB.out, all_bad hlt hn])
          clear hall hn h
          go_wp2
          go_ret
          exact ⟨by rw [HP.out]; rfl, rfl⟩
        · have hn : nameC s[i] = false := by unfold nameC; simp; omega
          have f0 : decide ((97 : Int) ≤ (s[i].toNat : Int)) = false := by simp; omega
          have f1 : decide ((s[i].toNat : Int) ≤ 122) = true := by simp; omega
          have f2 : decide ((48 : Int) ≤ (s[i].toNat : Int)) = false := by simp; omega
          have f3 : decide ((s[i].toNat : Int) ≤ 57) = true := by simp; omega
          have f4 : ((s[i].toNat : Int) == 45) = false := by simp; omega
          have f5 : ((s[i].toNat : Int) == 46) = false := by simp; omega
          have HP : Hid (nameB s.data.toList = false) := Lib.hid (by rw [HB.out, all_bad hlt hn])
          clear hall hn h
          go_wp2
          go_ret
          exact ⟨by rw [HP.out]; rfl, rfl⟩
        · have hn : nameC s[i] = false := by unfold nameC; simp; omega
          have f0 : decide ((97 : Int) ≤ (s[i].toNat : Int)) = false := by simp; omega
          have f1 : decide ((s[i].toNat : Int) ≤ 122) = true := by simp; omega
          have f2 : decide ((48 : Int) ≤ (s[i].toNat : Int)) = true := by simp; omega
          have f3 : decide ((s[i].toNat : Int) ≤ 57) = false := by simp; omega
          have f4 : ((s[i].toNat : Int) == 45) = false := by simp; omega
          have f5 : ((s[i].toNat : Int) == 46) = false := by simp; omega
          have HP : Hid (nameB s.data.toList = false) := Lib.hid (by rw [HB.out, all_bad hlt hn])
          clear hall hn h
          go_wp2
          go_ret
          exact ⟨by rw [HP.out]; rfl, rfl⟩
        · have hn : nameC s[i] = false := by unfold nameC; simp; omega
          have f0 : decide ((97 : Int) ≤ (s[i].toNat : Int)) = true := by simp; omega
          have f1 : decide ((s[i].toNat : Int) ≤ 122) = false := by simp; omega
          have f2 : decide ((48 : Int) ≤ (s[i].toNat : Int)) = true := by simp; omega
          have f3 : decide ((s[i].toNat : Int) ≤ 57) = false := by simp; omega
          have f4 : ((s[i].toNat : Int) == 45) = false := by simp; omega
          have f5 : ((s[i].toNat : Int) == 46) = false := by simp; omega
          have HP : Hid (nameB s.data.toList = false) := Lib.hid (by rw [HB.out, all_bad hlt hn])
          clear hall hn h
          go_wp2
          go_ret
          exact ⟨by rw [HP.out]; rfl, rfl⟩
      · obtain rfl : i = s.size := by omega
        rw [take_all] at hall
        have HP : Hid (nameB s.data.toList = true) := Lib.hid (by rw [HB.out, hall])
        clear hall
        go_wp2
        go_ret
        exact ⟨by rw [HP.out]; rfl, rfl⟩
  · have HP : Hid (nameB s.data.toList = false) := Lib.hid (by
      rw [nameB_eq]
      have : (decide ((1 : Int) ≤ (s.size : Int)) && decide ((s.size : Int) ≤ 64)) = false := by simp; omega
      rw [this, Bool.and_false])
    have e1 : decide ((s.size : Int) < 1) = true ∨ (decide ((s.size : Int) < 1) = false ∧ decide ((64 : Int) < (s.size : Int)) = true) := by
      by_cases h : s.size < 1
      · left; simp; omega
      · right; exact ⟨by simp; omega, by simp; omega⟩
    clear h1
    rcases e1 with e1 | ⟨e1, e2⟩
    all_goals
      go_enter Tryz.func54, Tryz.ntmps54
      go_wp2
      go_ret
      exact ⟨by rw [HP.out]; rfl, rfl⟩

theorem keyR_any (s : ByteArray) (w : World) : Calls Tryz.prog 55 #[.string s] w fun e w' => e = .returned (.bool (decide ((1 : Int) ≤ (s.size : Int)) && decide ((s.size : Int) ≤ 1024))) ∧ w' = w := by
  by_cases h1 : (1 : Int) ≤ (s.size : Int)
  · by_cases h2 : (s.size : Int) ≤ 1024
    · have f1 : decide ((1 : Int) ≤ (s.size : Int)) = true := by simp only [h1, decide_true]
      have f2 : decide ((s.size : Int) ≤ 1024) = true := by simp only [h2, decide_true]
      rw [f1, f2]
      have p1 : 1 ≤ s.size := by omega
      have p2 : s.size ≤ 1024 := by omega
      clear h1 h2
      go_enter Tryz.func55, Tryz.ntmps55
      go_wp2
      go_ret
      exact ⟨rfl, rfl⟩
    · have f1 : decide ((1 : Int) ≤ (s.size : Int)) = true := by simp only [h1, decide_true]
      have f2 : decide ((s.size : Int) ≤ 1024) = false := by simp only [h2, decide_false]
      rw [f1, f2]
      clear h1 h2
      go_enter Tryz.func55, Tryz.ntmps55
      go_wp2
      go_ret
      exact ⟨rfl, rfl⟩
  · have f1 : decide ((1 : Int) ≤ (s.size : Int)) = false := by simp only [h1, decide_false]
    rw [f1]
    clear h1
    go_enter Tryz.func55, Tryz.ntmps55
    go_wp2
    go_ret
    exact ⟨rfl, rfl⟩

end Go.Proofs.YtdegmpimcappjaaGreatDoor

/- Numbers of parts that rise: both sides. -/
namespace Go.Proofs.YtdegmpimcappjaaGreatDoor
open Go.RowKit Go.Gl Go.Front

def RsInv (w : World) (l : List Int) (iv : Value) (wr : World) : Prop :=
  ∃ (i : Nat) (last : Int), iv = .int .i64 i ∧ i ≤ l.length ∧ risingF 0 l = risingF last (l.drop i) ∧ (i = 0 → last = 0) ∧ (0 < i → l[i - 1]? = some last ∧ 1 ≤ last) ∧ Grow w wr

theorem rs_step {l : List Int} {i : Nat} {n last : Int} (hn : l[i]? = some n) (h : risingF 0 l = risingF last (l.drop i)) : risingF 0 l = (decide (last < n) && decide (n ≤ 10000) && risingF n (l.drop (i + 1))) := by
  obtain ⟨hi, rfl⟩ := List.getElem?_eq_some_iff.1 hn
  rw [h, List.drop_eq_getElem_cons hi, risingF]

theorem partsB_of {l : List Int} (h1 : 1 ≤ l.length) (h2 : l.length ≤ 10000) : partsB l = risingF 0 l := by
  unfold partsB
  rw [decide_eq_true h1, decide_eq_true h2]
  simp

set_option maxRecDepth 100000 in
set_option maxHeartbeats 16000000 in
theorem rising_any {w : World} {v : Value} {l : List Int} (h : Iv w v l) (hmax : l.length ≤ 9223372036854775807) :
    Calls Tryz.prog 69 #[v] w fun e w' => e = .returned (.bool (partsB l)) ∧ Grow w w' := by
  obtain ⟨va, vc, rfl, hv⟩ := h
  have Hv := Lib.hid hv
  clear hv
  by_cases hl : 1 ≤ l.length ∧ l.length ≤ 10000
  · have e1 : decide ((l.length : Int) < 1) = false := by simp; omega
    have e2 : decide ((10000 : Int) < (l.length : Int)) = false := by simp; omega
    have HPB : Hid (partsB l = risingF 0 l) := Lib.hid (partsB_of hl.1 hl.2)
    have Hl := Lib.hid hl
    clear hl
    go_enter Tryz.func69, Tryz.ntmps69
    go_wp2_with fail
    go_loopw [15] (fun iv wr => RsInv w l iv wr) (fun iv _ => l.length - (intOf iv).toNat)
    case atStart => exact ⟨0, 0, rfl, Nat.zero_le _, rfl, fun _ => rfl, fun h => absurd h (Nat.lt_irrefl _), Grow.refl _⟩
    case round =>
      clear e1 e2
      obtain ⟨i, last, rfl, hi, hris, h0, hpos, hg⟩ := hrel
      by_cases hlt : i < l.length
      · obtain ⟨n, hn⟩ : ∃ n, l[i]? = some n := ⟨l[i], by simp [hlt]⟩
        obtain ⟨b, o, rfl, hbs, hc⟩ := Hv.out.resolve_left (fun e => by rw [e] at hlt; simp at hlt)
        have hcn : wr.cell? ⟨b, o + i, none⟩ = some (.int .i64 n) := by rw [Grow.cells _ _ _ hg hbs]; exact hc i n hn
        have lb : b < wr.heap.size := Nat.lt_of_lt_of_le hbs hg.size
        have hi1 : (i : Int) < (l.length : Int) := by omega
        have hi0 : (0 : Int) ≤ (i : Int) := by omega
        have hi9 := Hl.out.2
        have hwi : IntKind.i64.wrap ((i : Int) + 1) = (i : Int) + 1 := IntWalk.i64_in _ (by omega)
        have hst := rs_step hn hris
        by_cases hok : last < n ∧ n ≤ 10000
        · have hn1 : 1 ≤ n := by
            rcases Nat.eq_zero_or_pos i with hz | hz
            · have := h0 hz; omega
            · have := (hpos hz).2; omega
          have f1 : decide (n < 1) = false := by simp; omega
          have f2 : decide ((10000 : Int) < n) = false := by simp; omega
          rw [decide_eq_true hok.1, decide_eq_true hok.2] at hst
          have Hrel : Hid (RsInv w l (.int .i64 ((i : Int) + 1)) wr) := Lib.hid ⟨i + 1, n, by simp, hlt, by rw [hst]; rfl, fun h => by omega, fun _ => ⟨by rw [Nat.add_sub_cancel]; exact hn, hn1⟩, hg⟩
          by_cases hz : i = 0
          · subst hz
            have g1 : decide ((0 : Int) < ((0 : Nat) : Int)) = false := by decide
            have hcn0 : wr.cell? ⟨b, o, none⟩ = some (.int .i64 n) := by simpa using hcn
            clear hst hris h0 hpos hg hc hn hok hcn
            go_wp2
            go_roundw
            case rel => exact Hrel.out
            case measure => simp [intOf]; omega
          · have g1 : decide ((0 : Int) < (i : Int)) = true := by simp; omega
            obtain ⟨j, rfl⟩ : ∃ j, i = j + 1 := ⟨i - 1, by omega⟩
            have hp := (hpos (by omega)).1
            rw [Nat.add_sub_cancel] at hp
            have hcp : wr.cell? ⟨b, o + j, none⟩ = some (.int .i64 last) := by rw [Grow.cells _ _ _ hg hbs]; exact hc j last hp
            have g2 : decide (n ≤ last) = false := by simp; omega
            have q1 : (((j + 1 : Nat) : Int) - 1) = (j : Int) := by omega
            have q2 : (j : Int) < (l.length : Int) := by omega
            have q3 : (0 : Int) ≤ (j : Int) := by omega
            have q4 : j < l.length := by omega
            clear hst hris h0 hpos hg hc hn hok hp
            go_wp2
            go_roundw
            case rel => exact Hrel.out
            case measure => simp [intOf]; omega
        · have HP : Hid (partsB l = false) := Lib.hid (by
            rw [HPB.out, hst]
            by_cases hx : last < n
            · have : ¬ n ≤ 10000 := fun h => hok ⟨hx, h⟩
              rw [decide_eq_false this]; simp
            · rw [decide_eq_false hx]; simp)
          have Hg := Lib.hid hg
          have hcase : (decide (n < 1) = true) ∨ (decide (n < 1) = false ∧ decide ((10000 : Int) < n) = true) ∨ (decide (n < 1) = false ∧ decide ((10000 : Int) < n) = false ∧ n ≤ last ∧ 1 ≤ n) := by
            by_cases q1 : n < 1
            · exact .inl (by simp [q1])
            · by_cases q2 : 10000 < n
              · exact .inr (.inl ⟨by simp [q1], by simp [q2]⟩)
              · refine .inr (.inr ⟨by simp [q1], by simp [q2], ?_, by omega⟩)
                have : ¬ last < n := fun h => hok ⟨h, by omega⟩
                omega
          rcases hcase with f1 | ⟨f1, f2⟩ | ⟨f1, f2, hle, hn1⟩
          · clear hst hris h0 hpos hg hc hn hok
            go_wp2
            go_ret
            exact ⟨by rw [HP.out]; rfl, Hg.out⟩
          · clear hst hris h0 hpos hg hc hn hok
            go_wp2
            go_ret
            exact ⟨by rw [HP.out]; rfl, Hg.out⟩
          · have hz : i ≠ 0 := fun hz => by have := h0 hz; omega
            have g1 : decide ((0 : Int) < (i : Int)) = true := by simp; omega
            obtain ⟨j, rfl⟩ : ∃ j, i = j + 1 := ⟨i - 1, by omega⟩
            have hp := (hpos (by omega)).1
            rw [Nat.add_sub_cancel] at hp
            have hcp : wr.cell? ⟨b, o + j, none⟩ = some (.int .i64 last) := by rw [Grow.cells _ _ _ hg hbs]; exact hc j last hp
            have g2 : decide (n ≤ last) = true := by simp [hle]
            have q1 : (((j + 1 : Nat) : Int) - 1) = (j : Int) := by omega
            have q2 : (j : Int) < (l.length : Int) := by omega
            have q3 : (0 : Int) ≤ (j : Int) := by omega
            have q4 : j < l.length := by omega
            clear hst hris h0 hpos hg hc hn hok hp hle hn1
            go_wp2
            go_ret
            exact ⟨by rw [HP.out]; rfl, Hg.out⟩
      · obtain rfl : i = l.length := by omega
        rw [List.drop_length] at hris
        have HP : Hid (partsB l = true) := Lib.hid (by rw [HPB.out, hris]; rfl)
        have Hg := Lib.hid hg
        clear hris h0 hpos hg
        go_wp2
        go_ret
        exact ⟨by rw [HP.out]; rfl, Hg.out⟩
  · have HP : Hid (partsB l = false) := Lib.hid (by
      unfold partsB
      by_cases h1 : 1 ≤ l.length
      · have : ¬ l.length ≤ 10000 := fun h => hl ⟨h1, h⟩
        rw [decide_eq_false this]; simp
      · rw [decide_eq_false h1]; simp)
    have e1 : decide ((l.length : Int) < 1) = true ∨ (decide ((l.length : Int) < 1) = false ∧ decide ((10000 : Int) < (l.length : Int)) = true) := by
      by_cases h1 : l.length < 1
      · exact .inl (by simp; omega)
      · exact .inr ⟨by simp; omega, by simp; omega⟩
    clear hl
    rcases e1 with e1 | ⟨e1, e2⟩
    all_goals
      go_enter Tryz.func69, Tryz.ntmps69
      go_wp2
      go_ret
      exact ⟨by rw [HP.out]; rfl, Grow.refl _⟩
end Go.Proofs.YtdegmpimcappjaaGreatDoor

/- The document's parts. -/
namespace Go.Proofs.YtdegmpimcappjaaGreatDoor
open Go.RowKit Go.Gl Go.Front

set_option maxRecDepth 100000 in
set_option maxHeartbeats 16000000 in
theorem partsR_any {w : World} {v : Value} {l : List Int} (h : Iv w v l) (hmax : l.length ≤ 9223372036854775807) :
    Calls Tryz.prog 56 #[v] w fun e w' => e = .returned (.bool (partsB l)) ∧ Grow w w' := by
  obtain ⟨va, vc, rfl, hv⟩ := h
  have Hv := Lib.hid hv
  clear hv
  by_cases hl : 1 ≤ l.length ∧ l.length ≤ 10000
  · have e1 : decide ((l.length : Int) < 1) = false := by simp; omega
    have e2 : decide ((10000 : Int) < (l.length : Int)) = false := by simp; omega
    have HPB : Hid (partsB l = risingF 0 l) := Lib.hid (partsB_of hl.1 hl.2)
    have Hl := Lib.hid hl
    clear hl
    go_enter Tryz.func56, Tryz.ntmps56
    go_wp2_with fail
    go_loopw [3] (fun iv wr => RsInv w l iv wr) (fun iv _ => l.length - (intOf iv).toNat)
    case atStart => exact ⟨0, 0, rfl, Nat.zero_le _, rfl, fun _ => rfl, fun h => absurd h (Nat.lt_irrefl _), Grow.refl _⟩
    case round =>
      clear e1 e2
      obtain ⟨i, last, rfl, hi, hris, h0, hpos, hg⟩ := hrel
      by_cases hlt : i < l.length
      · obtain ⟨n, hn⟩ : ∃ n, l[i]? = some n := ⟨l[i], by simp [hlt]⟩
        obtain ⟨b, o, rfl, hbs, hc⟩ := Hv.out.resolve_left (fun e => by rw [e] at hlt; simp at hlt)
        have hcn : wr.cell? ⟨b, o + i, none⟩ = some (.int .i64 n) := by rw [Grow.cells _ _ _ hg hbs]; exact hc i n hn
        have lb : b < wr.heap.size := Nat.lt_of_lt_of_le hbs hg.size
        have hi1 : (i : Int) < (l.length : Int) := by omega
        have hi0 : (0 : Int) ≤ (i : Int) := by omega
        have hi9 := Hl.out.2
        have hwi : IntKind.i64.wrap ((i : Int) + 1) = (i : Int) + 1 := IntWalk.i64_in _ (by omega)
        have hst := rs_step hn hris
        have hcl := Grow.cells (w := wr)
        have Hg := Lib.hid hg
        by_cases hok : last < n ∧ n ≤ 10000
        · have hn1 : 1 ≤ n := by
            rcases Nat.eq_zero_or_pos i with hz | hz
            · have := h0 hz; omega
            · have := (hpos hz).2; omega
          have f1 : decide (n < 1) = false := by simp; omega
          have f2 : decide ((10000 : Int) < n) = false := by simp; omega
          rw [decide_eq_true hok.1, decide_eq_true hok.2] at hst
          have Hrel : Hid (∀ W, Grow wr W → RsInv w l (.int .i64 ((i : Int) + 1)) W) := Lib.hid (fun W hW => ⟨i + 1, n, by simp, hlt, by rw [hst]; rfl, fun h => by omega, fun _ => ⟨by rw [Nat.add_sub_cancel]; exact hn, hn1⟩, hg.trans hW⟩)
          by_cases hz : i = 0
          · subst hz
            have g1 : decide ((0 : Int) < ((0 : Nat) : Int)) = false := by decide
            have hcn0 : wr.cell? ⟨b, o, none⟩ = some (.int .i64 n) := by simpa using hcn
            clear hst hris h0 hpos hg hc hn hok hcn
            go_wp2_with fail
            refine wp_region_fix (fun W => Below wr.heap.size wr W) (by kernel_rfl) (by kernel_rfl) (by kernel_rfl) (Grow.drew wr) ?_
            repeat (first | (refine wpFix_quiet (v := ?_) (by rfl) (fun W hW => ?_) ?_; rotate_left; (obtain hW := hW; go_simp; with_reducible rfl); (try simp only [Act.put, List.setIfInBounds_toArray, List.set_cons_zero, List.set_cons_succ])) | (refine wpFix_off (by rfl) ?_; (try simp only [Act.put, List.setIfInBounds_toArray, List.set_cons_zero, List.set_cons_succ])))
            refine wpFix_nil (fun W hW => ?_)
            have HW := Lib.hid hW
            clear hW hcl
            go_wp2
            go_roundw
            case rel => exact Hrel.out _ HW.out
            case measure => simp [intOf]; omega
          · have g1 : decide ((0 : Int) < (i : Int)) = true := by simp; omega
            obtain ⟨j, rfl⟩ : ∃ j, i = j + 1 := ⟨i - 1, by omega⟩
            have hp := (hpos (by omega)).1
            rw [Nat.add_sub_cancel] at hp
            have hcp : wr.cell? ⟨b, o + j, none⟩ = some (.int .i64 last) := by rw [Grow.cells _ _ _ hg hbs]; exact hc j last hp
            have q1 : (((j + 1 : Nat) : Int) - 1) = (j : Int) := by omega
            have q5 : IntKind.i64.wrap (((j : Int) + 1) - 1) = (j : Int) := by rw [Int.add_sub_cancel]; exact IntWalk.i64_in _ (by omega)
            have q6 : IntKind.i64.wrap (j : Int) = (j : Int) := IntWalk.i64_in _ (by omega)
            have q2 : (j : Int) < (l.length : Int) := by omega
            have q3 : (0 : Int) ≤ (j : Int) := by omega
            have q4 : j < l.length := by omega
            have p1 : (j : Int) + 1 < (l.length : Int) := by omega
            have p2 : decide ((j : Int) + 1 < (l.length : Int)) = true := by simp only [p1, decide_true]
            have p3 : (0 : Int) ≤ (j : Int) + 1 := by omega
            have p4 : ((j : Int) + 1).toNat = j + 1 := by omega
            have p5 : j + 1 < l.length := by omega
            have p6 : decide ((0 : Int) < (j : Int) + 1) = true := decide_eq_true (by omega)
            have p7 : IntKind.i64.wrap ((j : Int) + 1 + 1) = (j : Int) + 1 + 1 := IntWalk.i64_in _ (by omega)
            have g2 : decide (n ≤ last) = false := by simp; omega
            clear hst hris h0 hpos hg hc hn hok hp
            go_wp2_with fail
            refine wp_region_fix (fun W => Below wr.heap.size wr W) (by kernel_rfl) (by kernel_rfl) (by kernel_rfl) (Grow.drew wr) ?_
            repeat (first | (refine wpFix_quiet (v := ?_) (by rfl) (fun W hW => ?_) ?_; rotate_left; (obtain hW := hW; go_simp; with_reducible rfl); (try simp only [Act.put, List.setIfInBounds_toArray, List.set_cons_zero, List.set_cons_succ])) | (refine wpFix_off (by rfl) ?_; (try simp only [Act.put, List.setIfInBounds_toArray, List.set_cons_zero, List.set_cons_succ])))
            refine wpFix_nil (fun W hW => ?_)
            have HW := Lib.hid hW
            clear hW hcl
            go_wp2
            go_roundw
            case rel => exact Hrel.out _ HW.out
            case measure => simp [intOf]; omega
        · have HP : Hid (partsB l = false) := Lib.hid (by
            rw [HPB.out, hst]
            by_cases hx : last < n
            · have : ¬ n ≤ 10000 := fun h => hok ⟨hx, h⟩
              rw [decide_eq_false this]; simp
            · rw [decide_eq_false hx]; simp)
          have hcase : (decide (n < 1) = true) ∨ (decide (n < 1) = false ∧ decide ((10000 : Int) < n) = true) ∨ (decide (n < 1) = false ∧ decide ((10000 : Int) < n) = false ∧ n ≤ last ∧ 1 ≤ n) := by
            by_cases q1 : n < 1
            · exact .inl (by simp [q1])
            · by_cases q2 : 10000 < n
              · exact .inr (.inl ⟨by simp [q1], by simp [q2]⟩)
              · refine .inr (.inr ⟨by simp [q1], by simp [q2], ?_, by omega⟩)
                have : ¬ last < n := fun h => hok ⟨h, by omega⟩
                omega
          rcases hcase with f1 | ⟨f1, f2⟩ | ⟨f1, f2, hle, hn1⟩
          · clear hst hris h0 hpos hg hc hn hok
            go_wp2_with fail
            refine wp_region_fix (fun W => Below wr.heap.size wr W) (by kernel_rfl) (by kernel_rfl) (by kernel_rfl) (Grow.drew wr) ?_
            repeat (first | (refine wpFix_quiet (v := ?_) (by rfl) (fun W hW => ?_) ?_; rotate_left; (obtain hW := hW; go_simp; with_reducible rfl); (try simp only [Act.put, List.setIfInBounds_toArray, List.set_cons_zero, List.set_cons_succ])) | (refine wpFix_off (by rfl) ?_; (try simp only [Act.put, List.setIfInBounds_toArray, List.set_cons_zero, List.set_cons_succ])))
            refine wpFix_nil (fun W hW => ?_)
            have HW := Lib.hid hW
            clear hW hcl
            go_wp2
            go_ret
            exact ⟨by rw [HP.out]; rfl, Hg.out.trans HW.out⟩
          · clear hst hris h0 hpos hg hc hn hok
            go_wp2_with fail
            refine wp_region_fix (fun W => Below wr.heap.size wr W) (by kernel_rfl) (by kernel_rfl) (by kernel_rfl) (Grow.drew wr) ?_
            repeat (first | (refine wpFix_quiet (v := ?_) (by rfl) (fun W hW => ?_) ?_; rotate_left; (obtain hW := hW; go_simp; with_reducible rfl); (try simp only [Act.put, List.setIfInBounds_toArray, List.set_cons_zero, List.set_cons_succ])) | (refine wpFix_off (by rfl) ?_; (try simp only [Act.put, List.setIfInBounds_toArray, List.set_cons_zero, List.set_cons_succ])))
            refine wpFix_nil (fun W hW => ?_)
            have HW := Lib.hid hW
            clear hW hcl
            go_wp2
            go_ret
            exact ⟨by rw [HP.out]; rfl, Hg.out.trans HW.out⟩
          · have hz : i ≠ 0 := fun hz => by have := h0 hz; omega
            have g1 : decide ((0 : Int) < (i : Int)) = true := by simp; omega
            obtain ⟨j, rfl⟩ : ∃ j, i = j + 1 := ⟨i - 1, by omega⟩
            have hp := (hpos (by omega)).1
            rw [Nat.add_sub_cancel] at hp
            have hcp : wr.cell? ⟨b, o + j, none⟩ = some (.int .i64 last) := by rw [Grow.cells _ _ _ hg hbs]; exact hc j last hp
            have q1 : (((j + 1 : Nat) : Int) - 1) = (j : Int) := by omega
            have q5 : IntKind.i64.wrap (((j : Int) + 1) - 1) = (j : Int) := by rw [Int.add_sub_cancel]; exact IntWalk.i64_in _ (by omega)
            have q6 : IntKind.i64.wrap (j : Int) = (j : Int) := IntWalk.i64_in _ (by omega)
            have q2 : (j : Int) < (l.length : Int) := by omega
            have q3 : (0 : Int) ≤ (j : Int) := by omega
            have q4 : j < l.length := by omega
            have p1 : (j : Int) + 1 < (l.length : Int) := by omega
            have p2 : decide ((j : Int) + 1 < (l.length : Int)) = true := by simp only [p1, decide_true]
            have p3 : (0 : Int) ≤ (j : Int) + 1 := by omega
            have p4 : ((j : Int) + 1).toNat = j + 1 := by omega
            have p5 : j + 1 < l.length := by omega
            have p6 : decide ((0 : Int) < (j : Int) + 1) = true := decide_eq_true (by omega)
            have p7 : IntKind.i64.wrap ((j : Int) + 1 + 1) = (j : Int) + 1 + 1 := IntWalk.i64_in _ (by omega)
            have g2 : decide (n ≤ last) = true := by simp [hle]
            clear hst hris h0 hpos hg hc hn hok hp hle hn1
            go_wp2_with fail
            refine wp_region_fix (fun W => Below wr.heap.size wr W) (by kernel_rfl) (by kernel_rfl) (by kernel_rfl) (Grow.drew wr) ?_
            repeat (first | (refine wpFix_quiet (v := ?_) (by rfl) (fun W hW => ?_) ?_; rotate_left; (obtain hW := hW; go_simp; with_reducible rfl); (try simp only [Act.put, List.setIfInBounds_toArray, List.set_cons_zero, List.set_cons_succ])) | (refine wpFix_off (by rfl) ?_; (try simp only [Act.put, List.setIfInBounds_toArray, List.set_cons_zero, List.set_cons_succ])))
            refine wpFix_nil (fun W hW => ?_)
            have HW := Lib.hid hW
            clear hW hcl
            go_wp2
            go_ret
            exact ⟨by rw [HP.out]; rfl, Hg.out.trans HW.out⟩
      · obtain rfl : i = l.length := by omega
        rw [List.drop_length] at hris
        have HP : Hid (partsB l = true) := Lib.hid (by rw [HPB.out, hris]; rfl)
        have Hg := Lib.hid hg
        clear hris h0 hpos hg
        go_wp2
        go_ret
        exact ⟨by rw [HP.out]; rfl, Hg.out⟩
  · have HP : Hid (partsB l = false) := Lib.hid (by
      unfold partsB
      by_cases h1 : 1 ≤ l.length
      · have : ¬ l.length ≤ 10000 := fun h => hl ⟨h1, h⟩
        rw [decide_eq_false this]; simp
      · rw [decide_eq_false h1]; simp)
    have e1 : decide ((l.length : Int) < 1) = true ∨ (decide ((l.length : Int) < 1) = false ∧ decide ((10000 : Int) < (l.length : Int)) = true) := by
      by_cases h1 : l.length < 1
      · exact .inl (by simp; omega)
      · exact .inr ⟨by simp; omega, by simp; omega⟩
    clear hl
    rcases e1 with e1 | ⟨e1, e2⟩
    all_goals
      go_enter Tryz.func56, Tryz.ntmps56
      go_wp2
      go_ret
      exact ⟨by rw [HP.out]; rfl, Grow.refl _⟩
end Go.Proofs.YtdegmpimcappjaaGreatDoor

/- The program's table of fields. -/
namespace Go.Proofs.YtdegmpimcappjaaGreatDoor
open Go.RowKit Go.Gl Go.Front

def fl0 (k : Int) : Bool := decide (1 ≤ k) && decide (k ≤ 7)
def fl1 (k : Int) : Bool := k == 3 || k == 4 || k == 5 || k == 7
def fl2 (k : Int) : Bool := k == 6
def fl3 (k : Int) : Bool := k == 8 || k == 9 || k == 10
def fl4 (k : Int) : Bool := k == 8
def fl5 (k : Int) : Bool := k == 9
def fl6 (k : Int) : Bool := k == 3 || k == 8
def flK (k : Int) : Bool := decide (1 ≤ k) && decide (k ≤ 10)

def FlPost (k : Int) (w : World) : Ending → World → Prop := fun e w' => e = .returned (.tuple #[.agg #[.bool (fl0 k), .bool (fl1 k), .bool (fl2 k), .bool (fl3 k), .bool (fl4 k), .bool (fl5 k), .bool (fl6 k)], .bool (flK k)]) ∧ Grow w w'

theorem fields_1 (w : World) : Calls Tryz.prog 66 #[.int .i64 1] w (FlPost 1 w) := by
  go_enter Tryz.func66, Tryz.ntmps66
  go_wp2
  exact bodyPost_ret (v := .tuple #[.agg #[.bool true, .bool false, .bool false, .bool false, .bool false, .bool false, .bool false], .bool true]) (by simp [results, Tryz.results66, go_sem]) rfl ⟨by simp [fl0, fl1, fl2, fl3, fl4, fl5, fl6, flK], by (repeat (first | exact Below.refl _ _ | assumption | refine Below.drew ?_ | refine bDrewN ?_ | refine Below.setCell ?_ (by first | omega | (simp <;> omega)) _ | refine Below.alloc ?_ (by first | omega | (simp <;> omega)) _))⟩

theorem fields_2 (w : World) : Calls Tryz.prog 66 #[.int .i64 2] w (FlPost 2 w) := by
  go_enter Tryz.func66, Tryz.ntmps66
  go_wp2
  exact bodyPost_ret (v := .tuple #[.agg #[.bool true, .bool false, .bool false, .bool false, .bool false, .bool false, .bool false], .bool true]) (by simp [results, Tryz.results66, go_sem]) rfl ⟨by simp [fl0, fl1, fl2, fl3, fl4, fl5, fl6, flK], by (repeat (first | exact Below.refl _ _ | assumption | refine Below.drew ?_ | refine bDrewN ?_ | refine Below.setCell ?_ (by first | omega | (simp <;> omega)) _ | refine Below.alloc ?_ (by first | omega | (simp <;> omega)) _))⟩

theorem fields_3 (w : World) : Calls Tryz.prog 66 #[.int .i64 3] w (FlPost 3 w) := by
  go_enter Tryz.func66, Tryz.ntmps66
  go_wp2
  exact bodyPost_ret (v := .tuple #[.agg #[.bool true, .bool true, .bool false, .bool false, .bool false, .bool false, .bool true], .bool true]) (by simp [results, Tryz.results66, go_sem]) rfl ⟨by simp [fl0, fl1, fl2, fl3, fl4, fl5, fl6, flK], by (repeat (first | exact Below.refl _ _ | assumption | refine Below.drew ?_ | refine bDrewN ?_ | refine Below.setCell ?_ (by first | omega | (simp <;> omega)) _ | refine Below.alloc ?_ (by first | omega | (simp <;> omega)) _))⟩

theorem fields_4 (w : World) : Calls Tryz.prog 66 #[.int .i64 4] w (FlPost 4 w) := by
  go_enter Tryz.func66, Tryz.ntmps66
  go_wp2
  exact bodyPost_ret (v := .tuple #[.agg #[.bool true, .bool true, .bool false, .bool false, .bool false, .bool false, .bool false], .bool true]) (by simp [results, Tryz.results66, go_sem]) rfl ⟨by simp [fl0, fl1, fl2, fl3, fl4, fl5, fl6, flK], by (repeat (first | exact Below.refl _ _ | assumption | refine Below.drew ?_ | refine bDrewN ?_ | refine Below.setCell ?_ (by first | omega | (simp <;> omega)) _ | refine Below.alloc ?_ (by first | omega | (simp <;> omega)) _))⟩

theorem fields_5 (w : World) : Calls Tryz.prog 66 #[.int .i64 5] w (FlPost 5 w) := by
  go_enter Tryz.func66, Tryz.ntmps66
  go_wp2
  exact bodyPost_ret (v := .tuple #[.agg #[.bool true, .bool true, .bool false, .bool false, .bool false, .bool false, .bool false], .bool true]) (by simp [results, Tryz.results66, go_sem]) rfl ⟨by simp [fl0, fl1, fl2, fl3, fl4, fl5, fl6, flK], by (repeat (first | exact Below.refl _ _ | assumption | refine Below.drew ?_ | refine bDrewN ?_ | refine Below.setCell ?_ (by first | omega | (simp <;> omega)) _ | refine Below.alloc ?_ (by first | omega | (simp <;> omega)) _))⟩

theorem fields_6 (w : World) : Calls Tryz.prog 66 #[.int .i64 6] w (FlPost 6 w) := by
  go_enter Tryz.func66, Tryz.ntmps66
  go_wp2
  exact bodyPost_ret (v := .tuple #[.agg #[.bool true, .bool false, .bool true, .bool false, .bool false, .bool false, .bool false], .bool true]) (by simp [results, Tryz.results66, go_sem]) rfl ⟨by simp [fl0, fl1, fl2, fl3, fl4, fl5, fl6, flK], by (repeat (first | exact Below.refl _ _ | assumption | refine Below.drew ?_ | refine bDrewN ?_ | refine Below.setCell ?_ (by first | omega | (simp <;> omega)) _ | refine Below.alloc ?_ (by first | omega | (simp <;> omega)) _))⟩

theorem fields_7 (w : World) : Calls Tryz.prog 66 #[.int .i64 7] w (FlPost 7 w) := by
  go_enter Tryz.func66, Tryz.ntmps66
  go_wp2
  exact bodyPost_ret (v := .tuple #[.agg #[.bool true, .bool true, .bool false, .bool false, .bool false, .bool false, .bool false], .bool true]) (by simp [results, Tryz.results66, go_sem]) rfl ⟨by simp [fl0, fl1, fl2, fl3, fl4, fl5, fl6, flK], by (repeat (first | exact Below.refl _ _ | assumption | refine Below.drew ?_ | refine bDrewN ?_ | refine Below.setCell ?_ (by first | omega | (simp <;> omega)) _ | refine Below.alloc ?_ (by first | omega | (simp <;> omega)) _))⟩

theorem fields_8 (w : World) : Calls Tryz.prog 66 #[.int .i64 8] w (FlPost 8 w) := by
  go_enter Tryz.func66, Tryz.ntmps66
  go_wp2
  exact bodyPost_ret (v := .tuple #[.agg #[.bool false, .bool false, .bool false, .bool true, .bool true, .bool false, .bool true], .bool true]) (by simp [results, Tryz.results66, go_sem]) rfl ⟨by simp [fl0, fl1, fl2, fl3, fl4, fl5, fl6, flK], by (repeat (first | exact Below.refl _ _ | assumption | refine Below.drew ?_ | refine bDrewN ?_ | refine Below.setCell ?_ (by first | omega | (simp <;> omega)) _ | refine Below.alloc ?_ (by first | omega | (simp <;> omega)) _))⟩

theorem fields_9 (w : World) : Calls Tryz.prog 66 #[.int .i64 9] w (FlPost 9 w) := by
  go_enter Tryz.func66, Tryz.ntmps66
  go_wp2
  exact bodyPost_ret (v := .tuple #[.agg #[.bool false, .bool false, .bool false, .bool true, .bool false, .bool true, .bool false], .bool true]) (by simp [results, Tryz.results66, go_sem]) rfl ⟨by simp [fl0, fl1, fl2, fl3, fl4, fl5, fl6, flK], by (repeat (first | exact Below.refl _ _ | assumption | refine Below.drew ?_ | refine bDrewN ?_ | refine Below.setCell ?_ (by first | omega | (simp <;> omega)) _ | refine Below.alloc ?_ (by first | omega | (simp <;> omega)) _))⟩

theorem fields_10 (w : World) : Calls Tryz.prog 66 #[.int .i64 10] w (FlPost 10 w) := by
  go_enter Tryz.func66, Tryz.ntmps66
  go_wp2
  exact bodyPost_ret (v := .tuple #[.agg #[.bool false, .bool false, .bool false, .bool true, .bool false, .bool false, .bool false], .bool true]) (by simp [results, Tryz.results66, go_sem]) rfl ⟨by simp [fl0, fl1, fl2, fl3, fl4, fl5, fl6, flK], by (repeat (first | exact Below.refl _ _ | assumption | refine Below.drew ?_ | refine bDrewN ?_ | refine Below.setCell ?_ (by first | omega | (simp <;> omega)) _ | refine Below.alloc ?_ (by first | omega | (simp <;> omega)) _))⟩

theorem fields_any (k : Int) (w : World) : Calls Tryz.prog 66 #[.int .i64 k] w (FlPost k w) := by
  by_cases h : 1 ≤ k ∧ k ≤ 10
  · have : k = 1 ∨ k = 2 ∨ k = 3 ∨ k = 4 ∨ k = 5 ∨ k = 6 ∨ k = 7 ∨ k = 8 ∨ k = 9 ∨ k = 10 := by omega
    rcases this with rfl | rfl | rfl | rfl | rfl | rfl | rfl | rfl | rfl | rfl
    · exact fields_1 w
    · exact fields_2 w
    · exact fields_3 w
    · exact fields_4 w
    · exact fields_5 w
    · exact fields_6 w
    · exact fields_7 w
    · exact fields_8 w
    · exact fields_9 w
    · exact fields_10 w
  · have hne : ∀ j : Int, 1 ≤ j → j ≤ 10 → (k == j) = false := fun j h1 h2 => by simp; omega
    have f1 := hne 1 (by decide) (by decide)
    have f2 := hne 2 (by decide) (by decide)
    have f3 := hne 3 (by decide) (by decide)
    have f4 := hne 4 (by decide) (by decide)
    have f5 := hne 5 (by decide) (by decide)
    have f6 := hne 6 (by decide) (by decide)
    have f7 := hne 7 (by decide) (by decide)
    have f8 := hne 8 (by decide) (by decide)
    have f9 := hne 9 (by decide) (by decide)
    have f10 := hne 10 (by decide) (by decide)
    have HT : Hid ((#[.agg #[.bool (fl0 k), .bool (fl1 k), .bool (fl2 k), .bool (fl3 k), .bool (fl4 k), .bool (fl5 k), .bool (fl6 k)], .bool (flK k)] : Array Value) = #[.agg #[.bool false, .bool false, .bool false, .bool false, .bool false, .bool false, .bool false], .bool false]) := Lib.hid (by
      have a0 : fl0 k = false := by unfold fl0; simp; omega
      have a1 : flK k = false := by unfold flK; simp; omega
      rw [a0, a1]
      unfold fl1 fl2 fl3 fl4 fl5 fl6
      rw [f3, f4, f5, f6, f7, f8, f9, f10]
      rfl)
    clear h hne
    go_enter Tryz.func66, Tryz.ntmps66
    go_wp2
    exact bodyPost_ret (v := .tuple #[.agg #[.bool false, .bool false, .bool false, .bool false, .bool false, .bool false, .bool false], .bool false]) (by simp [results, Tryz.results66, go_sem]) rfl ⟨by rw [HT.out], by (repeat (first | exact Below.refl _ _ | assumption | refine Below.drew ?_ | refine bDrewN ?_ | refine Below.setCell ?_ (by first | omega | (simp <;> omega)) _ | refine Below.alloc ?_ (by first | omega | (simp <;> omega)) _))⟩
end Go.Proofs.YtdegmpimcappjaaGreatDoor

/- What is right, by the program's table of fields: plain. -/
namespace Go.Proofs.YtdegmpimcappjaaGreatDoor
open Go.RowKit Go.Gl Go.Front

/-- The error's number. -/
def errD (b : Bool) : Int := if b then 0 else 1
def ck1 (kn f0 nb eb : Bool) : Bool := kn && (f0 && nb || !f0 && eb)
def ck2 (c1 f1 f2 lk1 lk0 ek : Bool) : Bool := c1 && (if f1 then lk1 else if f2 then lk0 else ek)
def ck3 (c2 f2 f4 la0 n1 n2 n3 n0 ea : Bool) : Bool := c2 && (if f2 then la0 && n1 && n2 else if f4 then ea && n1 && n3 else ea && n0)
def ck4 (c3 f3 f5 u0 rp l0 : Bool) : Bool := c3 && (f3 || u0) && (f5 && rp || !f5 && l0)
def ck5 (c4 f6 d1 d0 : Bool) : Bool := c4 && !(f6 && d1) && !(!f6 && d0)
def ckB (kn f0 f1 f2 f3 f4 f5 f6 nb eb lk1 lk0 ek la0 n1 n2 n3 n0 ea u0 rp l0 d1 d0 : Bool) : Bool :=
  ck5 (ck4 (ck3 (ck2 (ck1 kn f0 nb eb) f1 f2 lk1 lk0 ek) f2 f4 la0 n1 n2 n3 n0 ea) f3 f5 u0 rp l0) f6 d1 d0

theorem ck_or {k : Int} (h : 1 ≤ k) (h' : k ≤ 10) : k = 1 ∨ k = 2 ∨ k = 3 ∨ k = 4 ∨ k = 5 ∨ k = 6 ∨ k = 7 ∨ k = 8 ∨ k = 9 ∨ k = 10 := by omega

theorem right_ckL (k : Int) (o : OpD) (hk : o.kind = k) (q1 q2 : Bool) (h1 : decide (o.data.length ≤ 16777216) = !q1) (h2 : decide (o.data = []) = !q2) :
    right o = ckB (flK k) (fl0 k) (fl1 k) (fl2 k) (fl3 k) (fl4 k) (fl5 k) (fl6 k) (nameB o.bucket) (decide (o.bucket = [])) (keyB o.key) (decide (o.key.length ≤ 1024)) (decide (o.key = []))
      (decide (o.after.length ≤ 1024)) (decide (1 ≤ o.n)) (decide (o.n ≤ 1000)) (decide (o.n ≤ 10000)) (decide (o.n = 0)) (decide (o.after = [])) (decide (o.upload = 0)) (partsB o.parts) (decide (o.parts = [])) q1 q2 := by
  unfold right
  rw [h1, h2, hk]
  generalize nameB o.bucket = b0
  generalize decide (o.bucket = []) = b1
  generalize keyB o.key = b2
  generalize decide (o.key.length ≤ 1024) = b3
  generalize decide (o.key = []) = b4
  generalize decide (o.after.length ≤ 1024) = b5
  generalize decide (1 ≤ o.n) = b6
  generalize decide (o.n ≤ 1000) = b7
  generalize decide (o.n ≤ 10000) = b8
  generalize decide (o.n = 0) = b9
  generalize decide (o.after = []) = b10
  generalize decide (o.upload = 0) = b11
  generalize partsB o.parts = b12
  generalize decide (o.parts = []) = b13
  by_cases h : 1 ≤ k ∧ k ≤ 10
  · rcases ck_or h.1 h.2 with e | e | e | e | e | e | e | e | e | e <;> subst e <;> simp [ckB, ck1, ck2, ck3, ck4, ck5, flK, fl0, fl1, fl2, fl3, fl4, fl5, fl6, Bool.and_assoc, Bool.and_comm, Bool.and_left_comm]
  · have e : flK k = false := by unfold flK; simp; omega
    rw [e]
    rw [if_neg (by omega), if_neg (by omega), if_neg (by omega), if_neg (by omega), if_neg (by omega), if_neg (by omega), if_neg (by omega)]
    rfl

theorem emp_str (s : ByteArray) : s.toList.isEmpty = decide (s.data.toList = []) := by
  rw [str_list]
  cases s.data.toList <;> rfl
theorem right_ck (id : Nat) (k : Int) (sb sk sa : ByteArray) (n : Int) (u : Nat) (pl : List Int) (dl : List UInt8) :
    right ⟨id, k, sb.data.toList, sk.data.toList, sa.data.toList, n, u, pl, dl⟩ = ckB (flK k) (fl0 k) (fl1 k) (fl2 k) (fl3 k) (fl4 k) (fl5 k) (fl6 k) (nameB sb.data.toList) sb.toList.isEmpty
      (decide ((1 : Int) ≤ (sk.size : Int)) && decide ((sk.size : Int) ≤ 1024)) (decide ((0 : Int) ≤ (sk.size : Int)) && decide ((sk.size : Int) ≤ 1024)) sk.toList.isEmpty
      (decide ((0 : Int) ≤ (sa.size : Int)) && decide ((sa.size : Int) ≤ 1024)) (decide (1 ≤ n)) (decide (n ≤ 1000)) (decide (n ≤ 10000)) (n == 0) sa.toList.isEmpty ((u : Int) == 0) (partsB pl) ((pl.length : Int) == 0) (decide (16777216 < (dl.length : Int))) (decide (0 < (dl.length : Int))) := by
  refine (right_ckL k ⟨id, k, sb.data.toList, sk.data.toList, sa.data.toList, n, u, pl, dl⟩ rfl (decide (16777216 < (dl.length : Int))) (decide (0 < (dl.length : Int))) ?_ ?_).trans ?_
  · rw [Bool.eq_iff_iff]; simp; omega
  · rw [Bool.eq_iff_iff]; simp
  · rw [emp_str, emp_str, emp_str]
    have a1 : keyB sk.data.toList = (decide ((1 : Int) ≤ (sk.size : Int)) && decide ((sk.size : Int) ≤ 1024)) := by
      unfold keyB; rw [str_len, Bool.eq_iff_iff]; simp; omega
    have a2 : ∀ s : ByteArray, decide (s.data.toList.length ≤ 1024) = (decide ((0 : Int) ≤ (s.size : Int)) && decide ((s.size : Int) ≤ 1024)) := fun s => by
      rw [str_len, Bool.eq_iff_iff]; simp; omega
    have a3 : decide (n = 0) = (n == 0) := by rw [Bool.eq_iff_iff]; simp
    have a4 : decide (u = 0) = ((u : Int) == 0) := by rw [Bool.eq_iff_iff]; simp
    have a5 : decide (pl = []) = ((pl.length : Int) == 0) := by rw [Bool.eq_iff_iff]; simp
    rw [← a1, ← a2, ← a2, ← a3, ← a4, ← a5]
end Go.Proofs.YtdegmpimcappjaaGreatDoor
