/- Helpers. -/
import Derived.Test.YtoolkdapflaeeaaGreatDoorRows
import Derived.Deep.QuietTactic
import Derived.BigQuiet
import Derived.Lib.Hide
import Derived.Laws.Cover1
import Derived.Sort.Grow
import Derived.Test.YtoolkdapflaeeaaGreatDoorW00
import Derived.Sort.Walk0
import Derived.Shelf.SlSortCmp.InsertionK
import Derived.Shelf.SlSortCmp.NoneTotal
import Derived.Shelf.SlicesQ.IndexFunc
import Derived.Shelf.SlicesG.Turned
import Derived.Shelf.SlicesE.Clone
import Derived.Test.YtoolkdapflaeeaaGreatDoorW01
import Derived.Lib.SliceRun
import Derived.Test.YtoolkdapflaeeaaGreatDoorW02
set_option maxRecDepth 100000
set_option maxHeartbeats 16000000
open Go
variable {B B' b c cap g i j k n p' rb sb : Nat} {F' : Nat → Prop} {W W' w w' w0 w1 w2 w3 wr wr' : World} {arr cs cur : Array Value} {av bv cv dv tv v x0 x1 x2 x3 x4 : Value} {en ew wl : Int} {f : Nat × Nat} {ks : List Int} {l x : List UInt8} {o : Obj} {t : TypeId} {xs : List Value}
namespace Go.Proofs.YtoolkdapflaeeaaGreatDoor.Mn
open Go.RowKit Go.Gl
structure Tb where
 file:Int
 level:Int
 first:ByteArray
 last:ByteArray
 size:Int
instance:Inhabited Tb:=⟨⟨0,0,ByteArray.empty,ByteArray.empty,0⟩⟩
def ji (t:Tb):List Value:= [.int .i64 t.file,.int .i64 t.level,.string t.first,.string t.last,.int .i64 t.size]
def lK (l:List Tb):List Value:=l.flatMap ji
def jk (x y:Int):Int:=if x<y then -1 else if y<x then 1 else 0
def ke (x y:ByteArray):Int:=if Op.bytesLess x.toList y.toList=true then -1 else if (x.toList==y.toList)=true then 0 else 1
theorem auk (x:Int) (w:World):Calls Tryz.prog 244 #[.int .i64 x] w fun e w'=>e= .returned (.bool false)∧w'=w:=by
 have hb:(x != x)=false:=by simp
 go_enter Tryz.func244,Tryz.ntmps244;go_wp2;go_ret;exact ⟨rfl,rfl⟩
theorem UI (x:ByteArray) (w:World):Calls Tryz.prog 196 #[.string x] w fun e w'=>e= .returned (.bool false)∧w'=w:=by
 go_enter Tryz.func196,Tryz.ntmps196;go_wp2;go_ret;exact ⟨by simp,rfl⟩
theorem adE (x y:Int) (w:World):Calls Tryz.prog 228 #[.int .i64 x,.int .i64 y] w fun e w'=>e= .returned (.int .i64 (jk x y))∧w'=w:=by
 go_enter Tryz.func228,Tryz.ntmps228
 go_wp2_with (go_at_call 244;(with_reducible refine (auk _ _).mono ?_);rintro e w' ⟨rfl,rfl⟩)
 ·rename_i h
  go_ret;exact ⟨by rw [jk,if_pos h];rfl,rfl⟩
 ·rename_i h1 h2
  go_ret;exact ⟨by rw [jk,if_neg (by omega),if_pos h2];rfl,rfl⟩
 ·rename_i h1 h2
  go_ret;exact ⟨by rw [jk,if_neg (by omega),if_neg (by omega)];rfl,rfl⟩
theorem adF (x y:ByteArray) (w:World):Calls Tryz.prog 143 #[.string x,.string y] w fun e w'=>e= .returned (.int .i64 (ke x y))∧w'=w:=by
 unfold ke;cases h1:Op.bytesLess x.toList y.toList with
 |true=>
  go_enter Tryz.func143,Tryz.ntmps143
  go_wp2_with (go_at_call 196;(with_reducible refine (UI _ _).mono ?_);rintro e w' ⟨rfl,rfl⟩)
  go_ret;exact ⟨rfl,rfl⟩
 |false=>
  cases h2:(x.toList==y.toList) with
  |true=>
   go_enter Tryz.func143,Tryz.ntmps143
   go_wp2_with (go_at_call 196;(with_reducible refine (UI _ _).mono ?_);rintro e w' ⟨rfl,rfl⟩)
   go_ret;exact ⟨rfl,rfl⟩
  |false=>
   go_enter Tryz.func143,Tryz.ntmps143
   go_wp2_with (go_at_call 196;(with_reducible refine (UI _ _).mono ?_);rintro e w' ⟨rfl,rfl⟩)
   go_ret;exact ⟨rfl,rfl⟩
def Kb (x y z:Int):Int:=if x=0 then (if y=0 then z else y) else x
def df (x y:Int):Int:=if x=0 then y else x
theorem aul (x y z:Int) (b:Nat) (w:World) (h0:w.cell? ⟨b,0,none⟩=some (.int .i64 x)) (h1:w.cell? ⟨b,1,none⟩=some (.int .i64 y)) (h2:w.cell? ⟨b,2,none⟩=some (.int .i64 z)):
  Calls Tryz.prog 142 #[.slice (some ⟨b,0,none⟩) 3 3] w fun e w'=>e= .returned (.int .i64 (Kb x y z))∧w'=w:=by
 unfold Kb;by_cases hx:x=0
 ·subst hx
  by_cases hy:y=0
  ·subst hy
   by_cases hz:z=0
   ·subst hz
    go_enter Tryz.func142,Tryz.ntmps142;go_wp2;refine wp_loop_rounds 4 ?_;rw [rounds_succ];go_wp2;rw [rounds_succ];go_wp2;rw [rounds_succ];go_wp2;rw [rounds_succ];go_wp2;go_ret;exact ⟨by simp,rfl⟩
   ·have hb:(z != 0)=true:=by simp [hz]
    go_enter Tryz.func142,Tryz.ntmps142;go_wp2;refine wp_loop_rounds 3 ?_;rw [rounds_succ];go_wp2;rw [rounds_succ];go_wp2;rw [rounds_succ];go_wp2;go_ret;exact ⟨by simp,rfl⟩
  ·have hb:(y != 0)=true:=by simp [hy]
   go_enter Tryz.func142,Tryz.ntmps142;go_wp2;refine wp_loop_rounds 2 ?_;rw [rounds_succ];go_wp2;rw [rounds_succ];go_wp2;go_ret;exact ⟨by simp,rfl⟩
 ·have hb:(x != 0)=true:=by simp [hx]
  go_enter Tryz.func142,Tryz.ntmps142;go_wp2;refine wp_loop_rounds 1 ?_;rw [rounds_succ];go_wp2;go_ret;exact ⟨by simp,rfl⟩
theorem UJ (x y:Int) (b:Nat) (w:World) (h0:w.cell? ⟨b,0,none⟩=some (.int .i64 x)) (h1:w.cell? ⟨b,1,none⟩=some (.int .i64 y)):
  Calls Tryz.prog 142 #[.slice (some ⟨b,0,none⟩) 2 2] w fun e w'=>e= .returned (.int .i64 (df x y))∧w'=w:=by
 unfold df;by_cases hx:x=0
 ·subst hx
  by_cases hy:y=0
  ·subst hy
   go_enter Tryz.func142,Tryz.ntmps142;go_wp2;refine wp_loop_rounds 3 ?_;rw [rounds_succ];go_wp2;rw [rounds_succ];go_wp2;rw [rounds_succ];go_wp2;go_ret;exact ⟨by simp,rfl⟩
  ·have hb:(y != 0)=true:=by simp [hy]
   go_enter Tryz.func142,Tryz.ntmps142;go_wp2;refine wp_loop_rounds 2 ?_;rw [rounds_succ];go_wp2;rw [rounds_succ];go_wp2;go_ret;exact ⟨by simp,rfl⟩
 ·have hb:(x != 0)=true:=by simp [hx]
  go_enter Tryz.func142,Tryz.ntmps142;go_wp2;refine wp_loop_rounds 1 ?_;rw [rounds_succ];go_wp2;go_ret;exact ⟨by simp,rfl⟩
theorem aum (x y:Int) (b:Nat) (w:World) (h0:w.cell? ⟨b,0,none⟩=some (.int .u64 x)) (h1:w.cell? ⟨b,1,none⟩=some (.int .u64 y)):
  Calls Tryz.prog 209 #[.slice (some ⟨b,0,none⟩) 2 2] w fun e w'=>e= .returned (.int .u64 (df x y))∧w'=w:=by
 unfold df;by_cases hx:x=0
 ·subst hx
  by_cases hy:y=0
  ·subst hy
   go_enter Tryz.func209,Tryz.ntmps209;go_wp2;refine wp_loop_rounds 3 ?_;rw [rounds_succ];go_wp2;rw [rounds_succ];go_wp2;rw [rounds_succ];go_wp2;go_ret;exact ⟨by simp,rfl⟩
  ·have hb:(y != 0)=true:=by simp [hy]
   go_enter Tryz.func209,Tryz.ntmps209;go_wp2;refine wp_loop_rounds 2 ?_;rw [rounds_succ];go_wp2;rw [rounds_succ];go_wp2;go_ret;exact ⟨by simp,rfl⟩
 ·have hb:(x != 0)=true:=by simp [hx]
  go_enter Tryz.func209,Tryz.ntmps209;go_wp2;refine wp_loop_rounds 1 ?_;rw [rounds_succ];go_wp2;go_ret;exact ⟨by simp,rfl⟩
theorem aun (w:World) (x y z:Int):(Instr.buildSlice 24 3 #[(0,.int .i64 x),(1,.int .i64 y),(2,.int .i64 z)]).run Tryz.prog w= .ok (.slice (some ⟨w.heap.size,0,none⟩) 3 3) (w.alloc (.cells #[.int .i64 x,.int .i64 y,.int .i64 z] 3)):=by
 simp [Instr.buildSlice,run_underlying Tryz.underlying24,Tryz.sizeOf3,Tryz.zeroValue3,Instr.fill,newRow,Value.cells];congr 2;apply Array.ext
 ·simp
 ·intro i h1 h2
  simp at h1
  match i,h1 with
  |0,_=>simp
  |1,_=>simp
  |2,_=>simp
def oJ (a b:Tb):Int:=Kb (jk a.level b.level) (ke a.first b.first) (jk a.file b.file)
theorem dw (h:w.heap[b]?=some (.cells #[x0,x1,x2,x3,x4] t (0,0))):
  w.cell? ⟨b,0,none⟩=some x0∧w.cell? ⟨b,1,none⟩=some x1∧w.cell? ⟨b,2,none⟩=some x2∧w.cell? ⟨b,3,none⟩=some x3∧w.cell? ⟨b,4,none⟩=some x4:=by
 simp [World.cell?,h]
end Go.Proofs.YtoolkdapflaeeaaGreatDoor.Mn
namespace Go.Proofs.YtoolkdapflaeeaaGreatDoor.Mn
open Go.RowKit Go.Gl Go.Sort Go.Shelf
theorem auo (x y:Tb) (W:World):Calls Tryz.prog 207 #[.agg (ji x).toArray,.agg (ji y).toArray] W fun e w'=>e= .returned (.int .i64 (oJ x y))∧∃ q os',w'=grow (W.drewN q) os':=by
 obtain ⟨x0,x1,x2,x3,x4⟩:=x;obtain ⟨y0,y1,y2,y3,y4⟩:=y;simp only [oJ,ji];have hc0:=adE x1 y1;have hc1:=adF x2 y2;have hc2:=adE x0 y0;generalize jk x1 y1=c0 at*;generalize ke x2 y2=c1 at*;generalize jk x0 y0=c2 at*;have wB:=aul c0 c1 c2;generalize Kb c0 c1 c2=res at*;have b0:((W.alloc (.cells #[.int .i64 x0,.int .i64 x1,.string x2,.string x3,.int .i64 x4] 101)).alloc (.cells #[.int .i64 y0,.int .i64 y1,.string y2,.string y3,.int .i64 y4] 101)).heap[W.heap.size]?=some (.cells #[.int .i64 x0,.int .i64 x1,.string x2,.string x3,.int .i64 x4] 101 (0,0)):=(heap_alloc_old _ _ (by simp)).trans (ax _ _);have b1:((W.alloc (.cells #[.int .i64 x0,.int .i64 x1,.string x2,.string x3,.int .i64 x4] 101)).alloc (.cells #[.int .i64 y0,.int .i64 y1,.string y2,.string y3,.int .i64 y4] 101)).heap[W.heap.size+1]?=some (.cells #[.int .i64 y0,.int .i64 y1,.string y2,.string y3,.int .i64 y4] 101 (0,0)):=by
  have:=ax (W.alloc (.cells #[.int .i64 x0,.int .i64 x1,.string x2,.string x3,.int .i64 x4] 101)) (.cells #[.int .i64 y0,.int .i64 y1,.string y2,.string y3,.int .i64 y4] 101);simpa using this
 obtain ⟨d0,d1,d2,_,_⟩:=dw b0;obtain ⟨e0,e1,e2,_,_⟩:=dw b1;have l0:=af b0;have l1:=af b1;have fB:∃ os,(W.alloc (.cells #[.int .i64 x0,.int .i64 x1,.string x2,.string x3,.int .i64 x4] 101)).alloc (.cells #[.int .i64 y0,.int .i64 y1,.string y2,.string y3,.int .i64 y4] 101)=grow W os:=⟨_,by rw [alloc_eq_grow,alloc_eq_grow,grow_grow]⟩
 have UK:=ae hc0;have qI:=ae hc1;have CP:=ae hc2;have UL:=ae wB;have cJ:=ae fB;clear b0 b1 hc0 hc1 hc2 wB fB;go_enter Tryz.func207,Tryz.ntmps207
 go_wp2_with fail
 generalize (W.alloc (.cells #[.int .i64 x0,.int .i64 x1,.string x2,.string x3,.int .i64 x4] 101)).alloc (.cells #[.int .i64 y0,.int .i64 y1,.string y2,.string y3,.int .i64 y4] 101)=w0 at*;have aQ:=Grow.cells (w:=w0);refine ou (fun V=>Below w0.heap.size w0 V)
  [(0,false),(1,false),(2,false),(3,false),(5,false),(6,false),(7,false),(8,false),(10,false),(11,false),(12,false),(13,false),(4,true),(9,true),(14,true),(15,true),(16,true),(17,false)] (by kernel_rfl) (by kernel_rfl) (bK fun _ _ _ _ _ h=>h) (by ((repeat (first|exact bS _ _|assumption|refine cz ?_|refine cA ?_|refine cj ?_ ?_ _|refine cy ?_ ?_ _))<;>try (first|omega|(simp<;>omega)))) ?_
 simp only [cm,nth]
 repeat ((first|(refine aA (v:= ?_) (by rfl) ?_ ?_;rotate_left;rintro W hW;go_simp;with_reducible rfl)|refine aB (by rfl) ?_);simp only [ai,List.set])
 refine bp (by rfl) (by go_simp) (UK.out _) ?_;rintro e w2 ⟨rfl,rfl⟩;refine ⟨_,rfl,by ((repeat (first|exact bS _ _|assumption|refine cz ?_|refine cA ?_|refine cj ?_ ?_ _|refine cy ?_ ?_ _))<;>try (first|omega|(simp<;>omega))),?_⟩
 try simp only [ai,List.set,aC]
 refine bp (by rfl) (by go_simp) (qI.out _) ?_;rintro e w2 ⟨rfl,rfl⟩;refine ⟨_,rfl,by ((repeat (first|exact bS _ _|assumption|refine cz ?_|refine cA ?_|refine cj ?_ ?_ _|refine cy ?_ ?_ _))<;>try (first|omega|(simp<;>omega))),?_⟩
 try simp only [ai,List.set,aC]
 refine bp (by rfl) (by go_simp) (CP.out _) ?_;rintro e w2 ⟨rfl,rfl⟩;refine ⟨_,rfl,by ((repeat (first|exact bS _ _|assumption|refine cz ?_|refine cA ?_|refine cj ?_ ?_ _|refine cy ?_ ?_ _))<;>try (first|omega|(simp<;>omega))),?_⟩
 try simp only [ai,List.set,aC]
 refine sR (by rfl) (v:= .slice (some ⟨w0.drew.heap.size,0,none⟩) 3 3) (w':=World.alloc w0.drew (.cells #[.int .i64 c0,.int .i64 c1,.int .i64 c2] 3)) ?_ (by ((repeat (first|exact bS _ _|assumption|refine cz ?_|refine cA ?_|refine cj ?_ ?_ _|refine cy ?_ ?_ _))<;>try (first|omega|(simp<;>omega)))) ?_
 ·unfold execOp
  simp only [Act.eval];simp [aun]
 try simp only [ai,List.set,aC]
 refine bp (by rfl) (by go_simp) (UL.out w0.drew.heap.size (World.alloc w0.drew (.cells #[.int .i64 c0,.int .i64 c1,.int .i64 c2] 3)) (by unfold World.cell?;rw [ax];rfl) (by unfold World.cell?;rw [ax];rfl) (by unfold World.cell?;rw [ax];rfl)) ?_;rintro e w2 ⟨rfl,rfl⟩;refine ⟨_,rfl,by ((repeat (first|exact bS _ _|assumption|refine cz ?_|refine cA ?_|refine cj ?_ ?_ _|refine cy ?_ ?_ _))<;>try (first|omega|(simp<;>omega))),?_⟩
 try simp only [ai,List.set,aC]
 repeat ((first|(refine aA (v:= ?_) (by rfl) ?_ ?_;rotate_left;rintro W hW;go_simp;with_reducible rfl)|refine aB (by rfl) ?_);simp only [ai,List.set])
 refine bj ?_
 go_wp2_with fail
 go_ret;obtain ⟨os,tu⟩:=cJ.out;refine ⟨rfl,1,os++#[.cells #[.int .i64 c0,.int .i64 c1,.int .i64 c2] 3],?_⟩;rw [alloc_eq_grow,tu,drew_grow,grow_grow];rfl
def qJ (a b:Tb):Prop:=a.level<b.level∨(a.level=b.level∧(a.first.toList<b.first.toList∨(a.first.toList=b.first.toList∧a.file<b.file)))
theorem OA (x y:ByteArray):ke x y<0↔x.toList<y.toList:=by
 unfold ke;rw [bytesLess_eq];by_cases h:x.toList<y.toList
 ·simp [h]
 ·simp only [h,decide_false,Bool.false_eq_true,if_false,iff_false,Int.not_lt]
  split<;>decide
theorem FW (x y:ByteArray):ke x y=0↔x.toList=y.toList:=by
 unfold ke;rw [bytesLess_eq];by_cases h:x.toList<y.toList
 ·simp only [h,decide_true,if_true]
  constructor
  ·intro e;cases e
  ·intro e;rw [e] at h;exact absurd h (List.lt_irrefl _)
 ·simp only [h,decide_false,Bool.false_eq_true,if_false]
  by_cases h2:x.toList=y.toList
  ·simp [h2]
  ·simp [h2]
theorem UM (x y:Int):jk x y<0↔x<y:=by
 unfold jk;split
 ·simp;assumption
 ·split<;>simp<;>omega
theorem UN (x y:Int):jk x y=0↔x=y:=by
 unfold jk;split
 ·simp;omega
 ·split<;>simp<;>omega
theorem aup (a b:Tb):oJ a b<0↔qJ a b:=by
 unfold oJ Kb qJ;by_cases h1:jk a.level b.level=0
 ·rw [if_pos h1]
  have e1:=(UN _ _).1 h1;by_cases h2:ke a.first b.first=0
  ·rw [if_pos h2]
   have e2:=(FW _ _).1 h2;rw [UM];constructor
   ·intro h;exact .inr ⟨e1,.inr ⟨e2,h⟩⟩
   ·rintro (h|⟨_,h|⟨_,h⟩⟩)
    ·omega
    ·rw [e2] at h;exact absurd h (List.lt_irrefl _)
    ·exact h
  ·rw [if_neg h2,OA]
   constructor
   ·intro h;exact .inr ⟨e1,.inl h⟩
   ·rintro (h|⟨_,h|⟨e,_⟩⟩)
    ·omega
    ·exact h
    ·exact absurd ((FW _ _).2 e) h2
 ·rw [if_neg h1,UM]
  constructor
  ·intro h;exact .inl h
  ·rintro (h|⟨e,_⟩)
   ·exact h
   ·exact absurd ((UN _ _).2 e) h1
theorem ltB {a b:Tb}:ltOf oJ a b=true↔qJ a b:=by
 unfold ltOf;rw [decide_eq_true_eq,aup]
theorem UO {a b:Tb}:ltOf oJ a b=false↔¬ qJ a b:=by
 rw [←ltB];simp
theorem adH {x y z:Tb} (h1:qJ x y) (h2:qJ y z):qJ x z:=by
 rcases h1 with h1|⟨e1,h1⟩
 ·rcases h2 with h2|⟨e2,h2⟩
  ·exact .inl (by omega)
  ·exact .inl (by omega)
 ·rcases h2 with h2|⟨e2,h2⟩
  ·exact .inl (by omega)
  ·refine .inr ⟨by omega,?_⟩
   rcases h1 with h1|⟨e3,h1⟩
   ·rcases h2 with h2|⟨e4,h2⟩
    ·exact .inl (List.lt_trans h1 h2)
    ·exact .inl (by rw [←e4];exact h1)
   ·rcases h2 with h2|⟨e4,h2⟩
    ·exact .inl (by rw [e3];exact h2)
    ·exact .inr ⟨e3.trans e4,by omega⟩
theorem adI (x y:Tb) (h1:¬ qJ x y) (h2:¬ qJ y x):x.level=y.level∧x.first.toList=y.first.toList∧x.file=y.file:=by
 have e1:x.level=y.level:=by
  have a1:¬ x.level<y.level:=fun h=>h1 (.inl h)
  have a2:¬ y.level<x.level:=fun h=>h2 (.inl h)
  omega
 have b1:¬ x.first.toList<y.first.toList:=fun h=>h1 (.inr ⟨e1,.inl h⟩)
 have b2:¬ y.first.toList<x.first.toList:=fun h=>h2 (.inr ⟨e1.symm,.inl h⟩)
 have e2:x.first.toList=y.first.toList:=List.le_antisymm (List.not_lt.1 b2) (List.not_lt.1 b1);refine ⟨e1,e2,?_⟩;have a1:¬ x.file<y.file:=fun h=>h1 (.inr ⟨e1,.inr ⟨e2,h⟩⟩)
 have a2:¬ y.file<x.file:=fun h=>h2 (.inr ⟨e1.symm,.inr ⟨e2.symm,h⟩⟩)
 omega
theorem OB:SWO (ltOf oJ) where
 irrefl x:=by
  rw [UO];rintro (h|⟨_,h|⟨_,h⟩⟩)
  ·omega
  ·exact List.lt_irrefl _ h
  ·omega
 trans x y z h1 h2:=by rw [ltB] at*;exact adH h1 h2
 ntrans x y z h1 h2:=by
  rw [UO] at*;intro h;by_cases Aa:qJ y x
  ·exact h2 (adH Aa h)
  ·obtain ⟨e1,e2,e3⟩:=adI x y h1 Aa
   apply h2;unfold qJ at h ⊢;rw [←e1,←e2,←e3];exact h
theorem auq (blk off size:Nat) (w:World):CmpLays Tryz.prog 207 #[] ji 5 oJ blk off size w:=
 fun _ _ _ _ x y=>auo x y _
end Go.Proofs.YtoolkdapflaeeaaGreatDoor.Mn
namespace Go.Gl
open Go Go.RowKit Go.Sort Go.Shelf Go.Proofs
section rows
variable {α:Type} {enc:α→List Value} {k:Nat}
theorem CQ (hk:∀ x,(enc x).length=k) (l:List α):(l.flatMap enc).length=l.length*k:=by
 induction l with
 |nil=>simp
 |cons x l ih=>rw [List.flatMap_cons,aJ,hk,ih,dH,Nat.add_mul];omega
theorem CR (hk:∀ x,(enc x).length=k):∀ {l:List α} {i:Nat} {x:α},l[i]?=some x→∀ c,c<k→(l.flatMap enc)[i*k+c]?=(enc x)[c]?
 | [],i,x,h,_,_=>by simp at h
 |a::l,0,x,h,c,hc=>by
  simp at h;subst h;rw [List.flatMap_cons,Nat.zero_mul,Nat.zero_add,sO (by rw [hk];exact hc)]
 |a::l,i+1,x,h,c,hc=>by
  have ih:=CR hk (l:=l) (i:=i) (x:=x) (by simpa using h) c hc;rw [List.flatMap_cons,ur (by rw [hk,Nat.add_mul];omega),←ih,hk];congr 1;rw [Nat.add_mul];omega
theorem aur (hk:∀ x,(enc x).length=k) (l:List α) (n:Nat) (hn:n≤l.length):(l.flatMap enc).take (n*k)=(l.take n).flatMap enc:=by
 have h1:l.flatMap enc=(l.take n).flatMap enc++(l.drop n).flatMap enc:=by rw [←List.flatMap_append,List.take_append_drop]
 have h2:((l.take n).flatMap enc).length=n*k:=by rw [CQ hk];simp [Nat.min_eq_left hn]
 rw [h1,List.take_append_of_le_length (by omega),←h2,ij]
def Rd (w:World) (b o:Nat) (enc:α→List Value) (k:Nat) (l:List α):Prop:=∀ (i:Nat) (x:α),l[i]?=some x→∀ (c:Nat) (u:Value),(enc x)[c]?=some u→w.cell? ⟨b,o+i*k+c,none⟩=some u
theorem wC {e:Nat} (hk:∀ x,(enc x).length=k) {l:List α} (h:w.ownsRow B e k (.slice (some ⟨g,0,none⟩) l.length cap) l.length (l.flatMap enc)):Rd w g 0 enc k l:=by
 intro i x hx c u hu;have hc:c<k:=by have:=(dG.1 hu).1;rwa [hk] at this
 have hi:i<l.length:=(dG.1 hx).1;have hj:i*k+c<l.length*k:=by
  have:=Nat.mul_le_mul_right k (show i+1≤l.length from hi);rw [Nat.add_mul,Nat.one_mul] at this;omega
 rw [Nat.zero_add,h.cellAt _ hj,CR hk hx c hc,hu]
theorem Rd.grow {o:Nat} {l:List α} (h:Rd w b o enc k l) (hb:b<w.heap.size) (hg:Grow w w'):Rd w' b o enc k l:=fun i x hx c u hu=>by
 rw [Grow.cells _ _ _ hg hb];exact h i x hx c u hu
theorem eM {e:Nat} (h:w.ownsRow B e k v n xs) (hg:Grow w w'):w'.ownsRow B e k v n xs:=by
 refine ⟨h.1,?_⟩;rcases h.2 with h1|⟨g,cap,cur,h1,h2,h3,h4⟩
 ·exact .inl h1
 ·exact .inr ⟨g,cap,cur,h1,h2,hg.heap h3,h4⟩
theorem qK {e:Nat} (h:w.ownsRow B e k v n xs) (hB:B'≤B):w.ownsRow B' e k v n xs:=by
 refine ⟨h.1,?_⟩;rcases h.2 with h1|⟨g,cap,cur,h1,h2,h3⟩
 ·exact .inl h1
 ·exact .inr ⟨g,cap,cur,h1,aM hB h2,h3⟩
variable [Inhabited α]
theorem aus {e:Nat} (hk:∀ x,(enc x).length=k) (kP:0<k) {l:List α} (h:w.ownsRow B e k (.slice (some ⟨g,0,none⟩) l.length cap) l.length (l.flatMap enc)):HoldsK enc k w g 0 l.toArray:=by
 intro j hj;rw [size_flatK] at hj;simp only [List.size_toArray] at hj;have hdiv:j / k<l.length:=Nat.div_lt_of_lt_mul (by rw [Nat.mul_comm];exact hj);rw [Nat.zero_add];refine ⟨?_,h.frozenAt j⟩;rw [h.cellAt j hj,get_flatK _ _ _ _ (by simpa using hj)];have h1:l[j / k]?=some l[j / k]:=dZ hdiv;have h2:=CR hk h1 (j%k) (Nat.mod_lt _ kP);rw [show j / k*k+j%k=j by rw [Nat.mul_comm];exact Nat.div_add_mod j k] at h2;rw [h2];have h3:l.toArray[j / k]! =l[j / k]:=by simp [hdiv]
 rw [h3];have h4:j%k<(enc l[j / k]).length:=by rw [hk];exact Nat.mod_lt _ kP
 rw [dZ h4,getElem!_pos (enc l[j / k]) (j%k) h4];rfl
theorem aut (w:World) (g n:Nat) (d:Array α) (os:Array Obj):w.grownBy (sortWorldK enc k w g 0 n d os) (some g):=by
 refine ⟨rfl,rfl,rfl,size_sortWorldK_c ..,fun b hb hne=> ?_⟩;unfold sortWorldK;rw [heap_grow_old _ _ (by rw [size_putRowK];exact hb)];unfold putRowK putRow mapBlock;simp only [Array.getElem?_modify];rw [if_neg (fun e=>hne (by rw [e]))];rfl
theorem auu (hk:∀ x,(enc x).length=k) (kP:0<k) (d:Array α):(flatK enc k d).toList=d.toList.flatMap enc:=by
 apply List.ext_getElem?;intro j;by_cases hj:j<d.size*k
 ·have hdiv:j / k<d.size:=Nat.div_lt_of_lt_mul (by rw [Nat.mul_comm];exact hj)
  have h1:d.toList[j / k]?=some d[j / k]:=by simp [hdiv]
  have h2:=CR hk h1 (j%k) (Nat.mod_lt _ kP);rw [show j / k*k+j%k=j by rw [Nat.mul_comm];exact Nat.div_add_mod j k] at h2;rw [h2];have h5:j<(flatK enc k d).size:=by rw [size_flatK];exact hj
  have h3:=get_flatK enc k d j hj;rw [getElem!_pos _ j h5] at h3;rw [Array.getElem?_toList,Array.getElem?_eq_getElem h5,h3,getElem!_pos d (j / k) hdiv];have h4:j%k<(enc d[j / k]).length:=by rw [hk];exact Nat.mod_lt _ kP
  rw [dZ h4,getElem!_pos (enc d[j / k]) (j%k) h4]
 ·rw [List.getElem?_eq_none (by rw [gO,size_flatK];omega),List.getElem?_eq_none (by rw [CQ hk,gO];omega)]
theorem auv {e:Nat} (hk:∀ x,(enc x).length=k) (kP:0<k) {l:List α} (h:w.ownsRow B e k (.slice (some ⟨g,0,none⟩) l.length cap) l.length (l.flatMap enc)) (n:Nat) (d:Array α) (os:Array Obj) (hd:d.size=l.length):
  (sortWorldK enc k w g 0 n d os).ownsRow B e k (.slice (some ⟨g,0,none⟩) l.length cap) l.length (d.toList.flatMap enc):=by
 rcases h.2 with ⟨e1,_⟩|⟨g',cap',cur,e1,hB,hg,hn,hm,hs,ht⟩
 ·cases e1
 ·cases e1
  refine ⟨by rw [CQ hk,gO,hd],.inr ⟨g,cap,putCells id 0 (flatK enc k d) cur,rfl,hB,?_,hn,hm,by simp [putCells,hs],?_⟩⟩
  ·unfold sortWorldK
   have hlt:g<w.heap.size:=af hg;rw [heap_grow_old _ _ (by rw [size_putRowK];exact hlt)];unfold putRowK putRow mapBlock;simp only [Array.getElem?_modify,if_true];rw [show (Sort.ahead w n).heap[g]?=w.heap[g]? from rfl,hg];rfl
  ·rw [←auu hk kP]
   apply List.ext_getElem?;intro j;rw [List.getElem?_take];by_cases hj:j<l.length*k
   ·have hjs:j<cur.size:=by
     rw [hs];have:=Nat.mul_le_mul_right k hn;omega
    have h5:j<(flatK enc k d).size:=by rw [size_flatK,hd];exact hj
    rw [if_pos hj];simp only [putCells,Array.toList_mapIdx,List.getElem?_mapIdx,Array.getElem?_toList,Array.getElem?_eq_getElem hjs,Option.map_some,aY,true_and,Nat.zero_add,h5,if_true,Nat.sub_zero,id,Array.getElem?_eq_getElem h5];rw [getElem!_pos _ j h5]
   ·rw [if_neg hj,List.getElem?_eq_none (by rw [gO,size_flatK,hd];omega)]
end rows
end Go.Gl
namespace Go.Proofs.YtoolkdapflaeeaaGreatDoor.Mn
open Go.RowKit Go.Gl
theorem qL (x:Tb):(ji x).length=5:=rfl
theorem OC (x:Tb):∀ v∈ji x,v.oneCell'=true:=fun v hv=>by
 simp only [ji,bE,List.not_mem_nil,or_false] at hv;rcases hv with rfl|rfl|rfl|rfl|rfl<;>rfl
theorem auy (l:List Tb):∀ v∈lK l,v.oneCell'=true:=fun v hv=>by
 obtain ⟨x,_,h⟩:=List.mem_flatMap.1 hv;exact OC x v h
abbrev Own (B:Nat) (w:World) (v:Value) (l:List Tb):Prop:=w.ownsRow B 101 5 v l.length (lK l)
def kf (l:List Tb):List Tb:=(Sort.pdq (ltOf oJ) l.toArray 0 l.toArray.size (Lib.bitLen l.toArray.size) true true).toList
theorem Ak (l:List Tb):(kf l).Perm l:=by
 have h:=(Sort.pdq_sorts (ltOf oJ) OB l.toArray 0 l.toArray.size (Lib.bitLen l.toArray.size) true true (aY _) (aw _) (Or.inl rfl)).1;unfold kf;generalize Sort.pdq (ltOf oJ) l.toArray 0 l.toArray.size (Lib.bitLen l.toArray.size) true true=d at*;have h2:=h.2.2;have hs:=h.1;have e1:d.extract 0 l.toArray.size=d:=by rw [←hs];simp
 have e2:l.toArray.extract 0 l.toArray.size=l.toArray:=by simp
 rw [e1,e2] at h2;exact h2
theorem auz (l:List Tb):(kf l).Pairwise (fun x y=>¬ qJ y x):=by
 have h:=(Sort.pdq_sorts (ltOf oJ) OB l.toArray 0 l.toArray.size (Lib.bitLen l.toArray.size) true true (aY _) (aw _) (Or.inl rfl))
 unfold kf;generalize Sort.pdq (ltOf oJ) l.toArray 0 l.toArray.size (Lib.bitLen l.toArray.size) true true=d at*;have hs:=h.1.1;rw [List.pairwise_iff_getElem];intro i j hi hj pG;simp only [gO] at hi hj;have:=h.2 i j (aY _) pG (by omega);rw [getElem!_pos d i hi,getElem!_pos d j hj,UO] at this;exact this
theorem auA {w:World} {l:List Tb} (h:Own B w v l) (hlen:l.length<1000000000):
  Calls Tryz.prog 206 #[v,.func (.func 207) #[] #[]] w fun e w'=>e= .returned (.tuple #[])∧Own B w' v (kf l)∧w.grownBy w' v.ownBlock:=by
 have nU:(kf l).length=l.length:=(Ak l).length_eq;rcases h.2 with ⟨rfl,h0⟩|⟨g,cap,cur,rfl,hB,hg,kR⟩
 ·have hc:=AnyF.slices_SortFunc_none Tryz.acP none 0 (.func (.func 207) #[] #[]) w
  have hc':Calls Tryz.prog 206 #[.slice none 0 0,.func (.func 207) #[] #[]] w _:=hc;have hl:l= []:=iI h0;have hs:kf l= []:=iI (by rw [nU];exact h0);refine hc'.mono fun e w' ⟨he,hw⟩=>⟨he,?_,?_⟩
  ·rw [hw,hs];exact iL _ _ _ _
  ·rw [hw];exact ⟨rfl,rfl,rfl,aw _,fun _ _ _=>rfl⟩
 ·have eg:∀ args w,(callFunc 207 args).run Tryz.prog w= .ok (.enter 207 args) w:=enters_of Tryz.func207 (by kernel_rfl) rfl
  have hblk:g<w.heap.size:=af hg;have hcon:=AnyQ.slices_SortFunc_eq Tryz.acP 5 Tryz.isAgg101 Tryz.sizeOf101 ji qL OC oJ OB 207 #[] g 0 cap l.toArray w eg (auq g 0 l.toArray.size w) (aus qL (by decide) h) hblk (by simp;omega);have auB:Calls Tryz.prog 206 #[.slice (some ⟨g,0,none⟩) l.length cap,.func (.func 207) #[] #[]] w _:=hcon;refine auB.mono fun e w' ⟨he,n,os,hw⟩=>⟨he,?_,?_⟩
  ·have h2:=auv qL (by decide) h n (Sort.pdq (ltOf oJ) l.toArray 0 l.toArray.size (Lib.bitLen l.toArray.size) true true) os (by
    have:=(Sort.pdq_sorts (ltOf oJ) OB l.toArray 0 l.toArray.size (Lib.bitLen l.toArray.size) true true (aY _) (aw _) (Or.inl rfl)).1.1;simpa using this)
   rw [hw];unfold Own;rw [nU];exact h2
  ·rw [hw];exact aut w g n _ os
def Ints (w:World) (v:Value) (ks:List Int):Prop:=
 ∃ a c,v= .slice a ks.length c∧ks.length≤c∧(ks= []∨∃ b o,a=some ⟨b,o,none⟩∧b<w.heap.size∧∀ (j:Nat) (k:Int),ks[j]?=some k→w.cell? ⟨b,o+j,none⟩=some (.int .i64 k))
theorem Ints.grow (h:Ints w v ks) (hg:Grow w w'):Ints w' v ks:=by
 obtain ⟨a,c,hv,hl,h⟩:=h;refine ⟨a,c,hv,hl,?_⟩;rcases h with h|⟨b,o,ha,hb,hc⟩
 ·exact .inl h
 ·refine .inr ⟨b,o,ha,cf hb hg.size,fun j k hk=> ?_⟩
  rw [Grow.cells _ _ _ hg hb];exact hc j k hk
theorem UQ (w:World) (b o n c:Nat) (ks:List Int) (x:Int) (hn:n≤ks.length) (mC:ks.length≤1000000000) (hc:∀ (j:Nat) (k:Int),ks[j]?=some k→w.cell? ⟨b,o+j,none⟩=some (.int .i64 k)):
  Calls Tryz.prog 204 #[.slice (some ⟨b,o,none⟩) n c,.int .i64 x] w fun e w'=>e= .returned (.bool ((ks.take n).contains x))∧w'=w:=by
 have h:=AnyG.slices_Contains_int Tryz.acR b o n c ks x w hn (by omega) (fun j hj=>by
  rw [hc j ks[j] (by simp [hj])];simp [List.getD,hj])
 exact h
theorem auC (w:World) (a:Option Addr) (c:Nat) (x:Int):Calls Tryz.prog 204 #[.slice a 0 c,.int .i64 x] w fun e w'=>e= .returned (.bool false)∧w'=w:=
 AnyG.slices_Contains_int_empty Tryz.acR a c x w
theorem auD (h:Ints w v ks) (mC:ks.length≤1000000000) (x:Int):Calls Tryz.prog 204 #[v,.int .i64 x] w fun e w'=>e= .returned (.bool (ks.contains x))∧w'=w:=by
 obtain ⟨a,c,rfl,_,h⟩:=h;cases ks with
 |nil=>exact auC w a c x
 |cons k ks=>
  rcases h with h|⟨b,o,rfl,hb,hc⟩
  ·cases h
  ·have:=UQ w b o (k::ks).length c (k::ks) x (aw _) mC hc
   rw [ij] at this;exact this
def jK (l:List Tb) (f:Int):Bool:=l.any fun t=>decide (t.file=f)
theorem auE (f:Int) (B:Nat) (w:World) (hB:B<w.heap.size) (hcell:w.cell? ⟨B,0,none⟩=some (.int .i64 f)):
  PredBelow Tryz.prog 225 #[.pointer (some ⟨B,0,none⟩)] (fun x=> .agg (ji x).toArray) (fun x=>decide (x.file=f)) w:=fun W x hb=>by
 have hc:W.cell? ⟨B,0,none⟩=some (.int .i64 f):=(hb.cell (p:=⟨B,0,none⟩) hB).trans hcell;have hBW:B<W.heap.size:=cf hB hb.size;have hne:B≠W.heap.size:=by omega
 obtain ⟨x0,x1,x2,x3,x4⟩:=x;show Calls Tryz.prog 225 #[.agg #[.int .i64 x0,.int .i64 x1,.string x2,.string x3,.int .i64 x4],.pointer (some ⟨B,0,none⟩)] W _;have hd:decide (x0=f)=(x0==f):=by by_cases h:x0=f<;>simp [h]
 simp only [hd];go_enter Tryz.func225,Tryz.ntmps225;go_wp2;go_ret;exact ⟨rfl,hb.alloc hb.size _⟩
theorem adJ (w:World) (a:Option Addr) (c:Nat) (fv:Value):Calls Tryz.prog 166 #[.slice a 0 c,fv] w fun e w'=>e= .returned (.int .i64 (-1))∧w'=w:=by
 go_enter Tryz.func166,Tryz.ntmps166;go_wp2;refine wp_loop_rounds 1 ?_;rw [rounds_succ];go_wp2;go_ret;exact ⟨rfl,rfl⟩
theorem auF (w:World) (a:Option Addr) (c:Nat) (fv:Value):Calls Tryz.prog 118 #[.slice a 0 c,fv] w fun e w'=>e= .returned (.bool false)∧Below w.heap.size w w':=by
 go_enter Tryz.func118,Tryz.ntmps118
 go_wp2_with fail
 (with_reducible refine (adJ _ _ _ _).mono ?_);rintro e w' ⟨rfl,rfl⟩;go_wp2;go_ret;exact ⟨rfl,bS _ _⟩
theorem adK {l:List Tb} (h:Own B w v l) (hlen:l.length<1000000000) (f:Int):
  Calls Tryz.prog 203 #[v,.int .i64 f] w fun e w'=>e= .returned (.bool (jK l f))∧Grow w w':=by
 have hg0:Grow w (w.alloc (.cells #[.int .i64 f] 3)):=ar _ _;have dK:(w.alloc (.cells #[.int .i64 f] 3)).cell? ⟨w.heap.size,0,none⟩=some (.int .i64 f):=by simp
 have hcon:Calls Tryz.prog 118 #[v,.func (.func 225) #[] #[.pointer (some ⟨w.heap.size,0,none⟩)]] (w.alloc (.cells #[.int .i64 f] 3)) fun e w'=>e= .returned (.bool (jK l f))∧Below (w.alloc (.cells #[.int .i64 f] 3)).heap.size (w.alloc (.cells #[.int .i64 f] 3)) w':=by
  rcases h.2 with ⟨rfl,h0⟩|⟨g,cap,cur,rfl,hB,hg,kR⟩
  ·have hl:l= []:=iI h0
   rw [hl];exact auF _ _ _ _
  ·have eg:∀ args w,(callFunc 225 args).run Tryz.prog w= .ok (.enter 225 args) w:=enters_of Tryz.func225 (by kernel_rfl) rfl
   have hblk:g<w.heap.size:=af hg;have bm:=(wC qL h).grow hblk hg0;have hcc:=AnyQ.slices_ContainsFunc Tryz.atb 5 Tryz.isAgg101 Tryz.sizeOf101 ji qL (fun x=>decide (x.file=f)) 225 #[.pointer (some ⟨w.heap.size,0,none⟩)] eg g 0 l.length cap l (w.alloc (.cells #[.int .i64 f] 3))
    (auE f w.heap.size _ (by simp) dK) (aw _) (by omega) (by simp;omega) (fun j hj i u hu=>bm j l[j]! (by rw [getElem!_pos l j hj];simp [hj]) i u hu)
   rw [ij] at hcc;exact hcc
 have uK:=ae hcon;have CS:=ae hg0;obtain ⟨va,vn,vc,rfl⟩:∃ a n c,v= .slice a n c:=by
  rcases h.2 with ⟨rfl,h0⟩|⟨g,cap,cur,rfl,_⟩<;>exact ⟨_,_,_,rfl⟩
 generalize jK l f=r at*;clear h hcon hg0 dK;go_enter Tryz.func203,Tryz.ntmps203
 go_wp2_with fail
 (with_reducible refine uK.out.mono ?_);rintro e w' ⟨rfl,hg⟩;go_wp2;go_ret;exact ⟨rfl,CS.out.trans hg⟩
theorem Tryz.UR:(Tryz.prog.info? 101).map (fun i=>(i.zero,i.size,i.bytes))=some (some (.agg #[.int .i64 0,.int .i64 0,.string ByteArray.empty,.string ByteArray.empty,.int .i64 0]),5,56):=by kernel_rfl
theorem vX {l:List Tb} (h:Own B w v l) (hlen:l.length<1000000000):
  Calls Tryz.prog 117 #[v] w fun e w'=>∃ v',e= .returned v'∧Own w.heap.size w' v' l∧Grow w w':=by
 rcases h.2 with ⟨rfl,h0⟩|⟨g,cap,cur,rfl,hB,hg,kR⟩
 ·have hl:l= []:=iI h0
  subst hl;have hc:Calls Tryz.prog 117 #[.slice none 0 0] w _:=AnyE.slices_Clone_nil Tryz.acQ 0 0 w;exact hc.mono fun e w' ⟨he,hw⟩=>⟨_,he,iL _ _ _ _,by rw [hw];exact aV _⟩
 ·obtain ⟨i0,bO,hz0,hz1,hz2⟩:=info_parts Tryz.UR
  have hc:Calls Tryz.prog 117 #[.slice (some ⟨g,0,none⟩) l.length cap] w _:=AnyE.slices_Clone Tryz.acQ i0 _ 5 56 bO hz0 hz1 hz2 rfl (by decide) Tryz.sizeOf101 g 0 l.length cap (lK l) w h.1 (by unfold maxLen;omega) (by omega)
   (fun j u hu=>by
    have hj:j<l.length*5:=by have:=(dG.1 hu).1;rw [h.1] at this;exact this
    rw [Nat.zero_add,h.cellAt j hj,hu]) (auy l)
  exact hc.mono fun e w' ⟨v',he,ho,_,hb⟩=>⟨v',he,ho,hb⟩
theorem aK (h:w.heap[b]?=some (.cells cur t f)) (o:Nat) (v:Value):(w.setCell ⟨b,o,none⟩ v).heap[b]?=some (.cells (cur.setIfInBounds o v) t f):=by
 simp only [World.setCell];rw [Array.getElem?_modify,h];simp
theorem je (w:World) (b o:Nat) (v:Value):w.grownBy (w.setCell ⟨b,o,none⟩ v) (some b):=⟨rfl,rfl,rfl,by simp,fun k _ hk=>aP _ _ _ _ (fun e=>hk (by rw [e]))⟩
theorem vU {r:Option Nat} (h:w1.grownBy w2 r) (k:w2.grownBy w3 r):w1.grownBy w3 r:=
 ⟨k.os.trans h.os,k.tape.trans h.tape,k.output.trans h.output,aM h.size k.size,fun b hb hne=>by rw [k.block b (cf hb h.size) hne,h.block b hb hne]⟩
theorem adL {b:Nat}:∀ (cs:List Value) (o:Nat) (w:World) (cur:Array Value) (t:TypeId) (f:Nat×Nat),w.heap[b]?=some (.cells cur t f)→
  ∃ cur',(w.setCells b o cs).heap[b]?=some (.cells cur' t f)∧cur'.size=cur.size∧(∀ m,m≤o→cur'.toList.take m=cur.toList.take m)∧w.grownBy (w.setCells b o cs) (some b)
 | [],o,w,cur,t,f,h=>⟨cur,h,rfl,fun _ _=>rfl,⟨rfl,rfl,rfl,aw _,fun _ _ _=>rfl⟩⟩
 |v::cs,o,w,cur,t,f,h=>by
  have h1:=aK h o v;obtain ⟨cur',e1,e2,e3,e4⟩:=adL cs (o+1) _ _ t f h1;refine ⟨cur',e1,by simpa using e2,fun m hm=> ?_,?_⟩
  ·rw [e3 m (by omega)]
   simp [Array.toList_setIfInBounds,List.take_set_of_le,hm]
  ·exact vU (je w b o v) e4
theorem adM:∀ (d:List Tb) (i:Nat) (t:Tb),i<d.length→lK (d.set i t)=(((((lK d).set (i*5) (.int .i64 t.file)).set (i*5+1) (.int .i64 t.level)).set (i*5+2) (.string t.first)).set (i*5+3) (.string t.last)).set (i*5+4) (.int .i64 t.size)
 | [],i,t,h=>by simp at h
 |x::d,0,t,_=>by simp [lK,ji]
 |x::d,i+1,t,h=>by
  have ih:=adM d i t (by simpa using h);have e:∀ c,(i+1)*5+c=(i*5+c)+1+1+1+1+1:=fun c=>by omega
  have e0:(i+1)*5=(i*5)+1+1+1+1+1:=by omega
  have hx:lK (x::d)= .int .i64 x.file:: .int .i64 x.level:: .string x.first:: .string x.last:: .int .i64 x.size::lK d:=rfl;rw [kz,hx,e 1,e 2,e 3,e 4,e0];simp only [kz];rw [←ih];rfl
theorem auG {d:List Tb} (h:w.ownsRow B 101 5 (.slice (some ⟨g,0,none⟩) n cap) n (lK d)) (hd:d.length=n) (hi:i<n) (t:Tb)
  (hw':w'=((((w.setCell ⟨g,i*5,none⟩ (.int .i64 t.file)).setCell ⟨g,i*5+1,none⟩ (.int .i64 t.level)).setCell ⟨g,i*5+2,none⟩ (.string t.first)).setCell ⟨g,i*5+3,none⟩ (.string t.last)).setCell ⟨g,i*5+4,none⟩ (.int .i64 t.size)):
  w'.ownsRow B 101 5 (.slice (some ⟨g,0,none⟩) n cap) n (lK (d.set i t))∧w.grownBy w' (some g):=by
 rcases h.2 with ⟨e1,_⟩|⟨g',cap',cur,e1,hB,hg,hn,hm,hs,ht⟩
 ·cases e1
 ·cases e1
  subst hw';refine ⟨⟨by rw [←hd];have:=CQ qL (d.set i t);rw [List.length_set] at this;exact this,.inr ⟨g,cap,((((cur.setIfInBounds (i*5) (.int .i64 t.file)).setIfInBounds (i*5+1) (.int .i64 t.level)).setIfInBounds (i*5+2) (.string t.first)).setIfInBounds (i*5+3) (.string t.last)).setIfInBounds (i*5+4) (.int .i64 t.size),rfl,hB,?_,hn,hm,by simpa using hs,?_⟩⟩,?_⟩
  ·exact aK (aK (aK (aK (aK hg _ _) _ _) _ _) _ _) _ _
  ·rw [adM d i t (by omega),←ht]
   simp only [Array.toList_setIfInBounds,List.take_set]
  ·exact vU (vU (vU (vU (je _ _ _ _) (je _ _ _ _)) (je _ _ _ _)) (je _ _ _ _)) (je _ _ _ _)
theorem auH (w:World):(zeroValue 101).run Tryz.prog w= .ok (.agg #[.int .i64 0,.int .i64 0,.string ByteArray.empty,.string ByteArray.empty,.int .i64 0]) w:=by kernel_rfl
theorem auI (w:World) (g o n c:Nat) (hn:0<n) (hc:∀ j,j<n*5→(w.cell? ⟨g,o+j,none⟩).isSome=true) (hf:∀ j,j<n*5→w.frozen? ⟨g,o+j,none⟩=false):
  ∃ cs,(Builtin.clear_ #[83] 0 #[.slice (some ⟨g,o,none⟩) n c]).run Tryz.prog w= .ok (.tuple #[]) (w.setCells g o cs):=by
 obtain ⟨za,hza,hsz,oK⟩:∃ za:Array Value,(∀ w,(zeroValue 101).run Tryz.prog w= .ok (.agg za) w)∧za.size=5∧∀ i,i<5→(za[i]!).oneCell'=true:=⟨_,auH,rfl,fun i hi=>by
  match i,hi with
  |0,_=>rfl
  |1,_=>rfl
  |2,_=>rfl
  |3,_=>rfl
  |4,_=>rfl⟩
 have hlen:(Builtin.zeroCells za n).toList.length=n*5:=by
  rw [gO,size_zeroCells,hsz]
 have hst:=run_storeCells_cells (P:=Tryz.prog) g o (Builtin.zeroCells za n).toList 0 w (by rw [hlen];simpa using hc) (by rw [hlen];simpa using hf) (by
  intro v hv;obtain ⟨i,hi,rfl⟩:=List.mem_iff_getElem.1 hv;simp only [Builtin.zeroCells,Array.toList_map,List.getElem_map];have:=oK (i%5) (Nat.mod_lt _ (by decide));simpa [hsz] using this)
 simp only [Nat.add_zero] at hst;obtain ⟨m,rfl⟩:∃ m,n=m+1:=⟨n-1,by omega⟩
 refine ⟨(Builtin.zeroCells za (m+1)).toList,?_⟩;simp [Builtin.clear_,run_underlying Tryz.underlying83,hza,Value.cells,hst]
theorem auK {eb:Nat} {s n:Int} (hb:w.heap[eb]?=some (.cells #[av,dv,.int .u64 s,.int .i64 n,.int .i64 wl] 148 (0,0))) (hd:Ints w dv ks) (rJ:ks.length≤1000000000) (x:Tb):
  Calls Tryz.prog 205 #[.agg (ji x).toArray,.pointer (some ⟨eb,0,none⟩)] w fun e w'=>e= .returned (.bool (ks.contains x.file))∧Grow w w':=by
 obtain ⟨x0,x1,x2,x3,x4⟩:=x;obtain ⟨c0,c1,c2,c3,c4⟩:=dw hb;have hlt:=af hb;have hne:eb≠w.heap.size:=by omega
 have hcon:=auD (hd.grow (ar w (.cells #[.int .i64 x0,.int .i64 x1,.string x2,.string x3,.int .i64 x4] 101))) rJ x0;obtain ⟨da,dc,rfl,_⟩:=hd;have uK:=ae hcon;simp only [ji];generalize ks.contains x0=r at*;clear hcon hb;go_enter Tryz.func205,Tryz.ntmps205
 go_wp2_with fail
 (with_reducible refine uK.out.mono ?_);rintro e w' ⟨rfl,rfl⟩;go_wp2;go_ret;exact ⟨rfl,ar _ _⟩
def iD (ks:List Int) (t:Tb):Bool:= !ks.contains t.file
def UT (B:Nat) (w:World) (g n cap:Nat) (l:List Tb) (ks:List Int) (iv jv:Value) (wr:World):Prop:=
 ∃ (i j:Nat) (d:List Tb),iv= .int .i64 i∧jv= .int .i64 j∧i<j∧j≤n∧d.length=n∧wr.ownsRow B 101 5 (.slice (some ⟨g,0,none⟩) n cap) n (lK d)∧d.take i=(l.take j).filter (iD ks)∧d.drop j=l.drop j∧Below B w wr
theorem CT {α:Type} {l:List α} {x:α} (h:l[j]?=some x):l.take (j+1)=l.take j++ [x]:=by
 obtain ⟨hi,rfl⟩:=dG.1 h;rw [List.take_succ_eq_append_getElem hi]
theorem auL {l:List Tb} {p:Tb→Bool}:(Lib.idxBy (fun _ y=>p y) l default= -1∧∀ x∈l,p x=false)∨∃ (i:Nat) (x:Tb),Lib.idxBy (fun _ y=>p y) l default=(i:Int)∧l[i]?=some x∧p x=true∧∀ y∈l.take i,p y=false:=by
 have gen:∀ (l:List Tb) (s:Nat),(Lib.idxByFrom (fun _ y=>p y) default l s= -1∧∀ x∈l,p x=false)∨∃ (i:Nat) (x:Tb),Lib.idxByFrom (fun _ y=>p y) default l s=((s+i:Nat):Int)∧l[i]?=some x∧p x=true∧∀ y∈l.take i,p y=false:=by
  intro l
  induction l with
  |nil=>intro s;exact .inl ⟨rfl,(fun x hx=>by cases hx)⟩
  |cons z l ih=>
   intro s;cases hz:p z with
   |true=>exact .inr ⟨0,z,by simp [Lib.idxByFrom,hz],rfl,hz,(fun y hy=>by simp at hy)⟩
   |false=>
    have e:Lib.idxByFrom (fun _ y=>p y) default (z::l) s=Lib.idxByFrom (fun _ y=>p y) default l (s+1):=by simp [Lib.idxByFrom,hz]
    rw [e];rcases ih (s+1) with ⟨h1,h2⟩|⟨i,x,h1,h2,h3,h4⟩
    ·refine .inl ⟨h1,fun x hx=> ?_⟩
     rcases bE.1 hx with rfl|hx
     ·exact hz
     ·exact h2 x hx
    ·refine .inr ⟨i+1,x,by rw [h1];congr 1;omega,by simpa using h2,h3,fun y hy=> ?_⟩
     rw [List.take_succ_cons] at hy;rcases bE.1 hy with rfl|hy
     ·exact hz
     ·exact h4 y hy
 rcases gen l 0 with h|⟨i,x,h1,h2⟩
 ·exact .inl h
 ·exact .inr ⟨i,x,by unfold Lib.idxBy;rw [h1];congr 1;omega,h2⟩
theorem UU {d:List Tb} (h:w.ownsRow B 101 5 (.slice (some ⟨g,0,none⟩) n cap) n (lK d)) (hd:d.length=n) {t:Tb} (ht:d[j]?=some t):
  w.cell? ⟨g,j*5,none⟩=some (.int .i64 t.file)∧w.cell? ⟨g,j*5+1,none⟩=some (.int .i64 t.level)∧w.cell? ⟨g,j*5+2,none⟩=some (.string t.first)∧w.cell? ⟨g,j*5+3,none⟩=some (.string t.last)∧w.cell? ⟨g,j*5+4,none⟩=some (.int .i64 t.size):=by
 subst hd;have h1:=wC qL h j t ht;have k0:=h1 0 _ rfl;have k1:=h1 1 _ rfl;have k2:=h1 2 _ rfl;have k3:=h1 3 _ rfl;have k4:=h1 4 _ rfl;simp only [Nat.zero_add,Nat.add_zero] at k0 k1 k2 k3 k4;exact ⟨k0,k1,k2,k3,k4⟩
theorem OD (h:w.ownsRow B 101 5 (.slice (some ⟨g,0,none⟩) n cap) n xs):∃ cur,w.heap[g]?=some (.cells cur 101 (0,0))∧B≤g∧n≤cap∧cap≤maxLen∧cur.size=cap*5∧cur.toList.take (n*5)=xs:=by
 rcases h.2 with ⟨e1,_⟩|⟨g',cap',cur,e1,h2⟩
 ·cases e1
 ·cases e1
  exact ⟨cur,h2.2.1,h2.1,h2.2.2.1,h2.2.2.2.1,h2.2.2.2.2.1,h2.2.2.2.2.2⟩
theorem auM {l:List Tb} (h:Own B w (.slice (some ⟨g,0,none⟩) l.length cap) l) (hlen:l.length<1000000000) (qM:B≤w.heap.size) {eb:Nat} (np:eb<B) {s n:Int} (hb:w.heap[eb]?=some (.cells #[av,dv,.int .u64 s,.int .i64 n,.int .i64 wl] 148 (0,0))) (hw0:Below B w0 w) (hd:Ints w0 dv ks) (UW:w0.heap.size≤B) (rJ:ks.length≤1000000000):
  Calls Tryz.prog 164 #[.slice (some ⟨g,0,none⟩) l.length cap,.func (.func 205) #[] #[.pointer (some ⟨eb,0,none⟩)]] w fun e w'=>∃ v',e= .returned v'∧Own B w' v' (l.filter (iD ks))∧Below B w w':=by
 have UX:∀ W,Below B w W→∀ x:Tb,Calls Tryz.prog 205 #[.agg #[.int .i64 x.file,.int .i64 x.level,.string x.first,.string x.last,.int .i64 x.size],.pointer (some ⟨eb,0,none⟩)] W fun e w'=>e= .returned (.bool (ks.contains x.file))∧Grow W w':=fun W hW x=>by
  refine auK (av:=av) (dv:=dv) (s:=s) (n:=n) (wl:=wl) ?_ ?_ rJ x
  ·rw [hW.block eb np];exact hb
  ·have h1:=hw0.trans hW
   exact hd.grow (h1.mono UW)
 obtain ⟨cur,hg,TK,hn,hcm,hs,ht⟩:=OD h;have auN:=af hg;have eg:∀ args w,(callFunc 205 args).run Tryz.prog w= .ok (.enter 205 args) w:=enters_of Tryz.func205 (by kernel_rfl) rfl
 have bm:=wC qL h;have CH:Calls Tryz.prog 166 #[.slice (some ⟨g,0,none⟩) l.length cap,.func (.func 205) #[] #[.pointer (some ⟨eb,0,none⟩)]] w _:=AnyQ.slices_IndexFunc Tryz.jI 5 Tryz.isAgg101 Tryz.sizeOf101 ji qL (fun x=>ks.contains x.file) 205 #[.pointer (some ⟨eb,0,none⟩)] eg g 0 l.length cap l w
  (fun W x hW=>(UX W (hW.mono qM) x).mono fun e w' ⟨he,hg⟩=>⟨he,hW.trans (hg.mono hW.size)⟩) (aw _) (by omega) auN (fun j hj i u hu=>bm j l[j]! (by rw [getElem!_pos l j hj];simp [hj]) i u hu)
 rw [ij] at CH;have FI:=ae CH;have auO:=ae UX;have H:=ae h;clear CH UX hb hw0 hd bm ht hg;rcases auL (l:=l) (p:=fun x=>ks.contains x.file) with ⟨gC,hno⟩|⟨i0,x0,bO,hx0,yw,iP⟩
 ·have hf:l.filter (iD ks)=l:=List.filter_eq_self.2 fun x hx=>by simp only [iD,hno x hx,Bool.not_false]
  rw [gC] at FI;have Hf:=ae hf;clear gC hno hf;go_enter Tryz.func164,Tryz.ntmps164
  go_wp2_with fail
  (with_reducible refine FI.out.mono ?_);rintro e w1 ⟨rfl,hg1⟩;go_wp2;go_ret;exact ⟨_,rfl,by rw [Hf.out];exact eM H.out hg1,hg1.mono qM⟩
 ·rw [bO] at FI
  have auP:i0<l.length:=(dG.1 hx0).1;have adN:l.take i0=(l.take (i0+1)).filter (iD ks):=by
   rw [CT hx0,List.filter_append];have e1:(l.take i0).filter (iD ks)=l.take i0:=List.filter_eq_self.2 fun y hy=>by simp only [iD,iP y hy,Bool.not_false]
   have e2:iD ks x0=false:=by
    unfold iD;have:ks.contains x0.file=true:=yw;rw [this];rfl
   rw [e1,List.filter_cons_of_neg (by rw [e2];decide),List.filter_nil,List.append_nil]
  have bJ:=ae adN;have hne:((i0:Int)== -1)=false:=by simp
  clear bO hx0 yw iP adN;go_enter Tryz.func164,Tryz.ntmps164
  go_wp2_with fail
  (with_reducible refine FI.out.mono ?_);rintro e w1 ⟨rfl,hg1⟩;have H1:=ae (eM H.out hg1);have eC:=ae (hg1.mono qM);clear hg1
  go_wp2_with fail
  go_loopw [5,6] (fun iv jv wr=>UT B w g l.length cap l ks iv jv wr) (fun _ jv _=>l.length-(intOf jv).toNat)
  case atStart=>exact ⟨i0,i0+1,l,rfl,rfl,by omega,auP,rfl,H1.out,bJ.out,rfl,eC.out⟩
  case round=>
   obtain ⟨i,j,d,rfl,rfl,pG,nN,ic,hown,eG,hdr,dM⟩:=hrel;by_cases hlt:j<l.length
   ·obtain ⟨t,ht⟩:∃ t,l[j]?=some t:=⟨l[j],by simp [hlt]⟩
    have UY:d[j]?=some t:=by
     have e1:(d.drop j)[0]?=(l.drop j)[0]?:=by rw [hdr]
     simpa [ht] using e1
    obtain ⟨t',Kc⟩:∃ t',d[i]?=some t':=⟨d[i],by simp [show i<d.length by omega]⟩
    obtain ⟨c0,c1,c2,c3,c4⟩:=UU hown ic UY;obtain ⟨cur,hgr,_⟩:=OD hown;have lg:=af hgr;have FX:(j:Int)<(l.length:Int):=by omega
    have Al:(0:Int)≤(j:Int):=by omega
    have eB:(i:Int)<(l.length:Int):=by omega
    have auQ:(0:Int)≤(i:Int):=by omega
    have fE:IntKind.i64.wrap ((i:Int)+1)=(i:Int)+1:=aS _ (by omega);have hwj:IntKind.i64.wrap ((j:Int)+1)=(j:Int)+1:=aS _ (by omega);obtain ⟨f0,f1,f2,f3,f4⟩:=t;have hb1:Below B w (wr.alloc (.cells #[.int .i64 f0,.int .i64 f1,.string f2,.string f3,.int .i64 f4] 101)):=dM.alloc (aM qM dM.size) _;have aQ:=auO.out _ hb1 ⟨f0,f1,f2,f3,f4⟩;have dK:(wr.alloc (.cells #[.int .i64 f0,.int .i64 f1,.string f2,.string f3,.int .i64 f4] 101)).heap[wr.heap.size]?=some (.cells #[.int .i64 f0,.int .i64 f1,.string f2,.string f3,.int .i64 f4] 101 (0,0)):=ax _ _;have ah:Grow wr (wr.alloc (.cells #[.int .i64 f0,.int .i64 f1,.string f2,.string f3,.int .i64 f4] 101)):=ar _ _;have hts:=CT ht;have gp:=ae aQ;have pQ:=ae dK;have cQ:=ae ah;have fX:=ae hown;have TX:=ae UY;have Hti:=ae Kc;have nV:=ae eG;have tz:=ae hdr;have aHQ:=ae dM;have wD:=ae hb1;have Hts:=ae hts;clear aQ dK ah hown UY Kc eG hdr dM hb1 hts ht hgr;dsimp only at gp;cases hc:ks.contains f0 with
    |true=>
     rw [hc] at gp;have auS:Hid ((l.take (j+1)).filter (iD ks)=d.take i):=ae (by
      rw [Hts.out,List.filter_append,←nV.out,List.filter_cons_of_neg (by simp only [iD,hc];decide),List.filter_nil,List.append_nil])
     clear hc
     go_wp2_with fail
     (with_reducible refine gp.out.mono ?_);rintro e w3 ⟨rfl,hg3⟩;have aX:Hid (UT B w g l.length cap l ks (.int .i64 (i:Nat)) (.int .i64 ((j+1:Nat):Int)) w3):=ae ⟨i,j+1,d,rfl,rfl,by omega,hlt,ic,eM (eM fX.out cQ.out) hg3,auS.out.symm,by
      have e1:=congrArg (List.drop 1) tz.out;simpa [List.drop_drop,Nat.add_comm] using e1,wD.out.trans (hg3.mono (aM qM wD.out.size))⟩
     clear hg3;go_wp2;go_roundw
     case rel=>exact aX.out
     case measure=>simp [intOf];omega
    |false=>
     rw [hc] at gp;have gQ:iD ks ⟨f0,f1,f2,f3,f4⟩=true:=by simp only [iD,hc];rfl
     have Hkp:=ae gQ;clear hc gQ
     go_wp2_with fail
     (with_reducible refine gp.out.mono ?_);rintro e w3 ⟨rfl,hg3⟩;have iC:=eM (eM fX.out cQ.out) hg3;obtain ⟨k0,k1,k2,k3,k4⟩:=dw (hg3.heap pQ.out);obtain ⟨m0,m1,m2,m3,m4⟩:=UU iC ic Hti.out;have z0:=iC.frozenAt (i*5);have z1:=iC.frozenAt (i*5+1);have z2:=iC.frozenAt (i*5+2);have z3:=iC.frozenAt (i*5+3);have z4:=iC.frozenAt (i*5+4);obtain ⟨aHR,rE,auU,_⟩:=OD iC;have lg3:=af rE;have lb3:=af (hg3.heap pQ.out);obtain ⟨adR,Am⟩:=auG iC ic (show i<l.length by omega) ⟨f0,f1,f2,f3,f4⟩ rfl;have aX:Hid (UT B w g l.length cap l ks (.int .i64 ((i+1:Nat):Int)) (.int .i64 ((j+1:Nat):Int)) (((((w3.setCell ⟨g,i*5,none⟩ (.int .i64 f0)).setCell ⟨g,i*5+1,none⟩ (.int .i64 f1)).setCell ⟨g,i*5+2,none⟩ (.string f2)).setCell ⟨g,i*5+3,none⟩ (.string f3)).setCell ⟨g,i*5+4,none⟩ (.int .i64 f4))):=ae (by
      refine ⟨i+1,j+1,d.set i ⟨f0,f1,f2,f3,f4⟩,rfl,rfl,by omega,hlt,by rw [List.length_set];exact ic,adR,?_,?_,?_⟩
      ·rw [Hts.out,List.filter_append,←nV.out,List.filter_cons_of_pos Hkp.out,List.filter_nil]
       rw [CT (x:=(⟨f0,f1,f2,f3,f4⟩:Tb)) (by simp [show i<d.length by omega])];rw [List.take_set_of_le (aw i)]
      ·have e1:=congrArg (List.drop 1) tz.out
       rw [List.drop_set_of_lt (by omega)];simpa [List.drop_drop,Nat.add_comm] using e1
      ·exact (wD.out.trans (hg3.mono (aM qM wD.out.size))).grown Am (aM (aM qM wD.out.size) hg3.size) (fun k hk=>by cases hk;exact auU))
     clear adR Am iC hg3 rE;go_wp2;go_roundw
     case rel=>exact aX.out
     case measure=>simp [intOf];omega
   ·obtain rfl:j=l.length:=by omega
    rw [ij] at eG;obtain ⟨cur,hgr,adS,jg,auV,hs2,yx⟩:=OD hown;have adT:∀ q,q<(l.length-i)*5→(wr.cell? ⟨g,i*5+q,none⟩).isSome=true:=fun q hq=>by
     have:i*5+q<cur.size:=by rw [hs2];omega
     simp [World.cell?,hgr,this]
    obtain ⟨cs,UZ⟩:=auI wr g (i*5) (l.length-i) (cap-i) (by omega) adT (fun q _=>hown.frozenAt _);obtain ⟨cur',eR,hs',Kc,Ao⟩:=adL cs (i*5) wr cur _ _ hgr;have cJ:Hid (Own B (wr.setCells g (i*5) cs) (.slice (some ⟨g,0,none⟩) i cap) (l.filter (iD ks))∧Below B w (wr.setCells g (i*5) cs)):=ae (by
     have ml:(l.filter (iD ks)).length=i:=by rw [←eG,List.length_take,ic];omega
     refine ⟨⟨CQ qL _,.inr ⟨g,cap,cur',by rw [ml],adS,eR,by omega,auV,by rw [hs',hs2],?_⟩⟩,dM.grown Ao (aM qM dM.size) (fun k hk=>by cases hk;exact adS)⟩;rw [ml,Kc (i*5) (aw _),←eG,lK,←aur qL d i (by omega),←lK,←yx,List.take_take,Nat.min_eq_left (by omega)])
    have eB:(i:Int)≤(l.length:Int):=by omega
    have auQ:(0:Int)≤(i:Int):=by omega
    have hic:(l.length:Int)≤(cap:Int):=by omega
    have mF:cap-i≠0:=by omega
    clear adT eR hs' Kc Ao hgr hown eG hdr dM yx hs2;generalize wr.setCells g (i*5) cs=W2 at*
    go_wp2_with fail
    go_ret;exact ⟨_,rfl,cJ.out.1,cJ.out.2⟩
theorem auW (w:World) (fv:Value):Calls Tryz.prog 164 #[.slice none 0 0,fv] w fun e w'=>e= .returned (.slice none 0 0)∧w'=w:=by
 go_enter Tryz.func164,Tryz.ntmps164
 go_wp2_with fail
 (with_reducible refine (adJ _ _ _ _).mono ?_);rintro e w1 ⟨rfl,rfl⟩;go_wp2;go_ret;exact ⟨rfl,rfl⟩
theorem auX {l:List Tb} (h:Own B w v l) (hlen:l.length<1000000000) (qM:B≤w.heap.size) {eb:Nat} (np:eb<B) {s n:Int} (hb:w.heap[eb]?=some (.cells #[av,dv,.int .u64 s,.int .i64 n,.int .i64 wl] 148 (0,0))) (hw0:Below B w0 w) (hd:Ints w0 dv ks) (UW:w0.heap.size≤B) (rJ:ks.length≤1000000000):
  Calls Tryz.prog 164 #[v,.func (.func 205) #[] #[.pointer (some ⟨eb,0,none⟩)]] w fun e w'=>∃ v',e= .returned v'∧Own B w' v' (l.filter (iD ks))∧Below B w w':=by
 rcases h.2 with ⟨rfl,h0⟩|⟨g,cap,cur,rfl,_⟩
 ·have hl:l= []:=iI h0
  subst hl;exact (auW w _).mono fun e w' ⟨he,hw⟩=>⟨_,he,iL _ _ _ _,by rw [hw];exact bS _ _⟩
 ·exact auM h hlen qM np hb hw0 hd UW rJ
def FY (a b:Tb):Bool:=decide (0<b.level)&&((b.level==a.level)&&(Op.bytesLess b.first.toList a.last.toList||b.first.toList==a.last.toList))
def lM:List Tb→Bool
 |a::b::r=>FY a b||lM (b::r)
 |_=>false
theorem auY {l:List Tb} {a b:Tb} (ha:l[k]?=some a) (hb:l[k+1]?=some b):lM (l.drop k)=(FY a b||lM (l.drop (k+1))):=by
 obtain ⟨h1,rfl⟩:=dG.1 ha;obtain ⟨h2,rfl⟩:=dG.1 hb;rw [mh h1,mh h2];rfl
def auZ (w:World) (l:List Tb) (iv:Value) (wr:World):Prop:=
 ∃ i k:Nat,iv= .int .i64 i∧i=k+1∧(i≤l.length∨i=1)∧lM l=lM (l.drop k)∧Grow w wr
theorem ava {l:List Tb} (h:Own B w v l) (hlen:l.length<1000000000):
  Calls Tryz.prog 208 #[v] w fun e w'=>e= .returned (.bool (lM l))∧Grow w w':=by
 obtain ⟨va,vc,rfl,bm⟩:∃ a c,v= .slice a l.length c∧(0<l.length→∃ g,a=some ⟨g,0,none⟩∧g<w.heap.size∧∀ (j:Nat) (t:Tb),l[j]?=some t→w.cell? ⟨g,j*5,none⟩=some (.int .i64 t.file)∧w.cell? ⟨g,j*5+1,none⟩=some (.int .i64 t.level)∧w.cell? ⟨g,j*5+2,none⟩=some (.string t.first)∧w.cell? ⟨g,j*5+3,none⟩=some (.string t.last)∧w.cell? ⟨g,j*5+4,none⟩=some (.int .i64 t.size)):=by
  rcases h.2 with ⟨rfl,h0⟩|⟨g,cap,cur,rfl,hB,hg,hr⟩
  ·exact ⟨none,0,by rw [h0],fun h1=>by omega⟩
  ·exact ⟨_,cap,rfl,fun _=>⟨g,rfl,af hg,fun j t ht=>UU h rfl ht⟩⟩
 have oL:=ae bm;have aQ:=Grow.cells (w:=w);clear h bm;go_enter Tryz.func208,Tryz.ntmps208;go_wp2
 go_loopw [3] (fun iv wr=>auZ w l iv wr) (fun iv _=>l.length-(intOf iv).toNat)
 case atStart=>exact ⟨1,0,rfl,rfl,.inr rfl,rfl,aV _⟩
 case round=>
  obtain ⟨i,k,rfl,hik,hi,tA,hg⟩:=hrel;by_cases hlt:i<l.length
  ·obtain ⟨b,hb⟩:∃ b,l[i]?=some b:=⟨l[i],by simp [hlt]⟩
   obtain ⟨a,ha⟩:∃ a,l[k]?=some a:=⟨l[k],by simp [show k<l.length by omega]⟩
   obtain ⟨g,rfl,kQ,hc⟩:=oL.out (by omega);obtain ⟨p0,p1,p2,p3,p4⟩:=hc i b hb;obtain ⟨q0,q1,q2,q3,q4⟩:=hc k a ha;have hstep:=auY ha (by rw [←hik];exact hb);have bO:(0:Int)≤(i:Int):=by omega
   have eB:(i:Int)<(l.length:Int):=by omega
   have kP:(0:Int)≤(k:Int):=by omega
   have mY:(k:Int)<(l.length:Int):=by omega
   have hw:IntKind.i64.wrap ((i:Int)-1)=(k:Int):=by rw [aS _ (by omega)];omega
   have fE:IntKind.i64.wrap ((i:Int)+1)=(i:Int)+1:=aS _ (by omega);have oy:=ae hstep;have CU:=ae tA;have Va:=ae hik;have Hg:=ae hg;obtain ⟨b0,b1,b2,b3,b4⟩:=b;obtain ⟨a0,a1,a2,a3,a4⟩:=a;dsimp only at p0 p1 p2 p3 p4 q0 q1 q2 q3 q4;clear hc ha hb hstep tA hik hi;by_cases h1:0<b1
   ·have uS:decide (0<b1)=true:=by simp [h1]
    by_cases h2:b1=a1
    ·have CV:(b1==a1)=true:=by simp [h2]
     cases h3:(Op.bytesLess b2.toList a3.toList||b2.toList==a3.toList) with
     |true=>
      have cJ:Hid (lM l=true):=ae (by rw [CU.out,oy.out];simp only [FY,uS,CV,h3];rfl);clear h1 h2
      go_wp2_with fail
      refine dz (fun W=>Below w.heap.size w W) [] (by kernel_rfl) (bK fun _ _ _ _ _ h=>h) (Hg.out.trans (az _)) ?_;simp only [cF]
      repeat ((first|(refine aA (v:= ?_) (by rfl) ?_ ?_;rotate_left;rintro W hW;go_simp;with_reducible rfl)|refine aB (by rfl) ?_);simp only [ai,List.set])
      refine bj ?_;go_wp2;go_ret;exact ⟨by rw [cJ.out];rfl,Hg.out.trans (az _)⟩
     |false=>
      have cJ:Hid (lM l=lM (l.drop (k+1))):=ae (by rw [CU.out,oy.out];simp only [FY,uS,CV,h3];rfl);clear h1 h2
      go_wp2_with fail
      refine dz (fun W=>Below w.heap.size w W) [] (by kernel_rfl) (bK fun _ _ _ _ _ h=>h) (Hg.out.trans (az _)) ?_;simp only [cF]
      repeat ((first|(refine aA (v:= ?_) (by rfl) ?_ ?_;rotate_left;rintro W hW;go_simp;with_reducible rfl)|refine aB (by rfl) ?_);simp only [ai,List.set])
      refine bj ?_;go_wp2;go_roundw
      case rel=>exact ⟨i+1,k+1,rfl,by rw [Va.out],.inl hlt,cJ.out,Hg.out.trans (az _)⟩
      case measure=>simp [intOf];omega
    ·have CV:(b1==a1)=false:=by simpa using h2
     have cJ:Hid (lM l=lM (l.drop (k+1))):=ae (by rw [CU.out,oy.out];simp only [FY,uS,CV];rfl);clear h1 h2
     go_wp2_with fail
     refine dz (fun W=>Below w.heap.size w W) [] (by kernel_rfl) (bK fun _ _ _ _ _ h=>h) (Hg.out.trans (az _)) ?_;simp only [cF]
     repeat ((first|(refine aA (v:= ?_) (by rfl) ?_ ?_;rotate_left;rintro W hW;go_simp;with_reducible rfl)|refine aB (by rfl) ?_);simp only [ai,List.set])
     refine bj ?_;go_wp2;go_roundw
     case rel=>exact ⟨i+1,k+1,rfl,by rw [Va.out],.inl hlt,cJ.out,Hg.out.trans (az _)⟩
     case measure=>simp [intOf];omega
   ·have uS:decide (0<b1)=false:=by simpa using h1
    have cJ:Hid (lM l=lM (l.drop (k+1))):=ae (by rw [CU.out,oy.out];simp only [FY,uS];rfl);clear h1
    go_wp2_with fail
    refine dz (fun W=>Below w.heap.size w W) [] (by kernel_rfl) (bK fun _ _ _ _ _ h=>h) (Hg.out.trans (az _)) ?_;simp only [cF]
    repeat ((first|(refine aA (v:= ?_) (by rfl) ?_ ?_;rotate_left;rintro W hW;go_simp;with_reducible rfl)|refine aB (by rfl) ?_);simp only [ai,List.set])
    refine bj ?_;go_wp2;go_roundw
    case rel=>exact ⟨i+1,k+1,rfl,by rw [Va.out],.inl hlt,cJ.out,Hg.out.trans (az _)⟩
    case measure=>simp [intOf];omega
  ·have cJ:Hid (lM l=false):=ae (by
    rw [tA];have:(l.drop k).length≤1:=by rw [List.length_drop];omega
    cases hd:l.drop k with
    |nil=>rfl
    |cons a r=>
     rw [hd] at this;cases r with
     |nil=>rfl
     |cons b r=>simp at this)
   have hle:(l.length:Int)≤(i:Int):=by omega
   clear tA hik hi;go_wp2;go_ret;exact ⟨by rw [cJ.out];rfl,hg⟩
theorem qN (h:w.ownsRow B 101 5 v n xs) (hb:w.heap[b]?=some (.cells arr t f)) (ht:t≠101) {x:Value}:(w.setCell ⟨b,i,none⟩ x).ownsRow B 101 5 v n xs:=by
 refine ⟨h.1,?_⟩;rcases h.2 with h1|⟨g,cap,cur,h1,h2,h3,h4⟩
 ·exact .inl h1
 ·refine .inr ⟨g,cap,cur,h1,h2,?_,h4⟩
  rw [aP _ _ _ _ (fun e=> ?_)]
  ·exact h3
  ·rw [e] at h3
   dsimp only at h3;rw [hb] at h3;cases h3;exact ht rfl
abbrev bP (v:Value) (s n wl:Int):Array Value:=#[v,.int .u64 s,.int .i64 n,.int .i64 wl]
theorem dy (h:w.heap[b]?=some (.cells #[x0,x1,x2,x3] t (0,0))):
  w.cell? ⟨b,0,none⟩=some x0∧w.cell? ⟨b,1,none⟩=some x1∧w.cell? ⟨b,2,none⟩=some x2∧w.cell? ⟨b,3,none⟩=some x3:=by
 simp [World.cell?,h]
theorem jL {l:List Tb} (h:Own B w v l):∃ a c,v= .slice a l.length c:=by
 rcases h.2 with ⟨rfl,h0⟩|⟨g,cap,cur,rfl,_⟩
 ·exact ⟨none,0,by rw [h0]⟩
 ·exact ⟨_,_,rfl⟩
theorem adU {l:List Tb} (h:Own B w v l) (hlen:l.length<1000000000) (s n wl:Int):
  Calls Tryz.prog 67 #[.agg (bP v s n wl)] w fun e w'=>∃ v',e= .returned (.agg (bP v' s n wl))∧Own w.heap.size w' v' l∧Grow w w':=by
 have ah:Grow w ((w.alloc (.cells (bP v s n wl) 85)).alloc (.cells (bP (.slice none 0 0) 0 0 0) 85)):=by ((repeat (first|exact bS _ _|assumption|refine cz ?_|refine cA ?_|refine cj ?_ ?_ _|refine cy ?_ ?_ _))<;>try (first|omega|(simp<;>omega)))
 have hcon:=vX (eM h ah) hlen;have hb1:((w.alloc (.cells (bP v s n wl) 85)).alloc (.cells (bP (.slice none 0 0) 0 0 0) 85)).heap[w.heap.size]?=some (.cells (bP v s n wl) 85 (0,0)):=(heap_alloc_old _ _ (by simp)).trans (ax _ _);have hb2:((w.alloc (.cells (bP v s n wl) 85)).alloc (.cells (bP (.slice none 0 0) 0 0 0) 85)).heap[w.heap.size+1]?=some (.cells (bP (.slice none 0 0) 0 0 0) 85 (0,0)):=by
  have:=ax (w.alloc (.cells (bP v s n wl) 85)) (.cells (bP (.slice none 0 0) 0 0 0) 85);simpa using this
 obtain ⟨va,vc,rfl⟩:=jL h;obtain ⟨c0,c1,c2,c3⟩:=dy hb1;have l1:=af hb1;have l2:=af hb2;have uK:=ae hcon;have wD:=ae hb1;have qO:=ae hb2;have cQ:=ae ah;clear hcon hb1 hb2 ah h;go_enter Tryz.func67,Tryz.ntmps67
 go_wp2_with fail
 generalize (w.alloc (.cells (bP (.slice va l.length vc) s n wl) 85)).alloc (.cells (bP (.slice none 0 0) 0 0 0) 85)=W1 at*;(with_reducible refine uK.out.mono ?_);rintro e w2 ⟨v',rfl,fY,hg2⟩;obtain ⟨vV,vW,rfl⟩:=jL fY;have OE:=hg2.heap wD.out;have OG:=hg2.heap qO.out;clear c0 c1 c2 c3;obtain ⟨c0,c1,c2,c3⟩:=dy OE;obtain ⟨d0,d1,d2,d3⟩:=dy OG;have f0:=bG OE;have f1:=bG OG;have l3:=af OE;have l4:=af OG;have Ho2:=ae fY;have fA:=ae hg2;clear OE OG fY hg2;go_wp2;refine bodyPost_ret (v:= .agg (bP (.slice vV l.length vW) s n wl)) (by simp [results,Tryz.results67,go_sem, *]) rfl ⟨_,rfl,?_,?_⟩
 ·have k1:=fA.out.heap wD.out
  have k2:=fA.out.heap qO.out;have hne:w.heap.size+1≠w.heap.size:=by omega
  have k3:∀ x,(w2.setCell ⟨w.heap.size,0,none⟩ x).heap[w.heap.size+1]?=_:=fun x=>(aP _ _ _ _ hne).trans k2
  refine qN (qN (qN (qN (qN (qK Ho2.out cQ.out.size) k1 (by decide)) (k3 _) (by decide)) (aK (k3 _) _ _) (by decide)) (aK (aK (k3 _) _ _) _ _) (by decide)) (aK (aK (aK (k3 _) _ _) _ _) _ _) (by decide)
 ·have eZ:Below w.heap.size w w2:=cQ.out.trans fA.out
  ((repeat (first|exact bS _ _|assumption|refine cz ?_|refine cA ?_|refine cj ?_ ?_ _|refine cy ?_ ?_ _))<;>try (first|omega|(simp<;>omega)))
structure bI where
 tabs:List Tb
 seq:Int
 next:Int
 wal:Int
structure cH where
 add:List Tb
 drop:List Int
 seq:Int
 next:Int
 wal:Int
def dh:bI:=⟨[],0,0,0⟩
def rK (l:List Tb):List Int→List Int→Bool
 |_,[]=>false
 |pre,n::r=>(!jK l n||pre.contains n)||rK l (pre++ [n]) r
def rL (l:List Tb) (t:Tb):Bool:=
 decide (t.file<0)||(jK l t.file||(decide (t.level<0)||(decide (6<t.level)||(!(Op.bytesLess t.first.toList t.last.toList||t.first.toList==t.last.toList)||(decide (t.size<0)||(decide (1099511627776<t.file)||decide (1099511627776<t.size)))))))
def lN:List Tb→List Tb→Option (List Tb)
 |l,[]=>some l
 |l,t::r=>if rL l t=true then none else lN (l++ [t]) r
def rM (v:bI) (e:cH):Bool:=
 ((e.seq != 0)&&decide (e.seq<v.seq))||(((e.next != 0)&&decide (e.next<v.next))||(((e.wal != 0)&&decide (e.wal<v.wal))||(decide (1099511627776<e.next)||decide (1099511627776<e.wal))))
def bz (v:bI) (e:cH):Int×bI:=
 if rK v.tabs [] e.drop=true then (4,dh) else
 match lN (v.tabs.filter (iD e.drop)) e.add with
 |none=>(1,dh)
 |some l=>
  if 65536<(kf l).length then (1,dh) else
  if lM (kf l)=true then (15,dh) else
  if rM v e=true then (1,dh) else
  (0,⟨kf l,df e.seq v.seq,df e.next v.next,df e.wal v.wal⟩)
def tB (w:World) (v:Value) (l:List Tb):Prop:=
 ∃ a c,v= .slice a l.length c∧(l= []∨∃ b o,a=some ⟨b,o,none⟩∧b<w.heap.size∧Rd w b o ji 5 l)
theorem tB.grow {l:List Tb} (h:tB w v l) (hg:Grow w w'):tB w' v l:=by
 obtain ⟨a,c,hv,h⟩:=h;refine ⟨a,c,hv,?_⟩;rcases h with h|⟨b,o,ha,hb,hr⟩
 ·exact .inl h
 ·exact .inr ⟨b,o,ha,cf hb hg.size,hr.grow hb hg⟩
def adV (w:World) (r:Int×bI) (e:Ending) (w':World):Prop:=
 ∃ v',e= .returned (.tuple #[.agg (bP v' r.2.seq r.2.next r.2.wal),.int .i64 r.1])∧Own w.heap.size w' v' r.2.tabs∧Grow w w'
abbrev dN (av dv:Value) (s n wl:Int):Array Value:=#[av,dv,.int .u64 s,.int .i64 n,.int .i64 wl]
structure nW (w wr:World) (cv:Value) (s n wl:Int) (av dv:Value) (es en ew:Int):Prop where
 vb:wr.heap[w.heap.size]?=some (.cells (bP cv s n wl) 85 (0,0))
 eb:wr.heap[w.heap.size+1]?=some (.cells (dN av dv es en ew) 148 (0,0))
 rb:wr.heap[w.heap.size+1+1]?=some (.cells (bP (.slice none 0 0) 0 0 0) 85 (0,0))
 gr:Grow w wr
theorem nW.grow {s n:Int} {es:Int} (h:nW w wr cv s n wl av dv es en ew) (hg:Grow wr wr'):nW w wr' cv s n wl av dv es en ew:=
 ⟨hg.heap h.vb,hg.heap h.eb,hg.heap h.rb,h.gr.trans hg⟩
theorem nW.start (w:World) (cv:Value) (s n wl:Int) (av dv:Value) (es en ew:Int):nW w (((w.alloc (.cells (bP cv s n wl) 85)).alloc (.cells (dN av dv es en ew) 148)).alloc (.cells (bP (.slice none 0 0) 0 0 0) 85)) cv s n wl av dv es en ew:=by
 refine ⟨?_,?_,?_,by ((repeat (first|exact bS _ _|assumption|refine cz ?_|refine cA ?_|refine cj ?_ ?_ _|refine cy ?_ ?_ _))<;>try (first|omega|(simp<;>omega)))⟩
 ·rw [heap_alloc_old _ _ (by simp;omega),heap_alloc_old _ _ (by simp)];exact ax _ _
 ·rw [heap_alloc_old _ _ (by simp)]
  have:=ax (w.alloc (.cells (bP cv s n wl) 85)) (.cells (dN av dv es en ew) 148);simpa using this
 ·have:=ax ((w.alloc (.cells (bP cv s n wl) 85)).alloc (.cells (dN av dv es en ew) 148)) (.cells (bP (.slice none 0 0) 0 0 0) 85)
  simpa using this
theorem nW.below {s n:Int} {es:Int} (h:nW w w1 cv s n wl av dv es en ew) (hb:Below B w1 w2) (hB:w.heap.size+1+1<B):nW w w2 cv s n wl av dv es en ew:=
 ⟨by rw [hb.block _ (by omega)];exact h.vb,by rw [hb.block _ (by omega)];exact h.eb,by rw [hb.block _ hB];exact h.rb,Below.trans h.gr (hb.mono (by omega))⟩
theorem nW.grown {r:Option Nat} {s n:Int} {es:Int} (h:nW w w1 cv s n wl av dv es en ew) (hg:w1.grownBy w2 r) (hr:∀ k,r=some k→B≤k) (hB:w.heap.size+1+1<B):nW w w2 cv s n wl av dv es en ew:=by
 have l1:=af h.vb;have l2:=af h.eb;have l3:=af h.rb;have hne:∀ k,k<B→some k≠r:=fun k hk e=>by have:=hr k e.symm;omega
 exact ⟨by rw [hg.block _ l1 (hne _ (by omega))];exact h.vb,by rw [hg.block _ l2 (hne _ (by omega))];exact h.eb,by rw [hg.block _ l3 (hne _ hB)];exact h.rb,h.gr.grown hg h.gr.size (fun k hk=>by have:=hr k hk;omega)⟩
theorem nW.Uy {s n:Int} {es:Int} (h:nW w wr cv s n wl av dv es en ew) (Vb:Value):nW w (wr.setCell ⟨w.heap.size,0,none⟩ Vb) Vb s n wl av dv es en ew:=
 ⟨aK h.vb 0 Vb,(aP _ _ _ _ (by show w.heap.size+1≠w.heap.size;omega)).trans h.eb,(aP _ _ _ _ (by show w.heap.size+1+1≠w.heap.size;omega)).trans h.rb,h.gr.setCell (aw _) _⟩
def adW (w:World) (B1:Nat) (V:bI) (E:cH) (av dv:Value) (iv:Value) (wr:World):Prop:=
 ∃ (i:Nat) (cv:Value) (cur:List Tb),iv= .int .i64 i∧i≤E.add.length∧nW w wr cv V.seq V.next V.wal av dv E.seq E.next E.wal∧Own B1 wr cv cur∧lN (V.tabs.filter (iD E.drop)) E.add=lN cur (E.add.drop i)∧cur.length≤10000+i∧B1≤wr.heap.size
theorem avc {l:List Tb} {add:List Tb} {t:Tb} (h:add[i]?=some t):lN l (add.drop i)=if rL l t=true then none else lN (l++ [t]) (add.drop (i+1)):=by
 obtain ⟨hi,rfl⟩:=dG.1 h;rw [mh hi,lN]
def avd (W0:World) (l:List Tb) (drop:List Int) (iv:Value) (wr:World):Prop:=
 ∃ i:Nat,iv= .int .i64 i∧i≤drop.length∧rK l [] drop=rK l (drop.take i) (drop.drop i)∧Grow W0 wr
theorem ave {l:List Tb} {drop:List Int} {n:Int} (h:drop[i]?=some n):rK l (drop.take i) (drop.drop i)=((!jK l n||(drop.take i).contains n)||rK l (drop.take (i+1)) (drop.drop (i+1))):=by
 obtain ⟨hi,rfl⟩:=dG.1 h;rw [mh hi,rK,CT (dZ hi)]
theorem avf {t:Array Value} {c:Int} (h4:t.getD 4 undef= .pointer (some ⟨rb,0,none⟩)) (h5:t.getD 5 undef= .int .i64 c) (hW:w.heap[rb]?=some (.cells #[x0,x1,x2,x3] 85 (0,0))):
  (results Tryz.f161 t).run Tryz.prog w= .ok (.tuple #[.agg #[x0,x1,x2,x3],.int .i64 c]) w:=by
 obtain ⟨k0,k1,k2,k3⟩:=dy hW;simp only [eQ] at h4 h5;simp [results,Tryz.results161,go_sem,h4,h5,k0,k1,k2,k3]
theorem adX {t:Array Value} {c:Int} (h4:t.getD 4 undef= .pointer (some ⟨rb,0,none⟩)) (h5:t.getD 5 undef= .int .i64 c) (hW:w.heap[rb]?=some (.cells #[x0,x1,x2,x3] 85 (0,0))):
  (results Tryz.f110 t).run Tryz.prog w= .ok (.tuple #[.agg #[x0,x1,x2,x3],.int .i64 c]) w:=by
 obtain ⟨k0,k1,k2,k3⟩:=dy hW;simp only [eQ] at h4 h5;simp [results,Tryz.results110,go_sem,h4,h5,k0,k1,k2,k3]
structure avg (w:World) (tv:Value) (V:bI) (av dv:Value) (E:cH):Prop where
 own:Own 0 w tv V.tabs
 len:V.tabs.length≤10000
 adds:tB w av E.add
 OH:E.add.length≤10000
 drops:Ints w dv E.drop
 OI:E.drop.length≤10000
def adY:Prop:=∀ (w:World) (tv:Value) (V:bI) (av dv:Value) (E:cH),avg w tv V av dv E→
 Calls Tryz.prog 161 #[.agg (bP tv V.seq V.next V.wal),.agg (dN av dv E.seq E.next E.wal)] w (adV w (bz V E))
def gu:bI→List cH→Int×bI
 |v,[]=>(0,v)
 |v,e::r=>if (bz v e).1=0 then gu (bz v e).2 r else ((bz v e).1,dh)
structure Kd (w:World) (b o:Nat) (av dv:Value) (e:cH):Prop where
 c0:w.cell? ⟨b,o,none⟩=some av
 c1:w.cell? ⟨b,o+1,none⟩=some dv
 c2:w.cell? ⟨b,o+2,none⟩=some (.int .u64 e.seq)
 c3:w.cell? ⟨b,o+3,none⟩=some (.int .i64 e.next)
 c4:w.cell? ⟨b,o+4,none⟩=some (.int .i64 e.wal)
 adds:tB w av e.add
 drops:Ints w dv e.drop
theorem Kd.grow {o:Nat} {e:cH} (h:Kd w b o av dv e) (hb:b<w.heap.size) (hg:Grow w w'):Kd w' b o av dv e:=by
 have hc:∀ i,w'.cell? ⟨b,i,none⟩=w.cell? ⟨b,i,none⟩:=fun i=>Grow.cells _ _ _ hg hb
 exact ⟨by rw [hc];exact h.c0,by rw [hc];exact h.c1,by rw [hc];exact h.c2,by rw [hc];exact h.c3,by rw [hc];exact h.c4,h.adds.grow hg,h.drops.grow hg⟩
def adZ (w:World) (v:Value) (es:List cH):Prop:=
 ∃ a c,v= .slice a es.length c∧(es= []∨∃ b o,a=some ⟨b,o,none⟩∧b<w.heap.size∧∀ (i:Nat) (e:cH),es[i]?=some e→∃ av dv,Kd w b (o+i*5) av dv e)
theorem aea:∀ {r l l':List Tb},lN l r=some l'→l'.length=l.length+r.length
 | [],l,l',h=>by simp [lN] at h;subst h;simp
 |t::r,l,l',h=>by
  unfold lN at h
  split at h
  ·cases h
  ·have:=aea h;simp at this ⊢;omega
theorem aeb (v:bI) (e:cH):(bz v e).2.tabs.length≤v.tabs.length+e.add.length:=by
 unfold bz;split
 ·simp [dh]
 ·split
  ·simp [dh]
  ·rename_i l hl
   have h1:=aea hl;have h2:(v.tabs.filter (iD e.drop)).length≤v.tabs.length:=List.length_filter_le _ _;have h3:=(Ak l).length_eq;split
   ·simp [dh]
   ·split
    ·simp [dh]
    ·split
     ·simp [dh]
     ·dsimp only;omega
def Vc (w:World) (V:bI) (es:List cH) (iv:Value) (wr:World):Prop:=
 ∃ (i:Nat) (cv:Value) (V':bI),iv= .int .i64 i∧i≤es.length∧wr.heap[w.heap.size]?=some (.cells (bP cv V'.seq V'.next V'.wal) 85 (0,0))∧wr.heap[w.heap.size+1]?=some (.cells (bP (.slice none 0 0) 0 0 0) 85 (0,0))∧
  Own w.heap.size wr cv V'.tabs∧gu V es=gu V' (es.drop i)∧V'.tabs.length≤V.tabs.length+5000*i∧Grow w wr
theorem Ap (h:w.heap[b]?=some (.cells #[x0,x1,x2,x3] 85 (0,0))) (y0 y1 y2 y3:Value):
  ((((w.setCell ⟨b,0,none⟩ y0).setCell ⟨b,1,none⟩ y1).setCell ⟨b,2,none⟩ y2).setCell ⟨b,3,none⟩ y3).heap[b]?=some (.cells #[y0,y1,y2,y3] 85 (0,0)):=
 aK (aK (aK (aK h 0 y0) 1 y1) 2 y2) 3 y3
theorem FZ (h:c≠b) (y0 y1 y2 y3:Value):
  ((((w.setCell ⟨b,0,none⟩ y0).setCell ⟨b,1,none⟩ y1).setCell ⟨b,2,none⟩ y2).setCell ⟨b,3,none⟩ y3).heap[c]?=w.heap[c]?:=by
 rw [aP _ _ _ _ h,aP _ _ _ _ h,aP _ _ _ _ h,aP _ _ _ _ h]
theorem CW {l:List Tb} (ho:Own B w v l) (h:w.heap[b]?=some (.cells #[x0,x1,x2,x3] 85 (0,0))) (y0 y1 y2 y3:Value):
  Own B ((((w.setCell ⟨b,0,none⟩ y0).setCell ⟨b,1,none⟩ y1).setCell ⟨b,2,none⟩ y2).setCell ⟨b,3,none⟩ y3) v l:=
 qN (qN (qN (qN ho h (by decide)) (aK h 0 y0) (by decide)) (aK (aK h 0 y0) 1 y1) (by decide)) (aK (aK (aK h 0 y0) 1 y1) 2 y2) (by decide)
theorem wE {a:World} (h:Below B a w) (hb:B≤b) (y0 y1 y2 y3:Value):
  Below B a ((((w.setCell ⟨b,0,none⟩ y0).setCell ⟨b,1,none⟩ y1).setCell ⟨b,2,none⟩ y2).setCell ⟨b,3,none⟩ y3):=
 (((h.setCell hb _).setCell hb _).setCell hb _).setCell hb _
theorem aec (hA:adY) {V:bI} (hown:Own B w tv V.tabs) (hVl:V.tabs.length≤5000) {ev:Value} {es:List cH} (he:adZ w ev es) (wF:es.length≤1) (Aq:∀ e∈es,e.add.length≤5000∧e.drop.length≤10000):
  Calls Tryz.prog 110 #[.agg (bP tv V.seq V.next V.wal),ev] w (adV w (gu V es)):=by
 have hg0:Grow w ((w.alloc (.cells (bP tv V.seq V.next V.wal) 85)).alloc (.cells (bP (.slice none 0 0) 0 0 0) 85)):=by ((repeat (first|exact bS _ _|assumption|refine cz ?_|refine cA ?_|refine cj ?_ ?_ _|refine cy ?_ ?_ _))<;>try (first|omega|(simp<;>omega)))
 have hb1:((w.alloc (.cells (bP tv V.seq V.next V.wal) 85)).alloc (.cells (bP (.slice none 0 0) 0 0 0) 85)).heap[w.heap.size]?=some (.cells (bP tv V.seq V.next V.wal) 85 (0,0)):=(heap_alloc_old _ _ (by simp)).trans (ax _ _);have hb2:((w.alloc (.cells (bP tv V.seq V.next V.wal) 85)).alloc (.cells (bP (.slice none 0 0) 0 0 0) 85)).heap[w.heap.size+1]?=some (.cells (bP (.slice none 0 0) 0 0 0) 85 (0,0)):=by
  have:=ax (w.alloc (.cells (bP tv V.seq V.next V.wal) 85)) (.cells (bP (.slice none 0 0) 0 0 0) 85);simpa using this
 have hap:=adU (eM hown hg0) (by omega) V.seq V.next V.wal;obtain ⟨ta,tc,rfl⟩:=jL hown;obtain ⟨ea,ec,rfl,her⟩:=he;obtain ⟨c0,c1,c2,c3⟩:=dy hb1;have l1:=af hb1;have l2:=af hb2;have gh:=ae hap;have wD:=ae hb1;have qO:=ae hb2;have CS:=ae hg0;have Her:=ae her;have HA:=ae hA;have Ga:=ae Aq;clear hap hb1 hb2 hg0 her hA Aq hown;go_enter Tryz.func110,Tryz.ntmps110
 go_wp2_with fail
 generalize (w.alloc (.cells (bP (.slice ta V.tabs.length tc) V.seq V.next V.wal) 85)).alloc (.cells (bP (.slice none 0 0) 0 0 0) 85)=W1 at*;(with_reducible refine gh.out.mono ?_);rintro e w2 ⟨cv,rfl,fY,hg2⟩;have k1:=hg2.heap wD.out;have k2:=hg2.heap qO.out;have hst:Vc w V es (.int .i64 0) ((((w2.setCell ⟨w.heap.size,0,none⟩ cv).setCell ⟨w.heap.size,1,none⟩ (.int .u64 V.seq)).setCell ⟨w.heap.size,2,none⟩ (.int .i64 V.next)).setCell ⟨w.heap.size,3,none⟩ (.int .i64 V.wal)):=
  ⟨0,cv,V,rfl,aY _,Ap k1 _ _ _ _,(FZ (by omega) _ _ _ _).trans k2,CW (qK fY CS.out.size) k1 _ _ _ _,rfl,by omega,wE (CS.out.trans hg2) (aw _) _ _ _ _⟩
 clear c0 c1 c2 c3;obtain ⟨c0,c1,c2,c3⟩:=dy k1;have f0:=bG k1;have l3:=af k1;obtain ⟨xa,xc,rfl⟩:=jL fY;have bJ:=ae hst;clear k1 k2 hst fY hg2
 go_wp2_with fail
 go_loopw [13] (fun iv wr=>Vc w V es iv wr) (fun iv _=>es.length-(intOf iv).toNat)
 case atStart=>exact bJ.out
 case round=>
  obtain ⟨i,cv,V',rfl,hi,jG,fC,hown,hall,hlen,hg⟩:=hrel;by_cases hlt:i<es.length
  ·obtain ⟨x,hx⟩:∃ x,es[i]?=some x:=⟨es[i],by simp [hlt]⟩
   obtain ⟨b,o,rfl,hbl,hed⟩:∃ b o,ea=some ⟨b,o,none⟩∧b<w.heap.size∧∀ (i:Nat) (e:cH),es[i]?=some e→∃ av dv,Kd w b (o+i*5) av dv e:=by
    rcases Her.out with h1|h1
    ·rw [h1] at hlt;simp at hlt
    ·exact h1
   obtain ⟨av,dv,OJ⟩:=hed i x hx;have hat:=OJ.grow hbl hg;obtain ⟨hxa,hxd⟩:=Ga.out x (dB hx);have hstep:gu V' (es.drop i)=if (bz V' x).1=0 then gu (bz V' x).2 (es.drop (i+1)) else ((bz V' x).1,dh):=by
    obtain ⟨hi',rfl⟩:=dG.1 hx;rw [mh hi',gu]
   have ng:=aeb V' x;obtain ⟨aa,ac,rfl,_⟩:=hat.adds;obtain ⟨da,dc,rfl,_,_⟩:=hat.drops;obtain ⟨p0,p1,p2,p3,p4,_,_⟩:=hat;have ah:Grow wr (wr.alloc (.cells (dN (.slice aa x.add.length ac) (.slice da x.drop.length dc) x.seq x.next x.wal) 148)):=ar _ _;have fS:=HA.out (wr.alloc (.cells (dN (.slice aa x.add.length ac) (.slice da x.drop.length dc) x.seq x.next x.wal) 148)) cv V' (.slice aa x.add.length ac) (.slice da x.drop.length dc) x ⟨qK (eM hown ah) (aY _),by omega,(OJ.adds.grow hg).grow ah,by omega,(OJ.drops.grow hg).grow ah,by omega⟩;obtain ⟨va,vc,rfl⟩:=jL hown;clear c0 c1 c2 c3;obtain ⟨c0,c1,c2,c3⟩:=dy jG;have lv:=af jG;have lr:=af fC;have lb:b<wr.heap.size:=cf hbl hg.size;have eB:(i:Int)<(es.length:Int):=by omega
   have bO:(0:Int)≤(i:Int):=by omega
   have kh:=ae fS;have oy:=ae hstep;have gj:=ae hall;have OL:=ae jG;have lO:=ae fC;have cQ:=ae ah;have Hg:=ae hg;clear fS hstep hall jG fC ah hg OJ hed hown hx;generalize bz V' x=r at*
   go_wp2_with fail
   (with_reducible refine kh.out.mono ?_);rintro e w5 ⟨v5,rfl,gI,br⟩;have k1:=br.heap (cQ.out.heap OL.out);have k2:=br.heap (cQ.out.heap lO.out);have OM:=(Hg.out.trans cQ.out).trans br;clear c0 c1 c2 c3;obtain ⟨c0,c1,c2,c3⟩:=dy k1;obtain ⟨d0,d1,d2,d3⟩:=dy k2;have g0:=bG k1;have g1:=bG k2;have l5:=af k1;have l6:=af k2;obtain ⟨rc,rv⟩:=r;dsimp only at gI ng oy;have OO:w.heap.size≤(wr.alloc (.cells (dN (.slice aa x.add.length ac) (.slice da x.drop.length dc) x.seq x.next x.wal) 148)).heap.size:=(Hg.out.trans cQ.out).size;by_cases rN:rc=0
   ·subst rN
    have aX:Hid (Vc w V es (.int .i64 ((i+1:Nat):Int)) ((((w5.setCell ⟨w.heap.size,0,none⟩ v5).setCell ⟨w.heap.size,1,none⟩ (.int .u64 rv.seq)).setCell ⟨w.heap.size,2,none⟩ (.int .i64 rv.next)).setCell ⟨w.heap.size,3,none⟩ (.int .i64 rv.wal))):=ae
     ⟨i+1,v5,rv,rfl,hlt,Ap k1 _ _ _ _,(FZ (by omega) _ _ _ _).trans k2,CW (qK gI OO) k1 _ _ _ _,by rw [gj.out,oy.out,if_pos rfl],by omega,wE OM (aw _) _ _ _ _⟩
    obtain ⟨ya,yc,rfl⟩:=jL gI;clear gI br OM k1 k2 g1 OO;go_wp2;go_roundw
    case rel=>exact aX.out
    case measure=>simp [intOf];omega
   ·have dC:Hid (gu V es=(rc,dh)):=ae (by rw [gj.out,oy.out,if_neg rN])
    have fC:(rc != 0)=true:=by simpa using rN
    have Ar:(rc==0)=false:=by simpa using rN
    have avi:=ae OM;have Hk2:=ae k2;obtain ⟨ya,yc,rfl⟩:=jL gI;clear gI br OM k1 k2 OO rN;go_wp2;refine bodyPost_ret (adX (x0:= .slice none 0 0) (x1:= .int .u64 0) (x2:= .int .i64 0) (x3:= .int .i64 0) (c:=rc) rfl rfl (Ap ((FZ (by omega) _ _ _ _).trans Hk2.out) _ _ _ _)) rfl ?_;rw [dC.out];exact ⟨_,rfl,iL _ _ _ _,wE (wE avi.out (aw _) _ _ _ _) (by omega) _ _ _ _⟩
  ·obtain rfl:i=es.length:=by omega
   rw [List.drop_length] at hall;have dC:Hid (gu V es=(0,V')):=ae hall;have cJ:Hid (Own w.heap.size ((((wr.setCell ⟨w.heap.size+1,0,none⟩ cv).setCell ⟨w.heap.size+1,1,none⟩ (.int .u64 V'.seq)).setCell ⟨w.heap.size+1,2,none⟩ (.int .i64 V'.next)).setCell ⟨w.heap.size+1,3,none⟩ (.int .i64 V'.wal)) cv V'.tabs):=ae (CW hown fC _ _ _ _);obtain ⟨va,vc,rfl⟩:=jL hown;clear c0 c1 c2 c3;obtain ⟨c0,c1,c2,c3⟩:=dy jG;obtain ⟨d0,d1,d2,d3⟩:=dy fC;have g1:=bG fC;have l5:=af jG;have l6:=af fC;have Hg:=ae hg;have lO:=ae fC;clear hall jG fC hown hg f0;go_wp2;refine bodyPost_ret (adX (c:=0) rfl rfl (Ap lO.out _ _ _ _)) rfl (by
    rw [dC.out];exact ⟨_,rfl,cJ.out,wE Hg.out (by omega) _ _ _ _⟩)
end Go.Proofs.YtoolkdapflaeeaaGreatDoor.Mn
namespace Go.Proofs.YtoolkdapflaeeaaGreatDoor
open Go.RowKit Go.Gl Go.aF Mn
theorem aef:∀ (k n i v:Nat) (r:List UInt8),n<128^k→i+k≤10→0<k→(i=0∨0<n)→n*128^i<18446744073709551616→
  mo i v (iw k n++r)=(v+n*128^i,i+(iw k n).length,0)
 |0,n,i,v,r,hn,hik,hk,_,_=>by omega
 |k+1,n,i,v,r,hn,hik,hk,h0,Vd=>by
  unfold iw;by_cases h:n<128
  ·rw [if_pos h]
   simp only [gG,iq,mo];have e:(UInt8.ofNat n).toNat=n:=by rw [UInt8.toNat_ofNat_of_lt' (by simp [UInt8.size];omega)]
   have h9:¬ (i=9∧1<n):=by
    rintro ⟨rfl,h1⟩;have:(128:Nat)^9=9223372036854775808:=by decide
    rw [this] at Vd;omega
   rw [e,if_neg h9,if_pos h,if_neg (by omega)];simp
  ·rw [if_neg h]
   have e:(UInt8.ofNat (n%128+128)).toNat=n%128+128:=by rw [UInt8.toNat_ofNat_of_lt' (by simp [UInt8.size];omega)]
   simp only [gG,mo];have h9:i≠9:=by
    rintro rfl;have:(128:Nat)^9=9223372036854775808:=by decide
    rw [this] at Vd;omega
   rw [e,if_neg (by omega),if_neg (by omega)];have mY:0<k:=by
    rcases Nat.eq_zero_or_pos k with rfl|h1
    ·simp at hn;omega
    ·exact h1
   have hlt:n / 128<128^k:=by rw [Nat.pow_succ] at hn;exact Nat.div_lt_of_lt_mul (by rw [Nat.mul_comm];exact hn)
   have avk:n / 128*128^(i+1)<18446744073709551616:=by
    refine Nat.lt_of_le_of_lt ?_ Vd;rw [Nat.pow_succ,Nat.mul_comm (128^i) 128,←Nat.mul_assoc];exact Nat.mul_le_mul_right _ (Nat.div_mul_le_self n 128)
   rw [aef k (n / 128) (i+1) _ r hlt (by omega) mY (.inr (by omega)) avk];refine Prod.ext ?_ (Prod.ext ?_ rfl)
   ·show v+(n%128+128-128)*128^i+n / 128*128^(i+1)=v+n*128^i
    rw [Nat.add_sub_cancel,Nat.pow_succ,Nat.add_assoc];congr 1;have:n=n%128+128*(n / 128):=(Nat.mod_add_div n 128).symm
    conv=>rhs;rw [this]
    rw [Nat.add_mul];congr 1;rw [Nat.mul_comm (128^i) 128,←Nat.mul_assoc,Nat.mul_comm (n / 128) 128]
   ·simp;omega
theorem OP (h:n<18446744073709551616) (r:List UInt8):fu (aD n++r)=(n,(aD n).length,0):=by
 have:=aef 10 n 0 0 r (cf h (by decide)) (by decide) (by decide) (.inl rfl) (by simpa using h);unfold fu aD;rw [this];simp
theorem cB (n:Nat):(aD n).length≤10:=Jn 10 n
def jm (t:Tb):List UInt8:=aD t.file.toNat++(aD t.level.toNat++(aW t.first.data.toList++(aW t.last.data.toList++aD t.size.toNat)))
def kT (n:Int):List UInt8:=aD n.toNat
def dA (e:cH):List UInt8:=
 aD e.add.length++(e.add.flatMap jm++(aD e.drop.length++(e.drop.flatMap kT++(aD e.seq.toNat++(aD e.next.toNat++aD e.wal.toNat)))))
def mJ (n:Int):Prop:=0≤n∧n≤1099511627776
structure Ve (t:Tb):Prop where
 file:mJ t.file
 level:mJ t.level
 first:t.first.size≤67108864
 last:t.last.size≤67108864
 size:mJ t.size
structure Au (e:cH):Prop where
 adds:∀ t∈e.add,Ve t
 OH:e.add.length≤65536
 drops:∀ n∈e.drop,mJ n
 OI:e.drop.length≤65536
 seq:0≤e.seq∧e.seq<18446744073709551616
 next:mJ e.next
 wal:mJ e.wal
def jz (l:List Tb):Nat:=(l.map fun t=>t.first.size+t.last.size).sum
theorem avl (t:Tb):(jm t).length≤50+(t.first.size+t.last.size):=by
 have h1:=cB t.file.toNat;have h2:=cB t.level.toNat;have h3:=cB t.first.data.toList.length;have h4:=cB t.last.data.toList.length;have h5:=cB t.size.toNat;have e1:t.first.data.toList.length=t.first.size:=by rw [gO];rfl
 have e2:t.last.data.toList.length=t.last.size:=by rw [gO];rfl
 simp only [jm,aW,aJ] at*;omega
theorem OQ:∀ l:List Tb,(l.flatMap jm).length≤50*l.length+jz l
 | []=>by simp [jz]
 |t::l=>by
  have h1:=avl t;have h2:=OQ l;simp only [List.flatMap_cons,aJ,dH,jz,cg,List.sum_cons] at*;omega
theorem Vf:∀ l:List Int,(l.flatMap kT).length≤10*l.length
 | []=>by simp
 |n::l=>by
  have h1:=cB n.toNat;have h2:=Vf l;simp only [List.flatMap_cons,aJ,dH,kT] at*;omega
theorem aeg (e:cH):(dA e).length≤50+50*e.add.length+jz e.add+10*e.drop.length:=by
 have h1:=cB e.add.length;have h2:=OQ e.add;have h3:=cB e.drop.length;have h4:=Vf e.drop;have h5:=cB e.seq.toNat;have h6:=cB e.next.toNat;have h7:=cB e.wal.toNat;simp only [dA,aJ] at*;omega
theorem avm (a b:List Tb):jz (a++b)=jz a+jz b:=by simp [jz]
theorem avn (l:List Tb) (i:Nat):jz (l.take i)≤jz l:=by
 have h:=avm (l.take i) (l.drop i);rw [List.take_append_drop] at h;omega
theorem aeh {l:List Tb} {t:Tb} (h:t∈l):t.first.size+t.last.size≤jz l:=by
 induction l with
 |nil=>cases h
 |cons u l ih=>
  have e:jz (u::l)=u.first.size+u.last.size+jz l:=by simp [jz]
  rcases bE.1 h with rfl|h
  ·omega
  ·have:=ih h;omega
end Go.Proofs.YtoolkdapflaeeaaGreatDoor
namespace Go.Proofs.YtoolkdapflaeeaaGreatDoor.Mn
open Go.RowKit Go.Gl
def qP (l:List Tb):Prop:=(l.map Tb.file).Nodup
theorem Vg:∀ {r l l':List Tb},qP l→lN l r=some l'→qP l'
 | [],l,l',h,he=>by simp [lN] at he;subst he;exact h
 |t::r,l,l',h,he=>by
  unfold lN at he
  split at he
  ·cases he
  ·rename_i hb
   refine Vg ?_ he;have hf:jK l t.file=false:=by
    cases hh:jK l t.file with
    |false=>rfl
    |true=>exact absurd (by simp only [rL,hh,Bool.true_or,Bool.or_true]) hb
   unfold qP;rw [dD];refine List.nodup_append.2 ⟨h,by simp,?_⟩;intro a ha b hb';simp only [cg,List.map_nil,cY] at hb';subst hb';intro e;obtain ⟨x,hx,rfl⟩:=aZ.1 ha;have:jK l t.file=true:=List.any_eq_true.2 ⟨x,hx,by simpa using e⟩;rw [hf] at this;cases this
theorem avo {v:bI} {e:cH} (h:qP v.tabs):qP (bz v e).2.tabs:=by
 have hz:qP dh.tabs:=by simp [qP,dh]
 unfold bz;split
 ·exact hz
 ·split
  ·exact hz
  ·rename_i l hl
   have h1:qP (v.tabs.filter (iD e.drop)):=h.sublist (List.filter_sublist.map _);have h2:=Vg h1 hl;split
   ·exact hz
   ·split
    ·exact hz
    ·split
     ·exact hz
     ·exact ((Ak l).map Tb.file).nodup_iff.2 h2
def Ke (l:List Tb):Prop:=l.Pairwise qJ
theorem avp {l:List Tb} (h:qP l):Ke (kf l):=by
 have h1:qP (kf l):=((Ak l).map Tb.file).nodup_iff.2 h;have h2:=auz l;have h3:(kf l).Pairwise (fun x y=>x.file≠y.file):=List.pairwise_map.1 h1;refine (h2.and h3).imp fun {a b} hab=> ?_
 by_cases hl:qJ a b
 ·exact hl
 ·exact absurd (adI a b hl hab.1).2.2 hab.2
theorem avq {v:bI} {e:cH} (h:qP v.tabs):Ke (bz v e).2.tabs:=by
 have hz:Ke dh.tabs:=List.Pairwise.nil;unfold bz;split
 ·exact hz
 ·split
  ·exact hz
  ·rename_i l hl
   have h1:qP (v.tabs.filter (iD e.drop)):=h.sublist (List.filter_sublist.map _);have h2:=Vg h1 hl;split
   ·exact hz
   ·split
    ·exact hz
    ·split
     ·exact hz
     ·exact avp h2
theorem avr (v:bI) (e:cH) (h:(bz v e).1≠0):(bz v e).2=dh:=by
 revert h
 unfold bz;split
 ·intro _;rfl
 ·split
  ·intro _;rfl
  ·split
   ·intro _;rfl
   ·split
    ·intro _;rfl
    ·split
     ·intro _;rfl
     ·intro h;exact absurd rfl h
theorem Kf:∀ {ts:List cH} {v v':bI} {e:cH},gu v ts=(0,v')→(bz v' e).1=0→gu v (ts++ [e])=(0,(bz v' e).2)
 | [],v,v',e,h,he=>by
  simp only [gu,Prod.mk.injEq,true_and] at h;subst h;simp only [iq,gu,he,if_true]
 |t::ts,v,v',e,h,he=>by
  unfold gu at h;by_cases ht:(bz v t).1=0
  ·rw [if_pos ht] at h
   rw [gG,gu,if_pos ht];exact Kf h he
  ·rw [if_neg ht] at h
   exact absurd (congrArg Prod.fst h) ht
theorem Vh (v:bI) (e:cH):gu v [e]=if (bz v e).1=0 then (0,(bz v e).2) else ((bz v e).1,dh):=rfl
end Go.Proofs.YtoolkdapflaeeaaGreatDoor.Mn
namespace Go.Proofs.YtoolkdapflaeeaaGreatDoor
open Go.RowKit Go.Gl Go.aF Mn
structure OS (t:Tb):Prop where
 file:mJ t.file
 level:0≤t.level∧t.level≤6
 size:mJ t.size
 keys:(Op.bytesLess t.first.toList t.last.toList||t.first.toList==t.last.toList)=true
structure Good (V:bI):Prop where
 once:qP V.tabs
 strict:Ke V.tabs
 tabs:∀ t∈V.tabs,OS t
 len:V.tabs.length≤65536
 apart:lM V.tabs=false
 seq:0≤V.seq∧V.seq<18446744073709551616
 next:mJ V.next
 wal:mJ V.wal
theorem aei:mJ 0:=by unfold mJ;omega
theorem avs:Good dh:=
 ⟨List.nodup_nil,List.Pairwise.nil,fun t h=>by simp [dh] at h,aY _,rfl,by decide,aei,aei⟩
theorem avt {l:List Tb} {t:Tb} (h:¬ rL l t=true):OS t∧jK l t.file=false:=by
 have h':rL l t=false:=by simpa using h
 unfold rL at h';simp only [Bool.or_eq_false_iff,decide_eq_false_iff_not,Bool.not_eq_false'] at h';obtain ⟨h1,h2,h3,h4,h5,h6,h7,h8⟩:=h';exact ⟨⟨⟨by omega,by omega⟩,⟨by omega,by omega⟩,⟨by omega,by omega⟩,h5⟩,h2⟩
theorem aej:∀ {r l l':List Tb},lN l r=some l'→l'=l++r∧∀ t∈r,OS t
 | [],l,l',h=>by simp [lN] at h;subst h;exact ⟨by simp,fun t h=>by cases h⟩
 |t::r,l,l',h=>by
  unfold lN at h
  split at h
  ·cases h
  ·rename_i hb
   obtain ⟨h1,h2⟩:=aej h;refine ⟨by rw [h1];simp,fun u hu=> ?_⟩;rcases bE.1 hu with rfl|hu
   ·exact (avt hb).1
   ·exact h2 u hu
structure Vi (V:bI) (e:cH) (V':bI):Prop where
 drops:∀ n∈e.drop,jK V.tabs n=true
 adds:∀ t∈e.add,OS t
 tabs:V'.tabs=kf (V.tabs.filter (iD e.drop)++e.add)
 len:V'.tabs.length≤65536
 apart:lM V'.tabs=false
 jn:rM V e=false
 seq:V'.seq=df e.seq V.seq
 next:V'.next=df e.next V.next
 wal:V'.wal=df e.wal V.wal
theorem aek:∀ {r pre:List Int} {l:List Tb},rK l pre r=false→∀ n∈r,jK l n=true
 | [],_,_,_,n,hn=>by cases hn
 |m::r,pre,l,h,n,hn=>by
  unfold rK at h;simp only [Bool.or_eq_false_iff,Bool.not_eq_false'] at h;rcases bE.1 hn with rfl|hn
  ·exact h.1.1
  ·exact aek h.2 n hn
theorem CX {V:bI} {e:cH} (h:(bz V e).1=0):Vi V e (bz V e).2:=by
 revert h
 unfold bz;split
 ·intro h;cases h
 ·rename_i hd
  split
  ·intro h;cases h
  ·rename_i l hl
   obtain ⟨e1,e2⟩:=aej hl;subst e1;split
   ·intro h;cases h
   ·rename_i h65
    split
    ·intro h;cases h
    ·rename_i tA
     split
     ·intro h;cases h
     ·rename_i hn
      intro _;exact ⟨aek (by simpa using hd),e2,rfl,by simpa using h65,by simpa using tA,by simpa using hn,rfl,rfl,rfl⟩
theorem ael {x y z:Int} (h:mJ y) (h1:(x != 0&&decide (x<y))=false) (h2:¬ 1099511627776<x) (hz:z=df x y):mJ z:=by
 subst hz;unfold df mJ at*;split
 ·exact h
 ·rename_i hx
  simp only [Bool.and_eq_false_iff,decide_eq_false_iff_not,bne_eq_false_iff_eq] at h1;rcases h1 with h1|h1
  ·exact absurd h1 hx
  ·omega
theorem aem {V:bI} {e:cH} (h:rM V e=false):(e.seq != 0&&decide (e.seq<V.seq))=false∧(e.next != 0&&decide (e.next<V.next))=false∧(e.wal != 0&&decide (e.wal<V.wal))=false∧¬ 1099511627776<e.next∧¬ 1099511627776<e.wal:=by
 unfold rM at h;simp only [Bool.or_eq_false_iff,decide_eq_false_iff_not] at h;exact ⟨h.1,h.2.1,h.2.2.1,h.2.2.2.1,h.2.2.2.2⟩
theorem avv {V V':bI} {e:cH} (hV:Good V) (h:Vi V e V') (ho:qP V'.tabs) (hs:Ke V'.tabs) (hseq:0≤e.seq∧e.seq<18446744073709551616):Good V':=by
 obtain ⟨n1,n2,n3,n4,n5⟩:=aem h.jn;refine ⟨ho,hs,fun t ht=> ?_,h.len,h.apart,?_,ael hV.next n2 n4 h.next,ael hV.wal n3 n5 h.wal⟩
 ·rw [h.tabs] at ht
  rcases cU.1 ((Ak _).mem_iff.1 ht) with h1|h1
  ·exact hV.tabs t (List.mem_filter.1 h1).1
  ·exact h.adds t h1
 ·rw [h.seq]
  unfold df;split
  ·exact hV.seq
  ·exact hseq
theorem aen {V:bI} {e:cH} (hV:Good V) (h:(bz V e).1=0) (hseq:0≤e.seq∧e.seq<18446744073709551616):Good (bz V e).2:=
 avv hV (CX h) (avo hV.once) (avq hV.once) hseq
theorem aeo {x y:Int} (h:mJ y) (h1:(x != 0&&decide (x<y))=false) (h2:¬ 1099511627776<x):mJ x:=by
 unfold mJ at*;simp only [Bool.and_eq_false_iff,decide_eq_false_iff_not,bne_eq_false_iff_eq] at h1;rcases h1 with h1|h1
 ·omega
 ·omega
theorem avw {V V':bI} {e:cH} (hV:Good V) (h:Vi V e V') (hseq:0≤e.seq∧e.seq<18446744073709551616) (oM:e.add.length≤65536) (ic:e.drop.length≤65536) (hk:jz e.add≤67108864):Au e:=by
 obtain ⟨n1,n2,n3,n4,n5⟩:=aem h.jn;refine ⟨fun t ht=> ?_,oM,fun n hn=> ?_,ic,hseq,aeo hV.next n2 n4,aeo hV.wal n3 n5⟩
 ·have ok:=h.adds t ht
  have hkm:=aeh ht;exact ⟨ok.file,⟨ok.level.1,by have:=ok.level.2;omega⟩,by omega,by omega,ok.size⟩
 ·have hh:=h.drops n hn
  unfold jK at hh;obtain ⟨t,ht,yy⟩:=List.any_eq_true.1 hh;have:=(hV.tabs t ht).file;rw [←(by simpa using yy:t.file=n)];exact this
section
def CY (t:TypeId):Prop:=t=125∨t=165∨t=5∨t=154
structure iW (r:Nat) (w w':World):Prop where
 os:w'.os=w.os
 tape:w'.tape=w.tape
 output:w'.output=w.output
 size:w.heap.size≤w'.heap.size
 keep:∀ (b:Nat) (arr:Array Value) (t:TypeId) (f:Nat×Nat),w.heap[b]?=some (.cells arr t f)→¬ CY t→w'.heap[b]?=some (.cells arr t f)
 maps:∀ (b:Nat) (o:Obj),w.heap[b]?=some o→(∀ arr t f,o≠ .cells arr t f)→b≠r→w'.heap[b]?=some o
theorem iW.refl (r:Nat) (w:World):iW r w w:=⟨rfl,rfl,rfl,aw _,fun _ _ _ _ h _=>h,fun _ _ h _ _=>h⟩
theorem iW.trans {r:Nat} {a b c:World} (h:iW r a b) (k:iW r b c):iW r a c:=
 ⟨k.os.trans h.os,k.tape.trans h.tape,k.output.trans h.output,aM h.size k.size,fun x arr t f hx hs=>k.keep x arr t f (h.keep x arr t f hx hs) hs,fun x o hx hc hn=>k.maps x o (h.maps x o hx hc hn) hc hn⟩
theorem iW.grow {r:Nat} {w w':World} (h:Grow w w'):iW r w w':=⟨h.os,h.tape,h.output,h.size,fun _ _ _ _ hb _=>h.heap hb,fun _ _ hb _ _=>h.heap hb⟩
theorem Dl.aeq {Z B:Nat} {w:World} {p r:Nat} {f:Lk} {T K:Nat} {F:Nat→Prop} (hd:Dl Z B w p r f T K F) (hb:w.heap[b]?=some o) (hc:(∀ arr t f,o≠ .cells arr t f)) (hn:b≠r):¬ F b:=by
 obtain ⟨V,⟨hZ,h0,born,fs,h,rfl,rfl⟩,_⟩:=hd;obtain ⟨c,hm,_⟩:=h.map;rintro (rfl|rfl|⟨g,hg,rfl|hr⟩)
 ·rw [h.self] at hb;cases hb;exact hc _ _ _ rfl
 ·exact hn rfl
 ·rw [(h.files g hg).cell] at hb;cases hb;exact hc _ _ _ rfl
 ·obtain ⟨cur,tC⟩:=(h.files g hg).row.block hr
  rw [tC] at hb;cases hb;exact hc _ _ _ rfl
theorem iW.sep {Z B:Nat} {w w':World} {p r:Nat} {f:Lk} {T K:Nat} {F:Nat→Prop} (hd:Dl Z B w p r f T K F) (h:Sep F w w' F'):iW r w w':=
 ⟨h.os,h.tape,h.output,h.size,fun b arr t fz hb hs=>by
   rw [h.out b (af hb) (hd.apart hb (fun e=>hs (.inl e)) (fun e=>hs (.inr (.inl e))) (fun e=>hs (.inr (.inr (.inl e)))))];exact hb,
  fun b o hb hc hn=>by rw [h.out b (af hb) (hd.aeq hb hc hn)];exact hb⟩
theorem iW.set {r:Nat} {w:World} {f:Nat×Nat} (hb:w.heap[sb]?=some (.cells cs 154 f)) (j:Nat) (v:Value):iW r w (w.setCell ⟨sb,j,none⟩ v):=
 ⟨rfl,rfl,rfl,by simp,fun b arr t f h hs=>by
   rw [aP _ _ _ _ (fun e=> ?_)]
   ·exact h
   ·subst e
    rw [hb] at h;cases h;exact hs (.inr (.inr (.inr rfl))),
  fun b o h hc _=>by
   rw [aP _ _ _ _ (fun e=> ?_)]
   ·exact h
   ·subst e
    rw [hb] at h;cases h;exact hc _ _ _ rfl⟩
theorem OT {B r:Nat} {w w':World} {l:List Tb} (h:Own B w v l) (hh:iW r w w'):Own B w' v l:=by
 refine ⟨h.1,?_⟩;rcases h.2 with h1|⟨g,cap,cur,h1,h2,h3,h4⟩
 ·exact .inl h1
 ·exact .inr ⟨g,cap,cur,h1,h2,hh.keep _ _ _ _ h3 (by unfold CY;decide),h4⟩
abbrev setCells (p:Nat) (tv:Value) (V:bI) (n:Int):Array Value:=#[.pointer (some ⟨p,0,none⟩),tv,.int .u64 V.seq,.int .i64 V.next,.int .i64 V.wal,.int .i64 n]
def eh (w:World) (sb p:Nat) (tv:Value) (V:bI) (n:Int):Prop:=w.heap[sb]?=some (.cells (setCells p tv V n) 154 (0,0))
theorem eh.grow {w w':World} {p:Nat} {V:bI} {n:Int} (h:eh w sb p tv V n) (hg:Grow w w'):eh w' sb p tv V n:=hg.heap h
theorem eh.sep {Z B:Nat} {w w':World} {p r:Nat} {V:bI} {n:Int} {f:Lk} {T K:Nat} {F:Nat→Prop} (h:eh w sb p tv V n) (hd:Dl Z B w p' r f T K F) (hs:Sep F w w' F'):eh w' sb p tv V n:=by
 have h':w.heap[sb]?=some (.cells (setCells p tv V n) 154 (0,0)):=h;exact (hs.out sb (af h') (hd.apart h' (by decide) (by decide) (by decide))).trans h'
theorem eh.cells {w:World} {p:Nat} {V:bI} {n:Int} (h:eh w sb p tv V n):
  w.cell? ⟨sb,0,none⟩=some (.pointer (some ⟨p,0,none⟩))∧w.cell? ⟨sb,1,none⟩=some tv∧w.cell? ⟨sb,2,none⟩=some (.int .u64 V.seq)∧w.cell? ⟨sb,3,none⟩=some (.int .i64 V.next)∧w.cell? ⟨sb,4,none⟩=some (.int .i64 V.wal)∧w.cell? ⟨sb,5,none⟩=some (.int .i64 n)∧sb<w.heap.size:=by
 have h':w.heap[sb]?=some (.cells (setCells p tv V n) 154 (0,0)):=h;exact ⟨by simp [World.cell?,h'],by simp [World.cell?,h'],by simp [World.cell?,h'],by simp [World.cell?,h'],by simp [World.cell?,h'],by simp [World.cell?,h'],af h'⟩
variable {Z B:Nat} {w w':World} {p r:Nat} {f:Lk} {T K:Nat} {F:Nat→Prop}
def CZ (Z:Nat) (n:ByteArray) (x:List UInt8) (f:Lk) (T:Nat):Bool×Lk×Nat:=
 if T-kE f n+x.length≤Z then (true,f.set n (x,x.length),T-kE f n+x.length) else (false,f.del n,T-kE f n)
def okC (b:Bool):Int:=if b then 0 else 5
theorem avx {f:Lk} {n:ByteArray} (x:List UInt8):(f.del n).add n x=f.set n (x,0):=by
 unfold Lk.add;rw [adu];exact atW f n (x,0)
theorem aes {V:bI} {m:Int} (hS:eh w sb p tv V m) (h:Dl Z B w p r f T K F) {n:ByteArray} (hn:kC n) (hx:Bv w bv x) (ia:x.length≤1000000000000)
  (yz:∀ w' F',Sep F w w' F'→Bv w' bv x):
  Calls Tryz.prog 183 #[.pointer (some ⟨sb,0,none⟩),.string n,bv] w fun e w'=>e= .returned (.int .i64 (okC (CZ Z n x f T).1))∧oH Z B w p r F w' (CZ Z n x f T).2.1 (CZ Z n x f T).2.2 (K+1):=by
 obtain ⟨c0,_,_,_,_,_,nr⟩:=hS.cells;obtain ⟨xa,xc,rfl⟩:=hx.slice;have H:=ae h;have HS:=ae hS;have Hk:=ae yz;clear h hS hx yz;go_enter Tryz.func183,Tryz.ntmps183
 go_wp2_with fail
 have oN:=ar w (.cells #[.string n] 9);(with_reducible refine (aud (H.out.grow oN) n (ax _ _)).mono ?_);rintro e w1 ⟨⟨c,rfl⟩,F1,jR,hs1⟩;have OU:=(Sep.bT (F:=F) oN).trans hs1;have hS1:=HS.out.sep H.out OU;have hx1:=Hk.out _ _ OU;obtain ⟨d0,_,_,_,_,_,ld⟩:=hS1.cells;have H1:=ae jR;have HS1:=ae hS1;have Aw:=ae OU;have Hx1:=ae hx1;clear jR hs1 OU hS1 hx1 oN Hk c0 nr
 go_wp2_with fail
 have tD:=ar w1 (.cells #[.slice xa x.length xc] 49);by_cases hroom:T-kE f n+x.length≤Z
 ·have hD:CZ Z n x f T=(true,f.set n (x,x.length),T-kE f n+x.length):=if_pos hroom
  have HD:=ae hD;clear hD;(with_reducible refine (adA (H1.out.grow tD) hn (ax _ _) (Hx1.out.grow tD) hroom).mono ?_);rintro e w2 ⟨rfl,F2,cP,hs2⟩;rw [avx] at cP;have Vj:=(Sep.bT tD).trans hs2;have oO:=HS1.out.sep H1.out Vj;obtain ⟨k0,_,_,_,_,_,lk⟩:=oO.cells;have H2:=ae cP;have qE:=ae (Aw.out.trans Vj);clear tD hs2 cP Vj oO d0 ld
  go_wp2_with fail
  have Vk:=ar w2 (.cells #[.string n] 9);(with_reducible refine (Ka (H2.out.grow Vk) (rI _ _ _) (ax _ _)).mono ?_);rintro e w3 ⟨rfl,F3,fZ,hs3⟩;rw [Oz] at fZ;have bw:=ae (ag fZ (qE.out.trans ((Sep.bT Vk).trans hs3)));clear Vk hs3 fZ k0 lk;go_wp2;go_ret;rw [HD.out];exact ⟨rfl,F3,bw.out.1,bw.out.2⟩
 ·have hD:CZ Z n x f T=(false,f.del n,T-kE f n):=if_neg hroom
  have HD:=ae hD;clear hD;(with_reducible refine (adB (H1.out.grow tD) hn (ax _ _) (Hx1.out.grow tD) ia (by omega)).mono ?_);rintro e w2 ⟨rfl,hg2⟩;have rO:=tD.trans hg2;have bw:=ae (ag (H1.out.grow rO) (Aw.out.trans (Sep.bT rO)));clear tD hg2 rO d0 ld;go_wp2;go_ret;rw [HD.out];exact ⟨rfl,F1,bw.out.1.more (by omega),bw.out.2⟩
end
end Go.Proofs.YtoolkdapflaeeaaGreatDoor
namespace Go.Proofs.YtoolkdapflaeeaaGreatDoor
open Go.RowKit Go.Gl Go.aF
theorem Vl {r:List UInt8} (h:Bv w bv (aW x++r)) (hx:x.length≤67108864) (hr:r.length≤1000000000000) {m:Nat} (mK:x.length≤m) (hm:m≤2000000000000):
  Calls Tryz.prog 103 #[bv,.int .i64 (m:Int)] w fun e w'=>∃ v,e= .returned (.tuple #[v,.int .i64 (((aD x.length).length+x.length:Nat):Int),.int .i64 0])∧aI w.heap.size w' v x∧Grow w w':=by
 have fV:=Jt h;have he:fu (aW x++r)=(x.length,(aD x.length).length,0):=by unfold aW;rw [ju];exact OP (by omega) _
 rw [he] at fV;have hk:=cB x.length;have hlen:(aW x++r).length=(aD x.length).length+x.length+r.length:=by simp [aW];omega
 obtain ⟨ba,bc,rfl⟩:=h.slice;have hcut:=sS h (i:=(aD x.length).length) (j:=(aD x.length).length+x.length) (by omega) (by omega);have Kg:((aW x++r).drop (aD x.length).length).take ((aD x.length).length+x.length-(aD x.length).length)=x:=by
  unfold aW;rw [ju,List.drop_left,Nat.add_sub_cancel_left,List.take_left]
 rw [Kg,Nat.add_sub_cancel_left] at hcut;have aQ:=vX hcut (by omega);have hle:(aD x.length).length+x.length≤bc:=by obtain ⟨a',c',e',hc',_⟩:=h;cases e';omega
 rw [hlen] at fV ⊢;generalize (aD x.length).length=k at*;obtain ⟨ad,had⟩:∃ ad,(if bc=k then ba else ba.map (fun x=>x.add k))=ad:=⟨_,rfl⟩
 rw [had] at aQ;have gp:=ae aQ;have iz:=ae fV;have e1:decide ((m:Int)<(x.length:Int))=false:=by simp;omega
 have e0:(0:Int)≤(m:Int):=by omega
 have wm:IntKind.u64.wrap (m:Int)=(m:Int):=by simp [IntKind.wrap,IntKind.bits,IntKind.signed];omega
 have w1:IntKind.u64.wrap (((k+x.length+r.length:Nat):Int)-(k:Int))=((x.length+r.length:Nat):Int):=by simp [IntKind.wrap,IntKind.bits,IntKind.signed];omega
 have w2:IntKind.i64.wrap ((k:Int)+(x.length:Int))=(k:Int)+(x.length:Int):=aS _ (by omega);have w3:IntKind.i64.wrap (x.length:Int)=(x.length:Int):=aS _ (by omega);clear h fV hcut aQ he Kg hlen;go_enter Tryz.func103,Tryz.ntmps103
 go_wp2_with fail
 (with_reducible refine iz.out.mono ?_);rintro e w1 ⟨rfl,cp⟩;have hw2:=cp.symm;subst hw2;clear cp iz
 go_wp2_with fail
 (with_reducible refine gp.out.mono ?_);rintro e w2 ⟨cv,rfl,ho,hg⟩;obtain ⟨ca,cc,rfl⟩:=ho.slice;go_wp2;go_ret3;exact ⟨_,by simp,ho,hg⟩
theorem avz {r:List UInt8} (h:Bv w bv (aW x++r)) (hx:x.length≤67108864) (hr:r.length≤1000000000000):
  Calls Tryz.prog 103 #[bv,.int .i64 67108864] w fun e w'=>∃ v,e= .returned (.tuple #[v,.int .i64 (((aD x.length).length+x.length:Nat):Int),.int .i64 0])∧aI w.heap.size w' v x∧Grow w w':=
 Vl h hx hr (m:=67108864) hx (by omega)
structure kF (w0 W:World) (rb:Nat) (l:List UInt8):Prop where
 cell:∃ bv,W.heap[rb]?=some (.cells #[bv,.int .i64 0] 293 (0,0))∧Bv w0 bv l
 grow:Grow w0 W
 new:w0.heap.size≤rb
abbrev GX (g:Nat) (w w':World):Prop:=w.grownBy w' (some g)
theorem GX.of (h:Grow w w'):GX g w w':=by
 obtain ⟨a,b,c,d,e⟩:=h;exact ⟨a,b,c,d,fun k hk _=>e k hk⟩
theorem GX.refl (g:Nat) (w:World):GX g w w:=GX.of (aV w)
theorem GX.trans {a b c:World} (h:GX g a b) (k:GX g b c):GX g a c:=vU h k
theorem GX.heap (h:GX g w w') (hb:w.heap[b]?=some o) (hne:b≠g):w'.heap[b]?=some o:=by
 obtain ⟨_,_,_,_,e⟩:=h;rw [e b (af hb) (fun x=>hne (by cases x;rfl))];exact hb
theorem aeu {a:Option Addr} (h:Bv w (.slice a l.length c) l) (hn:n≤l.length):Bv w (.slice (if c=n then a else a.map (fun x=>x.add n)) (l.length-n) (c-n)) (l.drop n):=by
 have:=sS h hn (aw _);rw [List.take_of_length_le (by simp)] at this;exact this
theorem kF.nu (h:kF w0 W rb l) (hg:Grow W W'):kF w0 W' rb l:=by
 obtain ⟨bv,h1,h2⟩:=h.cell;exact ⟨⟨bv,hg.heap h1,h2⟩,h.grow.trans hg,h.new⟩
theorem aev (h:kF w0 W rb l) (hn:n≤l.length) (_hl:l.length≤1000000000000):
  Calls Tryz.prog 218 #[.pointer (some ⟨rb,0,none⟩),.int .i64 n,.int .i64 0] W fun e w'=>e= .returned (.tuple #[])∧kF w0 w' rb (l.drop n)∧GX rb W w':=by
 obtain ⟨bv,h1,h2⟩:=h.cell;obtain ⟨ba,bc,rfl⟩:=h2.slice;have hb':=aeu h2 hn;have hle:l.length≤bc:=by obtain ⟨a',c',e',hc',_⟩:=h2;cases e';omega
 obtain ⟨ad,had⟩:∃ ad,(if bc=n then ba else ba.map (fun x=>x.add n))=ad:=⟨_,rfl⟩
 rw [had] at hb';have c0:W.cell? ⟨rb,0,none⟩=some (.slice ba l.length bc):=by simp [World.cell?,h1]
 have c1:W.cell? ⟨rb,1,none⟩=some (.int .i64 0):=by simp [World.cell?,h1]
 have f0:=bG h1;have lr:=af h1;have cM:((W.setCell ⟨rb,1,none⟩ (.int .i64 0)).setCell ⟨rb,0,none⟩ (.slice ad (l.length-n) (bc-n))).heap[rb]?=some (.cells #[.slice ad (l.length-n) (bc-n),.int .i64 0] 293 (0,0)):=aK (aK h1 1 _) 0 _;have Hp:Hid (kF w0 ((W.setCell ⟨rb,1,none⟩ (.int .i64 0)).setCell ⟨rb,0,none⟩ (.slice ad (l.length-n) (bc-n))) rb (l.drop n)∧GX rb W ((W.setCell ⟨rb,1,none⟩ (.int .i64 0)).setCell ⟨rb,0,none⟩ (.slice ad (l.length-n) (bc-n)))):=
  ae ⟨⟨⟨_,cM,hb'⟩,cj (cj h.grow (p:=⟨rb,1,none⟩) h.new _) (p:=⟨rb,0,none⟩) h.new _,h.new⟩,vU (je _ _ _ _) (je _ _ _ _)⟩
 clear h h1 h2 hb' cM;go_enter Tryz.func218,Tryz.ntmps218;go_wp2;exact ⟨rfl,.tuple #[],by simp [results,Tryz.results218,go_sem],rfl,Hp.out⟩
theorem aew {r:List UInt8} (h:kF w0 W rb (aD n++r)) (hn:n<18446744073709551616) (hr:r.length≤900000000000):
  Calls Tryz.prog 189 #[.pointer (some ⟨rb,0,none⟩)] W fun e w'=>e= .returned (.int .u64 n)∧kF w0 w' rb r∧GX rb W w':=by
 obtain ⟨bv,h1,h2⟩:=h.cell;have fV:=Jt (h2.grow h.grow);rw [OP hn r] at fV;have hk:=cB n;have ht:=aev h (n:=(aD n).length) (by simp) (by simp;omega);rw [List.drop_left] at ht;have c0:W.cell? ⟨rb,0,none⟩=some bv:=by simp [World.cell?,h1]
 have lr:=af h1;obtain ⟨ba,bc,rfl⟩:=h2.slice;have iz:=ae fV;have Ht:=ae ht;clear h h1 h2 fV ht;generalize (aD n++r).length=L at*;generalize (aD n).length=k at*;go_enter Tryz.func189,Tryz.ntmps189
 go_wp2_with fail
 (with_reducible refine iz.out.mono ?_);rintro e w1 ⟨rfl,cp⟩;have hw2:=cp.symm;subst hw2;clear cp iz
 go_wp2_with fail
 (with_reducible refine Ht.out.mono ?_);rintro e w2 ⟨rfl,hR,hG⟩;go_wp2;go_ret;exact ⟨rfl,hR,hG⟩
theorem aex {most:Nat} {r:List UInt8} (h:kF w0 W rb (aD n++r)) (hn:n≤most) (hm:most≤1099511627776) (hr:r.length≤900000000000):
  Calls Tryz.prog 217 #[.pointer (some ⟨rb,0,none⟩),.int .u64 most] W fun e w'=>e= .returned (.int .i64 n)∧kF w0 w' rb r∧GX rb W w':=by
 have Ha:=ae (aew h (by omega) hr);have e1:decide ((most:Int)<(n:Int))=false:=by simp;omega
 have w1:IntKind.i64.wrap (n:Int)=(n:Int):=aS _ (by omega);clear h;go_enter Tryz.func217,Tryz.ntmps217
 go_wp2_with fail
 (with_reducible refine Ha.out.mono ?_);rintro e w2 ⟨rfl,hR,hG⟩;obtain ⟨bv,h1,h2⟩:=hR.cell;have c1:w2.cell? ⟨rb,1,none⟩=some (.int .i64 0):=by simp [World.cell?,h1]
 have lr:=af h1;have HR:=ae (ag hR hG);clear h1 h2 hR hG Ha;go_wp2;go_ret;exact ⟨rfl,HR.out⟩
theorem Gb {r:List UInt8} (h:kF w0 W rb (aD n++r)) (hn:n≤1099511627776) (hr:r.length≤900000000000):
  Calls Tryz.prog 186 #[.pointer (some ⟨rb,0,none⟩)] W fun e w'=>e= .returned (.int .i64 n)∧kF w0 w' rb r∧GX rb W w':=by
 have Ha:Hid (Calls Tryz.prog 217 #[.pointer (some ⟨rb,0,none⟩),.int .u64 1099511627776] W fun e w'=>e= .returned (.int .i64 n)∧kF w0 w' rb r∧GX rb W w'):=ae (aex h hn (aw _) hr);clear h;go_enter Tryz.func186,Tryz.ntmps186
 go_wp2_with fail
 (with_reducible refine Ha.out.mono ?_);rintro e w2 ⟨rfl,hR,hG⟩;go_wp2;go_ret;exact ⟨rfl,hR,hG⟩
theorem aey {r:List UInt8} (h:kF w0 W rb (aW x++r)) (hx:x.length≤67108864) (hr:r.length≤900000000000):
  Calls Tryz.prog 187 #[.pointer (some ⟨rb,0,none⟩)] W fun e w'=>e= .returned (.string ⟨x.toArray⟩)∧kF w0 w' rb r∧GX rb W w':=by
 obtain ⟨bv,h1,h2⟩:=h.cell;have fV:=avz (h2.grow h.grow) hx (by omega);have hk:=cB x.length;have hlen:(aW x++r).length=(aD x.length).length+x.length+r.length:=by simp [aW];omega
 have hd:(aW x++r).drop ((aD x.length).length+x.length)=r:=by
  have:(aW x).length=(aD x.length).length+x.length:=by simp [aW]
  rw [←this,List.drop_left]
 have Ht:=ae (fun (w':World) (hg:Grow W w')=>aev (h.nu hg) (n:=(aD x.length).length+x.length) (by omega) (by omega));rw [hd] at Ht;have c0:W.cell? ⟨rb,0,none⟩=some bv:=by simp [World.cell?,h1]
 have lr:=af h1;obtain ⟨ba,bc,rfl⟩:=h2.slice;have iz:=ae fV;clear h h1 h2 fV hd hlen;generalize (aW x++r).length=L at*;generalize (aD x.length).length+x.length=k at*;go_enter Tryz.func187,Tryz.ntmps187
 go_wp2_with fail
 (with_reducible refine iz.out.mono ?_);rintro e w1 ⟨v,rfl,hb,hg⟩;have ht:=Ht.out w1 hg;have Hb:=ae hb;have Hg:=ae hg;have hne:∀ g,v.ownBlock=some g→g≠rb∧g<w1.heap.size:=fun g hv=>⟨by have:=(hb.lt hv).1;omega,(hb.lt hv).2⟩
 have qQ:=ae hne;clear hne;have Kh:=ae ht;obtain ⟨va,vc,rfl⟩:=hb.slice;clear hb hg iz Ht ht
 go_wp2_with fail
 (with_reducible refine Kh.out.mono ?_);rintro e w2 ⟨rfl,hR,hG⟩;have hb2:=Hb.out.keep (w':=w2) (fun g hv=>by
  obtain ⟨_,_,_,_,hk⟩:=hG;exact hk g (qQ.out g hv).2 (fun e=>(qQ.out g hv).1 (by cases e;rfl)))
 have Ax:=CO (cI hb2);have HR:=ae (ag hR ((GX.of Hg.out).trans hG));clear hR hG hb2 Hb Hg qQ Kh;go_wp2;go_ret;exact ⟨rfl,HR.out⟩
end Go.Proofs.YtoolkdapflaeeaaGreatDoor
namespace Go.Proofs.YtoolkdapflaeeaaGreatDoor
open Go.RowKit Go.Gl Go.aF Mn
def aez (I:Nat→World→Prop) (m:Nat) (nv:Value) (wr:World):Prop:=∃ i:Nat,nv= .int .i64 ((m-i:Nat):Int)∧i≤m∧I i wr
theorem aeA {W:World} {m:Nat} {rest:List UInt8} {fn:FuncId} {aeB:Array Value} (I:Nat→World→Prop) (h:kF w0 W rb (aD m++rest)) (hm:m≤65536) (hr:rest.length≤900000000000)
  (h0:∀ w1,kF w0 w1 rb rest→GX rb W w1→I 0 w1) (hI:∀ i wr,I i wr→∃ l,kF w0 wr rb l)
  (hstep:∀ i wr,i<m→I i wr→Calls Tryz.prog fn aeB wr fun e w'=>e= .returned (.tuple #[])∧I (i+1) w')
  (hfn:∃ F,Tryz.prog.funcs[fn]?=some F∧F.params.size=0) (asD:∀ args w,(callFunc fn args).run Tryz.prog w= .ok (.enter fn args) w):
  Calls Tryz.prog 184 #[.pointer (some ⟨rb,0,none⟩),.func (.func fn) #[] aeB] W fun e w'=>e= .returned (.tuple #[])∧I m w':=by
 have Ha:Hid (Calls Tryz.prog 217 #[.pointer (some ⟨rb,0,none⟩),.int .u64 65536] W fun e w'=>e= .returned (.int .i64 m)∧kF w0 w' rb rest∧GX rb W w'):=ae (aex h hm (by decide) hr);have H0:=ae h0;have HI:=ae hI;have Hs:=ae hstep;clear h h0 hI hstep;go_enter Tryz.func184,Tryz.ntmps184
 go_wp2_with fail
 (with_reducible refine Ha.out.mono ?_);rintro e w1 ⟨rfl,hR,hG⟩;have Hi0:=ae (H0.out w1 hR hG);clear hR hG H0 Ha
 go_wp2_with fail
 go_loopw [4] (fun nv wr=>aez I m nv wr) (fun nv _=>(intOf nv).toNat)
 case atStart=>exact ⟨0,rfl,aY _,Hi0.out⟩
 case round=>
  obtain ⟨i,rfl,hi,Ki⟩:=hrel;obtain ⟨l,hR⟩:=HI.out i wr Ki;obtain ⟨bv,h1,_⟩:=hR.cell;have c1:wr.cell? ⟨rb,1,none⟩=some (.int .i64 0):=by simp [World.cell?,h1]
  have lr:=af h1;clear h1 hR;by_cases hlt:i<m
  ·have hc:=Hs.out i wr hlt Ki
   obtain ⟨k,hk⟩:∃ k,m-i=k+1:=⟨m-i-1,by omega⟩
   have Hk:=ae hk;rw [hk];have e1:decide ((0:Int)<((k+1:Nat):Int))=true:=by simp
   have w1':IntKind.i64.wrap (k:Int)=(k:Int):=aS _ (by omega);have Hc:=ae hc;clear hk hc Ki
   go_wp2_with fail
   (with_reducible refine Hc.out.mono ?_);rintro e w2 ⟨rfl,Ay⟩;have aX:Hid (aez I m (.int .i64 (k:Int)) w2):=ae ⟨i+1,by rw [show m-(i+1)=k by have:=Hk.out;omega],hlt,Ay⟩;clear Ay;go_wp2;go_roundw
   case rel=>exact aX.out
   case measure=>simp [intOf]
  ·have e0:m-i=0:=by omega
   obtain rfl:i=m:=by omega
   have HIm:=ae Ki;rw [e0];clear Ki e0;go_wp2;exact ⟨rfl,.tuple #[],by simp [results,Tryz.results184,go_sem],rfl,HIm.out⟩
end Go.Proofs.YtoolkdapflaeeaaGreatDoor
namespace Go.Proofs.YtoolkdapflaeeaaGreatDoor.Mn
open Go.RowKit Go.Gl
theorem aeC (w:World) (aa:Option Addr) (al ac:Nat) (da:Option Addr) (dl dc:Nat) (s n wl:Int):(Instr.buildSlice 272 1 #[(0,.agg (dN (.slice aa al ac) (.slice da dl dc) s n wl))]).run Tryz.prog w= .ok (.slice (some ⟨w.heap.size,0,none⟩) 1 1) (w.alloc (.cells (dN (.slice aa al ac) (.slice da dl dc) s n wl) 148)):=by
 simp [Instr.buildSlice,run_underlying Tryz.underlying272,Tryz.sizeOf148,Tryz.zeroValue148,Instr.fill,newRow,Value.cells];congr 2;apply Array.ext
 ·simp
 ·intro i h1 h2
  simp at h1
  match i,h1 with
  |0,_=>simp
  |1,_=>simp
  |2,_=>simp
  |3,_=>simp
  |4,_=>simp
theorem avC (w:World) (f l:Int) (a b:ByteArray) (s:Int):(Instr.buildSlice 83 1 #[(0,.agg #[.int .i64 f,.int .i64 l,.string a,.string b,.int .i64 s])]).run Tryz.prog w= .ok (.slice (some ⟨w.heap.size,0,none⟩) 1 1) (w.alloc (.cells #[.int .i64 f,.int .i64 l,.string a,.string b,.int .i64 s] 101)):=by
 simp [Instr.buildSlice,run_underlying Tryz.underlying83,Tryz.sizeOf101,Tryz.zeroValue101,Instr.fill,newRow,Value.cells];congr 2;apply Array.ext
 ·simp
 ·intro i h1 h2
  simp at h1
  match i,h1 with
  |0,_=>simp
  |1,_=>simp
  |2,_=>simp
  |3,_=>simp
  |4,_=>simp
theorem aeD {e:cH} (hb:W.heap[b]?=some (.cells (dN av dv e.seq e.next e.wal) 148 (0,0))) (hA:tB W av e.add) (hD:Ints W dv e.drop):adZ W (.slice (some ⟨b,0,none⟩) 1 1) [e]:=by
 refine ⟨_,1,rfl,.inr ⟨b,0,rfl,af hb,fun i x hx=> ?_⟩⟩
 match i,hx with
 |0,hx=>
  cases hx;obtain ⟨c0,c1,c2,c3,c4⟩:=dw hb;exact ⟨av,dv,c0,c1,c2,c3,c4,hA,hD⟩
 |i+1,hx=>simp at hx
theorem avD (W:World):tB W (.slice none 0 0) []:=⟨none,0,rfl,.inl rfl⟩
theorem avE (W:World):Ints W (.slice none 0 0) []:=⟨none,0,rfl,aw _,.inl rfl⟩
end Go.Proofs.YtoolkdapflaeeaaGreatDoor.Mn
