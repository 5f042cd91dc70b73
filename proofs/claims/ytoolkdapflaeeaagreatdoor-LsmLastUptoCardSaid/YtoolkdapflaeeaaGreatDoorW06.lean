/- Helpers. -/
import Derived.Test.YtoolkdapflaeeaaGreatDoorRows
import Derived.Deep.QuietTactic
import Derived.BigQuiet
import Derived.Lib.Hide
import Derived.Laws.Cover1
import Derived.Sort.Grow
import Derived.Test.YtoolkdapflaeeaaGreatDoorW00
import Derived.Sort.Walk0
import Derived.Shelf.SlSortCmp.InsertionK
import Derived.Shelf.SlSortCmp.NoneTotal
import Derived.Shelf.SlicesQ.IndexFunc
import Derived.Shelf.SlicesG.Turned
import Derived.Shelf.SlicesE.Clone
import Derived.Test.YtoolkdapflaeeaaGreatDoorW03
import Derived.Lib.SliceRun
set_option maxRecDepth 100000
set_option maxHeartbeats 16000000
namespace Go.Proofs.YtoolkdapflaeeaaGreatDoor.Mn
open Go.RowKit Go.Gl
structure Tb where
 file:Int
 level:Int
 first:ByteArray
 last:ByteArray
 size:Int
instance:Inhabited Tb:=⟨⟨0,0,ByteArray.empty,ByteArray.empty,0⟩⟩
def ig (t:Tb):List Value:= [.int .i64 t.file,.int .i64 t.level,.string t.first,.string t.last,.int .i64 t.size]
def kx (l:List Tb):List Value:=l.flatMap ig
def ij (x y:Int):Int:=if x<y then -1 else if y<x then 1 else 0
def jF (x y:ByteArray):Int:=if Op.bytesLess x.toList y.toList=true then -1 else if (x.toList==y.toList)=true then 0 else 1
theorem aqC (x:Int) (w:World):Calls Tryz.prog 244 #[.int .i64 x] w fun e w'=>e= .returned (.bool false)∧w'=w:=by
 have hb:(x != x)=false:=by simp
 go_enter Tryz.func244,Tryz.ntmps244;go_wp2;go_ret;exact ⟨rfl,rfl⟩
theorem SR (x:ByteArray) (w:World):Calls Tryz.prog 196 #[.string x] w fun e w'=>e= .returned (.bool false)∧w'=w:=by
 go_enter Tryz.func196,Tryz.ntmps196;go_wp2;go_ret;exact ⟨by simp,rfl⟩
theorem abk (x y:Int) (w:World):Calls Tryz.prog 228 #[.int .i64 x,.int .i64 y] w fun e w'=>e= .returned (.int .i64 (ij x y))∧w'=w:=by
 go_enter Tryz.func228,Tryz.ntmps228
 go_wp2_with (go_at_call 244;(with_reducible refine (aqC _ _).mono ?_);rintro e w' ⟨rfl,rfl⟩)
 ·rename_i h
  go_ret;exact ⟨by rw [ij,if_pos h];rfl,rfl⟩
 ·rename_i h1 h2
  go_ret;exact ⟨by rw [ij,if_neg (by omega),if_pos h2];rfl,rfl⟩
 ·rename_i h1 h2
  go_ret;exact ⟨by rw [ij,if_neg (by omega),if_neg (by omega)];rfl,rfl⟩
theorem abl (x y:ByteArray) (w:World):Calls Tryz.prog 143 #[.string x,.string y] w fun e w'=>e= .returned (.int .i64 (jF x y))∧w'=w:=by
 unfold jF;cases h1:Op.bytesLess x.toList y.toList with
 |true=>
  go_enter Tryz.func143,Tryz.ntmps143
  go_wp2_with (go_at_call 196;(with_reducible refine (SR _ _).mono ?_);rintro e w' ⟨rfl,rfl⟩)
  go_ret;exact ⟨rfl,rfl⟩
 |false=>
  cases h2:(x.toList==y.toList) with
  |true=>
   go_enter Tryz.func143,Tryz.ntmps143
   go_wp2_with (go_at_call 196;(with_reducible refine (SR _ _).mono ?_);rintro e w' ⟨rfl,rfl⟩)
   go_ret;exact ⟨rfl,rfl⟩
  |false=>
   go_enter Tryz.func143,Tryz.ntmps143
   go_wp2_with (go_at_call 196;(with_reducible refine (SR _ _).mono ?_);rintro e w' ⟨rfl,rfl⟩)
   go_ret;exact ⟨rfl,rfl⟩
def IK (x y z:Int):Int:=if x=0 then (if y=0 then z else y) else x
def cJ (x y:Int):Int:=if x=0 then y else x
theorem aqD (x y z:Int) (b:Nat) (w:World) (h0:w.cell? ⟨b,0,none⟩=some (.int .i64 x)) (h1:w.cell? ⟨b,1,none⟩=some (.int .i64 y)) (h2:w.cell? ⟨b,2,none⟩=some (.int .i64 z)):
  Calls Tryz.prog 142 #[.slice (some ⟨b,0,none⟩) 3 3] w fun e w'=>e= .returned (.int .i64 (IK x y z))∧w'=w:=by
 unfold IK;by_cases hx:x=0
 ·subst hx
  by_cases hy:y=0
  ·subst hy
   by_cases hz:z=0
   ·subst hz
    go_enter Tryz.func142,Tryz.ntmps142;go_wp2;refine wp_loop_rounds 4 ?_;rw [rounds_succ];go_wp2;rw [rounds_succ];go_wp2;rw [rounds_succ];go_wp2;rw [rounds_succ];go_wp2;go_ret;exact ⟨by simp,rfl⟩
   ·have hb:(z != 0)=true:=by simp [hz]
    go_enter Tryz.func142,Tryz.ntmps142;go_wp2;refine wp_loop_rounds 3 ?_;rw [rounds_succ];go_wp2;rw [rounds_succ];go_wp2;rw [rounds_succ];go_wp2;go_ret;exact ⟨by simp,rfl⟩
  ·have hb:(y != 0)=true:=by simp [hy]
   go_enter Tryz.func142,Tryz.ntmps142;go_wp2;refine wp_loop_rounds 2 ?_;rw [rounds_succ];go_wp2;rw [rounds_succ];go_wp2;go_ret;exact ⟨by simp,rfl⟩
 ·have hb:(x != 0)=true:=by simp [hx]
  go_enter Tryz.func142,Tryz.ntmps142;go_wp2;refine wp_loop_rounds 1 ?_;rw [rounds_succ];go_wp2;go_ret;exact ⟨by simp,rfl⟩
theorem SS (x y:Int) (b:Nat) (w:World) (h0:w.cell? ⟨b,0,none⟩=some (.int .i64 x)) (h1:w.cell? ⟨b,1,none⟩=some (.int .i64 y)):
  Calls Tryz.prog 142 #[.slice (some ⟨b,0,none⟩) 2 2] w fun e w'=>e= .returned (.int .i64 (cJ x y))∧w'=w:=by
 unfold cJ;by_cases hx:x=0
 ·subst hx
  by_cases hy:y=0
  ·subst hy
   go_enter Tryz.func142,Tryz.ntmps142;go_wp2;refine wp_loop_rounds 3 ?_;rw [rounds_succ];go_wp2;rw [rounds_succ];go_wp2;rw [rounds_succ];go_wp2;go_ret;exact ⟨by simp,rfl⟩
  ·have hb:(y != 0)=true:=by simp [hy]
   go_enter Tryz.func142,Tryz.ntmps142;go_wp2;refine wp_loop_rounds 2 ?_;rw [rounds_succ];go_wp2;rw [rounds_succ];go_wp2;go_ret;exact ⟨by simp,rfl⟩
 ·have hb:(x != 0)=true:=by simp [hx]
  go_enter Tryz.func142,Tryz.ntmps142;go_wp2;refine wp_loop_rounds 1 ?_;rw [rounds_succ];go_wp2;go_ret;exact ⟨by simp,rfl⟩
theorem aqE (x y:Int) (b:Nat) (w:World) (h0:w.cell? ⟨b,0,none⟩=some (.int .u64 x)) (h1:w.cell? ⟨b,1,none⟩=some (.int .u64 y)):
  Calls Tryz.prog 209 #[.slice (some ⟨b,0,none⟩) 2 2] w fun e w'=>e= .returned (.int .u64 (cJ x y))∧w'=w:=by
 unfold cJ;by_cases hx:x=0
 ·subst hx
  by_cases hy:y=0
  ·subst hy
   go_enter Tryz.func209,Tryz.ntmps209;go_wp2;refine wp_loop_rounds 3 ?_;rw [rounds_succ];go_wp2;rw [rounds_succ];go_wp2;rw [rounds_succ];go_wp2;go_ret;exact ⟨by simp,rfl⟩
  ·have hb:(y != 0)=true:=by simp [hy]
   go_enter Tryz.func209,Tryz.ntmps209;go_wp2;refine wp_loop_rounds 2 ?_;rw [rounds_succ];go_wp2;rw [rounds_succ];go_wp2;go_ret;exact ⟨by simp,rfl⟩
 ·have hb:(x != 0)=true:=by simp [hx]
  go_enter Tryz.func209,Tryz.ntmps209;go_wp2;refine wp_loop_rounds 1 ?_;rw [rounds_succ];go_wp2;go_ret;exact ⟨by simp,rfl⟩
theorem aqF (w:World) (x y z:Int):(Instr.buildSlice 24 3 #[(0,.int .i64 x),(1,.int .i64 y),(2,.int .i64 z)]).run Tryz.prog w= .ok (.slice (some ⟨w.heap.size,0,none⟩) 3 3) (w.alloc (.cells #[.int .i64 x,.int .i64 y,.int .i64 z] 3)):=by
 simp [Instr.buildSlice,run_underlying Tryz.underlying24,Tryz.sizeOf3,Tryz.zeroValue3,Instr.fill,newRow,Value.cells];congr 2;apply Array.ext
 ·simp
 ·intro i h1 h2
  simp at h1
  match i,h1 with
  |0,_=>simp
  |1,_=>simp
  |2,_=>simp
def ng (a b:Tb):Int:=IK (ij a.level b.level) (jF a.first b.first) (ij a.file b.file)
theorem cw {w:World} {b:Nat} {x0 x1 x2 x3 x4:Value} {t:TypeId} (h:w.heap[b]?=some (.cells #[x0,x1,x2,x3,x4] t (0,0))):
  w.cell? ⟨b,0,none⟩=some x0∧w.cell? ⟨b,1,none⟩=some x1∧w.cell? ⟨b,2,none⟩=some x2∧w.cell? ⟨b,3,none⟩=some x3∧w.cell? ⟨b,4,none⟩=some x4:=by
 simp [World.cell?,h]
end Go.Proofs.YtoolkdapflaeeaaGreatDoor.Mn
namespace Go.Proofs.YtoolkdapflaeeaaGreatDoor.Mn
open Go.RowKit Go.Gl Go.Sort Go.Shelf
theorem aqG (x y:Tb) (W:World):Calls Tryz.prog 207 #[.agg (ig x).toArray,.agg (ig y).toArray] W fun e w'=>e= .returned (.int .i64 (ng x y))∧∃ q os',w'=grow (W.drewN q) os':=by
 obtain ⟨x0,x1,x2,x3,x4⟩:=x;obtain ⟨y0,y1,y2,y3,y4⟩:=y;simp only [ng,ig];have hc0:=abk x1 y1;have hc1:=abl x2 y2;have hc2:=abk x0 y0;generalize ij x1 y1=c0 at*;generalize jF x2 y2=c1 at*;generalize ij x0 y0=c2 at*;have uS:=aqD c0 c1 c2;generalize IK c0 c1 c2=res at*;have b0:((W.alloc (.cells #[.int .i64 x0,.int .i64 x1,.string x2,.string x3,.int .i64 x4] 101)).alloc (.cells #[.int .i64 y0,.int .i64 y1,.string y2,.string y3,.int .i64 y4] 101)).heap[W.heap.size]?=some (.cells #[.int .i64 x0,.int .i64 x1,.string x2,.string x3,.int .i64 x4] 101 (0,0)):=(heap_alloc_old _ _ (by simp)).trans (aw _ _);have b1:((W.alloc (.cells #[.int .i64 x0,.int .i64 x1,.string x2,.string x3,.int .i64 x4] 101)).alloc (.cells #[.int .i64 y0,.int .i64 y1,.string y2,.string y3,.int .i64 y4] 101)).heap[W.heap.size+1]?=some (.cells #[.int .i64 y0,.int .i64 y1,.string y2,.string y3,.int .i64 y4] 101 (0,0)):=by
  have:=aw (W.alloc (.cells #[.int .i64 x0,.int .i64 x1,.string x2,.string x3,.int .i64 x4] 101)) (.cells #[.int .i64 y0,.int .i64 y1,.string y2,.string y3,.int .i64 y4] 101);simpa using this
 obtain ⟨d0,d1,d2,_,_⟩:=cw b0;obtain ⟨e0,e1,e2,_,_⟩:=cw b1;have l0:=af b0;have l1:=af b1;have gJ:∃ os,(W.alloc (.cells #[.int .i64 x0,.int .i64 x1,.string x2,.string x3,.int .i64 x4] 101)).alloc (.cells #[.int .i64 y0,.int .i64 y1,.string y2,.string y3,.int .i64 y4] 101)=grow W os:=⟨_,by rw [alloc_eq_grow,alloc_eq_grow,grow_grow]⟩
 have SU:=ae hc0;have pn:=ae hc1;have BH:=ae hc2;have SV:=ae uS;have cS:=ae gJ;clear b0 b1 hc0 hc1 hc2 uS gJ;go_enter Tryz.func207,Tryz.ntmps207
 go_wp2_with fail
 generalize (W.alloc (.cells #[.int .i64 x0,.int .i64 x1,.string x2,.string x3,.int .i64 x4] 101)).alloc (.cells #[.int .i64 y0,.int .i64 y1,.string y2,.string y3,.int .i64 y4] 101)=w0 at*;have aQ:=Grow.cells (w:=w0);refine bX (fun V=>Below w0.heap.size w0 V)
  [(0,false),(1,false),(2,false),(3,false),(5,false),(6,false),(7,false),(8,false),(10,false),(11,false),(12,false),(13,false),(4,true),(9,true),(14,true),(15,true),(16,true),(17,false)] (by kernel_rfl) (by kernel_rfl) (fun c a d v w h=>by cases d<;>exact h) (by (repeat (first|exact Below.refl _ _|assumption|refine Below.drew ?_|refine cp ?_|refine Below.setCell ?_ (by first|omega|(simp<;>omega)) _|refine Below.alloc ?_ (by first|omega|(simp<;>omega)) _))) ?_
 simp only [aP,nth]
 repeat (first|(refine aB (v:= ?_) (by rfl) ?_ ?_;rotate_left;(rintro W hW;go_simp;with_reducible rfl);simp only [ag,List.set])|(refine aC (by rfl) ?_;simp only [ag,List.set]))
 refine bj (by rfl) (by go_simp) (SU.out _) ?_;rintro e w2 ⟨rfl,rfl⟩;refine ⟨_,rfl,by (repeat (first|exact Below.refl _ _|assumption|refine Below.drew ?_|refine cp ?_|refine Below.setCell ?_ (by first|omega|(simp<;>omega)) _|refine Below.alloc ?_ (by first|omega|(simp<;>omega)) _)),?_⟩
 try first|simp only [ag,List.set]|simp only [aD]
 refine bj (by rfl) (by go_simp) (pn.out _) ?_;rintro e w2 ⟨rfl,rfl⟩;refine ⟨_,rfl,by (repeat (first|exact Below.refl _ _|assumption|refine Below.drew ?_|refine cp ?_|refine Below.setCell ?_ (by first|omega|(simp<;>omega)) _|refine Below.alloc ?_ (by first|omega|(simp<;>omega)) _)),?_⟩
 try first|simp only [ag,List.set]|simp only [aD]
 refine bj (by rfl) (by go_simp) (BH.out _) ?_;rintro e w2 ⟨rfl,rfl⟩;refine ⟨_,rfl,by (repeat (first|exact Below.refl _ _|assumption|refine Below.drew ?_|refine cp ?_|refine Below.setCell ?_ (by first|omega|(simp<;>omega)) _|refine Below.alloc ?_ (by first|omega|(simp<;>omega)) _)),?_⟩
 try first|simp only [ag,List.set]|simp only [aD]
 refine ry (by rfl) (v:= .slice (some ⟨w0.drew.heap.size,0,none⟩) 3 3) (w':=World.alloc w0.drew (.cells #[.int .i64 c0,.int .i64 c1,.int .i64 c2] 3)) ?_ (by (repeat (first|exact Below.refl _ _|assumption|refine Below.drew ?_|refine cp ?_|refine Below.setCell ?_ (by first|omega|(simp<;>omega)) _|refine Below.alloc ?_ (by first|omega|(simp<;>omega)) _))) ?_
 ·unfold execOp
  simp only [Act.eval];simp [aqF]
 try first|simp only [ag,List.set]|simp only [aD]
 refine bj (by rfl) (by go_simp) (SV.out w0.drew.heap.size (World.alloc w0.drew (.cells #[.int .i64 c0,.int .i64 c1,.int .i64 c2] 3)) (by unfold World.cell?;rw [aw];rfl) (by unfold World.cell?;rw [aw];rfl) (by unfold World.cell?;rw [aw];rfl)) ?_;rintro e w2 ⟨rfl,rfl⟩;refine ⟨_,rfl,by (repeat (first|exact Below.refl _ _|assumption|refine Below.drew ?_|refine cp ?_|refine Below.setCell ?_ (by first|omega|(simp<;>omega)) _|refine Below.alloc ?_ (by first|omega|(simp<;>omega)) _)),?_⟩
 try first|simp only [ag,List.set]|simp only [aD]
 repeat (first|(refine aB (v:= ?_) (by rfl) ?_ ?_;rotate_left;(rintro W hW;go_simp;with_reducible rfl);simp only [ag,List.set])|(refine aC (by rfl) ?_;simp only [ag,List.set]))
 refine bm ?_
 go_wp2_with fail
 go_ret;obtain ⟨os,rS⟩:=cS.out;refine ⟨rfl,1,os++#[.cells #[.int .i64 c0,.int .i64 c1,.int .i64 c2] 3],?_⟩;rw [alloc_eq_grow,rS,drew_grow,grow_grow];rfl
def pq (a b:Tb):Prop:=a.level<b.level∨(a.level=b.level∧(a.first.toList<b.first.toList∨(a.first.toList=b.first.toList∧a.file<b.file)))
theorem SX (x y:ByteArray):jF x y<0↔x.toList<y.toList:=by
 unfold jF;rw [bytesLess_eq];by_cases h:x.toList<y.toList
 ·simp [h]
 ·simp only [h,decide_false,Bool.false_eq_true,if_false,iff_false,Int.not_lt]
  split<;>decide
theorem Eo (x y:ByteArray):jF x y=0↔x.toList=y.toList:=by
 unfold jF;rw [bytesLess_eq];by_cases h:x.toList<y.toList
 ·simp only [h,decide_true,if_true]
  constructor
  ·intro e;cases e
  ·intro e;rw [e] at h;exact absurd h (List.lt_irrefl _)
 ·simp only [h,decide_false,Bool.false_eq_true,if_false]
  by_cases h2:x.toList=y.toList
  ·simp [h2]
  ·simp [h2]
theorem SY (x y:Int):ij x y<0↔x<y:=by
 unfold ij;split
 ·simp;assumption
 ·split<;>simp<;>omega
theorem SZ (x y:Int):ij x y=0↔x=y:=by
 unfold ij;split
 ·simp;omega
 ·split<;>simp<;>omega
theorem aqH (a b:Tb):ng a b<0↔pq a b:=by
 unfold ng IK pq;by_cases h1:ij a.level b.level=0
 ·rw [if_pos h1]
  have e1:=(SZ _ _).1 h1;by_cases h2:jF a.first b.first=0
  ·rw [if_pos h2]
   have e2:=(Eo _ _).1 h2;rw [SY];constructor
   ·intro h;exact .inr ⟨e1,.inr ⟨e2,h⟩⟩
   ·rintro (h|⟨_,h|⟨_,h⟩⟩)
    ·omega
    ·rw [e2] at h;exact absurd h (List.lt_irrefl _)
    ·exact h
  ·rw [if_neg h2,SX]
   constructor
   ·intro h;exact .inr ⟨e1,.inl h⟩
   ·rintro (h|⟨_,h|⟨e,_⟩⟩)
    ·omega
    ·exact h
    ·exact absurd ((Eo _ _).2 e) h2
 ·rw [if_neg h1,SY]
  constructor
  ·intro h;exact .inl h
  ·rintro (h|⟨e,_⟩)
   ·exact h
   ·exact absurd ((SZ _ _).2 e) h1
theorem ltB {a b:Tb}:ltOf ng a b=true↔pq a b:=by
 unfold ltOf;rw [decide_eq_true_eq,aqH]
theorem Ta {a b:Tb}:ltOf ng a b=false↔¬ pq a b:=by
 rw [←ltB];simp
theorem abn {x y z:Tb} (h1:pq x y) (h2:pq y z):pq x z:=by
 rcases h1 with h1|⟨e1,h1⟩
 ·rcases h2 with h2|⟨e2,h2⟩
  ·exact .inl (by omega)
  ·exact .inl (by omega)
 ·rcases h2 with h2|⟨e2,h2⟩
  ·exact .inl (by omega)
  ·refine .inr ⟨by omega,?_⟩
   rcases h1 with h1|⟨e3,h1⟩
   ·rcases h2 with h2|⟨e4,h2⟩
    ·exact .inl (List.lt_trans h1 h2)
    ·exact .inl (by rw [←e4];exact h1)
   ·rcases h2 with h2|⟨e4,h2⟩
    ·exact .inl (by rw [e3];exact h2)
    ·exact .inr ⟨e3.trans e4,by omega⟩
theorem abo (x y:Tb) (h1:¬ pq x y) (h2:¬ pq y x):x.level=y.level∧x.first.toList=y.first.toList∧x.file=y.file:=by
 have e1:x.level=y.level:=by
  have a1:¬ x.level<y.level:=fun h=>h1 (.inl h)
  have a2:¬ y.level<x.level:=fun h=>h2 (.inl h)
  omega
 have b1:¬ x.first.toList<y.first.toList:=fun h=>h1 (.inr ⟨e1,.inl h⟩)
 have b2:¬ y.first.toList<x.first.toList:=fun h=>h2 (.inr ⟨e1.symm,.inl h⟩)
 have e2:x.first.toList=y.first.toList:=List.le_antisymm (List.not_lt.1 b2) (List.not_lt.1 b1);refine ⟨e1,e2,?_⟩;have a1:¬ x.file<y.file:=fun h=>h1 (.inr ⟨e1,.inr ⟨e2,h⟩⟩)
 have a2:¬ y.file<x.file:=fun h=>h2 (.inr ⟨e1.symm,.inr ⟨e2.symm,h⟩⟩)
 omega
theorem MM:SWO (ltOf ng) where
 irrefl x:=by
  rw [Ta];rintro (h|⟨_,h|⟨_,h⟩⟩)
  ·omega
  ·exact List.lt_irrefl _ h
  ·omega
 trans x y z h1 h2:=by rw [ltB] at*;exact abn h1 h2
 ntrans x y z h1 h2:=by
  rw [Ta] at*;intro h;by_cases yQ:pq y x
  ·exact h2 (abn yQ h)
  ·obtain ⟨e1,e2,e3⟩:=abo x y h1 yQ
   apply h2;unfold pq at h ⊢;rw [←e1,←e2,←e3];exact h
theorem aqI (blk off size:Nat) (w:World):CmpLays Tryz.prog 207 #[] ig 5 ng blk off size w:=
 fun _ _ _ _ x y=>aqG x y _
end Go.Proofs.YtoolkdapflaeeaaGreatDoor.Mn
namespace Go.Gl
open Go Go.RowKit Go.Sort Go.Shelf Go.Proofs
section rows
variable {α:Type} {enc:α→List Value} {k:Nat}
theorem IL (hk:∀ x,(enc x).length=k) (l:List α):(l.flatMap enc).length=l.length*k:=by
 induction l with
 |nil=>simp
 |cons x l ih=>rw [List.flatMap_cons,List.length_append,hk,ih,List.length_cons,Nat.add_mul];omega
theorem BI (hk:∀ x,(enc x).length=k):∀ {l:List α} {i:Nat} {x:α},l[i]?=some x→∀ c,c<k→(l.flatMap enc)[i*k+c]?=(enc x)[c]?
 | [],i,x,h,_,_=>by simp at h
 |a::l,0,x,h,c,hc=>by
  simp at h;subst h;rw [List.flatMap_cons,Nat.zero_mul,Nat.zero_add,List.getElem?_append_left (by rw [hk];exact hc)]
 |a::l,i+1,x,h,c,hc=>by
  have ih:=BI hk (l:=l) (i:=i) (x:=x) (by simpa using h) c hc;rw [List.flatMap_cons,List.getElem?_append_right (by rw [hk,Nat.add_mul];omega),←ih,hk];congr 1;rw [Nat.add_mul];omega
theorem aqJ (hk:∀ x,(enc x).length=k) (l:List α) (n:Nat) (hn:n≤l.length):(l.flatMap enc).take (n*k)=(l.take n).flatMap enc:=by
 have h1:l.flatMap enc=(l.take n).flatMap enc++(l.drop n).flatMap enc:=by rw [←List.flatMap_append,List.take_append_drop]
 have h2:((l.take n).flatMap enc).length=n*k:=by rw [IL hk];simp [Nat.min_eq_left hn]
 rw [h1,List.take_append_of_le_length (by omega),←h2,List.take_length]
def Rd (w:World) (b o:Nat) (enc:α→List Value) (k:Nat) (l:List α):Prop:=∀ (i:Nat) (x:α),l[i]?=some x→∀ (c:Nat) (u:Value),(enc x)[c]?=some u→w.cell? ⟨b,o+i*k+c,none⟩=some u
theorem wO {w:World} {B e g cap:Nat} (hk:∀ x,(enc x).length=k) {l:List α} (h:w.ownsRow B e k (.slice (some ⟨g,0,none⟩) l.length cap) l.length (l.flatMap enc)):Rd w g 0 enc k l:=by
 intro i x hx c u hu;have hc:c<k:=by have:=(dQ.1 hu).1;rwa [hk] at this
 have hi:i<l.length:=(dQ.1 hx).1;have hj:i*k+c<l.length*k:=by
  have:=Nat.mul_le_mul_right k (show i+1≤l.length from hi);rw [Nat.add_mul,Nat.one_mul] at this;omega
 rw [Nat.zero_add,h.cellAt _ hj,BI hk hx c hc,hu]
theorem Rd.grow {w w':World} {b o:Nat} {l:List α} (h:Rd w b o enc k l) (hb:b<w.heap.size) (hg:Grow w w'):Rd w' b o enc k l:=fun i x hx c u hu=>by
 rw [Grow.cells _ _ _ hg hb];exact h i x hx c u hu
theorem ek {w w':World} {B e:Nat} {v:Value} {n:Nat} {xs:List Value} (h:w.ownsRow B e k v n xs) (hg:Grow w w'):w'.ownsRow B e k v n xs:=by
 refine ⟨h.1,?_⟩;rcases h.2 with h1|⟨g,cap,cur,h1,h2,h3,h4⟩
 ·exact .inl h1
 ·exact .inr ⟨g,cap,cur,h1,h2,hg.heap h3,h4⟩
theorem qx {w:World} {B B' e:Nat} {v:Value} {n:Nat} {xs:List Value} (h:w.ownsRow B e k v n xs) (hB:B'≤B):w.ownsRow B' e k v n xs:=by
 refine ⟨h.1,?_⟩;rcases h.2 with h1|⟨g,cap,cur,h1,h2,h3⟩
 ·exact .inl h1
 ·exact .inr ⟨g,cap,cur,h1,aN hB h2,h3⟩
variable [Inhabited α]
theorem aqK {w:World} {B e g cap:Nat} (hk:∀ x,(enc x).length=k) (jA:0<k) {l:List α} (h:w.ownsRow B e k (.slice (some ⟨g,0,none⟩) l.length cap) l.length (l.flatMap enc)):HoldsK enc k w g 0 l.toArray:=by
 intro j hj;rw [size_flatK] at hj;simp only [List.size_toArray] at hj;have hdiv:j / k<l.length:=Nat.div_lt_of_lt_mul (by rw [Nat.mul_comm];exact hj);rw [Nat.zero_add];refine ⟨?_,h.frozenAt j⟩;rw [h.cellAt j hj,get_flatK _ _ _ _ (by simpa using hj)];have h1:l[j / k]?=some l[j / k]:=List.getElem?_eq_getElem hdiv;have h2:=BI hk h1 (j%k) (Nat.mod_lt _ jA);rw [show j / k*k+j%k=j by rw [Nat.mul_comm];exact Nat.div_add_mod j k] at h2;rw [h2];have h3:l.toArray[j / k]! =l[j / k]:=by simp [hdiv]
 rw [h3];have h4:j%k<(enc l[j / k]).length:=by rw [hk];exact Nat.mod_lt _ jA
 rw [List.getElem?_eq_getElem h4,getElem!_pos (enc l[j / k]) (j%k) h4];rfl
theorem aqL (w:World) (g n:Nat) (d:Array α) (os:Array Obj):w.grownBy (sortWorldK enc k w g 0 n d os) (some g):=by
 refine ⟨rfl,rfl,rfl,size_sortWorldK_c ..,fun b hb hne=> ?_⟩;unfold sortWorldK;rw [heap_grow_old _ _ (by rw [size_putRowK];exact hb)];unfold putRowK putRow mapBlock;simp only [Array.getElem?_modify];rw [if_neg (fun e=>hne (by rw [e]))];rfl
theorem aqM (hk:∀ x,(enc x).length=k) (jA:0<k) (d:Array α):(flatK enc k d).toList=d.toList.flatMap enc:=by
 apply List.ext_getElem?;intro j;by_cases hj:j<d.size*k
 ·have hdiv:j / k<d.size:=Nat.div_lt_of_lt_mul (by rw [Nat.mul_comm];exact hj)
  have h1:d.toList[j / k]?=some d[j / k]:=by simp [hdiv]
  have h2:=BI hk h1 (j%k) (Nat.mod_lt _ jA);rw [show j / k*k+j%k=j by rw [Nat.mul_comm];exact Nat.div_add_mod j k] at h2;rw [h2];have h5:j<(flatK enc k d).size:=by rw [size_flatK];exact hj
  have h3:=get_flatK enc k d j hj;rw [getElem!_pos _ j h5] at h3;rw [Array.getElem?_toList,Array.getElem?_eq_getElem h5,h3,getElem!_pos d (j / k) hdiv];have h4:j%k<(enc d[j / k]).length:=by rw [hk];exact Nat.mod_lt _ jA
  rw [List.getElem?_eq_getElem h4,getElem!_pos (enc d[j / k]) (j%k) h4]
 ·rw [List.getElem?_eq_none (by rw [Array.length_toList,size_flatK];omega),List.getElem?_eq_none (by rw [IL hk,Array.length_toList];omega)]
theorem aqN {w:World} {B e g cap:Nat} (hk:∀ x,(enc x).length=k) (jA:0<k) {l:List α} (h:w.ownsRow B e k (.slice (some ⟨g,0,none⟩) l.length cap) l.length (l.flatMap enc)) (n:Nat) (d:Array α) (os:Array Obj) (hd:d.size=l.length):
  (sortWorldK enc k w g 0 n d os).ownsRow B e k (.slice (some ⟨g,0,none⟩) l.length cap) l.length (d.toList.flatMap enc):=by
 rcases h.2 with ⟨e1,_⟩|⟨g',cap',cur,e1,hB,hg,hn,hm,hs,ht⟩
 ·cases e1
 ·cases e1
  refine ⟨by rw [IL hk,Array.length_toList,hd],.inr ⟨g,cap,putCells id 0 (flatK enc k d) cur,rfl,hB,?_,hn,hm,by simp [putCells,hs],?_⟩⟩
  ·unfold sortWorldK
   have hlt:g<w.heap.size:=af hg;rw [heap_grow_old _ _ (by rw [size_putRowK];exact hlt)];unfold putRowK putRow mapBlock;simp only [Array.getElem?_modify,if_true];rw [show (Sort.ahead w n).heap[g]?=w.heap[g]? from rfl,hg];rfl
  ·rw [←aqM hk jA]
   apply List.ext_getElem?;intro j;rw [List.getElem?_take];by_cases hj:j<l.length*k
   ·have hjs:j<cur.size:=by
     rw [hs];have:=Nat.mul_le_mul_right k hn;omega
    have h5:j<(flatK enc k d).size:=by rw [size_flatK,hd];exact hj
    rw [if_pos hj];simp only [putCells,Array.toList_mapIdx,List.getElem?_mapIdx,Array.getElem?_toList,Array.getElem?_eq_getElem hjs,Option.map_some,bk,true_and,Nat.zero_add,h5,if_true,Nat.sub_zero,id,Array.getElem?_eq_getElem h5];rw [getElem!_pos _ j h5]
   ·rw [if_neg hj,List.getElem?_eq_none (by rw [Array.length_toList,size_flatK,hd];omega)]
end rows
end Go.Gl
namespace Go.Proofs.YtoolkdapflaeeaaGreatDoor.Mn
open Go.RowKit Go.Gl
theorem pw (x:Tb):(ig x).length=5:=rfl
theorem MN (x:Tb):∀ v∈ig x,v.oneCell'=true:=fun v hv=>by
 simp only [ig,List.mem_cons,List.not_mem_nil,or_false] at hv;rcases hv with rfl|rfl|rfl|rfl|rfl<;>rfl
theorem aqP (l:List Tb):∀ v∈kx l,v.oneCell'=true:=fun v hv=>by
 obtain ⟨x,_,h⟩:=List.mem_flatMap.1 hv;exact MN x v h
abbrev Own (B:Nat) (w:World) (v:Value) (l:List Tb):Prop:=w.ownsRow B 101 5 v l.length (kx l)
def jq (l:List Tb):List Tb:=(Sort.pdq (ltOf ng) l.toArray 0 l.toArray.size (Lib.bitLen l.toArray.size) true true).toList
theorem zb (l:List Tb):(jq l).Perm l:=by
 have h:=(Sort.pdq_sorts (ltOf ng) MM l.toArray 0 l.toArray.size (Lib.bitLen l.toArray.size) true true (bk _) (ay _) (Or.inl rfl)).1;unfold jq;generalize Sort.pdq (ltOf ng) l.toArray 0 l.toArray.size (Lib.bitLen l.toArray.size) true true=d at*;have h2:=h.2.2;have hs:=h.1;have e1:d.extract 0 l.toArray.size=d:=by rw [←hs];simp
 have e2:l.toArray.extract 0 l.toArray.size=l.toArray:=by simp
 rw [e1,e2] at h2;exact h2
theorem aqQ (l:List Tb):(jq l).Pairwise (fun x y=>¬ pq y x):=by
 have h:=(Sort.pdq_sorts (ltOf ng) MM l.toArray 0 l.toArray.size (Lib.bitLen l.toArray.size) true true (bk _) (ay _) (Or.inl rfl))
 unfold jq;generalize Sort.pdq (ltOf ng) l.toArray 0 l.toArray.size (Lib.bitLen l.toArray.size) true true=d at*;have hs:=h.1.1;rw [List.pairwise_iff_getElem];intro i j hi hj nW;simp only [Array.length_toList] at hi hj;have:=h.2 i j (bk _) nW (by omega);rw [getElem!_pos d i hi,getElem!_pos d j hj,Ta] at this;exact this
theorem aqR {B:Nat} {w:World} {v:Value} {l:List Tb} (h:Own B w v l) (hlen:l.length<1000000000):
  Calls Tryz.prog 206 #[v,.func (.func 207) #[] #[]] w fun e w'=>e= .returned (.tuple #[])∧Own B w' v (jq l)∧w.grownBy w' v.ownBlock:=by
 have mo:(jq l).length=l.length:=(zb l).length_eq;rcases h.2 with ⟨rfl,h0⟩|⟨g,cap,cur,rfl,hB,hg,jO⟩
 ·have hc:=AnyF.slices_SortFunc_none Tryz.aax none 0 (.func (.func 207) #[] #[]) w
  have hc':Calls Tryz.prog 206 #[.slice none 0 0,.func (.func 207) #[] #[]] w _:=hc;have hl:l= []:=jb h0;have hs:jq l= []:=jb (by rw [mo];exact h0);refine hc'.mono fun e w' ⟨he,hw⟩=>⟨he,?_,?_⟩
  ·rw [hw,hs];exact World.ownsRow_nil _ _ _ _
  ·rw [hw];exact ⟨rfl,rfl,rfl,ay _,fun _ _ _=>rfl⟩
 ·have eg:∀ args w,(callFunc 207 args).run Tryz.prog w= .ok (.enter 207 args) w:=enters_of Tryz.func207 (by kernel_rfl) rfl
  have hblk:g<w.heap.size:=af hg;have hcon:=AnyQ.slices_SortFunc_eq Tryz.aax 5 Tryz.isAgg101 Tryz.sizeOf101 ig pw MN ng MM 207 #[] g 0 cap l.toArray w eg (aqI g 0 l.toArray.size w) (aqK pw (by decide) h) hblk (by simp;omega);have aqS:Calls Tryz.prog 206 #[.slice (some ⟨g,0,none⟩) l.length cap,.func (.func 207) #[] #[]] w _:=hcon;refine aqS.mono fun e w' ⟨he,n,os,hw⟩=>⟨he,?_,?_⟩
  ·have h2:=aqN pw (by decide) h n (Sort.pdq (ltOf ng) l.toArray 0 l.toArray.size (Lib.bitLen l.toArray.size) true true) os (by
    have:=(Sort.pdq_sorts (ltOf ng) MM l.toArray 0 l.toArray.size (Lib.bitLen l.toArray.size) true true (bk _) (ay _) (Or.inl rfl)).1.1;simpa using this)
   rw [hw];unfold Own;rw [mo];exact h2
  ·rw [hw];exact aqL w g n _ os
def Ints (w:World) (v:Value) (ks:List Int):Prop:=
 ∃ a c,v= .slice a ks.length c∧ks.length≤c∧(ks= []∨∃ b o,a=some ⟨b,o,none⟩∧b<w.heap.size∧∀ (j:Nat) (k:Int),ks[j]?=some k→w.cell? ⟨b,o+j,none⟩=some (.int .i64 k))
theorem Ints.grow {w w':World} {v:Value} {ks:List Int} (h:Ints w v ks) (hg:Grow w w'):Ints w' v ks:=by
 obtain ⟨a,c,hv,hl,h⟩:=h;refine ⟨a,c,hv,hl,?_⟩;rcases h with h|⟨b,o,ha,hb,hc⟩
 ·exact .inl h
 ·refine .inr ⟨b,o,ha,cj hb hg.size,fun j k hk=> ?_⟩
  rw [Grow.cells _ _ _ hg hb];exact hc j k hk
theorem Tc (w:World) (b o n c:Nat) (ks:List Int) (x:Int) (hn:n≤ks.length) (kY:ks.length≤1000000000) (hc:∀ (j:Nat) (k:Int),ks[j]?=some k→w.cell? ⟨b,o+j,none⟩=some (.int .i64 k)):
  Calls Tryz.prog 204 #[.slice (some ⟨b,o,none⟩) n c,.int .i64 x] w fun e w'=>e= .returned (.bool ((ks.take n).contains x))∧w'=w:=by
 have h:=AnyG.slices_Contains_int Tryz.aaz b o n c ks x w hn (by omega) (fun j hj=>by
  rw [hc j ks[j] (by simp [hj])];simp [List.getD,hj])
 exact h
theorem aqT (w:World) (a:Option Addr) (c:Nat) (x:Int):Calls Tryz.prog 204 #[.slice a 0 c,.int .i64 x] w fun e w'=>e= .returned (.bool false)∧w'=w:=
 AnyG.slices_Contains_int_empty Tryz.aaz a c x w
theorem aqU {w:World} {v:Value} {ks:List Int} (h:Ints w v ks) (kY:ks.length≤1000000000) (x:Int):Calls Tryz.prog 204 #[v,.int .i64 x] w fun e w'=>e= .returned (.bool (ks.contains x))∧w'=w:=by
 obtain ⟨a,c,rfl,_,h⟩:=h;cases ks with
 |nil=>exact aqT w a c x
 |cons k ks=>
  rcases h with h|⟨b,o,rfl,hb,hc⟩
  ·cases h
  ·have:=Tc w b o (k::ks).length c (k::ks) x (ay _) kY hc
   rw [List.take_length] at this;exact this
def ou (l:List Tb) (f:Int):Bool:=l.any fun t=>decide (t.file=f)
theorem aqV (f:Int) (B:Nat) (w:World) (hB:B<w.heap.size) (hcell:w.cell? ⟨B,0,none⟩=some (.int .i64 f)):
  PredBelow Tryz.prog 225 #[.pointer (some ⟨B,0,none⟩)] (fun x=> .agg (ig x).toArray) (fun x=>decide (x.file=f)) w:=fun W x hb=>by
 have hc:W.cell? ⟨B,0,none⟩=some (.int .i64 f):=(hb.cell (p:=⟨B,0,none⟩) hB).trans hcell;have hBW:B<W.heap.size:=cj hB hb.size;have hne:B≠W.heap.size:=by omega
 obtain ⟨x0,x1,x2,x3,x4⟩:=x;show Calls Tryz.prog 225 #[.agg #[.int .i64 x0,.int .i64 x1,.string x2,.string x3,.int .i64 x4],.pointer (some ⟨B,0,none⟩)] W _;have hd:decide (x0=f)=(x0==f):=by by_cases h:x0=f<;>simp [h]
 simp only [hd];go_enter Tryz.func225,Tryz.ntmps225;go_wp2;go_ret;exact ⟨rfl,hb.alloc hb.size _⟩
theorem abp (w:World) (a:Option Addr) (c:Nat) (fv:Value):Calls Tryz.prog 166 #[.slice a 0 c,fv] w fun e w'=>e= .returned (.int .i64 (-1))∧w'=w:=by
 go_enter Tryz.func166,Tryz.ntmps166;go_wp2;refine wp_loop_rounds 1 ?_;rw [rounds_succ];go_wp2;go_ret;exact ⟨rfl,rfl⟩
theorem aqW (w:World) (a:Option Addr) (c:Nat) (fv:Value):Calls Tryz.prog 118 #[.slice a 0 c,fv] w fun e w'=>e= .returned (.bool false)∧Below w.heap.size w w':=by
 go_enter Tryz.func118,Tryz.ntmps118
 go_wp2_with fail
 (with_reducible refine (abp _ _ _ _).mono ?_);rintro e w' ⟨rfl,rfl⟩;go_wp2;go_ret;exact ⟨rfl,Below.refl _ _⟩
theorem abq {B:Nat} {w:World} {v:Value} {l:List Tb} (h:Own B w v l) (hlen:l.length<1000000000) (f:Int):
  Calls Tryz.prog 203 #[v,.int .i64 f] w fun e w'=>e= .returned (.bool (ou l f))∧Grow w w':=by
 have hg0:Grow w (w.alloc (.cells #[.int .i64 f] 3)):=Grow.alloc _ _;have eO:(w.alloc (.cells #[.int .i64 f] 3)).cell? ⟨w.heap.size,0,none⟩=some (.int .i64 f):=by simp
 have hcon:Calls Tryz.prog 118 #[v,.func (.func 225) #[] #[.pointer (some ⟨w.heap.size,0,none⟩)]] (w.alloc (.cells #[.int .i64 f] 3)) fun e w'=>e= .returned (.bool (ou l f))∧Below (w.alloc (.cells #[.int .i64 f] 3)).heap.size (w.alloc (.cells #[.int .i64 f] 3)) w':=by
  rcases h.2 with ⟨rfl,h0⟩|⟨g,cap,cur,rfl,hB,hg,jO⟩
  ·have hl:l= []:=jb h0
   rw [hl];exact aqW _ _ _ _
  ·have eg:∀ args w,(callFunc 225 args).run Tryz.prog w= .ok (.enter 225 args) w:=enters_of Tryz.func225 (by kernel_rfl) rfl
   have hblk:g<w.heap.size:=af hg;have aY:=(wO pw h).grow hblk hg0;have hcc:=AnyQ.slices_ContainsFunc Tryz.apw 5 Tryz.isAgg101 Tryz.sizeOf101 ig pw (fun x=>decide (x.file=f)) 225 #[.pointer (some ⟨w.heap.size,0,none⟩)] eg g 0 l.length cap l (w.alloc (.cells #[.int .i64 f] 3))
    (aqV f w.heap.size _ (by simp) eO) (ay _) (by omega) (by simp;omega) (fun j hj i u hu=>aY j l[j]! (by rw [getElem!_pos l j hj];simp [hj]) i u hu)
   rw [List.take_length] at hcc;exact hcc
 have tA:=ae hcon;have BJ:=ae hg0;obtain ⟨va,vn,vc,rfl⟩:∃ a n c,v= .slice a n c:=by
  rcases h.2 with ⟨rfl,h0⟩|⟨g,cap,cur,rfl,_⟩<;>exact ⟨_,_,_,rfl⟩
 generalize ou l f=r at*;clear h hcon hg0 eO;go_enter Tryz.func203,Tryz.ntmps203
 go_wp2_with fail
 (with_reducible refine tA.out.mono ?_);rintro e w' ⟨rfl,hg⟩;go_wp2;go_ret;exact ⟨rfl,BJ.out.trans hg⟩
theorem Tryz.Td:(Tryz.prog.info? 101).map (fun i=>(i.zero,i.size,i.bytes))=some (some (.agg #[.int .i64 0,.int .i64 0,.string ByteArray.empty,.string ByteArray.empty,.int .i64 0]),5,56):=by kernel_rfl
theorem uJ {B:Nat} {w:World} {v:Value} {l:List Tb} (h:Own B w v l) (hlen:l.length<1000000000):
  Calls Tryz.prog 117 #[v] w fun e w'=>∃ v',e= .returned v'∧Own w.heap.size w' v' l∧Grow w w':=by
 rcases h.2 with ⟨rfl,h0⟩|⟨g,cap,cur,rfl,hB,hg,jO⟩
 ·have hl:l= []:=jb h0
  subst hl;have hc:Calls Tryz.prog 117 #[.slice none 0 0] w _:=AnyE.slices_Clone_nil Tryz.aay 0 0 w;exact hc.mono fun e w' ⟨he,hw⟩=>⟨_,he,World.ownsRow_nil _ _ _ _,by rw [hw];exact Grow.refl _⟩
 ·obtain ⟨i0,bK,hz0,hz1,hz2⟩:=info_parts Tryz.Td
  have hc:Calls Tryz.prog 117 #[.slice (some ⟨g,0,none⟩) l.length cap] w _:=AnyE.slices_Clone Tryz.aay i0 _ 5 56 bK hz0 hz1 hz2 rfl (by decide) Tryz.sizeOf101 g 0 l.length cap (kx l) w h.1 (by unfold maxLen;omega) (by omega)
   (fun j u hu=>by
    have hj:j<l.length*5:=by have:=(dQ.1 hu).1;rw [h.1] at this;exact this
    rw [Nat.zero_add,h.cellAt j hj,hu]) (aqP l)
  exact hc.mono fun e w' ⟨v',he,ho,_,hb⟩=>⟨v',he,ho,hb⟩
theorem aI {w:World} {b:Nat} {cur:Array Value} {t:TypeId} {f:Nat×Nat} (h:w.heap[b]?=some (.cells cur t f)) (o:Nat) (v:Value):(w.setCell ⟨b,o,none⟩ v).heap[b]?=some (.cells (cur.setIfInBounds o v) t f):=by
 simp only [World.setCell];rw [Array.getElem?_modify,h];simp
theorem iJ (w:World) (b o:Nat) (v:Value):w.grownBy (w.setCell ⟨b,o,none⟩ v) (some b):=⟨rfl,rfl,rfl,by simp,fun k _ hk=>aK _ _ _ _ (fun e=>hk (by rw [e]))⟩
theorem uH {w1 w2 w3:World} {r:Option Nat} (h:w1.grownBy w2 r) (k:w2.grownBy w3 r):w1.grownBy w3 r:=
 ⟨k.os.trans h.os,k.tape.trans h.tape,k.output.trans h.output,aN h.size k.size,fun b hb hne=>by rw [k.block b (cj hb h.size) hne,h.block b hb hne]⟩
theorem abr {b:Nat}:∀ (cs:List Value) (o:Nat) (w:World) (cur:Array Value) (t:TypeId) (f:Nat×Nat),w.heap[b]?=some (.cells cur t f)→
  ∃ cur',(w.setCells b o cs).heap[b]?=some (.cells cur' t f)∧cur'.size=cur.size∧(∀ m,m≤o→cur'.toList.take m=cur.toList.take m)∧w.grownBy (w.setCells b o cs) (some b)
 | [],o,w,cur,t,f,h=>⟨cur,h,rfl,fun _ _=>rfl,⟨rfl,rfl,rfl,ay _,fun _ _ _=>rfl⟩⟩
 |v::cs,o,w,cur,t,f,h=>by
  have h1:=aI h o v;obtain ⟨cur',e1,e2,e3,e4⟩:=abr cs (o+1) _ _ t f h1;refine ⟨cur',e1,by simpa using e2,fun m hm=> ?_,?_⟩
  ·rw [e3 m (by omega)]
   simp [Array.toList_setIfInBounds,List.take_set_of_le,hm]
  ·exact uH (iJ w b o v) e4
theorem abt:∀ (d:List Tb) (i:Nat) (t:Tb),i<d.length→kx (d.set i t)=(((((kx d).set (i*5) (.int .i64 t.file)).set (i*5+1) (.int .i64 t.level)).set (i*5+2) (.string t.first)).set (i*5+3) (.string t.last)).set (i*5+4) (.int .i64 t.size)
 | [],i,t,h=>by simp at h
 |x::d,0,t,_=>by simp [kx,ig]
 |x::d,i+1,t,h=>by
  have ih:=abt d i t (by simpa using h);have e:∀ c,(i+1)*5+c=(i*5+c)+1+1+1+1+1:=fun c=>by omega
  have e0:(i+1)*5=(i*5)+1+1+1+1+1:=by omega
  have hx:kx (x::d)= .int .i64 x.file:: .int .i64 x.level:: .string x.first:: .string x.last:: .int .i64 x.size::kx d:=rfl;rw [List.set_cons_succ,hx,e 1,e 2,e 3,e 4,e0];simp only [List.set_cons_succ];rw [←ih];rfl
theorem aqX {B:Nat} {w:World} {g n cap:Nat} {d:List Tb} (h:w.ownsRow B 101 5 (.slice (some ⟨g,0,none⟩) n cap) n (kx d)) (hd:d.length=n) {i:Nat} (hi:i<n) (t:Tb) {w':World}
  (hw':w'=((((w.setCell ⟨g,i*5,none⟩ (.int .i64 t.file)).setCell ⟨g,i*5+1,none⟩ (.int .i64 t.level)).setCell ⟨g,i*5+2,none⟩ (.string t.first)).setCell ⟨g,i*5+3,none⟩ (.string t.last)).setCell ⟨g,i*5+4,none⟩ (.int .i64 t.size)):
  w'.ownsRow B 101 5 (.slice (some ⟨g,0,none⟩) n cap) n (kx (d.set i t))∧w.grownBy w' (some g):=by
 rcases h.2 with ⟨e1,_⟩|⟨g',cap',cur,e1,hB,hg,hn,hm,hs,ht⟩
 ·cases e1
 ·cases e1
  subst hw';refine ⟨⟨by rw [←hd];have:=IL pw (d.set i t);rw [List.length_set] at this;exact this,.inr ⟨g,cap,((((cur.setIfInBounds (i*5) (.int .i64 t.file)).setIfInBounds (i*5+1) (.int .i64 t.level)).setIfInBounds (i*5+2) (.string t.first)).setIfInBounds (i*5+3) (.string t.last)).setIfInBounds (i*5+4) (.int .i64 t.size),rfl,hB,?_,hn,hm,by simpa using hs,?_⟩⟩,?_⟩
  ·exact aI (aI (aI (aI (aI hg _ _) _ _) _ _) _ _) _ _
  ·rw [abt d i t (by omega),←ht]
   simp only [Array.toList_setIfInBounds,List.take_set]
  ·exact uH (uH (uH (uH (iJ _ _ _ _) (iJ _ _ _ _)) (iJ _ _ _ _)) (iJ _ _ _ _)) (iJ _ _ _ _)
theorem aqY (w:World):(zeroValue 101).run Tryz.prog w= .ok (.agg #[.int .i64 0,.int .i64 0,.string ByteArray.empty,.string ByteArray.empty,.int .i64 0]) w:=by kernel_rfl
theorem aqZ (w:World) (g o n c:Nat) (hn:0<n) (hc:∀ j,j<n*5→(w.cell? ⟨g,o+j,none⟩).isSome=true) (hf:∀ j,j<n*5→w.frozen? ⟨g,o+j,none⟩=false):
  ∃ cs,(Builtin.clear_ #[83] 0 #[.slice (some ⟨g,o,none⟩) n c]).run Tryz.prog w= .ok (.tuple #[]) (w.setCells g o cs):=by
 obtain ⟨za,hza,hsz,nj⟩:∃ za:Array Value,(∀ w,(zeroValue 101).run Tryz.prog w= .ok (.agg za) w)∧za.size=5∧∀ i,i<5→(za[i]!).oneCell'=true:=⟨_,aqY,rfl,fun i hi=>by
  match i,hi with
  |0,_=>rfl
  |1,_=>rfl
  |2,_=>rfl
  |3,_=>rfl
  |4,_=>rfl⟩
 have hlen:(Builtin.zeroCells za n).toList.length=n*5:=by
  rw [Array.length_toList,size_zeroCells,hsz]
 have hst:=run_storeCells_cells (P:=Tryz.prog) g o (Builtin.zeroCells za n).toList 0 w (by rw [hlen];simpa using hc) (by rw [hlen];simpa using hf) (by
  intro v hv;obtain ⟨i,hi,rfl⟩:=List.mem_iff_getElem.1 hv;simp only [Builtin.zeroCells,Array.toList_map,List.getElem_map];have:=nj (i%5) (Nat.mod_lt _ (by decide));simpa [hsz] using this)
 simp only [Nat.add_zero] at hst;obtain ⟨m,rfl⟩:∃ m,n=m+1:=⟨n-1,by omega⟩
 refine ⟨(Builtin.zeroCells za (m+1)).toList,?_⟩;simp [Builtin.clear_,run_underlying Tryz.underlying83,hza,Value.cells,hst]
theorem arb {w:World} {eb:Nat} {av dv:Value} {s n wl:Int} {ks:List Int} (hb:w.heap[eb]?=some (.cells #[av,dv,.int .u64 s,.int .i64 n,.int .i64 wl] 148 (0,0))) (hd:Ints w dv ks) (qy:ks.length≤1000000000) (x:Tb):
  Calls Tryz.prog 205 #[.agg (ig x).toArray,.pointer (some ⟨eb,0,none⟩)] w fun e w'=>e= .returned (.bool (ks.contains x.file))∧Grow w w':=by
 obtain ⟨x0,x1,x2,x3,x4⟩:=x;obtain ⟨c0,c1,c2,c3,c4⟩:=cw hb;have hlt:=af hb;have hne:eb≠w.heap.size:=by omega
 have hcon:=aqU (hd.grow (Grow.alloc w (.cells #[.int .i64 x0,.int .i64 x1,.string x2,.string x3,.int .i64 x4] 101))) qy x0;obtain ⟨da,dc,rfl,_⟩:=hd;have tA:=ae hcon;simp only [ig];generalize ks.contains x0=r at*;clear hcon hb;go_enter Tryz.func205,Tryz.ntmps205
 go_wp2_with fail
 (with_reducible refine tA.out.mono ?_);rintro e w' ⟨rfl,rfl⟩;go_wp2;go_ret;exact ⟨rfl,Grow.alloc _ _⟩
def gK (ks:List Int) (t:Tb):Bool:= !ks.contains t.file
def Te (B:Nat) (w:World) (g n cap:Nat) (l:List Tb) (ks:List Int) (iv jv:Value) (wr:World):Prop:=
 ∃ (i j:Nat) (d:List Tb),iv= .int .i64 i∧jv= .int .i64 j∧i<j∧j≤n∧d.length=n∧wr.ownsRow B 101 5 (.slice (some ⟨g,0,none⟩) n cap) n (kx d)∧d.take i=(l.take j).filter (gK ks)∧d.drop j=l.drop j∧Below B w wr
theorem BK {α:Type} {l:List α} {j:Nat} {x:α} (h:l[j]?=some x):l.take (j+1)=l.take j++ [x]:=by
 obtain ⟨hi,rfl⟩:=dQ.1 h;rw [List.take_succ_eq_append_getElem hi]
theorem arc {l:List Tb} {p:Tb→Bool}:(Lib.idxBy (fun _ y=>p y) l default= -1∧∀ x∈l,p x=false)∨∃ (i:Nat) (x:Tb),Lib.idxBy (fun _ y=>p y) l default=(i:Int)∧l[i]?=some x∧p x=true∧∀ y∈l.take i,p y=false:=by
 have gen:∀ (l:List Tb) (s:Nat),(Lib.idxByFrom (fun _ y=>p y) default l s= -1∧∀ x∈l,p x=false)∨∃ (i:Nat) (x:Tb),Lib.idxByFrom (fun _ y=>p y) default l s=((s+i:Nat):Int)∧l[i]?=some x∧p x=true∧∀ y∈l.take i,p y=false:=by
  intro l
  induction l with
  |nil=>intro s;exact .inl ⟨rfl,(fun x hx=>by cases hx)⟩
  |cons z l ih=>
   intro s;cases hz:p z with
   |true=>exact .inr ⟨0,z,by simp [Lib.idxByFrom,hz],rfl,hz,(fun y hy=>by simp at hy)⟩
   |false=>
    have e:Lib.idxByFrom (fun _ y=>p y) default (z::l) s=Lib.idxByFrom (fun _ y=>p y) default l (s+1):=by simp [Lib.idxByFrom,hz]
    rw [e];rcases ih (s+1) with ⟨h1,h2⟩|⟨i,x,h1,h2,h3,h4⟩
    ·refine .inl ⟨h1,fun x hx=> ?_⟩
     rcases List.mem_cons.1 hx with rfl|hx
     ·exact hz
     ·exact h2 x hx
    ·refine .inr ⟨i+1,x,by rw [h1];congr 1;omega,by simpa using h2,h3,fun y hy=> ?_⟩
     rw [List.take_succ_cons] at hy;rcases List.mem_cons.1 hy with rfl|hy
     ·exact hz
     ·exact h4 y hy
 rcases gen l 0 with h|⟨i,x,h1,h2⟩
 ·exact .inl h
 ·exact .inr ⟨i,x,by unfold Lib.idxBy;rw [h1];congr 1;omega,h2⟩
theorem Tf {w:World} {B g n cap:Nat} {d:List Tb} (h:w.ownsRow B 101 5 (.slice (some ⟨g,0,none⟩) n cap) n (kx d)) (hd:d.length=n) {j:Nat} {t:Tb} (ht:d[j]?=some t):
  w.cell? ⟨g,j*5,none⟩=some (.int .i64 t.file)∧w.cell? ⟨g,j*5+1,none⟩=some (.int .i64 t.level)∧w.cell? ⟨g,j*5+2,none⟩=some (.string t.first)∧w.cell? ⟨g,j*5+3,none⟩=some (.string t.last)∧w.cell? ⟨g,j*5+4,none⟩=some (.int .i64 t.size):=by
 subst hd;have h1:=wO pw h j t ht;have k0:=h1 0 _ rfl;have k1:=h1 1 _ rfl;have k2:=h1 2 _ rfl;have k3:=h1 3 _ rfl;have k4:=h1 4 _ rfl;simp only [Nat.zero_add,Nat.add_zero] at k0 k1 k2 k3 k4;exact ⟨k0,k1,k2,k3,k4⟩
theorem MO {w:World} {B g n cap:Nat} {xs:List Value} (h:w.ownsRow B 101 5 (.slice (some ⟨g,0,none⟩) n cap) n xs):∃ cur,w.heap[g]?=some (.cells cur 101 (0,0))∧B≤g∧n≤cap∧cap≤maxLen∧cur.size=cap*5∧cur.toList.take (n*5)=xs:=by
 rcases h.2 with ⟨e1,_⟩|⟨g',cap',cur,e1,h2⟩
 ·cases e1
 ·cases e1
  exact ⟨cur,h2.2.1,h2.1,h2.2.2.1,h2.2.2.2.1,h2.2.2.2.2.1,h2.2.2.2.2.2⟩
theorem ard {B:Nat} {w:World} {g cap:Nat} {l:List Tb} (h:Own B w (.slice (some ⟨g,0,none⟩) l.length cap) l) (hlen:l.length<1000000000) (px:B≤w.heap.size) {eb:Nat} (py:eb<B) {av dv:Value} {s n wl:Int} {ks:List Int} (hb:w.heap[eb]?=some (.cells #[av,dv,.int .u64 s,.int .i64 n,.int .i64 wl] 148 (0,0)))
  {w0:World} (hw0:Below B w0 w) (hd:Ints w0 dv ks) (Tg:w0.heap.size≤B) (qy:ks.length≤1000000000):
  Calls Tryz.prog 164 #[.slice (some ⟨g,0,none⟩) l.length cap,.func (.func 205) #[] #[.pointer (some ⟨eb,0,none⟩)]] w fun e w'=>∃ v',e= .returned v'∧Own B w' v' (l.filter (gK ks))∧Below B w w':=by
 have Th:∀ W,Below B w W→∀ x:Tb,Calls Tryz.prog 205 #[.agg #[.int .i64 x.file,.int .i64 x.level,.string x.first,.string x.last,.int .i64 x.size],.pointer (some ⟨eb,0,none⟩)] W fun e w'=>e= .returned (.bool (ks.contains x.file))∧Grow W w':=fun W hW x=>by
  refine arb (av:=av) (dv:=dv) (s:=s) (n:=n) (wl:=wl) ?_ ?_ qy x
  ·rw [hW.block eb py];exact hb
  ·have h1:=hw0.trans hW
   exact hd.grow (h1.mono Tg)
 obtain ⟨cur,hg,RI,hn,hcm,hs,ht⟩:=MO h;have arf:=af hg;have eg:∀ args w,(callFunc 205 args).run Tryz.prog w= .ok (.enter 205 args) w:=enters_of Tryz.func205 (by kernel_rfl) rfl
 have aY:=wO pw h;have Bu:Calls Tryz.prog 166 #[.slice (some ⟨g,0,none⟩) l.length cap,.func (.func 205) #[] #[.pointer (some ⟨eb,0,none⟩)]] w _:=AnyQ.slices_IndexFunc Tryz.iR 5 Tryz.isAgg101 Tryz.sizeOf101 ig pw (fun x=>ks.contains x.file) 205 #[.pointer (some ⟨eb,0,none⟩)] eg g 0 l.length cap l w
  (fun W x hW=>(Th W (hW.mono px) x).mono fun e w' ⟨he,hg⟩=>⟨he,hW.trans (hg.mono hW.size)⟩) (ay _) (by omega) arf (fun j hj i u hu=>aY j l[j]! (by rw [getElem!_pos l j hj];simp [hj]) i u hu)
 rw [List.take_length] at Bu;have Ef:=ae Bu;have arh:=ae Th;have H:=ae h;clear Bu Th hb hw0 hd aY ht hg;rcases arc (l:=l) (p:=fun x=>ks.contains x.file) with ⟨fY,hno⟩|⟨i0,x0,bK,hx0,wP,gP⟩
 ·have hf:l.filter (gK ks)=l:=List.filter_eq_self.2 fun x hx=>by simp only [gK,hno x hx,Bool.not_false]
  rw [fY] at Ef;have Hf:=ae hf;clear fY hno hf;go_enter Tryz.func164,Tryz.ntmps164
  go_wp2_with fail
  (with_reducible refine Ef.out.mono ?_);rintro e w1 ⟨rfl,hg1⟩;go_wp2;go_ret;exact ⟨_,rfl,by rw [Hf.out];exact ek H.out hg1,hg1.mono px⟩
 ·rw [bK] at Ef
  have ari:i0<l.length:=(dQ.1 hx0).1;have abu:l.take i0=(l.take (i0+1)).filter (gK ks):=by
   rw [BK hx0,List.filter_append];have e1:(l.take i0).filter (gK ks)=l.take i0:=List.filter_eq_self.2 fun y hy=>by simp only [gK,gP y hy,Bool.not_false]
   have e2:gK ks x0=false:=by
    unfold gK;have:ks.contains x0.file=true:=wP;rw [this];rfl
   rw [e1,List.filter_cons_of_neg (by rw [e2];decide),List.filter_nil,List.append_nil]
  have bI:=ae abu;have hne:((i0:Int)== -1)=false:=by simp
  clear bK hx0 wP gP abu;go_enter Tryz.func164,Tryz.ntmps164
  go_wp2_with fail
  (with_reducible refine Ef.out.mono ?_);rintro e w1 ⟨rfl,hg1⟩;have H1:=ae (ek H.out hg1);have dK:=ae (hg1.mono px);clear hg1
  go_wp2_with fail
  go_loopw [5,6] (fun iv jv wr=>Te B w g l.length cap l ks iv jv wr) (fun _ jv _=>l.length-(intOf jv).toNat)
  case atStart=>exact ⟨i0,i0+1,l,rfl,rfl,by omega,ari,rfl,H1.out,bI.out,rfl,dK.out⟩
  case round=>
   obtain ⟨i,j,d,rfl,rfl,nW,DY,fS,hown,cC,hdr,dG⟩:=hrel;by_cases hlt:j<l.length
   ·obtain ⟨t,ht⟩:∃ t,l[j]?=some t:=⟨l[j],by simp [hlt]⟩
    have Ti:d[j]?=some t:=by
     have e1:(d.drop j)[0]?=(l.drop j)[0]?:=by rw [hdr]
     simpa [ht] using e1
    obtain ⟨t',IM⟩:∃ t',d[i]?=some t':=⟨d[i],by simp [show i<d.length by omega]⟩
    obtain ⟨c0,c1,c2,c3,c4⟩:=Tf hown fS Ti;obtain ⟨cur,hgr,_⟩:=MO hown;have lg:=af hgr;have Ep:(j:Int)<(l.length:Int):=by omega
    have ze:(0:Int)≤(j:Int):=by omega
    have dJ:(i:Int)<(l.length:Int):=by omega
    have arj:(0:Int)≤(i:Int):=by omega
    have eE:IntKind.i64.wrap ((i:Int)+1)=(i:Int)+1:=aR _ (by omega);have hwj:IntKind.i64.wrap ((j:Int)+1)=(j:Int)+1:=aR _ (by omega);obtain ⟨f0,f1,f2,f3,f4⟩:=t;have hb1:Below B w (wr.alloc (.cells #[.int .i64 f0,.int .i64 f1,.string f2,.string f3,.int .i64 f4] 101)):=dG.alloc (aN px dG.size) _;have aQ:=arh.out _ hb1 ⟨f0,f1,f2,f3,f4⟩;have eO:(wr.alloc (.cells #[.int .i64 f0,.int .i64 f1,.string f2,.string f3,.int .i64 f4] 101)).heap[wr.heap.size]?=some (.cells #[.int .i64 f0,.int .i64 f1,.string f2,.string f3,.int .i64 f4] 101 (0,0)):=aw _ _;have ai:Grow wr (wr.alloc (.cells #[.int .i64 f0,.int .i64 f1,.string f2,.string f3,.int .i64 f4] 101)):=Grow.alloc _ _;have hts:=BK ht;have fL:=ae aQ;have rT:=ae eO;have bT:=ae ai;have eT:=ae hown;have RV:=ae Ti;have Hti:=ae IM;have lz:=ae cC;have pz:=ae hdr;have aDI:=ae dG;have uT:=ae hb1;have Hts:=ae hts;clear aQ eO ai hown Ti IM cC hdr dG hb1 hts ht hgr;dsimp only at fL;cases hc:ks.contains f0 with
    |true=>
     rw [hc] at fL;have arl:Hid ((l.take (j+1)).filter (gK ks)=d.take i):=ae (by
      rw [Hts.out,List.filter_append,←lz.out,List.filter_cons_of_neg (by simp only [gK,hc];decide),List.filter_nil,List.append_nil])
     clear hc
     go_wp2_with fail
     (with_reducible refine fL.out.mono ?_);rintro e w3 ⟨rfl,hg3⟩;have bq:Hid (Te B w g l.length cap l ks (.int .i64 (i:Nat)) (.int .i64 ((j+1:Nat):Int)) w3):=ae ⟨i,j+1,d,rfl,rfl,by omega,hlt,fS,ek (ek eT.out bT.out) hg3,arl.out.symm,by
      have e1:=congrArg (List.drop 1) pz.out;simpa [List.drop_drop,Nat.add_comm] using e1,uT.out.trans (hg3.mono (aN px uT.out.size))⟩
     clear hg3;go_wp2;go_roundw
     case rel=>exact bq.out
     case measure=>simp [intOf];omega
    |false=>
     rw [hc] at fL;have iA:gK ks ⟨f0,f1,f2,f3,f4⟩=true:=by simp only [gK,hc];rfl
     have Hkp:=ae iA;clear hc iA
     go_wp2_with fail
     (with_reducible refine fL.out.mono ?_);rintro e w3 ⟨rfl,hg3⟩;have gI:=ek (ek eT.out bT.out) hg3;obtain ⟨k0,k1,k2,k3,k4⟩:=cw (hg3.heap rT.out);obtain ⟨m0,m1,m2,m3,m4⟩:=Tf gI fS Hti.out;have z0:=gI.frozenAt (i*5);have z1:=gI.frozenAt (i*5+1);have z2:=gI.frozenAt (i*5+2);have z3:=gI.frozenAt (i*5+3);have z4:=gI.frozenAt (i*5+4);obtain ⟨aDJ,qm,aro,_⟩:=MO gI;have lg3:=af qm;have lb3:=af (hg3.heap rT.out);obtain ⟨aby,zf⟩:=aqX gI fS (show i<l.length by omega) ⟨f0,f1,f2,f3,f4⟩ rfl;have bq:Hid (Te B w g l.length cap l ks (.int .i64 ((i+1:Nat):Int)) (.int .i64 ((j+1:Nat):Int)) (((((w3.setCell ⟨g,i*5,none⟩ (.int .i64 f0)).setCell ⟨g,i*5+1,none⟩ (.int .i64 f1)).setCell ⟨g,i*5+2,none⟩ (.string f2)).setCell ⟨g,i*5+3,none⟩ (.string f3)).setCell ⟨g,i*5+4,none⟩ (.int .i64 f4))):=ae (by
      refine ⟨i+1,j+1,d.set i ⟨f0,f1,f2,f3,f4⟩,rfl,rfl,by omega,hlt,by rw [List.length_set];exact fS,aby,?_,?_,?_⟩
      ·rw [Hts.out,List.filter_append,←lz.out,List.filter_cons_of_pos Hkp.out,List.filter_nil]
       rw [BK (x:=(⟨f0,f1,f2,f3,f4⟩:Tb)) (by simp [show i<d.length by omega])];rw [List.take_set_of_le (ay i)]
      ·have e1:=congrArg (List.drop 1) pz.out
       rw [List.drop_set_of_lt (by omega)];simpa [List.drop_drop,Nat.add_comm] using e1
      ·exact (uT.out.trans (hg3.mono (aN px uT.out.size))).grown zf (aN (aN px uT.out.size) hg3.size) (fun k hk=>by cases hk;exact aro))
     clear aby zf gI hg3 qm;go_wp2;go_roundw
     case rel=>exact bq.out
     case measure=>simp [intOf];omega
   ·obtain rfl:j=l.length:=by omega
    rw [List.take_length] at cC;obtain ⟨cur,hgr,abz,km,arp,hs2,wQ⟩:=MO hown;have abA:∀ q,q<(l.length-i)*5→(wr.cell? ⟨g,i*5+q,none⟩).isSome=true:=fun q hq=>by
     have:i*5+q<cur.size:=by rw [hs2];omega
     simp [World.cell?,hgr,this]
    obtain ⟨cs,Tj⟩:=aqZ wr g (i*5) (l.length-i) (cap-i) (by omega) abA (fun q _=>hown.frozenAt _);obtain ⟨cur',eA,hs',IM,abB⟩:=abr cs (i*5) wr cur _ _ hgr;have cS:Hid (Own B (wr.setCells g (i*5) cs) (.slice (some ⟨g,0,none⟩) i cap) (l.filter (gK ks))∧Below B w (wr.setCells g (i*5) cs)):=ae (by
     have kO:(l.filter (gK ks)).length=i:=by rw [←cC,List.length_take,fS];omega
     refine ⟨⟨IL pw _,.inr ⟨g,cap,cur',by rw [kO],abz,eA,by omega,arp,by rw [hs',hs2],?_⟩⟩,dG.grown abB (aN px dG.size) (fun k hk=>by cases hk;exact abz)⟩;rw [kO,IM (i*5) (ay _),←cC,kx,←aqJ pw d i (by omega),←kx,←wQ,List.take_take,Nat.min_eq_left (by omega)])
    have dJ:(i:Int)≤(l.length:Int):=by omega
    have arj:(0:Int)≤(i:Int):=by omega
    have hic:(l.length:Int)≤(cap:Int):=by omega
    have lj:cap-i≠0:=by omega
    clear abA eA hs' IM abB hgr hown cC hdr dG wQ hs2;generalize wr.setCells g (i*5) cs=W2 at*
    go_wp2_with fail
    go_ret;exact ⟨_,rfl,cS.out.1,cS.out.2⟩
theorem arq (w:World) (fv:Value):Calls Tryz.prog 164 #[.slice none 0 0,fv] w fun e w'=>e= .returned (.slice none 0 0)∧w'=w:=by
 go_enter Tryz.func164,Tryz.ntmps164
 go_wp2_with fail
 (with_reducible refine (abp _ _ _ _).mono ?_);rintro e w1 ⟨rfl,rfl⟩;go_wp2;go_ret;exact ⟨rfl,rfl⟩
theorem ars {B:Nat} {w:World} {v:Value} {l:List Tb} (h:Own B w v l) (hlen:l.length<1000000000) (px:B≤w.heap.size) {eb:Nat} (py:eb<B) {av dv:Value} {s n wl:Int} {ks:List Int} (hb:w.heap[eb]?=some (.cells #[av,dv,.int .u64 s,.int .i64 n,.int .i64 wl] 148 (0,0)))
  {w0:World} (hw0:Below B w0 w) (hd:Ints w0 dv ks) (Tg:w0.heap.size≤B) (qy:ks.length≤1000000000):
  Calls Tryz.prog 164 #[v,.func (.func 205) #[] #[.pointer (some ⟨eb,0,none⟩)]] w fun e w'=>∃ v',e= .returned v'∧Own B w' v' (l.filter (gK ks))∧Below B w w':=by
 rcases h.2 with ⟨rfl,h0⟩|⟨g,cap,cur,rfl,_⟩
 ·have hl:l= []:=jb h0
  subst hl;exact (arq w _).mono fun e w' ⟨he,hw⟩=>⟨_,he,World.ownsRow_nil _ _ _ _,by rw [hw];exact Below.refl _ _⟩
 ·exact ard h hlen px py hb hw0 hd Tg qy
def Er (a b:Tb):Bool:=decide (0<b.level)&&((b.level==a.level)&&(Op.bytesLess b.first.toList a.last.toList||b.first.toList==a.last.toList))
def ky:List Tb→Bool
 |a::b::r=>Er a b||ky (b::r)
 |_=>false
theorem art {l:List Tb} {k:Nat} {a b:Tb} (ha:l[k]?=some a) (hb:l[k+1]?=some b):ky (l.drop k)=(Er a b||ky (l.drop (k+1))):=by
 obtain ⟨h1,rfl⟩:=dQ.1 ha;obtain ⟨h2,rfl⟩:=dQ.1 hb;rw [List.drop_eq_getElem_cons h1,List.drop_eq_getElem_cons h2];rfl
def aru (w:World) (l:List Tb) (iv:Value) (wr:World):Prop:=
 ∃ i k:Nat,iv= .int .i64 i∧i=k+1∧(i≤l.length∨i=1)∧ky l=ky (l.drop k)∧Grow w wr
theorem arv {B:Nat} {w:World} {v:Value} {l:List Tb} (h:Own B w v l) (hlen:l.length<1000000000):
  Calls Tryz.prog 208 #[v] w fun e w'=>e= .returned (.bool (ky l))∧Grow w w':=by
 obtain ⟨va,vc,rfl,aY⟩:∃ a c,v= .slice a l.length c∧(0<l.length→∃ g,a=some ⟨g,0,none⟩∧g<w.heap.size∧∀ (j:Nat) (t:Tb),l[j]?=some t→w.cell? ⟨g,j*5,none⟩=some (.int .i64 t.file)∧w.cell? ⟨g,j*5+1,none⟩=some (.int .i64 t.level)∧w.cell? ⟨g,j*5+2,none⟩=some (.string t.first)∧w.cell? ⟨g,j*5+3,none⟩=some (.string t.last)∧w.cell? ⟨g,j*5+4,none⟩=some (.int .i64 t.size)):=by
  rcases h.2 with ⟨rfl,h0⟩|⟨g,cap,cur,rfl,hB,hg,hr⟩
  ·exact ⟨none,0,by rw [h0],fun h1=>by omega⟩
  ·exact ⟨_,cap,rfl,fun _=>⟨g,rfl,af hg,fun j t ht=>Tf h rfl ht⟩⟩
 have nk:=ae aY;have aQ:=Grow.cells (w:=w);clear h aY;go_enter Tryz.func208,Tryz.ntmps208;go_wp2
 go_loopw [3] (fun iv wr=>aru w l iv wr) (fun iv _=>l.length-(intOf iv).toNat)
 case atStart=>exact ⟨1,0,rfl,rfl,.inr rfl,rfl,Grow.refl _⟩
 case round=>
  obtain ⟨i,k,rfl,hik,hi,rU,hg⟩:=hrel;by_cases hlt:i<l.length
  ·obtain ⟨b,hb⟩:∃ b,l[i]?=some b:=⟨l[i],by simp [hlt]⟩
   obtain ⟨a,ha⟩:∃ a,l[k]?=some a:=⟨l[k],by simp [show k<l.length by omega]⟩
   obtain ⟨g,rfl,wH,hc⟩:=nk.out (by omega);obtain ⟨p0,p1,p2,p3,p4⟩:=hc i b hb;obtain ⟨q0,q1,q2,q3,q4⟩:=hc k a ha;have hstep:=art ha (by rw [←hik];exact hb);have bK:(0:Int)≤(i:Int):=by omega
   have dJ:(i:Int)<(l.length:Int):=by omega
   have jA:(0:Int)≤(k:Int):=by omega
   have kR:(k:Int)<(l.length:Int):=by omega
   have hw:IntKind.i64.wrap ((i:Int)-1)=(k:Int):=by rw [aR _ (by omega)];omega
   have eE:IntKind.i64.wrap ((i:Int)+1)=(i:Int)+1:=aR _ (by omega);have iM:=ae hstep;have BL:=ae rU;have Tk:=ae hik;have Hg:=ae hg;obtain ⟨b0,b1,b2,b3,b4⟩:=b;obtain ⟨a0,a1,a2,a3,a4⟩:=a;dsimp only at p0 p1 p2 p3 p4 q0 q1 q2 q3 q4;clear hc ha hb hstep rU hik hi;by_cases h1:0<b1
   ·have tI:decide (0<b1)=true:=by simp [h1]
    by_cases h2:b1=a1
    ·have BM:(b1==a1)=true:=by simp [h2]
     cases h3:(Op.bytesLess b2.toList a3.toList||b2.toList==a3.toList) with
     |true=>
      have cS:Hid (ky l=true):=ae (by rw [BL.out,iM.out];simp only [Er,tI,BM,h3];rfl);clear h1 h2
      go_wp2_with fail
      refine bX (fun W=>Below w.heap.size w W) [(0,false),(1,false),(2,false),(3,false),(4,false),(5,false),(6,false),(7,false),(8,false),(9,false),(10,false),(11,false),(12,false),(13,false),(14,false),(15,false),(16,false),(17,false),(18,false),(19,false),(20,false),(21,false),(22,false),(23,false),(24,false),(25,false),(26,false),(27,false),(28,false),(29,false),(30,false),(31,false),(32,false),(33,false)] (by kernel_rfl) (by kernel_rfl) (fun c a d v w h=>by cases d<;>exact h) (Hg.out.trans (Grow.drew _)) ?_;simp only [aP,nth]
      repeat (first|(refine aB (v:= ?_) (by rfl) ?_ ?_;rotate_left;(rintro W hW;go_simp;with_reducible rfl);simp only [ag,List.set])|(refine aC (by rfl) ?_;simp only [ag,List.set]))
      refine bm ?_;go_wp2;go_ret;exact ⟨by rw [cS.out];rfl,Hg.out.trans (Grow.drew _)⟩
     |false=>
      have cS:Hid (ky l=ky (l.drop (k+1))):=ae (by rw [BL.out,iM.out];simp only [Er,tI,BM,h3];rfl);clear h1 h2
      go_wp2_with fail
      refine bX (fun W=>Below w.heap.size w W) [(0,false),(1,false),(2,false),(3,false),(4,false),(5,false),(6,false),(7,false),(8,false),(9,false),(10,false),(11,false),(12,false),(13,false),(14,false),(15,false),(16,false),(17,false),(18,false),(19,false),(20,false),(21,false),(22,false),(23,false),(24,false),(25,false),(26,false),(27,false),(28,false),(29,false),(30,false),(31,false),(32,false),(33,false)] (by kernel_rfl) (by kernel_rfl) (fun c a d v w h=>by cases d<;>exact h) (Hg.out.trans (Grow.drew _)) ?_;simp only [aP,nth]
      repeat (first|(refine aB (v:= ?_) (by rfl) ?_ ?_;rotate_left;(rintro W hW;go_simp;with_reducible rfl);simp only [ag,List.set])|(refine aC (by rfl) ?_;simp only [ag,List.set]))
      refine bm ?_;go_wp2;go_roundw
      case rel=>exact ⟨i+1,k+1,rfl,by rw [Tk.out],.inl hlt,cS.out,Hg.out.trans (Grow.drew _)⟩
      case measure=>simp [intOf];omega
    ·have BM:(b1==a1)=false:=by simpa using h2
     have cS:Hid (ky l=ky (l.drop (k+1))):=ae (by rw [BL.out,iM.out];simp only [Er,tI,BM];rfl);clear h1 h2
     go_wp2_with fail
     refine bX (fun W=>Below w.heap.size w W) [(0,false),(1,false),(2,false),(3,false),(4,false),(5,false),(6,false),(7,false),(8,false),(9,false),(10,false),(11,false),(12,false),(13,false),(14,false),(15,false),(16,false),(17,false),(18,false),(19,false),(20,false),(21,false),(22,false),(23,false),(24,false),(25,false),(26,false),(27,false),(28,false),(29,false),(30,false),(31,false),(32,false),(33,false)] (by kernel_rfl) (by kernel_rfl) (fun c a d v w h=>by cases d<;>exact h) (Hg.out.trans (Grow.drew _)) ?_;simp only [aP,nth]
     repeat (first|(refine aB (v:= ?_) (by rfl) ?_ ?_;rotate_left;(rintro W hW;go_simp;with_reducible rfl);simp only [ag,List.set])|(refine aC (by rfl) ?_;simp only [ag,List.set]))
     refine bm ?_;go_wp2;go_roundw
     case rel=>exact ⟨i+1,k+1,rfl,by rw [Tk.out],.inl hlt,cS.out,Hg.out.trans (Grow.drew _)⟩
     case measure=>simp [intOf];omega
   ·have tI:decide (0<b1)=false:=by simpa using h1
    have cS:Hid (ky l=ky (l.drop (k+1))):=ae (by rw [BL.out,iM.out];simp only [Er,tI];rfl);clear h1
    go_wp2_with fail
    refine bX (fun W=>Below w.heap.size w W) [(0,false),(1,false),(2,false),(3,false),(4,false),(5,false),(6,false),(7,false),(8,false),(9,false),(10,false),(11,false),(12,false),(13,false),(14,false),(15,false),(16,false),(17,false),(18,false),(19,false),(20,false),(21,false),(22,false),(23,false),(24,false),(25,false),(26,false),(27,false),(28,false),(29,false),(30,false),(31,false),(32,false),(33,false)] (by kernel_rfl) (by kernel_rfl) (fun c a d v w h=>by cases d<;>exact h) (Hg.out.trans (Grow.drew _)) ?_;simp only [aP,nth]
    repeat (first|(refine aB (v:= ?_) (by rfl) ?_ ?_;rotate_left;(rintro W hW;go_simp;with_reducible rfl);simp only [ag,List.set])|(refine aC (by rfl) ?_;simp only [ag,List.set]))
    refine bm ?_;go_wp2;go_roundw
    case rel=>exact ⟨i+1,k+1,rfl,by rw [Tk.out],.inl hlt,cS.out,Hg.out.trans (Grow.drew _)⟩
    case measure=>simp [intOf];omega
  ·have cS:Hid (ky l=false):=ae (by
    rw [rU];have:(l.drop k).length≤1:=by rw [List.length_drop];omega
    cases hd:l.drop k with
    |nil=>rfl
    |cons a r=>
     rw [hd] at this;cases r with
     |nil=>rfl
     |cons b r=>simp at this)
   have hle:(l.length:Int)≤(i:Int):=by omega
   clear rU hik hi;go_wp2;go_ret;exact ⟨by rw [cS.out];rfl,hg⟩
theorem pA {B:Nat} {w:World} {v:Value} {n:Nat} {xs:List Value} (h:w.ownsRow B 101 5 v n xs) {b i:Nat} {arr:Array Value} {t:TypeId} {f:Nat×Nat} (hb:w.heap[b]?=some (.cells arr t f)) (ht:t≠101) {x:Value}:(w.setCell ⟨b,i,none⟩ x).ownsRow B 101 5 v n xs:=by
 refine ⟨h.1,?_⟩;rcases h.2 with h1|⟨g,cap,cur,h1,h2,h3,h4⟩
 ·exact .inl h1
 ·refine .inr ⟨g,cap,cur,h1,h2,?_,h4⟩
  rw [aK _ _ _ _ (fun e=> ?_)]
  ·exact h3
  ·rw [e] at h3
   dsimp only at h3;rw [hb] at h3;cases h3;exact ht rfl
abbrev bz (v:Value) (s n wl:Int):Array Value:=#[v,.int .u64 s,.int .i64 n,.int .i64 wl]
theorem bZ {w:World} {b:Nat} {x0 x1 x2 x3:Value} {t:TypeId} (h:w.heap[b]?=some (.cells #[x0,x1,x2,x3] t (0,0))):
  w.cell? ⟨b,0,none⟩=some x0∧w.cell? ⟨b,1,none⟩=some x1∧w.cell? ⟨b,2,none⟩=some x2∧w.cell? ⟨b,3,none⟩=some x3:=by
 simp [World.cell?,h]
theorem iV {B:Nat} {w:World} {v:Value} {l:List Tb} (h:Own B w v l):∃ a c,v= .slice a l.length c:=by
 rcases h.2 with ⟨rfl,h0⟩|⟨g,cap,cur,rfl,_⟩
 ·exact ⟨none,0,by rw [h0]⟩
 ·exact ⟨_,_,rfl⟩
theorem abC {B:Nat} {w:World} {v:Value} {l:List Tb} (h:Own B w v l) (hlen:l.length<1000000000) (s n wl:Int):
  Calls Tryz.prog 67 #[.agg (bz v s n wl)] w fun e w'=>∃ v',e= .returned (.agg (bz v' s n wl))∧Own w.heap.size w' v' l∧Grow w w':=by
 have ai:Grow w ((w.alloc (.cells (bz v s n wl) 85)).alloc (.cells (bz (.slice none 0 0) 0 0 0) 85)):=by (repeat (first|exact Below.refl _ _|assumption|refine Below.drew ?_|refine cp ?_|refine Below.setCell ?_ (by first|omega|(simp<;>omega)) _|refine Below.alloc ?_ (by first|omega|(simp<;>omega)) _))
 have hcon:=uJ (ek h ai) hlen;have hb1:((w.alloc (.cells (bz v s n wl) 85)).alloc (.cells (bz (.slice none 0 0) 0 0 0) 85)).heap[w.heap.size]?=some (.cells (bz v s n wl) 85 (0,0)):=(heap_alloc_old _ _ (by simp)).trans (aw _ _);have hb2:((w.alloc (.cells (bz v s n wl) 85)).alloc (.cells (bz (.slice none 0 0) 0 0 0) 85)).heap[w.heap.size+1]?=some (.cells (bz (.slice none 0 0) 0 0 0) 85 (0,0)):=by
  have:=aw (w.alloc (.cells (bz v s n wl) 85)) (.cells (bz (.slice none 0 0) 0 0 0) 85);simpa using this
 obtain ⟨va,vc,rfl⟩:=iV h;obtain ⟨c0,c1,c2,c3⟩:=bZ hb1;have l1:=af hb1;have l2:=af hb2;have tA:=ae hcon;have uT:=ae hb1;have pB:=ae hb2;have bT:=ae ai;clear hcon hb1 hb2 ai h;go_enter Tryz.func67,Tryz.ntmps67
 go_wp2_with fail
 generalize (w.alloc (.cells (bz (.slice va l.length vc) s n wl) 85)).alloc (.cells (bz (.slice none 0 0) 0 0 0) 85)=W1 at*;(with_reducible refine tA.out.mono ?_);rintro e w2 ⟨v',rfl,eU,hg2⟩;obtain ⟨rL,rM,rfl⟩:=iV eU;have MP:=hg2.heap uT.out;have MQ:=hg2.heap pB.out;clear c0 c1 c2 c3;obtain ⟨c0,c1,c2,c3⟩:=bZ MP;obtain ⟨d0,d1,d2,d3⟩:=bZ MQ;have f0:∀ i,w2.frozen? ⟨w.heap.size,i,none⟩=false:=fun i=>by simp [World.frozen?,MP]
 have f1:∀ i,w2.frozen? ⟨w.heap.size+1,i,none⟩=false:=fun i=>by simp [World.frozen?,MQ]
 have l3:=af MP;have l4:=af MQ;have Ho2:=ae eU;have eD:=ae hg2;clear MP MQ eU hg2;go_wp2;refine bodyPost_ret (v:= .agg (bz (.slice rL l.length rM) s n wl)) (by simp [results,Tryz.results67,go_sem, *]) rfl ⟨_,rfl,?_,?_⟩
 ·have k1:=eD.out.heap uT.out
  have k2:=eD.out.heap pB.out;have hne:w.heap.size+1≠w.heap.size:=by omega
  have k3:∀ x,(w2.setCell ⟨w.heap.size,0,none⟩ x).heap[w.heap.size+1]?=_:=fun x=>(aK _ _ _ _ hne).trans k2
  refine pA (pA (pA (pA (pA (qx Ho2.out bT.out.size) k1 (by decide)) (k3 _) (by decide)) (aI (k3 _) _ _) (by decide)) (aI (aI (k3 _) _ _) _ _) (by decide)) (aI (aI (aI (k3 _) _ _) _ _) _ _) (by decide)
 ·have gh:Below w.heap.size w w2:=bT.out.trans eD.out
  (repeat (first|exact Below.refl _ _|assumption|refine Below.drew ?_|refine cp ?_|refine Below.setCell ?_ (by first|omega|(simp<;>omega)) _|refine Below.alloc ?_ (by first|omega|(simp<;>omega)) _))
end Go.Proofs.YtoolkdapflaeeaaGreatDoor.Mn
