/- Helpers. -/
import Derived.Test.YtoolkdapflaeeaaGreatDoorW07
import Derived.Test.YtoolkdapflaeeaaGreatDoorW00
set_option maxRecDepth 100000
set_option maxHeartbeats 16000000
namespace Go.Proofs.YtoolkdapflaeeaaGreatDoor
open Go.RowKit Go.Gl Go.aH Mn
abbrev zu (B:Nat) (w:World) (v:Value) (l:List Int):Prop:=Go.Gl.Row1 3 B w v (l.map (fun n=>Value.int .i64 n))
structure fh (w0 W:World) (xb rb ob:Nat) (l:List UInt8) (tv dv:Value) (tl:List Tb) (dl:List Int):Prop where
 eH:jG w0 W rb l
 box:W.heap[xb]?=some (.cells #[.pointer (some ⟨rb,0,none⟩)] 291 (0,0))
 out:W.heap[ob]?=some (.cells (cV tv dv 0 0 0) 148 (0,0))
 tabs:Own w0.heap.size W tv tl
 drops:zu w0.heap.size W dv dl
 nx:w0.heap.size≤xb
 no:w0.heap.size≤ob
 res:W.heap[w0.heap.size]?=some (.cells (cV (.slice none 0 0) (.slice none 0 0) 0 0 0) 148 (0,0))
 nq:w0.heap.size≠ob
theorem fh.cell {w0 W:World} {xb rb ob:Nat} {l:List UInt8} {tv dv:Value} {tl:List Tb} {dl:List Int} (h:fh w0 W xb rb ob l tv dv tl dl):W.cell? ⟨xb,0,none⟩=some (.pointer (some ⟨rb,0,none⟩))∧xb<W.heap.size:=
 ⟨by simp [World.cell?,h.box],af h.box⟩
theorem ny {W:World} {b c:Nat} {arr acm:Array Value} {t t':TypeId} {f f':Nat×Nat} (h:W.heap[b]?=some (.cells arr t f)) (h':W.heap[c]?=some (.cells acm t' f')) (hn:t≠t'):b≠c:=fun e=>by
 subst e;rw [h] at h';cases h';exact hn rfl
theorem uW {B:Nat} {w w':World} {v:Value} {l:List Tb} (h:Own B w v l) (hk:∀ g,v.ownBlock=some g→w'.heap[g]?=w.heap[g]?):Own B w' v l:=by
 refine ⟨h.1,?_⟩;rcases h.2 with h1|⟨g,cap,cur,h1,h2,h3,h4⟩
 ·exact .inl h1
 ·exact .inr ⟨g,cap,cur,h1,h2,by rw [hk g (by rw [h1];rfl)];exact h3,h4⟩
theorem qC {B:Nat} {w:World} {v:Value} {l:List Tb} (h:Own B w v l) {g:Nat} (hg:v.ownBlock=some g):∃ cur,w.heap[g]?=some (.cells cur 101 (0,0))∧B≤g:=by
 rcases h.2 with ⟨rfl,_⟩|⟨g',cap,cur,rfl,h2,h3,h4⟩
 ·cases hg
 ·cases hg;exact ⟨cur,h3,h2⟩
theorem fh.step {w0 W W':World} {xb rb ob:Nat} {l l':List UInt8} {tv dv:Value} {tl:List Tb} {dl:List Int} (h:fh w0 W xb rb ob l tv dv tl dl) (hr:jG w0 W' rb l') (hG:GX rb W W'):fh w0 W' xb rb ob l' tv dv tl dl:=by
 obtain ⟨bv,h1,_⟩:=h.eH.cell;have ne:∀ {b:Nat} {arr:Array Value} {t:TypeId} {f:Nat×Nat},W.heap[b]?=some (.cells arr t f)→t≠293→b≠rb:=fun hb ht e=>by
  subst e;rw [h1] at hb;cases hb;exact ht rfl
 refine ⟨hr,hG.heap h.box (ne h.box (by decide)),hG.heap h.out (ne h.out (by decide)),uW h.tabs fun g hg=> ?_,h.drops.keep fun g hg=> ?_,h.nx,h.no,hG.heap h.res (ne h.res (by decide)),h.nq⟩
 ·obtain ⟨cur,hc,_⟩:=qC h.tabs hg
  rw [hG.heap hc (ne hc (by decide)),hc]
 ·obtain ⟨cur,hc⟩:=h.drops.block hg
  rw [hG.heap hc (ne hc (by decide)),hc]
theorem fh.grow {w0 W W':World} {xb rb ob:Nat} {l:List UInt8} {tv dv:Value} {tl:List Tb} {dl:List Int} (h:fh w0 W xb rb ob l tv dv tl dl) (hg:Grow W W'):fh w0 W' xb rb ob l tv dv tl dl:=
 h.step (h.eH.mz hg) (GX.of hg)
def lN (W W':World):Prop:=∀ (b:Nat) (cs:Array Value),W.heap[b]?=some (.cells cs 101 (0,0))→cs.size=5→∃ cs':Array Value,W'.heap[b]?=some (.cells cs' 101 (0,0))∧cs'.size=5
theorem lN.refl (W:World):lN W W:=fun _ cs h hs=>⟨cs,h,hs⟩
theorem lN.grow {W W':World} (h:Grow W W'):lN W W':=fun _ cs hb hs=>⟨cs,h.heap hb,hs⟩
theorem lN.gx {W W':World} {rb:Nat} {arr:Array Value} {f:Nat×Nat} (h1:W.heap[rb]?=some (.cells arr 293 f)) (h:GX rb W W'):lN W W':=fun b cs hb hs=>
 ⟨cs,h.heap hb (fun e=>by subst e;rw [h1] at hb;cases hb),hs⟩
theorem acn {cs:Array Value} (hs:cs.size=5):∃ x0 x1 x2 x3 x4,cs=#[x0,x1,x2,x3,x4]:=by
 obtain ⟨l⟩:=cs
 match l,hs with
 | [x0,x1,x2,x3,x4],_=>exact ⟨_,_,_,_,_,rfl⟩
abbrev asb (W:World) (b:Nat) (y0 y1 y2 y3 y4:Value):World:=((((W.setCell ⟨b,0,none⟩ y0).setCell ⟨b,1,none⟩ y1).setCell ⟨b,2,none⟩ y2).setCell ⟨b,3,none⟩ y3).setCell ⟨b,4,none⟩ y4
theorem asc {W:World} {b:Nat} {cs:Array Value} (h:W.heap[b]?=some (.cells cs 101 (0,0))) (hs:cs.size=5) (y0 y1 y2 y3 y4:Value):
  (((((W.setCell ⟨b,0,none⟩ y0).setCell ⟨b,1,none⟩ y1).setCell ⟨b,2,none⟩ y2).setCell ⟨b,3,none⟩ y3).setCell ⟨b,4,none⟩ y4).heap[b]?=some (.cells #[y0,y1,y2,y3,y4] 101 (0,0)):=by
 obtain ⟨l⟩:=cs
 match l,hs with
 | [x0,x1,x2,x3,x4],_=>exact Go.Gl.aI (Go.Gl.aI (Go.Gl.aI (Go.Gl.aI (Go.Gl.aI h 0 y0) 1 y1) 2 y2) 3 y3) 4 y4
theorem Ty {W:World} {b c:Nat} (h:c≠b) (y0 y1 y2 y3 y4:Value):
  (((((W.setCell ⟨b,0,none⟩ y0).setCell ⟨b,1,none⟩ y1).setCell ⟨b,2,none⟩ y2).setCell ⟨b,3,none⟩ y3).setCell ⟨b,4,none⟩ y4).heap[c]?=W.heap[c]?:=by
 rw [aK _ _ _ _ h,aK _ _ _ _ h,aK _ _ _ _ h,aK _ _ _ _ h,aK _ _ _ _ h]
theorem fh.tab {w0 W W':World} {xb rb ob:Nat} {l:List UInt8} {tv dv:Value} {tl:List Tb} {dl:List Int} (h:fh w0 W xb rb ob l tv dv tl dl) {tb:Nat} {cs:Array Value} {f:Nat×Nat} (hb:W.heap[tb]?=some (.cells cs 101 f)) (hn:w0.heap.size≤tb) (ho:tv.ownBlock≠some tb)
  (hg:w0.heap.size≤W'.heap.size) (rS:W'.os=w0.os∧W'.tape=w0.tape∧W'.output=w0.output) (hk:∀ c,c≠tb→W'.heap[c]?=W.heap[c]?):fh w0 W' xb rb ob l tv dv tl dl:=by
 obtain ⟨bv,h1,h2⟩:=h.eH.cell;have ne:∀ {b:Nat} {arr:Array Value} {t:TypeId} {f:Nat×Nat},W.heap[b]?=some (.cells arr t f)→t≠101→b≠tb:=fun h1 ht e=>by
  subst e;rw [hb] at h1;cases h1;exact ht rfl
 refine ⟨⟨⟨bv,by rw [hk _ (ne h1 (by decide))];exact h1,h2⟩,⟨rS.1,rS.2.1,rS.2.2,hg,fun b hbl=>by rw [hk b (by omega)];exact h.eH.grow.block b hbl⟩,h.eH.new⟩,by rw [hk _ (ne h.box (by decide))];exact h.box,by rw [hk _ (ne h.out (by decide))];exact h.out,uW h.tabs fun g eA=>hk g (fun e=>ho (by rw [eA,e])),h.drops.keep fun g eA=> ?_,h.nx,h.no,by rw [hk _ (ne h.res (by decide))];exact h.res,h.nq⟩;obtain ⟨cur,hc⟩:=h.drops.block eA;exact hk g (ne hc (by decide))
theorem ase {B:Nat} {w:World} {v:Value} {l:List Tb} (h:Own B w v l) (hB:B≤w.heap.size) (hl:l.length≤70000) (f0 f1:Int) (f2 f3:ByteArray) (f4:Int):
  ∃ g cap w',(Builtin.append_ #[83,83] 83 #[v,.slice (some ⟨w.heap.size,0,none⟩) 1 1]).run Tryz.prog (w.alloc (.cells #[.int .i64 f0,.int .i64 f1,.string f2,.string f3,.int .i64 f4] 101))= .ok (.slice (some ⟨g,0,none⟩) (l.length+1) cap) w'∧
   Own B w' (.slice (some ⟨g,0,none⟩) (l.length+1) cap) (l++ [⟨f0,f1,f2,f3,f4⟩])∧w.grownBy w' v.ownBlock:=by
 obtain ⟨i0,bK,hz0,hz1,hz2⟩:=info_parts Tryz.Td;have dV:(w.alloc (.cells #[.int .i64 f0,.int .i64 f1,.string f2,.string f3,.int .i64 f4] 101)).heap[w.heap.size]?=some (.cells #[.int .i64 f0,.int .i64 f1,.string f2,.string f3,.int .i64 f4] 101 (0,0)):=aw _ _;obtain ⟨g,cap,w',hrun,hown,hgr,_,_⟩:=run_append_lies (P:=Tryz.prog) (w.alloc (.cells #[.int .i64 f0,.int .i64 f1,.string f2,.string f3,.int .i64 f4] 101)) 83 83 B 101 i0 _ 5 56 Tryz.underlying83 bK hz0 hz1 hz2 rfl (by decide) _ _ _ (ek h (Grow.alloc _ _))
  ⟨w.heap.size,0,none⟩ 1 1 (ig ⟨f0,f1,f2,f3,f4⟩) rfl (fun j u hu=>World.news_of_block dV j u (by simpa [ig] using hu)) (MN _) (by decide) (by unfold maxLen;omega) (by omega) (by simp;omega) _ rfl
 refine ⟨g,cap,w',hrun,?_,?_⟩
 ·have wT:kx (l++ [(⟨f0,f1,f2,f3,f4⟩:Tb)])=kx l++ig ⟨f0,f1,f2,f3,f4⟩:=by simp [kx]
  show w'.ownsRow B 101 5 _ (l++ [(⟨f0,f1,f2,f3,f4⟩:Tb)]).length _;rw [List.length_append,wT];exact hown
 ·obtain ⟨a,b,c,d,e⟩:=hgr
  exact ⟨a,b,c,aN (by simp) d,fun k hk hn=>by rw [e k (by simp;omega) hn];exact heap_alloc_old _ _ hk⟩
theorem fh.more {w0 W W':World} {xb rb ob:Nat} {l:List UInt8} {tv dv v':Value} {tl tl':List Tb} {dl:List Int} (h:fh w0 W xb rb ob l tv dv tl dl) (hg:W.grownBy W' tv.ownBlock) (ho:Own w0.heap.size W' v' tl'):fh w0 (W'.setCell ⟨ob,0,none⟩ v') xb rb ob l v' dv tl' dl:=by
 obtain ⟨bv,h1,h2⟩:=h.eH.cell;obtain ⟨ga,gb,gc,gd,ge⟩:=hg;have keep:∀ {b:Nat} {arr:Array Value} {t:TypeId} {f:Nat×Nat},W.heap[b]?=some (.cells arr t f)→t≠101→W'.heap[b]?=some (.cells arr t f):=fun {b arr t f} hb ht=>by
  rw [ge b (af hb) (fun e=> ?_)]
  ·exact hb
  ·obtain ⟨cur,hc,_⟩:=qC h.tabs e.symm
   rw [hb] at hc;cases hc;exact ht rfl
 have iW:=keep h.out (by decide);have ne:∀ {b:Nat} {arr:Array Value} {t:TypeId} {f:Nat×Nat},W'.heap[b]?=some (.cells arr t f)→t≠148→(W'.setCell ⟨ob,0,none⟩ v').heap[b]?=some (.cells arr t f):=fun {b arr t f} hb ht=>by
  rw [aK _ _ _ _ (fun e=> ?_)]
  ·exact hb
  ·have e':b=ob:=e
   subst e';rw [hb] at iW;cases iW;exact ht rfl
 have hgr:=h.eH.grow;refine ⟨⟨⟨bv,ne (keep h1 (by decide)) (by decide),h2⟩,⟨ga.trans hgr.os,gb.trans hgr.tape,gc.trans hgr.output,by simp;exact aN hgr.size gd,fun b hb=> ?_⟩,h.eH.new⟩,ne (keep h.box (by decide)) (by decide),Go.Gl.aI iW 0 v',uW ho fun g eA=> ?_,h.drops.keep fun g eA=> ?_,h.nx,h.no,(aK _ _ _ _ (fun e=>h.nq e)).trans (keep h.res (by decide)),h.nq⟩
 ·rw [aK _ _ _ _ (fun e=>by have e':b=ob:=e;have:=h.no;omega),ge b (cj hb hgr.size) (fun e=>by obtain ⟨cur,_,hB⟩:=qC h.tabs e.symm;omega)]
  exact hgr.block b hb
 ·obtain ⟨cur,hc,_⟩:=qC ho eA
  rw [ne hc (by decide),hc]
 ·obtain ⟨cur,hc⟩:=h.drops.block eA
  rw [ne (keep hc (by decide)) (by decide),hc]
def BR (B rb:Nat) (own:Option Nat) (t:Tb) (j:Nat) (v:Value) (W:World):Prop:=
 match j with
 |0=>v= .pointer (some ⟨rb,0,none⟩)
 |1=>v= .int .i64 t.file
 |2=>v= .pointer (some ⟨rb,0,none⟩)
 |3=>v= .int .i64 t.level
 |4=>v= .pointer (some ⟨rb,0,none⟩)
 |5=>v= .string t.first
 |6=>v= .pointer (some ⟨rb,0,none⟩)
 |7=>v= .string t.last
 |8=>v= .agg #[.int .i64 t.file,.int .i64 t.level,.string t.first,.string t.last,.int .i64 0]
 |9=>∃ (tb:Nat) (cs:Array Value),v= .pointer (some ⟨tb,0,none⟩)∧B≤tb∧own≠some tb∧W.heap[tb]?=some (.cells cs 101 (0,0))∧cs.size=5
 |_=>True
theorem BR.keep {B rb:Nat} {own:Option Nat} {t:Tb}:∀ (j:Nat) (v:Value) (W W':World),lN W W'→BR B rb own t j v W→BR B rb own t j v W':=by
 intro j v W W' hR h;unfold BR at h
 split at h<;>first
  |exact h
  |(obtain ⟨tb,cs,h1,h2,h3,h4,h5⟩:=h;obtain ⟨cs',h6,h7⟩:=hR _ _ h4 h5;exact ⟨tb,cs',h1,h2,h3,h6,h7⟩)
  |(unfold BR;split<;>first|trivial|(exfalso;simp_all))
def stA (r0 r1 r2 r3 r4:List UInt8) (l:Array Bool):List UInt8:=
 if l.getD 7 false=true then r4 else if l.getD 5 false=true then r3 else if l.getD 3 false=true then r2 else if l.getD 1 false=true then r1 else r0
theorem BS {r0 r1 r2 r3 r4:List UInt8} {l:Array Bool} (i:Nat) (h1:i≠1) (h3:i≠3) (h5:i≠5) (h7:i≠7):stA r0 r1 r2 r3 r4 (l.setIfInBounds i true)=stA r0 r1 r2 r3 r4 l:=by
 unfold stA;rw [getD_set_ne false h1,getD_set_ne false h3,getD_set_ne false h5,getD_set_ne false h7]
theorem Nc {l:Array Bool} {i:Nat} (hi:i<l.size) (h:l.getD i true=false):l.getD i false=false:=by
 simp only [Array.getD,hi,dif_pos] at h ⊢;exact h
def qD (w0:World) (xb rb ob:Nat) (r0 r1 r2 r3 r4:List UInt8) (tv dv:Value) (tl:List Tb) (dl:List Int) (t:Tb) (l:Array Bool) (a:Act) (W:World):Prop:=
 fh w0 W xb rb ob (stA r0 r1 r2 r3 r4 l) tv dv tl dl∧
 (l.getD 10 false=true→∃ tb:Nat,a.tmps[2]?=some (.pointer (some ⟨tb,0,none⟩))∧w0.heap.size≤tb∧tv.ownBlock≠some tb∧W.heap[tb]?=some (.cells #[.int .i64 t.file,.int .i64 t.level,.string t.first,.string t.last,.int .i64 0] 101 (0,0)))
theorem qD.jR {w0:World} {xb rb ob:Nat} {r0 r1 r2 r3 r4 l':List UInt8} {tv dv:Value} {tl:List Tb} {dl:List Int} {t:Tb} {l:Array Bool} {a':Act} {W':World} (i:Nat) (hi:i≠10) (cW:l.getD 10 false=false)
  (hs:stA r0 r1 r2 r3 r4 (l.setIfInBounds i true)=l') (h:fh w0 W' xb rb ob l' tv dv tl dl):qD w0 xb rb ob r0 r1 r2 r3 r4 tv dv tl dl t (l.setIfInBounds i true) a' W':=
 ⟨by rw [hs];exact h,fun h=>by rw [getD_set_ne false hi,cW] at h;cases h⟩
theorem asf {w0 W:World} {xb rb ob:Nat} {r:List UInt8} {tv dv:Value} {tl:List Tb} {dl:List Int} {t:Tb} (ht:Tp t) (h:fh w0 W xb rb ob (il t++r) tv dv tl dl) (hr:r.length≤800000000000) (iz:tl.length≤70000):
  Calls Tryz.prog 185 #[.pointer (some ⟨xb,0,none⟩),.pointer (some ⟨ob,0,none⟩)] W fun e w'=>e= .returned (.tuple #[])∧∃ cg,fh w0 w' xb rb ob r cg dv (tl++ [t]) dl:=by
 obtain ⟨r4,hr4⟩:∃ x,x=aA t.size.toNat++r:=⟨_,rfl⟩
 obtain ⟨r3,hr3⟩:∃ x,x=aU t.last.data.toList++r4:=⟨_,rfl⟩
 obtain ⟨r2,hr2⟩:∃ x,x=aU t.first.data.toList++r3:=⟨_,rfl⟩
 obtain ⟨r1,hr1⟩:∃ x,x=aA t.level.toNat++r2:=⟨_,rfl⟩
 obtain ⟨r0,Tz⟩:∃ x,x=aA t.file.toNat++r1:=⟨_,rfl⟩
 have he:il t++r=r0:=by rw [Tz,hr1,hr2,hr3,hr4];simp [il,List.append_assoc]
 rw [he] at h;have f1:t.first.data.toList.length≤67108864:=by rw [Array.length_toList];exact ht.first
 have f2:t.last.data.toList.length≤67108864:=by rw [Array.length_toList];exact ht.last
 have b5:=cf t.size.toNat;have b4:=cf t.last.data.toList.length;have b3:=cf t.first.data.toList.length;have b2:=cf t.level.toNat;have l4:r4.length≤900000000000:=by rw [hr4];simp only [List.length_append];omega
 have l3:r3.length≤900000000000:=by rw [hr3,hr4];simp only [List.length_append,aU];omega
 have l2:r2.length≤900000000000:=by rw [hr2,hr3,hr4];simp only [List.length_append,aU];omega
 have l1:r1.length≤900000000000:=by rw [hr1,hr2,hr3,hr4];simp only [List.length_append,aU];omega
 obtain ⟨c0,lx⟩:=h.cell;have H:=ae h;have Ht:=ae ht;have Hr0:=ae Tz;have IZ:=ae hr1;have pE:=ae hr2;have BU:=ae hr3;have zw:=ae hr4;clear h ht he Tz hr1 hr2 hr3 hr4 b2 b3 b4 b5;go_enter Tryz.func185,Tryz.ntmps185
 go_wp2_with fail
 go_cut [2] from 3 to 11 (fun pv wx=>∃ tb:Nat,pv= .pointer (some ⟨tb,0,none⟩)∧w0.heap.size≤tb∧tv.ownBlock≠some tb∧wx.heap[tb]?=some (.cells #[.int .i64 t.file,.int .i64 t.level,.string t.first,.string t.last,.int .i64 0] 101 (0,0))∧fh w0 wx xb rb ob r4 tv dv tl dl)
 case first=>
  rename_i J K hJ hK
  refine uD (fun a0 ha0=> ?_);have F0:a0.tmps[0]?=some (.pointer (some ⟨xb,0,none⟩)):=by rw [ha0];rfl
  have hsz:a0.tmps.size=21:=by rw [ha0];rfl
  have tj:Hid (∀ a1 wx (tb:Nat),qg [3,4,5,6,7,8,9,10,11,2] a0 a1→a1.tmps[2]?=some (.pointer (some ⟨tb,0,none⟩))→w0.heap.size≤tb→tv.ownBlock≠some tb→wx.heap[tb]?=some (.cells #[.int .i64 t.file,.int .i64 t.level,.string t.first,.string t.last,.int .i64 0] 101 (0,0))→fh w0 wx xb rb ob r4 tv dv tl dl→K a1 wx):=ae (fun a1 wx tb ha h1 h2 h3 h4 h5=>by
   refine hK _ _ (hJ _ _ ?_);refine ⟨a1.tmps.getD 2 undef,a1.tmps.getD 3 undef,a1.tmps.getD 4 undef,a1.tmps.getD 5 undef,a1.tmps.getD 6 undef,a1.tmps.getD 7 undef,a1.tmps.getD 8 undef,a1.tmps.getD 9 undef,a1.tmps.getD 10 undef,a1.tmps.getD 11 undef,⟨tb,by rw [fI,h1];rfl,h2,h3,h4,h5⟩,ha.fill.trans ?_⟩;subst ha0;kernel_rfl)
  clear ha0 hK hJ;refine uG (BR w0.heap.size rb tv.ownBlock t) (qD w0 xb rb ob r0 r1 r2 r3 r4 tv dv tl dl t) lN [3,4,5,6,7,8,9,10,11,2] (by kernel_rfl) (by kernel_rfl) (by rw [hsz];rfl) BR.keep ⟨by rw [show stA r0 r1 r2 r3 r4 (Array.replicate _ false)=r0 from rfl];exact H.out.grow (Grow.drew W),fun h=>by cases h⟩ ?_ (fun a1 W1 hf=> ?_);rotate_left
  ·obtain ⟨tb,h1,h2,h3,h4⟩:=hf.world.2 (by rfl)
   exact tj.out a1 W1 tb hf.alike h1 h2 h3 h4 (by have:=hf.world.1;rw [show stA r0 r1 r2 r3 r4 (Array.replicate _ true)=r4 from rfl] at this;exact this)
  clear tj;refine ⟨?_,?_,?_,?_,?_,?_,?_,?_,?_,?_,?_,True.intro⟩
  ·intro listed a W hf ar ak
   have hs1:a.tmps.size=21:=hf.alike.size.trans hsz;have hD:=hf.world.1;have cW:=dZ hf.closed (n:=8) (e:=10) (i:=0) (by kernel_rfl) ar;obtain ⟨k0,lk⟩:=hD.cell;have G0:a.tmps[0]'(by rw [hs1];decide)= .pointer (some ⟨xb,0,none⟩):=ax ((hf.alike.same 0 (by decide)).trans F0) _;refine aX rfl (by rfl) (fun K' hK'=> ?_);go_simp;exact hK' _ _ ⟨_,rfl,(fun _ _=>rfl),lN.refl _,qD.jR 0 (by decide) cW (BS 0 (by decide) (by decide) (by decide) (by decide)) hD⟩
  ·intro listed a W hf ar ak
   have hs1:a.tmps.size=21:=hf.alike.size.trans hsz;have hD:=hf.world.1;have cW:=dZ hf.closed (n:=8) (e:=10) (i:=1) (by kernel_rfl) ar;obtain ⟨v0,s0,q0⟩:=hf.slot 0 3 rfl (aJ ak 0 (by kernel_rfl));have kZ:v0=_:=q0;subst kZ;have G3:=ax s0 (by rw [hs1];decide);have n3:=dZ hf.closed (n:=8) (e:=3) (i:=1) (by kernel_rfl) ar;have n5:=dZ hf.closed (n:=8) (e:=5) (i:=1) (by kernel_rfl) ar;have n7:=dZ hf.closed (n:=8) (e:=7) (i:=1) (by kernel_rfl) ar;have qE:listed.size=11:=hf.size;have ni:=Nc (by rw [qE];decide) ar;have hst:stA r0 r1 r2 r3 r4 listed=r0:=by unfold stA;simp [ni,n3,n5,n7]
   rw [hst] at hD;have hs2:stA r0 r1 r2 r3 r4 (listed.setIfInBounds 1 true)=r1:=by
    unfold stA;rw [mO (k:=1) (by rw [qE];decide),getD_set_ne false (show 1≠3 by decide),getD_set_ne false (show 1≠5 by decide),getD_set_ne false (show 1≠7 by decide)];simp [n3,n5,n7]
   obtain ⟨bv,uX,_⟩:=hD.eH.cell;refine jc rfl (by rfl) (by go_simp) (Ex (w0:=w0) (W:=W) (rb:=rb) (by have:=hD.eH;rw [Hr0.out] at this;exact this) (by have:=Ht.out.file.2;omega) l1) ?_;rintro e W2 ⟨rfl,hR,hG⟩;exact ⟨_,rfl,_,rfl,(fun _ _=>by show Value.int .i64 _=Value.int .i64 _;rw [Int.toNat_of_nonneg Ht.out.file.1]),lN.gx uX hG,qD.jR 1 (by decide) cW hs2 (hD.step hR hG)⟩
  ·intro listed a W hf ar ak
   have hs1:a.tmps.size=21:=hf.alike.size.trans hsz;have hD:=hf.world.1;have cW:=dZ hf.closed (n:=8) (e:=10) (i:=2) (by kernel_rfl) ar;obtain ⟨k0,lk⟩:=hD.cell;have G0:a.tmps[0]'(by rw [hs1];decide)= .pointer (some ⟨xb,0,none⟩):=ax ((hf.alike.same 0 (by decide)).trans F0) _;refine aX rfl (by rfl) (fun K' hK'=> ?_);go_simp;exact hK' _ _ ⟨_,rfl,(fun _ _=>rfl),lN.refl _,qD.jR 2 (by decide) cW (BS 2 (by decide) (by decide) (by decide) (by decide)) hD⟩
  ·intro listed a W hf ar ak
   have hs1:a.tmps.size=21:=hf.alike.size.trans hsz;have hD:=hf.world.1;have cW:=dZ hf.closed (n:=8) (e:=10) (i:=3) (by kernel_rfl) ar;obtain ⟨v2,s2,q2⟩:=hf.slot 2 5 rfl (aJ ak 2 (by kernel_rfl));have od:v2=_:=q2;subst od;have G5:=ax s2 (by rw [hs1];decide);have n5:=dZ hf.closed (n:=8) (e:=5) (i:=3) (by kernel_rfl) ar;have n7:=dZ hf.closed (n:=8) (e:=7) (i:=3) (by kernel_rfl) ar;have y1:=aJ ak 1 (by kernel_rfl);have qE:listed.size=11:=hf.size;have ni:=Nc (by rw [qE];decide) ar;have hst:stA r0 r1 r2 r3 r4 listed=r1:=by unfold stA;simp [ni,n5,n7,y1]
   rw [hst] at hD;have hs2:stA r0 r1 r2 r3 r4 (listed.setIfInBounds 3 true)=r2:=by
    unfold stA;rw [mO (k:=3) (by rw [qE];decide),getD_set_ne false (show 3≠5 by decide),getD_set_ne false (show 3≠7 by decide)];simp [n5,n7]
   obtain ⟨bv,uX,_⟩:=hD.eH.cell;refine jc rfl (by rfl) (by go_simp) (Ex (w0:=w0) (W:=W) (rb:=rb) (by have:=hD.eH;rw [IZ.out] at this;exact this) (by have:=Ht.out.level.2;omega) l2) ?_;rintro e W2 ⟨rfl,hR,hG⟩;exact ⟨_,rfl,_,rfl,(fun _ _=>by show Value.int .i64 _=Value.int .i64 _;rw [Int.toNat_of_nonneg Ht.out.level.1]),lN.gx uX hG,qD.jR 3 (by decide) cW hs2 (hD.step hR hG)⟩
  ·intro listed a W hf ar ak
   have hs1:a.tmps.size=21:=hf.alike.size.trans hsz;have hD:=hf.world.1;have cW:=dZ hf.closed (n:=8) (e:=10) (i:=4) (by kernel_rfl) ar;obtain ⟨k0,lk⟩:=hD.cell;have G0:a.tmps[0]'(by rw [hs1];decide)= .pointer (some ⟨xb,0,none⟩):=ax ((hf.alike.same 0 (by decide)).trans F0) _;refine aX rfl (by rfl) (fun K' hK'=> ?_);go_simp;exact hK' _ _ ⟨_,rfl,(fun _ _=>rfl),lN.refl _,qD.jR 4 (by decide) cW (BS 4 (by decide) (by decide) (by decide) (by decide)) hD⟩
  ·intro listed a W hf ar ak
   have hs1:a.tmps.size=21:=hf.alike.size.trans hsz;have hD:=hf.world.1;have cW:=dZ hf.closed (n:=8) (e:=10) (i:=5) (by kernel_rfl) ar;obtain ⟨v4,s4,q4⟩:=hf.slot 4 7 rfl (aJ ak 4 (by kernel_rfl));have qi:v4=_:=q4;subst qi;have G7:=ax s4 (by rw [hs1];decide);have n7:=dZ hf.closed (n:=8) (e:=7) (i:=5) (by kernel_rfl) ar;have y3:=aJ ak 3 (by kernel_rfl);have qE:listed.size=11:=hf.size;have ni:=Nc (by rw [qE];decide) ar;have hst:stA r0 r1 r2 r3 r4 listed=r2:=by unfold stA;simp [ni,n7,y3]
   rw [hst] at hD;have hs2:stA r0 r1 r2 r3 r4 (listed.setIfInBounds 5 true)=r3:=by
    unfold stA;rw [mO (k:=5) (by rw [qE];decide),getD_set_ne false (show 5≠7 by decide)];simp [n7]
   obtain ⟨bv,uX,_⟩:=hD.eH.cell;refine jc rfl (by rfl) (by go_simp) (acf (w0:=w0) (W:=W) (rb:=rb) (by have:=hD.eH;rw [pE.out] at this;exact this) f1 l3) ?_;rintro e W2 ⟨rfl,hR,hG⟩;exact ⟨_,rfl,_,rfl,(fun _ _=>rfl),lN.gx uX hG,qD.jR 5 (by decide) cW hs2 (hD.step hR hG)⟩
  ·intro listed a W hf ar ak
   have hs1:a.tmps.size=21:=hf.alike.size.trans hsz;have hD:=hf.world.1;have cW:=dZ hf.closed (n:=8) (e:=10) (i:=6) (by kernel_rfl) ar;obtain ⟨k0,lk⟩:=hD.cell;have G0:a.tmps[0]'(by rw [hs1];decide)= .pointer (some ⟨xb,0,none⟩):=ax ((hf.alike.same 0 (by decide)).trans F0) _;refine aX rfl (by rfl) (fun K' hK'=> ?_);go_simp;exact hK' _ _ ⟨_,rfl,(fun _ _=>rfl),lN.refl _,qD.jR 6 (by decide) cW (BS 6 (by decide) (by decide) (by decide) (by decide)) hD⟩
  ·intro listed a W hf ar ak
   have hs1:a.tmps.size=21:=hf.alike.size.trans hsz;have hD:=hf.world.1;have cW:=dZ hf.closed (n:=8) (e:=10) (i:=7) (by kernel_rfl) ar;obtain ⟨v6,s6,q6⟩:=hf.slot 6 9 rfl (aJ ak 6 (by kernel_rfl));have Bj:v6=_:=q6;subst Bj;have G9:=ax s6 (by rw [hs1];decide);have y5:=aJ ak 5 (by kernel_rfl);have qE:listed.size=11:=hf.size;have ni:=Nc (by rw [qE];decide) ar;have hst:stA r0 r1 r2 r3 r4 listed=r3:=by unfold stA;simp [ni,y5]
   rw [hst] at hD;have hs2:stA r0 r1 r2 r3 r4 (listed.setIfInBounds 7 true)=r4:=by
    unfold stA;rw [mO (k:=7) (by rw [qE];decide)];simp
   obtain ⟨bv,uX,_⟩:=hD.eH.cell;refine jc rfl (by rfl) (by go_simp) (acf (w0:=w0) (W:=W) (rb:=rb) (by have:=hD.eH;rw [BU.out] at this;exact this) f2 l4) ?_;rintro e W2 ⟨rfl,hR,hG⟩;exact ⟨_,rfl,_,rfl,(fun _ _=>rfl),lN.gx uX hG,qD.jR 7 (by decide) cW hs2 (hD.step hR hG)⟩
  ·intro listed a W hf ar ak
   have hs1:a.tmps.size=21:=hf.alike.size.trans hsz;have hD:=hf.world.1;have cW:=dZ hf.closed (n:=8) (e:=10) (i:=8) (by kernel_rfl) ar;obtain ⟨v1,s1,q1⟩:=hf.slot 1 4 rfl (aJ ak 1 (by kernel_rfl));have kn:v1=_:=q1;subst kn;have G4:=ax s1 (by rw [hs1];decide);obtain ⟨v3,s3,q3⟩:=hf.slot 3 6 rfl (aJ ak 3 (by kernel_rfl));have qF:v3=_:=q3;subst qF;have G6:=ax s3 (by rw [hs1];decide);obtain ⟨v5,s5,q5⟩:=hf.slot 5 8 rfl (aJ ak 5 (by kernel_rfl));have tk:v5=_:=q5;subst tk;have G8:=ax s5 (by rw [hs1];decide);obtain ⟨v7,s7,q7⟩:=hf.slot 7 10 rfl (aJ ak 7 (by kernel_rfl));have BV:v7=_:=q7;subst BV;have G10:=ax s7 (by rw [hs1];decide);refine aX rfl (by rfl) (fun K' hK'=> ?_);go_simp;exact hK' _ _ ⟨_,rfl,(fun _ _=>rfl),lN.refl _,qD.jR 8 (by decide) cW (BS 8 (by decide) (by decide) (by decide) (by decide)) hD⟩
  ·intro listed a W hf ar ak
   have hs1:a.tmps.size=21:=hf.alike.size.trans hsz;have hD:=hf.world.1;have cW:=dZ hf.closed (n:=8) (e:=10) (i:=9) (by kernel_rfl) ar;refine aX rfl (by rfl) (fun K' hK'=> ?_);go_simp;exact hK' _ (W.alloc (.cells #[.int .i64 0,.int .i64 0,.string ByteArray.empty,.string ByteArray.empty,.int .i64 0] 101)) ⟨_,rfl,(fun _ _=>⟨W.heap.size,_,rfl,hD.eH.grow.size,(fun e=>by obtain ⟨cur,hc,_⟩:=qC hD.tabs e;have:=af hc;omega),aw _ _,rfl⟩),lN.grow (Grow.alloc _ _),qD.jR 9 (by decide) cW (BS 9 (by decide) (by decide) (by decide) (by decide)) (hD.grow (Grow.alloc _ _))⟩
  ·intro listed a W hf ar ak
   have hs1:a.tmps.size=21:=hf.alike.size.trans hsz;have hD:=hf.world.1;obtain ⟨v8,s8,q8⟩:=hf.slot 8 11 rfl (aJ ak 8 (by kernel_rfl));have Bn:v8=_:=q8;subst Bn;have G11:=ax s8 (by rw [hs1];decide);obtain ⟨v9,s9,tb,cs,q9,b9,o9,h9,z9⟩:=hf.slot 9 2 rfl (aJ ak 9 (by kernel_rfl));subst q9;have G2:=ax s9 (by rw [hs1];decide);obtain ⟨x0,x1,x2,x3,x4,rfl⟩:=acn z9;obtain ⟨t0,t1,t2,t3,t4⟩:=cw h9;have TA:=af h9;have TB:∀ i,W.frozen? ⟨tb,i,none⟩=false:=fun i=>by simp [World.frozen?,h9]
   have cE:=asc h9 z9 (.int .i64 t.file) (.int .i64 t.level) (.string t.first) (.string t.last) (.int .i64 0);have iw:=fun (c:Nat) (hc:c≠tb)=>Ty (W:=W) (b:=tb) hc (.int .i64 t.file) (.int .i64 t.level) (.string t.first) (.string t.last) (.int .i64 0)
   have hg:=hD.eH.grow;have rY:=hD.tab (W':=asb W tb (.int .i64 t.file) (.int .i64 t.level) (.string t.first) (.string t.last) (.int .i64 0)) h9 b9 o9 (by simpa using hg.size) ⟨hg.os,hg.tape,hg.output⟩ iw;refine aX rfl (by rfl) (fun K' hK'=> ?_);go_simp;refine hK' _ _ ⟨undef,rfl,(fun _ h=>by cases h),(fun c cs' hc hs'=> ?_),by rw [BS 10 (by decide) (by decide) (by decide) (by decide)];exact rY,fun _=>⟨tb,s9,b9,o9,cE⟩⟩;by_cases e:c=tb
   ·subst e;exact ⟨_,cE,rfl⟩
   ·exact ⟨cs',(iw c e).trans hc,hs'⟩
 case rest=>
 obtain ⟨tb,rfl,b1,o1,h1,gL⟩:=hcut;obtain ⟨c0,lx⟩:=gL.cell;have fD:=Ex (w0:=w0) (W:=wc) (rb:=rb) (by have:=gL.eH;rw [zw.out] at this;exact this) (by have:=Ht.out.size.2;omega) (by omega);have hsz:=Int.toNat_of_nonneg Ht.out.size.1;obtain ⟨bv,uX,_⟩:=gL.eH.cell;have hne:tb≠rb:=ny h1 uX (by decide);have jP:=ae fD;have HD1:=ae gL;have H1:=ae h1;clear fD uX gL h1 H Hr0 IZ pE BU zw;obtain ⟨f0,f1',f2',f3,f4⟩:=t;dsimp only at hsz jP H1 ⊢;generalize Int.toNat f4=sz at*;subst hsz
 go_wp2_with fail
 (with_reducible refine jP.out.mono ?_);rintro e w2 ⟨rfl,hR,hG⟩;have rY:=HD1.out.step hR hG;have h2:=hG.heap H1.out hne;obtain ⟨t0,t1,t2,t3,t4⟩:=cw h2;have Ea:=af h2;have ft2:∀ i,w2.frozen? ⟨tb,i,none⟩=false:=fun i=>by simp [World.frozen?,h2]
 have h3:(w2.setCell ⟨tb,4,none⟩ (.int .i64 (sz:Int))).heap[tb]?=some (.cells #[.int .i64 f0,.int .i64 f1',.string f2',.string f3,.int .i64 (sz:Int)] 101 (0,0)):=Go.Gl.aI h2 4 _;have hg2:=rY.eH.grow;have uY:=rY.tab (W':=w2.setCell ⟨tb,4,none⟩ (.int .i64 (sz:Int))) h2 b1 o1 (by simpa using hg2.size) ⟨hg2.os,hg2.tape,hg2.output⟩ (fun c hc=>aK _ _ _ _ hc);have lo2:=af rY.out;clear c0 lx rY hg2 h2 hR hG jP HD1 H1
 go_upto_region 2 with fail
 clear t0 t1 t2 t3 t4 Ea ft2;generalize w2.setCell ⟨tb,4,none⟩ (.int .i64 (sz:Int))=W3 at*;obtain ⟨d0,lo⟩:W3.cell? ⟨ob,0,none⟩=some tv∧ob<W3.heap.size:=⟨by simp [World.cell?,uY.out],af uY.out⟩
 obtain ⟨s0,s1,s2,s3,s4⟩:=cw h3;have Ja:=af h3;obtain ⟨g,cap,w5,hrun,uZ,nz⟩:=ase uY.tabs uY.eH.grow.size iz f0 f1' f2' f3 (sz:Int);have hD5:=uY.more (v':= .slice (some ⟨g,0,none⟩) (tl.length+1) cap) nz uZ;have dC:=ae hrun;have qG:=ae hD5;have Nf:∃ arr,w5.heap[ob]?=some (.cells arr 148 (0,0))∧arr.size=5:=by
  obtain ⟨_,_,_,_,ge⟩:=nz;refine ⟨_,(ge ob (af uY.out) (fun e=> ?_)).trans uY.out,rfl⟩;obtain ⟨cur,hc,_⟩:=qC uY.tabs e.symm;exact ny hc uY.out (by decide) rfl
 obtain ⟨arr,tJ,hs5⟩:=Nf;obtain ⟨y0,y1,y2,y3,y4,rfl⟩:=acn hs5;obtain ⟨z0,_,_,_,_⟩:=cw tJ;have lo5:=af tJ;have fo5:∀ i,w5.frozen? ⟨ob,i,none⟩=false:=fun i=>by simp [World.frozen?,tJ]
 clear hrun uZ nz hD5 uY h3 lo2
 go_wp2_with (at_builtin;refine fC rfl rfl rfl rfl dC.out ?_)
 exact ⟨rfl,.tuple #[],by simp [results,Tryz.results185,go_sem],rfl,_,qG.out⟩
theorem asj {B:Nat} {w:World} {v:Value} {l:List Int} (h:zu B w v l) (hB:B≤w.heap.size) (hl:l.length≤70000) (n:Int):
  ∃ v' w',(Builtin.append_ #[24,24] 24 #[v,.slice (some ⟨w.heap.size,0,none⟩) 1 1]).run Tryz.prog (w.alloc (.cells #[.int .i64 n] 3))= .ok v' w'∧zu B w' v' (l++ [n])∧w.grownBy w' v.ownBlock:=by
 have dV:(w.alloc (.cells #[.int .i64 n] 3)).heap[w.heap.size]?=some (.cells #[.int .i64 n] 3 (0,0)):=aw _ _;have uK:Src Tryz.prog 1 24 (.slice (some ⟨w.heap.size,0,none⟩) 1 1) 1 [.int .i64 n] (w.alloc (.cells #[.int .i64 n] 3)):=
  Src.ofSlice _ Tryz.underlying24 ⟨w.heap.size,0,none⟩ 1 1 [.int .i64 n] rfl (fun j u hu=>World.news_of_block dV j u (by simpa using hu)) (fun u hu=>by rw [cY.1 hu];rfl)
 obtain ⟨v',w',h1,h2,h3,_⟩:=Bd (ty:=24) Tryz.underlying24 Tryz.Mu rfl (h.grow (Grow.alloc _ _)) uK (by simp;omega) (by simp;unfold maxLen;omega) (by simp;omega);obtain ⟨a,b,c,d,e⟩:=h3;exact ⟨v',w',h1,by rw [zu,List.map_append];exact h2,⟨a,b,c,aN (by simp) d,fun k hk hn=>by rw [e k (by simp;omega) hn];exact heap_alloc_old _ _ hk⟩⟩
theorem fh.drop {w0 W W':World} {xb rb ob:Nat} {l:List UInt8} {tv dv v':Value} {tl:List Tb} {dl dl':List Int} (h:fh w0 W xb rb ob l tv dv tl dl) (hg:W.grownBy W' dv.ownBlock) (ho:zu w0.heap.size W' v' dl'):fh w0 (W'.setCell ⟨ob,1,none⟩ v') xb rb ob l tv v' tl dl':=by
 obtain ⟨bv,h1,h2⟩:=h.eH.cell;obtain ⟨ga,gb,gc,gd,ge⟩:=hg;have keep:∀ {b:Nat} {arr:Array Value} {t:TypeId} {f:Nat×Nat},W.heap[b]?=some (.cells arr t f)→t≠3→W'.heap[b]?=some (.cells arr t f):=fun {b arr t f} hb ht=>by
  rw [ge b (af hb) (fun e=> ?_)]
  ·exact hb
  ·obtain ⟨cur,hc⟩:=h.drops.block e.symm
   rw [hb] at hc;cases hc;exact ht rfl
 have iW:=keep h.out (by decide);have ne:∀ {b:Nat} {arr:Array Value} {t:TypeId} {f:Nat×Nat},W'.heap[b]?=some (.cells arr t f)→t≠148→(W'.setCell ⟨ob,1,none⟩ v').heap[b]?=some (.cells arr t f):=fun {b arr t f} hb ht=>by
  rw [aK _ _ _ _ (fun e=> ?_)]
  ·exact hb
  ·have e':b=ob:=e
   subst e';rw [hb] at iW;cases iW;exact ht rfl
 have hgr:=h.eH.grow;refine ⟨⟨⟨bv,ne (keep h1 (by decide)) (by decide),h2⟩,⟨ga.trans hgr.os,gb.trans hgr.tape,gc.trans hgr.output,by simp;exact aN hgr.size gd,fun b hb=> ?_⟩,h.eH.new⟩,ne (keep h.box (by decide)) (by decide),Go.Gl.aI iW 1 v',uW h.tabs fun g eA=> ?_,ho.keep fun g eA=> ?_,h.nx,h.no,(aK _ _ _ _ (fun e=>h.nq e)).trans (keep h.res (by decide)),h.nq⟩
 ·rw [aK _ _ _ _ (fun e=>by have e':b=ob:=e;have:=h.no;omega),ge b (cj hb hgr.size) (fun e=>by have:=(h.drops.lt e.symm).1;omega)]
  exact hgr.block b hb
 ·obtain ⟨cur,hc,_⟩:=qC h.tabs eA
  rw [ne (keep hc (by decide)) (by decide),hc]
 ·obtain ⟨cur,hc⟩:=ho.block eA
  rw [ne hc (by decide),hc]
theorem asl {w0 W:World} {xb rb ob:Nat} {r:List UInt8} {tv dv:Value} {tl:List Tb} {dl:List Int} {n:Nat} (hn:n≤1099511627776) (h:fh w0 W xb rb ob (aA n++r) tv dv tl dl) (hr:r.length≤800000000000) (fS:dl.length≤70000):
  Calls Tryz.prog 188 #[.pointer (some ⟨ob,0,none⟩),.pointer (some ⟨xb,0,none⟩)] W fun e w'=>e= .returned (.tuple #[])∧∃ Ng,fh w0 w' xb rb ob r tv Ng tl (dl++ [(n:Int)]):=by
 obtain ⟨c0,lx⟩:=h.cell;have d1:W.cell? ⟨ob,1,none⟩=some dv:=by simp [World.cell?,h.out]
 have lo:=af h.out;have H:=ae h;clear h;go_enter Tryz.func188,Tryz.ntmps188
 go_wp2_with fail
 refine sX (fun W'=>(W'.cell? ⟨xb,0,none⟩=some (.pointer (some ⟨rb,0,none⟩))∧xb<W'.heap.size)∧W'.cell? ⟨ob,1,none⟩=some dv∧ob<W'.heap.size) [(0,false),(1,false),(2,false),(3,true),(4,true),(5,true),(6,false)] 7 (by kernel_rfl) (by kernel_rfl) (fun c a d v w h=>by cases d<;>exact h) ⟨⟨by simpa using c0,by simpa using lx⟩,by simpa using d1,by simpa using lo⟩ ?_;simp only [aP,nth];clear c0 lx d1 lo
 repeat (first|(refine aB (v:= ?_) (by rfl) ?_ ?_;rotate_left;(rintro W ⟨⟨hW0,hW1⟩,hW2,hW3⟩;go_simp;with_reducible rfl);simp only [ag,List.set])|(refine aC (by rfl) ?_;simp only [ag,List.set]))
 refine bj (by rfl) (by go_simp) (Ex (w0:=w0) (W:=W.drew) (rb:=rb) (H.out.grow (Grow.drew W)).eH hn (by omega)) ?_;rintro e w1 ⟨rfl,hR,hG⟩;have gL:=(H.out.grow (Grow.drew W)).step hR hG;obtain ⟨c0,lx⟩:=gL.cell;have d1:w1.cell? ⟨ob,1,none⟩=some dv:=by simp [World.cell?,gL.out]
 have lo:=af gL.out;refine ⟨_,rfl,⟨⟨c0,lx⟩,d1,lo⟩,?_⟩
 try first|simp only [ag,List.set]|simp only [aD]
 refine ry (by rfl) (ru (v:= .int .i64 (n:Int)) rfl Tryz.underlying24 Tryz.Mu rfl rfl rfl) ⟨⟨by rw [World.cell?_alloc_lt _ _ _ lx];exact c0,by simp;omega⟩,by rw [World.cell?_alloc_lt _ _ _ lo];exact d1,by simp;omega⟩ ?_
 try first|simp only [ag,List.set]|simp only [aD]
 obtain ⟨v',w2,hrun,hown,hgr⟩:=asj gL.drops gL.eH.grow.size fS (n:Int);obtain ⟨va,L,vc,rfl⟩:∃ a L c,v'= .slice a L c:=by obtain ⟨a,c,h⟩:=hown.slice;exact ⟨_,_,_,h⟩
 have rY:=gL.drop (v':= .slice va L vc) hgr hown;have iW:∃ arr,w2.heap[ob]?=some (.cells arr 148 (0,0))∧arr=cV tv dv 0 0 0:=by
  obtain ⟨_,_,_,_,ge⟩:=hgr;refine ⟨_,(ge ob (af gL.out) (fun e=> ?_)).trans gL.out,rfl⟩;obtain ⟨cur,hc⟩:=gL.drops.block e.symm;exact ny hc gL.out (by decide) rfl
 have gi:w2.heap[xb]?=some (.cells #[.pointer (some ⟨rb,0,none⟩)] 291 (0,0)):=by
  obtain ⟨_,_,_,_,ge⟩:=hgr;refine (ge xb (af gL.box) (fun e=> ?_)).trans gL.box;obtain ⟨cur,hc⟩:=gL.drops.block e.symm;exact ny hc gL.box (by decide) rfl
 obtain ⟨arr,ha2,rfl⟩:=iW;refine ry (by rfl) (GH rfl rfl rfl hrun) ⟨⟨by simp [World.cell?,gi],af gi⟩,by simp [World.cell?,ha2],af ha2⟩ ?_
 try first|simp only [ag,List.set]|simp only [aD]
 repeat (first|(refine aB (v:= ?_) (by rfl) ?_ ?_;rotate_left;(rintro W ⟨⟨hW0,hW1⟩,hW2,hW3⟩;go_simp;with_reducible rfl);simp only [ag,List.set])|(refine aC (by rfl) ?_;simp only [ag,List.set]))
 refine bm ?_;have BW:=ae rY;have d2:w2.cell? ⟨ob,1,none⟩=some dv:=by simp [World.cell?,ha2]
 have lo2:=af ha2;have fo2:∀ i,w2.frozen? ⟨ob,i,none⟩=false:=fun i=>by simp [World.frozen?,ha2]
 clear rY gL hown hgr ha2 gi hrun d1 lo c0 lx hR hG;refine sY (by rfl) (fun K hK=> ?_);go_simp;refine hK _ _ ?_;clear hK K;exact ⟨rfl,.tuple #[],by simp [results,Tryz.results188,go_sem],rfl,_,BW.out⟩
theorem fh.apart {w0 W W':World} {xb rb ob c:Nat} {l:List UInt8} {tv dv:Value} {tl:List Tb} {dl:List Int} (h:fh w0 W xb rb ob l tv dv tl dl) {arr:Array Value} (hc:W.heap[c]?=some (.cells arr 148 (0,0))) (hn:w0.heap.size≤c)
  (rS:W'.os=W.os∧W'.tape=W.tape∧W'.output=W.output) (hs:W'.heap.size=W.heap.size) (hk:∀ b,b≠c→W'.heap[b]?=W.heap[b]?):
  jG w0 W' rb l∧W'.heap[xb]?=some (.cells #[.pointer (some ⟨rb,0,none⟩)] 291 (0,0))∧Own w0.heap.size W' tv tl∧zu w0.heap.size W' dv dl∧(w0.heap.size≠c→W'.heap[w0.heap.size]?=some (.cells (cV (.slice none 0 0) (.slice none 0 0) 0 0 0) 148 (0,0)))∧Grow w0 W':=by
 obtain ⟨bv,h1,h2⟩:=h.eH.cell;have hg:=h.eH.grow;have hgr:Grow w0 W':=⟨rS.1.trans hg.os,rS.2.1.trans hg.tape,rS.2.2.trans hg.output,by rw [hs];exact hg.size,fun b hb=>by rw [hk b (by omega)];exact hg.block b hb⟩
 refine ⟨⟨⟨bv,(hk _ (ny h1 hc (by decide))).trans h1,h2⟩,hgr,h.eH.new⟩,(hk _ (ny h.box hc (by decide))).trans h.box,uW h.tabs fun g eA=> ?_,h.drops.keep fun g eA=> ?_,fun hne=>(hk _ hne).trans h.res,hgr⟩
 ·obtain ⟨cur,rX,_⟩:=qC h.tabs eA
  exact hk g (ny rX hc (by decide))
 ·obtain ⟨cur,rX⟩:=h.drops.block eA
  exact hk g (ny rX hc (by decide))
theorem Nh {W:World} {b:Nat} {v0 v1 v2 v3 v4:Value} {t:TypeId} (h:W.heap[b]?=some (.cells #[v0,v1,v2,v3,v4] t (0,0))) (y0 y1 y2 y3 y4:Value):
  (((((W.setCell ⟨b,0,none⟩ y0).setCell ⟨b,1,none⟩ y1).setCell ⟨b,2,none⟩ y2).setCell ⟨b,3,none⟩ y3).setCell ⟨b,4,none⟩ y4).heap[b]?=some (.cells #[y0,y1,y2,y3,y4] t (0,0)):=
 Go.Gl.aI (Go.Gl.aI (Go.Gl.aI (Go.Gl.aI (Go.Gl.aI h 0 y0) 1 y1) 2 y2) 3 y3) 4 y4
theorem asm {w:World} {t:Array Value} {rb:Nat} {x0 x1 x2 x3 x4:Value} {c:Int} (h2:t.getD 2 undef= .pointer (some ⟨rb,0,none⟩)) (h3:t.getD 3 undef= .int .i64 c) (hW:w.heap[rb]?=some (.cells #[x0,x1,x2,x3,x4] 148 (0,0))):
  (results Tryz.f137 t).run Tryz.prog w= .ok (.tuple #[.agg #[x0,x1,x2,x3,x4],.int .i64 c]) w:=by
 obtain ⟨k0,k1,k2,k3,k4⟩:=cw hW;simp only [fI] at h2 h3;simp [results,Tryz.results137,go_sem,h2,h3,k0,k1,k2,k3,k4]
theorem asn:∀ args w,(callFunc 185 args).run Tryz.prog w= .ok (.enter 185 args) w:=enters_of Tryz.func185 (by kernel_rfl) rfl
theorem aso:∀ args w,(callFunc 188 args).run Tryz.prog w= .ok (.enter 188 args) w:=enters_of Tryz.func188 (by kernel_rfl) rfl
theorem asp {w W:World} {xb rb ob:Nat} {l:List Tb} {z:List UInt8} (hf:∀ t∈l,Tp t) (hl:l.length≤65536) (hz:(l.flatMap il++z).length≤700000000000) (h:fh w W xb rb ob (aA l.length++(l.flatMap il++z)) (.slice none 0 0) (.slice none 0 0) [] []):
  Calls Tryz.prog 184 #[.pointer (some ⟨rb,0,none⟩),.func (.func 185) #[] #[.pointer (some ⟨xb,0,none⟩),.pointer (some ⟨ob,0,none⟩)]] W fun e w'=>e= .returned (.tuple #[])∧∃ tv,fh w w' xb rb ob z tv (.slice none 0 0) l []:=by
 have hlen:∀ i,((l.drop i).flatMap il++z).length≤700000000000:=fun i=>by
  have:l.flatMap il=(l.take i).flatMap il++(l.drop i).flatMap il:=by rw [←List.flatMap_append,List.take_append_drop]
  rw [this] at hz;simp only [List.length_append] at hz ⊢;omega
 refine (ach (fn:=185) (fun i W'=>∃ tv,fh w W' xb rb ob ((l.drop i).flatMap il++z) tv (.slice none 0 0) (l.take i) []) h.eH hl (by omega) (fun w1 hR hG=>⟨_,by simpa using h.step hR hG⟩) (fun i wr ⟨tv,hd⟩=>⟨_,hd.eH⟩) (fun i wr hi ⟨tv,hd⟩=> ?_) ⟨_,Tryz.func185,rfl⟩ asn).mono ?_
 ·obtain ⟨t,ht⟩:∃ t,l[i]?=some t:=⟨l[i],by simp [hi]⟩
  have fR:(l.drop i).flatMap il++z=il t++((l.drop (i+1)).flatMap il++z):=by
   obtain ⟨h1,rfl⟩:=dQ.1 ht;rw [List.drop_eq_getElem_cons h1,List.flatMap_cons,List.append_assoc]
  rw [fR] at hd;refine (asf (hf t (dY ht)) hd (by have:=hlen (i+1);omega) (by rw [List.length_take];omega)).mono ?_;rintro e w' ⟨rfl,cg,mN⟩;refine ⟨rfl,cg,?_⟩;rw [BK ht];exact mN
 ·rintro e w' ⟨rfl,tv,hd⟩
  rw [List.drop_length,List.take_length] at hd;exact ⟨rfl,tv,hd⟩
theorem asq {w W:World} {xb rb ob:Nat} {tv:Value} {tl:List Tb} {l:List Int} {z:List UInt8} (hf:∀ n∈l,lA n) (hl:l.length≤65536) (hz:(l.flatMap jQ++z).length≤700000000000) (h:fh w W xb rb ob (aA l.length++(l.flatMap jQ++z)) tv (.slice none 0 0) tl []):
  Calls Tryz.prog 184 #[.pointer (some ⟨rb,0,none⟩),.func (.func 188) #[] #[.pointer (some ⟨ob,0,none⟩),.pointer (some ⟨xb,0,none⟩)]] W fun e w'=>e= .returned (.tuple #[])∧∃ dv,fh w w' xb rb ob z tv dv tl l:=by
 have hlen:∀ i,((l.drop i).flatMap jQ++z).length≤700000000000:=fun i=>by
  have:l.flatMap jQ=(l.take i).flatMap jQ++(l.drop i).flatMap jQ:=by rw [←List.flatMap_append,List.take_append_drop]
  rw [this] at hz;simp only [List.length_append] at hz ⊢;omega
 refine (ach (fn:=188) (fun i W'=>∃ dv,fh w W' xb rb ob ((l.drop i).flatMap jQ++z) tv dv tl (l.take i)) h.eH hl (by omega) (fun w1 hR hG=>⟨_,by simpa using h.step hR hG⟩) (fun i wr ⟨dv,hd⟩=>⟨_,hd.eH⟩) (fun i wr hi ⟨dv,hd⟩=> ?_) ⟨_,Tryz.func188,rfl⟩ aso).mono ?_
 ·obtain ⟨n,hn⟩:∃ n,l[i]?=some n:=⟨l[i],by simp [hi]⟩
  have hN:=hf n (dY hn);have fR:(l.drop i).flatMap jQ++z=aA n.toNat++((l.drop (i+1)).flatMap jQ++z):=by
   obtain ⟨h1,rfl⟩:=dQ.1 hn;rw [List.drop_eq_getElem_cons h1,List.flatMap_cons,List.append_assoc];rfl
  rw [fR] at hd;refine (asl (by have:=hN.2;omega) hd (by have:=hlen (i+1);omega) (by rw [List.length_take];omega)).mono ?_;rintro e w' ⟨rfl,Ng,mN⟩;refine ⟨rfl,Ng,?_⟩;rw [BK hn];rw [Int.toNat_of_nonneg hN.1] at mN;exact mN
 ·rintro e w' ⟨rfl,dv,hd⟩
  rw [List.drop_length,List.take_length] at hd;exact ⟨rfl,dv,hd⟩
theorem asr {w:World} {bv:Value} {E:cr} (hf:zm E) (h:Bv w bv (cP E)) (hl:(cP E).length≤500000000000):
  Calls Tryz.prog 137 #[bv] w fun e w'=>∃ tv dv,e= .returned (.tuple #[.agg (cV tv dv E.seq E.next E.aj),.int .i64 0])∧Own w.heap.size w' tv E.add∧zu w.heap.size w' dv E.drop∧Grow w w':=by
 obtain ⟨z5,Jb⟩:∃ x,x=aA E.aj.toNat++ []:=⟨_,rfl⟩
 obtain ⟨z4,Ni⟩:∃ x,x=aA E.next.toNat++z5:=⟨_,rfl⟩
 obtain ⟨z3,hz3⟩:∃ x,x=aA E.seq.toNat++z4:=⟨_,rfl⟩
 obtain ⟨z1,hz1⟩:∃ x,x=aA E.drop.length++(E.drop.flatMap jQ++z3):=⟨_,rfl⟩
 have TC:cP E=aA E.add.length++(E.add.flatMap il++z1):=by rw [hz1,hz3,Ni,Jb];simp [cP]
 have hl0:(E.add.flatMap il++z1).length≤700000000000:=by rw [TC] at hl;simp only [List.length_append] at hl ⊢;omega
 have yI:(E.drop.flatMap jQ++z3).length≤700000000000:=by rw [hz1] at hl0;simp only [List.length_append] at hl0 ⊢;omega
 have b5:=cf E.aj.toNat;have b4:=cf E.next.toNat;have hl5:z5.length≤100:=by rw [Jb];simp;omega
 have hl4:z4.length≤100:=by rw [Ni,Jb];simp;omega
 obtain ⟨ba,bc,rfl⟩:=h.slice;have hW:fh w ((((w.alloc (.cells (cV (.slice none 0 0) (.slice none 0 0) 0 0 0) 148)).alloc (.cells #[.slice ba (cP E).length bc,.int .i64 0] 293)).alloc (.cells #[.pointer (some ⟨w.heap.size+1,0,none⟩)] 291)).alloc (.cells (cV (.slice none 0 0) (.slice none 0 0) 0 0 0) 148)) (w.heap.size+1+1) (w.heap.size+1) (w.heap.size+1+1+1) (cP E) (.slice none 0 0) (.slice none 0 0) [] []:=by
  have s1:∀ (W:World) (o:Obj),(W.alloc o).heap.size=W.heap.size+1:=fun W o=>by simp
  have n1:=aw w (.cells (cV (.slice none 0 0) (.slice none 0 0) 0 0 0) 148);generalize bS:w.alloc (.cells (cV (.slice none 0 0) (.slice none 0 0) 0 0 0) 148)=w1 at*;have z1':w1.heap.size=w.heap.size+1:=by rw [←bS];simp
  have g1:Grow w w1:=by rw [←bS];exact Grow.alloc _ _
  have n2:=aw w1 (.cells #[.slice ba (cP E).length bc,.int .i64 0] 293);have g2:Grow w1 (w1.alloc (.cells #[.slice ba (cP E).length bc,.int .i64 0] 293)):=Grow.alloc _ _;generalize hw2:w1.alloc (.cells #[.slice ba (cP E).length bc,.int .i64 0] 293)=w2 at*;have z2':w2.heap.size=w.heap.size+1+1:=by rw [←hw2];simp [z1']
  have n3:=aw w2 (.cells #[.pointer (some ⟨w.heap.size+1,0,none⟩)] 291);have g3:Grow w2 (w2.alloc (.cells #[.pointer (some ⟨w.heap.size+1,0,none⟩)] 291)):=Grow.alloc _ _;generalize hw3:w2.alloc (.cells #[.pointer (some ⟨w.heap.size+1,0,none⟩)] 291)=w3 at*;have z3':w3.heap.size=w.heap.size+1+1+1:=by rw [←hw3];simp [z2']
  have n4:=aw w3 (.cells (cV (.slice none 0 0) (.slice none 0 0) 0 0 0) 148);have g4:Grow w3 (w3.alloc (.cells (cV (.slice none 0 0) (.slice none 0 0) 0 0 0) 148)):=Grow.alloc _ _;rw [z1'] at n2;rw [z2'] at n3;rw [z3'] at n4;exact ⟨⟨⟨_,g4.heap (g3.heap n2),h⟩,((g1.trans g2).trans g3).trans g4,by omega⟩,g4.heap n3,n4,World.ownsRow_nil _ _ _ _,mi _ _ _,by omega,by omega,g4.heap (g3.heap (g2.heap n1)),by omega⟩
 have HW:=ae hW;have Hf:=ae hf;have Hz1:=ae hz1;have Hz3:=ae hz3;have Hz4:=ae Ni;have Hz5:=ae Jb;have TD:=ae TC;clear h hW hf hz1 hz3 Ni Jb b4 b5 TC;go_enter Tryz.func137,Tryz.ntmps137
 go_upto_region 3 with fail
 generalize (((w.alloc (.cells (cV (.slice none 0 0) (.slice none 0 0) 0 0 0) 148)).alloc (.cells #[.slice ba (cP E).length bc,.int .i64 0] 293)).alloc (.cells #[.pointer (some ⟨w.heap.size+1,0,none⟩)] 291)).alloc (.cells (cV (.slice none 0 0) (.slice none 0 0) 0 0 0) 148)=W0 at*;have hW:=HW.out;rw [TD.out] at hW;generalize (cP E).length=L at*;generalize gi:w.heap.size+1+1=xb at*;generalize ep:w.heap.size+1=rb at*;obtain ⟨c0,lx⟩:=hW.cell;have Ha:=ae (asp Hf.out.adds Hf.out.MR hl0 hW);clear hW HW hl
 go_wp2_with fail
 (with_reducible refine Ha.out.mono ?_);rintro e w1 ⟨rfl,tv,fR⟩;obtain ⟨c1,lx1⟩:=fR.cell;have Hb:=ae (asq (z:=z3) Hf.out.drops Hf.out.MS yI (by rw [←Hz1.out];exact fR));clear fR Ha c0 lx
 go_upto_region 4 with fail
 go_wp2_with fail
 (with_reducible refine Hb.out.mono ?_);rintro e w2 ⟨rfl,dv,cn⟩;have BW:=ae cn;clear cn Hb c1 lx1
 go_upto_region 5 with fail
 obtain ⟨c2,lx2⟩:=BW.out.cell;refine bX (fun W'=>W'.cell? ⟨xb,0,none⟩=some (.pointer (some ⟨rb,0,none⟩))∧xb<W'.heap.size) [(0,false),(2,false),(4,false),(1,true),(6,false),(3,true),(5,true),(7,true),(8,false),(9,true),(10,false),(11,true)] (by kernel_rfl) (by kernel_rfl) (fun c a d v w h=>by cases d<;>exact h) ⟨by simpa using c2,by simpa using lx2⟩ ?_;simp only [aP,nth];clear c2 lx2
 repeat (first|(refine aB (v:= ?_) (by rfl) ?_ ?_;rotate_left;(rintro W ⟨hW0,hW1⟩;go_simp;with_reducible rfl);simp only [ag,List.set])|(refine aC (by rfl) ?_;simp only [ag,List.set]))
 have hdd:=BW.out.grow (Grow.drew w2);refine bj (by rfl) (by go_simp) (acd (w0:=w) (W:=w2.drew) (rb:=rb) (by have:=hdd.eH;rw [Hz3.out] at this;exact this) (n:=E.seq.toNat) (by have:=Hf.out.seq;omega) (by omega)) ?_;rintro e w3 ⟨rfl,hR,hG⟩;have eV:=hdd.step hR hG;refine ⟨_,rfl,eV.cell,?_⟩
 try first|simp only [ag,List.set]|simp only [aD]
 repeat (first|(refine aB (v:= ?_) (by rfl) ?_ ?_;rotate_left;(rintro W ⟨hW0,hW1⟩;go_simp;with_reducible rfl);simp only [ag,List.set])|(refine aC (by rfl) ?_;simp only [ag,List.set]))
 refine bj (by rfl) (by go_simp) (Ex (w0:=w) (W:=w3) (rb:=rb) (by have:=eV.eH;rw [Hz4.out] at this;exact this) (n:=E.next.toNat) (by have:=Hf.out.next.2;omega) (by omega)) ?_;rintro e w4 ⟨rfl,hR4,Ez⟩;have jh:=eV.step hR4 Ez;refine ⟨_,rfl,jh.cell,?_⟩
 try first|simp only [ag,List.set]|simp only [aD]
 refine bj (by rfl) (by go_simp) (Ex (w0:=w) (W:=w4) (rb:=rb) (by have:=jh.eH;rw [Hz5.out] at this;exact this) (n:=E.aj.toNat) (by have:=Hf.out.aj.2;omega) (by simp)) ?_;rintro e w5 ⟨rfl,hR5,EA⟩;have gM:=jh.step hR5 EA;refine ⟨_,rfl,gM.cell,?_⟩
 try first|simp only [ag,List.set]|simp only [aD]
 have TE:=Int.toNat_of_nonneg Hf.out.seq.1;have TF:=Int.toNat_of_nonneg Hf.out.next.1;have TG:=Int.toNat_of_nonneg Hf.out.aj.1;rw [TE,TF,TG];have qG:=ae gM;have TH:=ae (ah TE (ah TF TG));clear hdd hR hG hR4 Ez hR5 EA eV jh TE TF TG;have fE:=gM.out;have vd:=gM.box;clear gM;obtain ⟨o0,o1,o2,o3,o4⟩:=cw fE;have lo5:=af fE;have fo5:∀ i,w5.frozen? ⟨xb+1,i,none⟩=false:=fun i=>by simp [World.frozen?,fE]
 have kC:(w5.setCell ⟨xb+1,2,none⟩ (.int .u64 E.seq)).heap[xb+1]?=some (.cells (cV tv dv E.seq 0 0) 148 (0,0)):=Go.Gl.aI fE 2 _;have wU:(w5.setCell ⟨xb+1,2,none⟩ (.int .u64 E.seq)).heap[xb]?=some (.cells #[.pointer (some ⟨rb,0,none⟩)] 291 (0,0)):=(aK _ _ _ _ (ny vd fE (by decide))).trans vd;refine fQ (by rfl) (fun K hK=> ?_);go_simp;refine hK _ _ ⟨⟨by simp [World.cell?,wU],af wU⟩,?_⟩;clear hK K
 try first|simp only [ag,List.set]|simp only [aD]
 repeat (first|(refine aB (v:= ?_) (by rfl) ?_ ?_;rotate_left;(rintro W ⟨hW0,hW1⟩;go_simp;with_reducible rfl);simp only [ag,List.set])|(refine aC (by rfl) ?_;simp only [ag,List.set]))
 clear o0 o1 o2 o3 o4 lo5 fo5;have tG:∀ b,b≠xb+1→(w5.setCell ⟨xb+1,2,none⟩ (.int .u64 E.seq)).heap[b]?=w5.heap[b]?:=fun b hb=>aK _ _ _ _ hb
 have hp6:(w5.setCell ⟨xb+1,2,none⟩ (.int .u64 E.seq)).os=w5.os∧(w5.setCell ⟨xb+1,2,none⟩ (.int .u64 E.seq)).tape=w5.tape∧(w5.setCell ⟨xb+1,2,none⟩ (.int .u64 E.seq)).output=w5.output:=⟨rfl,rfl,rfl⟩
 have ox:(w5.setCell ⟨xb+1,2,none⟩ (.int .u64 E.seq)).heap.size=w5.heap.size:=by simp
 generalize w5.setCell ⟨xb+1,2,none⟩ (.int .u64 E.seq)=w6 at*;obtain ⟨o0,o1,o2,o3,o4⟩:=cw kC;have lo6:=af kC;have fo6:∀ i,w6.frozen? ⟨xb+1,i,none⟩=false:=fun i=>by simp [World.frozen?,kC]
 have je:(w6.setCell ⟨xb+1,3,none⟩ (.int .i64 E.next)).heap[xb+1]?=some (.cells (cV tv dv E.seq E.next 0) 148 (0,0)):=Go.Gl.aI kC 3 _;have Jc:(w6.setCell ⟨xb+1,3,none⟩ (.int .i64 E.next)).heap[xb]?=some (.cells #[.pointer (some ⟨rb,0,none⟩)] 291 (0,0)):=(aK _ _ _ _ (ny wU kC (by decide))).trans wU;refine fQ (by rfl) (fun K hK=> ?_);go_simp;refine hK _ _ ⟨⟨by simp [World.cell?,Jc],af Jc⟩,?_⟩;clear hK K
 try first|simp only [ag,List.set]|simp only [aD]
 repeat (first|(refine aB (v:= ?_) (by rfl) ?_ ?_;rotate_left;(rintro W ⟨hW0,hW1⟩;go_simp;with_reducible rfl);simp only [ag,List.set])|(refine aC (by rfl) ?_;simp only [ag,List.set]))
 clear o0 o1 o2 o3 o4 lo6 fo6;have hk7:∀ b,b≠xb+1→(w6.setCell ⟨xb+1,3,none⟩ (.int .i64 E.next)).heap[b]?=w5.heap[b]?:=fun b hb=>(aK _ _ _ _ hb).trans (tG b hb)
 have hp7:(w6.setCell ⟨xb+1,3,none⟩ (.int .i64 E.next)).os=w5.os∧(w6.setCell ⟨xb+1,3,none⟩ (.int .i64 E.next)).tape=w5.tape∧(w6.setCell ⟨xb+1,3,none⟩ (.int .i64 E.next)).output=w5.output:=hp6;have nA:(w6.setCell ⟨xb+1,3,none⟩ (.int .i64 E.next)).heap.size=w5.heap.size:=by simpa using ox
 clear tG hp6 ox kC wU;generalize w6.setCell ⟨xb+1,3,none⟩ (.int .i64 E.next)=w7 at*;obtain ⟨o0,o1,o2,o3,o4⟩:=cw je;have lo7:=af je;have fo7:∀ i,w7.frozen? ⟨xb+1,i,none⟩=false:=fun i=>by simp [World.frozen?,je]
 have pF:(w7.setCell ⟨xb+1,4,none⟩ (.int .i64 E.aj)).heap[xb+1]?=some (.cells (cV tv dv E.seq E.next E.aj) 148 (0,0)):=Go.Gl.aI je 4 _;have TI:(w7.setCell ⟨xb+1,4,none⟩ (.int .i64 E.aj)).heap[xb]?=some (.cells #[.pointer (some ⟨rb,0,none⟩)] 291 (0,0)):=(aK _ _ _ _ (ny Jc je (by decide))).trans Jc;refine fQ (by rfl) (fun K hK=> ?_);go_simp;refine hK _ _ ⟨⟨by simp [World.cell?,TI],af TI⟩,?_⟩;clear hK K
 try first|simp only [ag,List.set]|simp only [aD]
 clear o0 o1 o2 o3 o4 lo7 fo7;have EB:∀ b,b≠xb+1→(w7.setCell ⟨xb+1,4,none⟩ (.int .i64 E.aj)).heap[b]?=w5.heap[b]?:=fun b hb=>(aK _ _ _ _ hb).trans (hk7 b hb)
 have hp8:(w7.setCell ⟨xb+1,4,none⟩ (.int .i64 E.aj)).os=w5.os∧(w7.setCell ⟨xb+1,4,none⟩ (.int .i64 E.aj)).tape=w5.tape∧(w7.setCell ⟨xb+1,4,none⟩ (.int .i64 E.aj)).output=w5.output:=hp7;have ve:(w7.setCell ⟨xb+1,4,none⟩ (.int .i64 E.aj)).heap.size=w5.heap.size:=by simpa using nA
 clear hk7 hp7 nA je Jc;generalize w7.setCell ⟨xb+1,4,none⟩ (.int .i64 E.aj)=w8 at*;refine bm ?_;obtain ⟨Jd,EC,qH,ED,BX,cx⟩:=qG.out.apart fE (by have:=qG.out.no;exact this) hp8 ve EB;have EE:=BX qG.out.nq;obtain ⟨bv,qB,bg⟩:=Jd.cell;obtain ⟨va,vc,rfl⟩:=bg.slice;have c1:w8.cell? ⟨xb,0,none⟩=some (.pointer (some ⟨rb,0,none⟩)):=by simp [World.cell?,EC]
 have r0:w8.cell? ⟨rb,0,none⟩=some (.slice va 0 vc):=by simp [World.cell?,qB]
 have r1:w8.cell? ⟨rb,1,none⟩=some (.int .i64 0):=by simp [World.cell?,qB]
 have lr:=af qB;have lx8:=af EC;obtain ⟨o0,o1,o2,o3,o4⟩:=cw pF;have lo8:=af pF;obtain ⟨q0,q1,q2,q3,q4⟩:=cw EE;have lq8:=af EE;have fq8:∀ i,w8.frozen? ⟨w.heap.size,i,none⟩=false:=fun i=>by simp [World.frozen?,EE]
 have ta:=iV qH;obtain ⟨ta1,tc1,rfl⟩:=ta;obtain ⟨da1,dL,dc1,rfl⟩:∃ a L c,dv= .slice a L c:=by obtain ⟨a,c,h⟩:=ED.slice;exact ⟨_,_,_,h⟩
 have gJ:=Nh EE (.slice ta1 E.add.length tc1) (.slice da1 dL dc1) (.int .u64 E.seq) (.int .i64 E.next) (.int .i64 E.aj);have cS:=ae gJ;have Hq8:=ae EE;have wV:=ae qH;have Hd8:=ae ED;have oy:=ae cx;clear Jd EC qH ED BX cx EE qB bg pF TI gJ EB hp8 ve fE vd;go_wp2;refine bodyPost_ret (asm rfl rfl cS.out) rfl ?_;refine ⟨_,_,rfl,uW wV.out fun g eA=> ?_,Hd8.out.keep fun g eA=> ?_,?_⟩
 ·obtain ⟨cur,hc,_⟩:=qC wV.out eA
  exact Ty (ny hc Hq8.out (by decide)) _ _ _ _ _
 ·obtain ⟨cur,hc⟩:=Hd8.out.block eA
  exact Ty (ny hc Hq8.out (by decide)) _ _ _ _ _
 ·exact ((((oy.out.setCell (p:=⟨w.heap.size,0,none⟩) (ay _) _).setCell (p:=⟨w.heap.size,1,none⟩) (ay _) _).setCell (p:=⟨w.heap.size,2,none⟩) (ay _) _).setCell (p:=⟨w.heap.size,3,none⟩) (ay _) _).setCell (p:=⟨w.heap.size,4,none⟩) (ay _) _
end Go.Proofs.YtoolkdapflaeeaaGreatDoor
