/- Helpers. -/
import Derived.Test.YtoolkdapflaeeaaGreatDoorW03
import Derived.Test.YtoolkdapflaeeaaGreatDoorW00
import Derived.Deep.CutRange
import Derived.Deep.DeepCutAuto
set_option maxRecDepth 100000
set_option maxHeartbeats 16000000
open Go
variable {B b c d g i ob rb tb xb : Nat} {L l l' : List UInt8} {W W' w w' w0 : World} {arr cs : Array Value} {av bv dv tv v v0 x0 x1 x2 x3 x4 : Value} {f : Nat × Nat} {t : TypeId}
namespace Go.Proofs.YtoolkdapflaeeaaGreatDoor
open Go.RowKit Go.Gl Go.aF Mn
abbrev Az (B:Nat) (w:World) (v:Value) (l:List Int):Prop:=Go.Gl.Row1 3 B w v (l.map (fun n=>Value.int .i64 n))
structure gw (w0 W:World) (xb rb ob:Nat) (l:List UInt8) (tv dv:Value) (tl:List Tb) (dl:List Int):Prop where
 fK:kF w0 W rb l
 box:W.heap[xb]?=some (.cells #[.pointer (some ⟨rb,0,none⟩)] 291 (0,0))
 out:W.heap[ob]?=some (.cells (dN tv dv 0 0 0) 148 (0,0))
 tabs:Own w0.heap.size W tv tl
 drops:Az w0.heap.size W dv dl
 nx:w0.heap.size≤xb
 no:w0.heap.size≤ob
 res:W.heap[w0.heap.size]?=some (.cells (dN (.slice none 0 0) (.slice none 0 0) 0 0 0) 148 (0,0))
 nq:w0.heap.size≠ob
theorem gw.cell {tl:List Tb} {dl:List Int} (h:gw w0 W xb rb ob l tv dv tl dl):W.cell? ⟨xb,0,none⟩=some (.pointer (some ⟨rb,0,none⟩))∧xb<W.heap.size:=
 ⟨by simp [World.cell?,h.box],af h.box⟩
theorem oP {aeE:Array Value} {t':TypeId} {f':Nat×Nat} (h:W.heap[b]?=some (.cells arr t f)) (h':W.heap[c]?=some (.cells aeE t' f')) (hn:t≠t'):b≠c:=fun e=>by
 subst e;rw [h] at h';cases h';exact hn rfl
theorem wG {l:List Tb} (h:Own B w v l) (hk:∀ g,v.ownBlock=some g→w'.heap[g]?=w.heap[g]?):Own B w' v l:=by
 refine ⟨h.1,?_⟩;rcases h.2 with h1|⟨g,cap,cur,h1,h2,h3,h4⟩
 ·exact .inl h1
 ·exact .inr ⟨g,cap,cur,h1,h2,by rw [hk g (by rw [h1];rfl)];exact h3,h4⟩
theorem rP {l:List Tb} (h:Own B w v l) (hg:v.ownBlock=some g):∃ cur,w.heap[g]?=some (.cells cur 101 (0,0))∧B≤g:=by
 rcases h.2 with ⟨rfl,_⟩|⟨g',cap,cur,rfl,h2,h3,h4⟩
 ·cases hg
 ·cases hg;exact ⟨cur,h3,h2⟩
theorem gw.step {tl:List Tb} {dl:List Int} (h:gw w0 W xb rb ob l tv dv tl dl) (hr:kF w0 W' rb l') (hG:GX rb W W'):gw w0 W' xb rb ob l' tv dv tl dl:=by
 obtain ⟨bv,h1,_⟩:=h.fK.cell;have ne:∀ {b:Nat} {arr:Array Value} {t:TypeId} {f:Nat×Nat},W.heap[b]?=some (.cells arr t f)→t≠293→b≠rb:=fun hb ht e=>by
  subst e;rw [h1] at hb;cases hb;exact ht rfl
 refine ⟨hr,hG.heap h.box (ne h.box (by decide)),hG.heap h.out (ne h.out (by decide)),wG h.tabs fun g hg=> ?_,h.drops.keep fun g hg=> ?_,h.nx,h.no,hG.heap h.res (ne h.res (by decide)),h.nq⟩
 ·obtain ⟨cur,hc,_⟩:=rP h.tabs hg
  rw [hG.heap hc (ne hc (by decide)),hc]
 ·obtain ⟨cur,hc⟩:=h.drops.block hg
  rw [hG.heap hc (ne hc (by decide)),hc]
theorem gw.grow {tl:List Tb} {dl:List Int} (h:gw w0 W xb rb ob l tv dv tl dl) (hg:Grow W W'):gw w0 W' xb rb ob l tv dv tl dl:=
 h.step (h.fK.nu hg) (GX.of hg)
def ny (W W':World):Prop:=∀ (b:Nat) (cs:Array Value),W.heap[b]?=some (.cells cs 101 (0,0))→cs.size=5→∃ cs':Array Value,W'.heap[b]?=some (.cells cs' 101 (0,0))∧cs'.size=5
theorem ny.refl (W:World):ny W W:=fun _ cs h hs=>⟨cs,h,hs⟩
theorem ny.grow (h:Grow W W'):ny W W':=fun _ cs hb hs=>⟨cs,h.heap hb,hs⟩
theorem ny.gx (h1:W.heap[rb]?=some (.cells arr 293 f)) (h:GX rb W W'):ny W W':=fun b cs hb hs=>
 ⟨cs,h.heap hb (fun e=>by subst e;rw [h1] at hb;cases hb),hs⟩
theorem aeF (hs:cs.size=5):∃ x0 x1 x2 x3 x4,cs=#[x0,x1,x2,x3,x4]:=by
 obtain ⟨l⟩:=cs
 match l,hs with
 | [x0,x1,x2,x3,x4],_=>exact ⟨_,_,_,_,_,rfl⟩
abbrev avF (W:World) (b:Nat) (y0 y1 y2 y3 y4:Value):World:=((((W.setCell ⟨b,0,none⟩ y0).setCell ⟨b,1,none⟩ y1).setCell ⟨b,2,none⟩ y2).setCell ⟨b,3,none⟩ y3).setCell ⟨b,4,none⟩ y4
theorem avG (h:W.heap[b]?=some (.cells cs 101 (0,0))) (hs:cs.size=5) (y0 y1 y2 y3 y4:Value):
  (((((W.setCell ⟨b,0,none⟩ y0).setCell ⟨b,1,none⟩ y1).setCell ⟨b,2,none⟩ y2).setCell ⟨b,3,none⟩ y3).setCell ⟨b,4,none⟩ y4).heap[b]?=some (.cells #[y0,y1,y2,y3,y4] 101 (0,0)):=by
 obtain ⟨l⟩:=cs
 match l,hs with
 | [x0,x1,x2,x3,x4],_=>exact Go.Gl.aK (Go.Gl.aK (Go.Gl.aK (Go.Gl.aK (Go.Gl.aK h 0 y0) 1 y1) 2 y2) 3 y3) 4 y4
theorem Vm (h:c≠b) (y0 y1 y2 y3 y4:Value):
  (((((W.setCell ⟨b,0,none⟩ y0).setCell ⟨b,1,none⟩ y1).setCell ⟨b,2,none⟩ y2).setCell ⟨b,3,none⟩ y3).setCell ⟨b,4,none⟩ y4).heap[c]?=W.heap[c]?:=by
 rw [aP _ _ _ _ h,aP _ _ _ _ h,aP _ _ _ _ h,aP _ _ _ _ h,aP _ _ _ _ h]
theorem gw.tab {tl:List Tb} {dl:List Int} (h:gw w0 W xb rb ob l tv dv tl dl) (hb:W.heap[tb]?=some (.cells cs 101 f)) (hn:w0.heap.size≤tb) (ho:tv.ownBlock≠some tb)
  (hg:w0.heap.size≤W'.heap.size) (tu:W'.os=w0.os∧W'.tape=w0.tape∧W'.output=w0.output) (hk:∀ c,c≠tb→W'.heap[c]?=W.heap[c]?):gw w0 W' xb rb ob l tv dv tl dl:=by
 obtain ⟨bv,h1,h2⟩:=h.fK.cell;have ne:∀ {b:Nat} {arr:Array Value} {t:TypeId} {f:Nat×Nat},W.heap[b]?=some (.cells arr t f)→t≠101→b≠tb:=fun h1 ht e=>by
  subst e;rw [hb] at h1;cases h1;exact ht rfl
 refine ⟨⟨⟨bv,by rw [hk _ (ne h1 (by decide))];exact h1,h2⟩,⟨tu.1,tu.2.1,tu.2.2,hg,fun b hbl=>by rw [hk b (by omega)];exact h.fK.grow.block b hbl⟩,h.fK.new⟩,by rw [hk _ (ne h.box (by decide))];exact h.box,by rw [hk _ (ne h.out (by decide))];exact h.out,wG h.tabs fun g eR=>hk g (fun e=>ho (by rw [eR,e])),h.drops.keep fun g eR=> ?_,h.nx,h.no,by rw [hk _ (ne h.res (by decide))];exact h.res,h.nq⟩;obtain ⟨cur,hc⟩:=h.drops.block eR;exact hk g (ne hc (by decide))
theorem avH {l:List Tb} (h:Own B w v l) (hB:B≤w.heap.size) (hl:l.length≤70000) (f0 f1:Int) (f2 f3:ByteArray) (f4:Int):
  ∃ g cap w',(Builtin.append_ #[83,83] 83 #[v,.slice (some ⟨w.heap.size,0,none⟩) 1 1]).run Tryz.prog (w.alloc (.cells #[.int .i64 f0,.int .i64 f1,.string f2,.string f3,.int .i64 f4] 101))= .ok (.slice (some ⟨g,0,none⟩) (l.length+1) cap) w'∧
   Own B w' (.slice (some ⟨g,0,none⟩) (l.length+1) cap) (l++ [⟨f0,f1,f2,f3,f4⟩])∧w.grownBy w' v.ownBlock:=by
 obtain ⟨i0,bO,hz0,hz1,hz2⟩:=info_parts Tryz.UR;have eK:(w.alloc (.cells #[.int .i64 f0,.int .i64 f1,.string f2,.string f3,.int .i64 f4] 101)).heap[w.heap.size]?=some (.cells #[.int .i64 f0,.int .i64 f1,.string f2,.string f3,.int .i64 f4] 101 (0,0)):=ax _ _;obtain ⟨g,cap,w',hrun,hown,hgr,_,_⟩:=run_append_lies (P:=Tryz.prog) (w.alloc (.cells #[.int .i64 f0,.int .i64 f1,.string f2,.string f3,.int .i64 f4] 101)) 83 83 B 101 i0 _ 5 56 Tryz.underlying83 bO hz0 hz1 hz2 rfl (by decide) _ _ _ (eM h (ar _ _))
  ⟨w.heap.size,0,none⟩ 1 1 (ji ⟨f0,f1,f2,f3,f4⟩) rfl (fun j u hu=>World.news_of_block eK j u (by simpa [ji] using hu)) (OC _) (by decide) (by unfold maxLen;omega) (by omega) (by simp;omega) _ rfl
 refine ⟨g,cap,w',hrun,?_,?_⟩
 ·have yA:lK (l++ [(⟨f0,f1,f2,f3,f4⟩:Tb)])=lK l++ji ⟨f0,f1,f2,f3,f4⟩:=by simp [lK]
  show w'.ownsRow B 101 5 _ (l++ [(⟨f0,f1,f2,f3,f4⟩:Tb)]).length _;rw [aJ,yA];exact hown
 ·obtain ⟨a,b,c,d,e⟩:=hgr
  exact ⟨a,b,c,aM (by simp) d,fun k hk hn=>by rw [e k (by simp;omega) hn];exact heap_alloc_old _ _ hk⟩
theorem gw.more {v':Value} {tl tl':List Tb} {dl:List Int} (h:gw w0 W xb rb ob l tv dv tl dl) (hg:W.grownBy W' tv.ownBlock) (ho:Own w0.heap.size W' v' tl'):gw w0 (W'.setCell ⟨ob,0,none⟩ v') xb rb ob l v' dv tl' dl:=by
 obtain ⟨bv,h1,h2⟩:=h.fK.cell;obtain ⟨ga,gb,gc,gd,ge⟩:=hg;have keep:∀ {b:Nat} {arr:Array Value} {t:TypeId} {f:Nat×Nat},W.heap[b]?=some (.cells arr t f)→t≠101→W'.heap[b]?=some (.cells arr t f):=fun {b arr t f} hb ht=>by
  rw [ge b (af hb) (fun e=> ?_)]
  ·exact hb
  ·obtain ⟨cur,hc,_⟩:=rP h.tabs e.symm
   rw [hb] at hc;cases hc;exact ht rfl
 have fG:=keep h.out (by decide);have ne:∀ {b:Nat} {arr:Array Value} {t:TypeId} {f:Nat×Nat},W'.heap[b]?=some (.cells arr t f)→t≠148→(W'.setCell ⟨ob,0,none⟩ v').heap[b]?=some (.cells arr t f):=fun {b arr t f} hb ht=>by
  rw [aP _ _ _ _ (fun e=> ?_)]
  ·exact hb
  ·have e':b=ob:=e
   subst e';rw [hb] at fG;cases fG;exact ht rfl
 have hgr:=h.fK.grow;refine ⟨⟨⟨bv,ne (keep h1 (by decide)) (by decide),h2⟩,⟨ga.trans hgr.os,gb.trans hgr.tape,gc.trans hgr.output,by simp;exact aM hgr.size gd,fun b hb=> ?_⟩,h.fK.new⟩,ne (keep h.box (by decide)) (by decide),Go.Gl.aK fG 0 v',wG ho fun g eR=> ?_,h.drops.keep fun g eR=> ?_,h.nx,h.no,(aP _ _ _ _ (fun e=>h.nq e)).trans (keep h.res (by decide)),h.nq⟩
 ·rw [aP _ _ _ _ (fun e=>by have e':b=ob:=e;have:=h.no;omega),ge b (cf hb hgr.size) (fun e=>by obtain ⟨cur,_,hB⟩:=rP h.tabs e.symm;omega)]
  exact hgr.block b hb
 ·obtain ⟨cur,hc,_⟩:=rP ho eR
  rw [ne hc (by decide),hc]
 ·obtain ⟨cur,hc⟩:=h.drops.block eR
  rw [ne (keep hc (by decide)) (by decide),hc]
def Da (B rb:Nat) (own:Option Nat) (t:Tb) (j:Nat) (v:Value) (W:World):Prop:=
 match j with
 |0=>v= .pointer (some ⟨rb,0,none⟩)
 |1=>v= .int .i64 t.file
 |2=>v= .pointer (some ⟨rb,0,none⟩)
 |3=>v= .int .i64 t.level
 |4=>v= .pointer (some ⟨rb,0,none⟩)
 |5=>v= .string t.first
 |6=>v= .pointer (some ⟨rb,0,none⟩)
 |7=>v= .string t.last
 |8=>v= .agg #[.int .i64 t.file,.int .i64 t.level,.string t.first,.string t.last,.int .i64 0]
 |9=>∃ (tb:Nat) (cs:Array Value),v= .pointer (some ⟨tb,0,none⟩)∧B≤tb∧own≠some tb∧W.heap[tb]?=some (.cells cs 101 (0,0))∧cs.size=5
 |_=>True
theorem Da.keep {own:Option Nat} {t:Tb}:∀ (j:Nat) (v:Value) (W W':World),ny W W'→Da B rb own t j v W→Da B rb own t j v W':=by
 intro j v W W' hR h;unfold Da at h
 split at h<;>first
  |exact h
  |(obtain ⟨tb,cs,h1,h2,h3,h4,h5⟩:=h;obtain ⟨cs',h6,h7⟩:=hR _ _ h4 h5;exact ⟨tb,cs',h1,h2,h3,h6,h7⟩)
  |(unfold Da;split<;>first|trivial|(exfalso;simp_all))
def stA (r0 r1 r2 r3 r4:List UInt8) (l:Array Bool):List UInt8:=
 if l.getD 7 false=true then r4 else if l.getD 5 false=true then r3 else if l.getD 3 false=true then r2 else if l.getD 1 false=true then r1 else r0
theorem Db {r0 r1 r2 r3 r4:List UInt8} {l:Array Bool} (i:Nat) (h1:i≠1) (h3:i≠3) (h5:i≠5) (h7:i≠7):stA r0 r1 r2 r3 r4 (l.setIfInBounds i true)=stA r0 r1 r2 r3 r4 l:=by
 unfold stA;rw [getD_set_ne false h1,getD_set_ne false h3,getD_set_ne false h5,getD_set_ne false h7]
theorem OV {l:Array Bool} (hi:i<l.size) (h:l.getD i true=false):l.getD i false=false:=by
 simp only [Array.getD,hi,dif_pos] at h ⊢;exact h
def rQ (w0:World) (xb rb ob:Nat) (r0 r1 r2 r3 r4:List UInt8) (tv dv:Value) (tl:List Tb) (dl:List Int) (t:Tb) (l:Array Bool) (a:Act) (W:World):Prop:=
 gw w0 W xb rb ob (stA r0 r1 r2 r3 r4 l) tv dv tl dl∧
 (l.getD 10 false=true→∃ tb:Nat,a.tmps[2]?=some (.pointer (some ⟨tb,0,none⟩))∧w0.heap.size≤tb∧tv.ownBlock≠some tb∧W.heap[tb]?=some (.cells #[.int .i64 t.file,.int .i64 t.level,.string t.first,.string t.last,.int .i64 0] 101 (0,0)))
theorem rQ.kU {r0 r1 r2 r3 r4:List UInt8} {tl:List Tb} {dl:List Int} {t:Tb} {l:Array Bool} {a':Act} (i:Nat) (hi:i≠10) (dP:l.getD 10 false=false)
  (hs:stA r0 r1 r2 r3 r4 (l.setIfInBounds i true)=l') (h:gw w0 W' xb rb ob l' tv dv tl dl):rQ w0 xb rb ob r0 r1 r2 r3 r4 tv dv tl dl t (l.setIfInBounds i true) a' W':=
 ⟨by rw [hs];exact h,fun h=>by rw [getD_set_ne false hi,dP] at h;cases h⟩
theorem avI {r:List UInt8} {tl:List Tb} {dl:List Int} {t:Tb} (ht:Ve t) (h:gw w0 W xb rb ob (jm t++r) tv dv tl dl) (hr:r.length≤800000000000) (ib:tl.length≤70000):
  Calls Tryz.prog 185 #[.pointer (some ⟨xb,0,none⟩),.pointer (some ⟨ob,0,none⟩)] W fun e w'=>e= .returned (.tuple #[])∧∃ cC,gw w0 w' xb rb ob r cC dv (tl++ [t]) dl:=by
 obtain ⟨r4,hr4⟩:∃ x,x=aD t.size.toNat++r:=⟨_,rfl⟩
 obtain ⟨r3,hr3⟩:∃ x,x=aW t.last.data.toList++r4:=⟨_,rfl⟩
 obtain ⟨r2,hr2⟩:∃ x,x=aW t.first.data.toList++r3:=⟨_,rfl⟩
 obtain ⟨r1,hr1⟩:∃ x,x=aD t.level.toNat++r2:=⟨_,rfl⟩
 obtain ⟨r0,Dc⟩:∃ x,x=aD t.file.toNat++r1:=⟨_,rfl⟩
 have he:jm t++r=r0:=by rw [Dc,hr1,hr2,hr3,hr4];simp [jm,ju]
 rw [he] at h;have f1:t.first.data.toList.length≤67108864:=by rw [gO];exact ht.first
 have f2:t.last.data.toList.length≤67108864:=by rw [gO];exact ht.last
 have b5:=cB t.size.toNat;have b4:=cB t.last.data.toList.length;have b3:=cB t.first.data.toList.length;have b2:=cB t.level.toNat;have l4:r4.length≤900000000000:=by rw [hr4];simp only [aJ];omega
 have l3:r3.length≤900000000000:=by rw [hr3,hr4];simp only [aJ,aW];omega
 have l2:r2.length≤900000000000:=by rw [hr2,hr3,hr4];simp only [aJ,aW];omega
 have l1:r1.length≤900000000000:=by rw [hr1,hr2,hr3,hr4];simp only [aJ,aW];omega
 obtain ⟨c0,lx⟩:=h.cell;have H:=ae h;have Ht:=ae ht;have Hr0:=ae Dc;have Kj:=ae hr1;have qR:=ae hr2;have Dd:=ae hr3;have AA:=ae hr4;clear h ht he Dc hr1 hr2 hr3 hr4 b2 b3 b4 b5;go_enter Tryz.func185,Tryz.ntmps185
 go_wp2_with fail
 go_cut [2] from 3 to 11 (fun pv wx=>∃ tb:Nat,pv= .pointer (some ⟨tb,0,none⟩)∧w0.heap.size≤tb∧tv.ownBlock≠some tb∧wx.heap[tb]?=some (.cells #[.int .i64 t.file,.int .i64 t.level,.string t.first,.string t.last,.int .i64 0] 101 (0,0))∧gw w0 wx xb rb ob r4 tv dv tl dl)
 case first=>
  rename_i J K hJ hK
  refine uB (fun a0 ha0=> ?_);have F0:a0.tmps[0]?=some (.pointer (some ⟨xb,0,none⟩)):=by rw [ha0];rfl
  have hsz:a0.tmps.size=21:=by rw [ha0];rfl
  have uH:Hid (∀ a1 wx (tb:Nat),rA [3,4,5,6,7,8,9,10,11,2] a0 a1→a1.tmps[2]?=some (.pointer (some ⟨tb,0,none⟩))→w0.heap.size≤tb→tv.ownBlock≠some tb→wx.heap[tb]?=some (.cells #[.int .i64 t.file,.int .i64 t.level,.string t.first,.string t.last,.int .i64 0] 101 (0,0))→gw w0 wx xb rb ob r4 tv dv tl dl→K a1 wx):=ae (fun a1 wx tb ha h1 h2 h3 h4 h5=>by
   refine hK _ _ (hJ _ _ ?_);refine ⟨a1.tmps.getD 2 undef,a1.tmps.getD 3 undef,a1.tmps.getD 4 undef,a1.tmps.getD 5 undef,a1.tmps.getD 6 undef,a1.tmps.getD 7 undef,a1.tmps.getD 8 undef,a1.tmps.getD 9 undef,a1.tmps.getD 10 undef,a1.tmps.getD 11 undef,⟨tb,by rw [eQ,h1];rfl,h2,h3,h4,h5⟩,ha.fill.trans ?_⟩;subst ha0;kernel_rfl)
  clear ha0 hK hJ;refine uD (Da w0.heap.size rb tv.ownBlock t) (rQ w0 xb rb ob r0 r1 r2 r3 r4 tv dv tl dl t) ny [3,4,5,6,7,8,9,10,11,2] (by kernel_rfl) (by kernel_rfl) (by rw [hsz];rfl) Da.keep ⟨by rw [show stA r0 r1 r2 r3 r4 (Array.replicate _ false)=r0 from rfl];exact H.out.grow (az W),fun h=>by cases h⟩ ?_ (fun a1 W1 hf=> ?_);rotate_left
  ·obtain ⟨tb,h1,h2,h3,h4⟩:=hf.world.2 (by rfl)
   exact uH.out a1 W1 tb hf.alike h1 h2 h3 h4 (by have:=hf.world.1;rw [show stA r0 r1 r2 r3 r4 (Array.replicate _ true)=r4 from rfl] at this;exact this)
  clear uH;refine ⟨?_,?_,?_,?_,?_,?_,?_,?_,?_,?_,?_,True.intro⟩
  ·intro listed a W hf ak aj
   have hs1:=hf.sz hsz;have hD:=hf.world.1;have dP:=dI hf.closed (n:=8) (e:=10) (i:=0) (by kernel_rfl) ak;obtain ⟨k0,lk⟩:=hD.cell;have G0:=hf.got (by decide) F0 (by rw [hs1];decide);refine aR rfl (by rfl) (fun K' hK'=> ?_);go_simp;exact hK' _ _ ⟨_,rfl,(fun _ _=>rfl),ny.refl _,rQ.kU 0 (by decide) dP (Db 0 (by decide) (by decide) (by decide) (by decide)) hD⟩
  ·intro listed a W hf ak aj
   have hs1:=hf.sz hsz;have hD:=hf.world.1;have dP:=dI hf.closed (n:=8) (e:=10) (i:=1) (by kernel_rfl) ak;have G3:=aO (hf.sv 0 3 rfl (aH aj 0 (by kernel_rfl)) fun _ _ h=>h) (by rw [hs1];decide);have n3:=dI hf.closed (n:=8) (e:=3) (i:=1) (by kernel_rfl) ak;have n5:=dI hf.closed (n:=8) (e:=5) (i:=1) (by kernel_rfl) ak;have n7:=dI hf.closed (n:=8) (e:=7) (i:=1) (by kernel_rfl) ak;have rR:listed.size=11:=hf.size;have ni:=OV (by rw [rR];decide) ak;have hst:stA r0 r1 r2 r3 r4 listed=r0:=by unfold stA;simp [ni,n3,n5,n7]
   rw [hst] at hD;have hs2:stA r0 r1 r2 r3 r4 (listed.setIfInBounds 1 true)=r1:=by
    unfold stA;rw [jQ (k:=1) (by rw [rR];decide),getD_set_ne false (show 1≠3 by decide),getD_set_ne false (show 1≠5 by decide),getD_set_ne false (show 1≠7 by decide)];simp [n3,n5,n7]
   obtain ⟨bv,wH,_⟩:=hD.fK.cell;refine jE rfl (by rfl) (by go_simp) (Gb (w0:=w0) (W:=W) (rb:=rb) (by have:=hD.fK;rw [Hr0.out] at this;exact this) (by have:=Ht.out.file.2;omega) l1) ?_;rintro e W2 ⟨rfl,hR,hG⟩;exact ⟨_,rfl,_,rfl,(fun _ _=>by show Value.int .i64 _=Value.int .i64 _;rw [Int.toNat_of_nonneg Ht.out.file.1]),ny.gx wH hG,rQ.kU 1 (by decide) dP hs2 (hD.step hR hG)⟩
  ·intro listed a W hf ak aj
   have hs1:=hf.sz hsz;have hD:=hf.world.1;have dP:=dI hf.closed (n:=8) (e:=10) (i:=2) (by kernel_rfl) ak;obtain ⟨k0,lk⟩:=hD.cell;have G0:=hf.got (by decide) F0 (by rw [hs1];decide);refine aR rfl (by rfl) (fun K' hK'=> ?_);go_simp;exact hK' _ _ ⟨_,rfl,(fun _ _=>rfl),ny.refl _,rQ.kU 2 (by decide) dP (Db 2 (by decide) (by decide) (by decide) (by decide)) hD⟩
  ·intro listed a W hf ak aj
   have hs1:=hf.sz hsz;have hD:=hf.world.1;have dP:=dI hf.closed (n:=8) (e:=10) (i:=3) (by kernel_rfl) ak;have G5:=aO (hf.sv 2 5 rfl (aH aj 2 (by kernel_rfl)) fun _ _ h=>h) (by rw [hs1];decide);have n5:=dI hf.closed (n:=8) (e:=5) (i:=3) (by kernel_rfl) ak;have n7:=dI hf.closed (n:=8) (e:=7) (i:=3) (by kernel_rfl) ak;have y1:=aH aj 1 (by kernel_rfl);have rR:listed.size=11:=hf.size;have ni:=OV (by rw [rR];decide) ak;have hst:stA r0 r1 r2 r3 r4 listed=r1:=by unfold stA;simp [ni,n5,n7,y1]
   rw [hst] at hD;have hs2:stA r0 r1 r2 r3 r4 (listed.setIfInBounds 3 true)=r2:=by
    unfold stA;rw [jQ (k:=3) (by rw [rR];decide),getD_set_ne false (show 3≠5 by decide),getD_set_ne false (show 3≠7 by decide)];simp [n5,n7]
   obtain ⟨bv,wH,_⟩:=hD.fK.cell;refine jE rfl (by rfl) (by go_simp) (Gb (w0:=w0) (W:=W) (rb:=rb) (by have:=hD.fK;rw [Kj.out] at this;exact this) (by have:=Ht.out.level.2;omega) l2) ?_;rintro e W2 ⟨rfl,hR,hG⟩;exact ⟨_,rfl,_,rfl,(fun _ _=>by show Value.int .i64 _=Value.int .i64 _;rw [Int.toNat_of_nonneg Ht.out.level.1]),ny.gx wH hG,rQ.kU 3 (by decide) dP hs2 (hD.step hR hG)⟩
  ·intro listed a W hf ak aj
   have hs1:=hf.sz hsz;have hD:=hf.world.1;have dP:=dI hf.closed (n:=8) (e:=10) (i:=4) (by kernel_rfl) ak;obtain ⟨k0,lk⟩:=hD.cell;have G0:=hf.got (by decide) F0 (by rw [hs1];decide);refine aR rfl (by rfl) (fun K' hK'=> ?_);go_simp;exact hK' _ _ ⟨_,rfl,(fun _ _=>rfl),ny.refl _,rQ.kU 4 (by decide) dP (Db 4 (by decide) (by decide) (by decide) (by decide)) hD⟩
  ·intro listed a W hf ak aj
   have hs1:=hf.sz hsz;have hD:=hf.world.1;have dP:=dI hf.closed (n:=8) (e:=10) (i:=5) (by kernel_rfl) ak;have G7:=aO (hf.sv 4 7 rfl (aH aj 4 (by kernel_rfl)) fun _ _ h=>h) (by rw [hs1];decide);have n7:=dI hf.closed (n:=8) (e:=7) (i:=5) (by kernel_rfl) ak;have y3:=aH aj 3 (by kernel_rfl);have rR:listed.size=11:=hf.size;have ni:=OV (by rw [rR];decide) ak;have hst:stA r0 r1 r2 r3 r4 listed=r2:=by unfold stA;simp [ni,n7,y3]
   rw [hst] at hD;have hs2:stA r0 r1 r2 r3 r4 (listed.setIfInBounds 5 true)=r3:=by
    unfold stA;rw [jQ (k:=5) (by rw [rR];decide),getD_set_ne false (show 5≠7 by decide)];simp [n7]
   obtain ⟨bv,wH,_⟩:=hD.fK.cell;refine jE rfl (by rfl) (by go_simp) (aey (w0:=w0) (W:=W) (rb:=rb) (by have:=hD.fK;rw [qR.out] at this;exact this) f1 l3) ?_;rintro e W2 ⟨rfl,hR,hG⟩;exact ⟨_,rfl,_,rfl,(fun _ _=>rfl),ny.gx wH hG,rQ.kU 5 (by decide) dP hs2 (hD.step hR hG)⟩
  ·intro listed a W hf ak aj
   have hs1:=hf.sz hsz;have hD:=hf.world.1;have dP:=dI hf.closed (n:=8) (e:=10) (i:=6) (by kernel_rfl) ak;obtain ⟨k0,lk⟩:=hD.cell;have G0:=hf.got (by decide) F0 (by rw [hs1];decide);refine aR rfl (by rfl) (fun K' hK'=> ?_);go_simp;exact hK' _ _ ⟨_,rfl,(fun _ _=>rfl),ny.refl _,rQ.kU 6 (by decide) dP (Db 6 (by decide) (by decide) (by decide) (by decide)) hD⟩
  ·intro listed a W hf ak aj
   have hs1:=hf.sz hsz;have hD:=hf.world.1;have dP:=dI hf.closed (n:=8) (e:=10) (i:=7) (by kernel_rfl) ak;have G9:=aO (hf.sv 6 9 rfl (aH aj 6 (by kernel_rfl)) fun _ _ h=>h) (by rw [hs1];decide);have y5:=aH aj 5 (by kernel_rfl);have rR:listed.size=11:=hf.size;have ni:=OV (by rw [rR];decide) ak;have hst:stA r0 r1 r2 r3 r4 listed=r3:=by unfold stA;simp [ni,y5]
   rw [hst] at hD;have hs2:stA r0 r1 r2 r3 r4 (listed.setIfInBounds 7 true)=r4:=by
    unfold stA;rw [jQ (k:=7) (by rw [rR];decide)];simp
   obtain ⟨bv,wH,_⟩:=hD.fK.cell;refine jE rfl (by rfl) (by go_simp) (aey (w0:=w0) (W:=W) (rb:=rb) (by have:=hD.fK;rw [Dd.out] at this;exact this) f2 l4) ?_;rintro e W2 ⟨rfl,hR,hG⟩;exact ⟨_,rfl,_,rfl,(fun _ _=>rfl),ny.gx wH hG,rQ.kU 7 (by decide) dP hs2 (hD.step hR hG)⟩
  ·intro listed a W hf ak aj
   have hs1:=hf.sz hsz;have hD:=hf.world.1;have dP:=dI hf.closed (n:=8) (e:=10) (i:=8) (by kernel_rfl) ak;have G4:=aO (hf.sv 1 4 rfl (aH aj 1 (by kernel_rfl)) fun _ _ h=>h) (by rw [hs1];decide);have G6:=aO (hf.sv 3 6 rfl (aH aj 3 (by kernel_rfl)) fun _ _ h=>h) (by rw [hs1];decide);have G8:=aO (hf.sv 5 8 rfl (aH aj 5 (by kernel_rfl)) fun _ _ h=>h) (by rw [hs1];decide);have G10:=aO (hf.sv 7 10 rfl (aH aj 7 (by kernel_rfl)) fun _ _ h=>h) (by rw [hs1];decide);refine aR rfl (by rfl) (fun K' hK'=> ?_);go_simp;exact hK' _ _ ⟨_,rfl,(fun _ _=>rfl),ny.refl _,rQ.kU 8 (by decide) dP (Db 8 (by decide) (by decide) (by decide) (by decide)) hD⟩
  ·intro listed a W hf ak aj
   have hs1:=hf.sz hsz;have hD:=hf.world.1;have dP:=dI hf.closed (n:=8) (e:=10) (i:=9) (by kernel_rfl) ak;refine aR rfl (by rfl) (fun K' hK'=> ?_);go_simp;exact hK' _ (W.alloc (.cells #[.int .i64 0,.int .i64 0,.string ByteArray.empty,.string ByteArray.empty,.int .i64 0] 101)) ⟨_,rfl,(fun _ _=>⟨W.heap.size,_,rfl,hD.fK.grow.size,(fun e=>by obtain ⟨cur,hc,_⟩:=rP hD.tabs e;have:=af hc;omega),ax _ _,rfl⟩),ny.grow (ar _ _),rQ.kU 9 (by decide) dP (Db 9 (by decide) (by decide) (by decide) (by decide)) (hD.grow (ar _ _))⟩
  ·intro listed a W hf ak aj
   have hs1:=hf.sz hsz;have hD:=hf.world.1;have G11:=aO (hf.sv 8 11 rfl (aH aj 8 (by kernel_rfl)) fun _ _ h=>h) (by rw [hs1];decide);obtain ⟨v9,s9,tb,cs,q9,b9,o9,h9,z9⟩:=hf.slot 9 2 rfl (aH aj 9 (by kernel_rfl));subst q9;have G2:=aO s9 (by rw [hs1];decide);obtain ⟨x0,x1,x2,x3,x4,rfl⟩:=aeF z9;obtain ⟨t0,t1,t2,t3,t4⟩:=dw h9;have Vn:=af h9;have Vo:=bG h9;have cM:=avG h9 z9 (.int .i64 t.file) (.int .i64 t.level) (.string t.first) (.string t.last) (.int .i64 0);have jx:=fun (c:Nat) (hc:c≠tb)=>Vm (W:=W) (b:=tb) hc (.int .i64 t.file) (.int .i64 t.level) (.string t.first) (.string t.last) (.int .i64 0)
   have hg:=hD.fK.grow;have tE:=hD.tab (W':=avF W tb (.int .i64 t.file) (.int .i64 t.level) (.string t.first) (.string t.last) (.int .i64 0)) h9 b9 o9 (by simpa using hg.size) ⟨hg.os,hg.tape,hg.output⟩ jx;refine aR rfl (by rfl) (fun K' hK'=> ?_);go_simp;refine hK' _ _ ⟨undef,rfl,(fun _ h=>by cases h),(fun c cs' hc hs'=> ?_),by rw [Db 10 (by decide) (by decide) (by decide) (by decide)];exact tE,fun _=>⟨tb,s9,b9,o9,cM⟩⟩;by_cases e:c=tb
   ·subst e;exact ⟨_,cM,rfl⟩
   ·exact ⟨cs',(jx c e).trans hc,hs'⟩
 case rest=>
 obtain ⟨tb,rfl,b1,o1,h1,iE⟩:=hcut;obtain ⟨c0,lx⟩:=iE.cell;have fS:=Gb (w0:=w0) (W:=wc) (rb:=rb) (by have:=iE.fK;rw [AA.out] at this;exact this) (by have:=Ht.out.size.2;omega) (by omega);have hsz:=Int.toNat_of_nonneg Ht.out.size.1;obtain ⟨bv,wH,_⟩:=iE.fK.cell;have hne:tb≠rb:=oP h1 wH (by decide);have kh:=ae fS;have HD1:=ae iE;have H1:=ae h1;clear fS wH iE h1 H Hr0 Kj qR Dd AA;obtain ⟨f0,f1',f2',f3,f4⟩:=t;dsimp only at hsz kh H1 ⊢;generalize Int.toNat f4=sz at*;subst hsz
 go_wp2_with fail
 (with_reducible refine kh.out.mono ?_);rintro e w2 ⟨rfl,hR,hG⟩;have tE:=HD1.out.step hR hG;have h2:=hG.heap H1.out hne;obtain ⟨t0,t1,t2,t3,t4⟩:=dw h2;have Cx:=af h2;have ft2:=bG h2;have h3:(w2.setCell ⟨tb,4,none⟩ (.int .i64 (sz:Int))).heap[tb]?=some (.cells #[.int .i64 f0,.int .i64 f1',.string f2',.string f3,.int .i64 (sz:Int)] 101 (0,0)):=Go.Gl.aK h2 4 _;have hg2:=tE.fK.grow;have wI:=tE.tab (W':=w2.setCell ⟨tb,4,none⟩ (.int .i64 (sz:Int))) h2 b1 o1 (by simpa using hg2.size) ⟨hg2.os,hg2.tape,hg2.output⟩ (fun c hc=>aP _ _ _ _ hc);have lo2:=af tE.out;clear c0 lx tE hg2 h2 hR hG kh HD1 H1
 go_upto_region 2 with fail
 clear t0 t1 t2 t3 t4 Cx ft2;generalize w2.setCell ⟨tb,4,none⟩ (.int .i64 (sz:Int))=W3 at*;obtain ⟨d0,lo⟩:W3.cell? ⟨ob,0,none⟩=some tv∧ob<W3.heap.size:=⟨by simp [World.cell?,wI.out],af wI.out⟩
 obtain ⟨s0,s1,s2,s3,s4⟩:=dw h3;have Kl:=af h3;obtain ⟨g,cap,w5,hrun,wJ,oQ⟩:=avH wI.tabs wI.fK.grow.size ib f0 f1' f2' f3 (sz:Int);have hD5:=wI.more (v':= .slice (some ⟨g,0,none⟩) (tl.length+1) cap) oQ wJ;have cW:=ae hrun;have rS:=ae hD5;have OW:∃ arr,w5.heap[ob]?=some (.cells arr 148 (0,0))∧arr.size=5:=by
  obtain ⟨_,_,_,_,ge⟩:=oQ;refine ⟨_,(ge ob (af wI.out) (fun e=> ?_)).trans wI.out,rfl⟩;obtain ⟨cur,hc,_⟩:=rP wI.tabs e.symm;exact oP hc wI.out (by decide) rfl
 obtain ⟨arr,uT,hs5⟩:=OW;obtain ⟨y0,y1,y2,y3,y4,rfl⟩:=aeF hs5;obtain ⟨z0,_,_,_,_⟩:=dw uT;have lo5:=af uT;have fo5:=bG uT;clear hrun wJ oQ hD5 wI h3 lo2
 go_wp2_with (at_builtin;refine fI rfl rfl rfl rfl cW.out ?_)
 exact ⟨rfl,.tuple #[],by simp [results,Tryz.results185,go_sem],rfl,_,rS.out⟩
theorem avL {l:List Int} (h:Az B w v l) (hB:B≤w.heap.size) (hl:l.length≤70000) (n:Int):
  ∃ v' w',(Builtin.append_ #[24,24] 24 #[v,.slice (some ⟨w.heap.size,0,none⟩) 1 1]).run Tryz.prog (w.alloc (.cells #[.int .i64 n] 3))= .ok v' w'∧Az B w' v' (l++ [n])∧w.grownBy w' v.ownBlock:=by
 have eK:(w.alloc (.cells #[.int .i64 n] 3)).heap[w.heap.size]?=some (.cells #[.int .i64 n] 3 (0,0)):=ax _ _;have lH:Src Tryz.prog 1 24 (.slice (some ⟨w.heap.size,0,none⟩) 1 1) 1 [.int .i64 n] (w.alloc (.cells #[.int .i64 n] 3)):=
  Src.ofSlice _ Tryz.underlying24 ⟨w.heap.size,0,none⟩ 1 1 [.int .i64 n] rfl (fun j u hu=>World.news_of_block eK j u (by simpa using hu)) (fun u hu=>by rw [cY.1 hu];rfl)
 obtain ⟨v',w',h1,h2,h3,_⟩:=yb (ty:=24) Tryz.underlying24 Tryz.Oe rfl (h.grow (ar _ _)) lH (by simp;omega) (by simp;unfold maxLen;omega) (by simp;omega);obtain ⟨a,b,c,d,e⟩:=h3;exact ⟨v',w',h1,by rw [Az,dD];exact h2,⟨a,b,c,aM (by simp) d,fun k hk hn=>by rw [e k (by simp;omega) hn];exact heap_alloc_old _ _ hk⟩⟩
theorem gw.drop {v':Value} {tl:List Tb} {dl dl':List Int} (h:gw w0 W xb rb ob l tv dv tl dl) (hg:W.grownBy W' dv.ownBlock) (ho:Az w0.heap.size W' v' dl'):gw w0 (W'.setCell ⟨ob,1,none⟩ v') xb rb ob l tv v' tl dl':=by
 obtain ⟨bv,h1,h2⟩:=h.fK.cell;obtain ⟨ga,gb,gc,gd,ge⟩:=hg;have keep:∀ {b:Nat} {arr:Array Value} {t:TypeId} {f:Nat×Nat},W.heap[b]?=some (.cells arr t f)→t≠3→W'.heap[b]?=some (.cells arr t f):=fun {b arr t f} hb ht=>by
  rw [ge b (af hb) (fun e=> ?_)]
  ·exact hb
  ·obtain ⟨cur,hc⟩:=h.drops.block e.symm
   rw [hb] at hc;cases hc;exact ht rfl
 have fG:=keep h.out (by decide);have ne:∀ {b:Nat} {arr:Array Value} {t:TypeId} {f:Nat×Nat},W'.heap[b]?=some (.cells arr t f)→t≠148→(W'.setCell ⟨ob,1,none⟩ v').heap[b]?=some (.cells arr t f):=fun {b arr t f} hb ht=>by
  rw [aP _ _ _ _ (fun e=> ?_)]
  ·exact hb
  ·have e':b=ob:=e
   subst e';rw [hb] at fG;cases fG;exact ht rfl
 have hgr:=h.fK.grow;refine ⟨⟨⟨bv,ne (keep h1 (by decide)) (by decide),h2⟩,⟨ga.trans hgr.os,gb.trans hgr.tape,gc.trans hgr.output,by simp;exact aM hgr.size gd,fun b hb=> ?_⟩,h.fK.new⟩,ne (keep h.box (by decide)) (by decide),Go.Gl.aK fG 1 v',wG h.tabs fun g eR=> ?_,ho.keep fun g eR=> ?_,h.nx,h.no,(aP _ _ _ _ (fun e=>h.nq e)).trans (keep h.res (by decide)),h.nq⟩
 ·rw [aP _ _ _ _ (fun e=>by have e':b=ob:=e;have:=h.no;omega),ge b (cf hb hgr.size) (fun e=>by have:=(h.drops.lt e.symm).1;omega)]
  exact hgr.block b hb
 ·obtain ⟨cur,hc,_⟩:=rP h.tabs eR
  rw [ne (keep hc (by decide)) (by decide),hc]
 ·obtain ⟨cur,hc⟩:=ho.block eR
  rw [ne hc (by decide),hc]
theorem avM {r:List UInt8} {tl:List Tb} {dl:List Int} {n:Nat} (hn:n≤1099511627776) (h:gw w0 W xb rb ob (aD n++r) tv dv tl dl) (hr:r.length≤800000000000) (ic:dl.length≤70000):
  Calls Tryz.prog 188 #[.pointer (some ⟨ob,0,none⟩),.pointer (some ⟨xb,0,none⟩)] W fun e w'=>e= .returned (.tuple #[])∧∃ OX,gw w0 w' xb rb ob r tv OX tl (dl++ [(n:Int)]):=by
 obtain ⟨c0,lx⟩:=h.cell;have d1:W.cell? ⟨ob,1,none⟩=some dv:=by simp [World.cell?,h.out]
 have lo:=af h.out;have H:=ae h;clear h;go_enter Tryz.func188,Tryz.ntmps188
 go_wp2_with fail
 refine uz (fun W'=>(W'.cell? ⟨xb,0,none⟩=some (.pointer (some ⟨rb,0,none⟩))∧xb<W'.heap.size)∧W'.cell? ⟨ob,1,none⟩=some dv∧ob<W'.heap.size) [(0,false),(1,false),(2,false),(3,true),(4,true),(5,true),(6,false)] 7 (by kernel_rfl) (by kernel_rfl) (bK fun _ _ _ _ _ h=>h) ⟨⟨by simpa using c0,by simpa using lx⟩,by simpa using d1,by simpa using lo⟩ ?_;simp only [cm,nth];clear c0 lx d1 lo
 repeat ((first|(refine aA (v:= ?_) (by rfl) ?_ ?_;rotate_left;rintro W ⟨⟨hW0,hW1⟩,hW2,hW3⟩;go_simp;with_reducible rfl)|refine aB (by rfl) ?_);simp only [ai,List.set])
 refine bp (by rfl) (by go_simp) (Gb (w0:=w0) (W:=W.drew) (rb:=rb) (H.out.grow (az W)).fK hn (by omega)) ?_;rintro e w1 ⟨rfl,hR,hG⟩;have iE:=(H.out.grow (az W)).step hR hG;obtain ⟨c0,lx⟩:=iE.cell;have d1:w1.cell? ⟨ob,1,none⟩=some dv:=by simp [World.cell?,iE.out]
 have lo:=af iE.out;refine ⟨_,rfl,⟨⟨c0,lx⟩,d1,lo⟩,?_⟩
 try simp only [ai,List.set,aC]
 refine sR (by rfl) (sQ (v:= .int .i64 (n:Int)) rfl Tryz.underlying24 Tryz.Oe rfl rfl rfl) ⟨⟨by rw [World.cell?_alloc_lt _ _ _ lx];exact c0,by simp;omega⟩,by rw [World.cell?_alloc_lt _ _ _ lo];exact d1,by simp;omega⟩ ?_
 try simp only [ai,List.set,aC]
 obtain ⟨v',w2,hrun,hown,hgr⟩:=avL iE.drops iE.fK.grow.size ic (n:Int);obtain ⟨va,L,vc,rfl⟩:∃ a L c,v'= .slice a L c:=by obtain ⟨a,c,h⟩:=hown.slice;exact ⟨_,_,_,h⟩
 have tE:=iE.drop (v':= .slice va L vc) hgr hown;have fG:∃ arr,w2.heap[ob]?=some (.cells arr 148 (0,0))∧arr=dN tv dv 0 0 0:=by
  obtain ⟨_,_,_,_,ge⟩:=hgr;refine ⟨_,(ge ob (af iE.out) (fun e=> ?_)).trans iE.out,rfl⟩;obtain ⟨cur,hc⟩:=iE.drops.block e.symm;exact oP hc iE.out (by decide) rfl
 have il:w2.heap[xb]?=some (.cells #[.pointer (some ⟨rb,0,none⟩)] 291 (0,0)):=by
  obtain ⟨_,_,_,_,ge⟩:=hgr;refine (ge xb (af iE.box) (fun e=> ?_)).trans iE.box;obtain ⟨cur,hc⟩:=iE.drops.block e.symm;exact oP hc iE.box (by decide) rfl
 obtain ⟨arr,ha2,rfl⟩:=fG;refine sR (by rfl) (Cu rfl rfl rfl hrun) ⟨⟨by simp [World.cell?,il],af il⟩,by simp [World.cell?,ha2],af ha2⟩ ?_
 try simp only [ai,List.set,aC]
 repeat ((first|(refine aA (v:= ?_) (by rfl) ?_ ?_;rotate_left;rintro W ⟨⟨hW0,hW1⟩,hW2,hW3⟩;go_simp;with_reducible rfl)|refine aB (by rfl) ?_);simp only [ai,List.set])
 refine bj ?_;have De:=ae tE;have d2:w2.cell? ⟨ob,1,none⟩=some dv:=by simp [World.cell?,ha2]
 have lo2:=af ha2;have fo2:=bG ha2;clear tE iE hown hgr ha2 il hrun d1 lo c0 lx hR hG;refine uA (by rfl) (fun K hK=> ?_);go_simp;refine hK _ _ ?_;clear hK K;exact ⟨rfl,.tuple #[],by simp [results,Tryz.results188,go_sem],rfl,_,De.out⟩
theorem gw.apart {tl:List Tb} {dl:List Int} (h:gw w0 W xb rb ob l tv dv tl dl) (hc:W.heap[c]?=some (.cells arr 148 (0,0))) (hn:w0.heap.size≤c)
  (tu:W'.os=W.os∧W'.tape=W.tape∧W'.output=W.output) (hs:W'.heap.size=W.heap.size) (hk:∀ b,b≠c→W'.heap[b]?=W.heap[b]?):
  kF w0 W' rb l∧W'.heap[xb]?=some (.cells #[.pointer (some ⟨rb,0,none⟩)] 291 (0,0))∧Own w0.heap.size W' tv tl∧Az w0.heap.size W' dv dl∧(w0.heap.size≠c→W'.heap[w0.heap.size]?=some (.cells (dN (.slice none 0 0) (.slice none 0 0) 0 0 0) 148 (0,0)))∧Grow w0 W':=by
 obtain ⟨bv,h1,h2⟩:=h.fK.cell;have hg:=h.fK.grow;have hgr:Grow w0 W':=⟨tu.1.trans hg.os,tu.2.1.trans hg.tape,tu.2.2.trans hg.output,by rw [hs];exact hg.size,fun b hb=>by rw [hk b (by omega)];exact hg.block b hb⟩
 refine ⟨⟨⟨bv,(hk _ (oP h1 hc (by decide))).trans h1,h2⟩,hgr,h.fK.new⟩,(hk _ (oP h.box hc (by decide))).trans h.box,wG h.tabs fun g eR=> ?_,h.drops.keep fun g eR=> ?_,fun hne=>(hk _ hne).trans h.res,hgr⟩
 ·obtain ⟨cur,tC,_⟩:=rP h.tabs eR
  exact hk g (oP tC hc (by decide))
 ·obtain ⟨cur,tC⟩:=h.drops.block eR
  exact hk g (oP tC hc (by decide))
theorem OY {v1 v2 v3 v4:Value} (h:W.heap[b]?=some (.cells #[v0,v1,v2,v3,v4] t (0,0))) (y0 y1 y2 y3 y4:Value):
  (((((W.setCell ⟨b,0,none⟩ y0).setCell ⟨b,1,none⟩ y1).setCell ⟨b,2,none⟩ y2).setCell ⟨b,3,none⟩ y3).setCell ⟨b,4,none⟩ y4).heap[b]?=some (.cells #[y0,y1,y2,y3,y4] t (0,0)):=
 Go.Gl.aK (Go.Gl.aK (Go.Gl.aK (Go.Gl.aK (Go.Gl.aK h 0 y0) 1 y1) 2 y2) 3 y3) 4 y4
theorem avN {t:Array Value} {c:Int} (h2:t.getD 2 undef= .pointer (some ⟨rb,0,none⟩)) (h3:t.getD 3 undef= .int .i64 c) (hW:w.heap[rb]?=some (.cells #[x0,x1,x2,x3,x4] 148 (0,0))):
  (results Tryz.f137 t).run Tryz.prog w= .ok (.tuple #[.agg #[x0,x1,x2,x3,x4],.int .i64 c]) w:=by
 obtain ⟨k0,k1,k2,k3,k4⟩:=dw hW;simp only [eQ] at h2 h3;simp [results,Tryz.results137,go_sem,h2,h3,k0,k1,k2,k3,k4]
theorem avO:∀ args w,(callFunc 185 args).run Tryz.prog w= .ok (.enter 185 args) w:=enters_of Tryz.func185 (by kernel_rfl) rfl
theorem avP:∀ args w,(callFunc 188 args).run Tryz.prog w= .ok (.enter 188 args) w:=enters_of Tryz.func188 (by kernel_rfl) rfl
theorem avQ {xb:Nat} {l:List Tb} {z:List UInt8} (hf:∀ t∈l,Ve t) (hl:l.length≤65536) (hz:(l.flatMap jm++z).length≤700000000000) (h:gw w W xb rb ob (aD l.length++(l.flatMap jm++z)) (.slice none 0 0) (.slice none 0 0) [] []):
  Calls Tryz.prog 184 #[.pointer (some ⟨rb,0,none⟩),.func (.func 185) #[] #[.pointer (some ⟨xb,0,none⟩),.pointer (some ⟨ob,0,none⟩)]] W fun e w'=>e= .returned (.tuple #[])∧∃ tv,gw w w' xb rb ob z tv (.slice none 0 0) l []:=by
 have hlen:∀ i,((l.drop i).flatMap jm++z).length≤700000000000:=fun i=>by
  have:l.flatMap jm=(l.take i).flatMap jm++(l.drop i).flatMap jm:=by rw [←List.flatMap_append,List.take_append_drop]
  rw [this] at hz;simp only [aJ] at hz ⊢;omega
 refine (aeA (fn:=185) (fun i W'=>∃ tv,gw w W' xb rb ob ((l.drop i).flatMap jm++z) tv (.slice none 0 0) (l.take i) []) h.fK hl (by omega) (fun w1 hR hG=>⟨_,by simpa using h.step hR hG⟩) (fun i wr ⟨tv,hd⟩=>⟨_,hd.fK⟩) (fun i wr hi ⟨tv,hd⟩=> ?_) ⟨_,Tryz.func185,rfl⟩ avO).mono ?_
 ·obtain ⟨t,ht⟩:∃ t,l[i]?=some t:=⟨l[i],by simp [hi]⟩
  have jR:(l.drop i).flatMap jm++z=jm t++((l.drop (i+1)).flatMap jm++z):=by
   obtain ⟨h1,rfl⟩:=dG.1 ht;rw [mh h1,List.flatMap_cons,ju]
  rw [jR] at hd;refine (avI (hf t (dB ht)) hd (by have:=hlen (i+1);omega) (by rw [List.length_take];omega)).mono ?_;rintro e w' ⟨rfl,cC,ow⟩;refine ⟨rfl,cC,?_⟩;rw [CT ht];exact ow
 ·rintro e w' ⟨rfl,tv,hd⟩
  rw [List.drop_length,ij] at hd;exact ⟨rfl,tv,hd⟩
theorem avR {ob:Nat} {tl:List Tb} {l:List Int} {z:List UInt8} (hf:∀ n∈l,mJ n) (hl:l.length≤65536) (hz:(l.flatMap kT++z).length≤700000000000) (h:gw w W xb rb ob (aD l.length++(l.flatMap kT++z)) tv (.slice none 0 0) tl []):
  Calls Tryz.prog 184 #[.pointer (some ⟨rb,0,none⟩),.func (.func 188) #[] #[.pointer (some ⟨ob,0,none⟩),.pointer (some ⟨xb,0,none⟩)]] W fun e w'=>e= .returned (.tuple #[])∧∃ dv,gw w w' xb rb ob z tv dv tl l:=by
 have hlen:∀ i,((l.drop i).flatMap kT++z).length≤700000000000:=fun i=>by
  have:l.flatMap kT=(l.take i).flatMap kT++(l.drop i).flatMap kT:=by rw [←List.flatMap_append,List.take_append_drop]
  rw [this] at hz;simp only [aJ] at hz ⊢;omega
 refine (aeA (fn:=188) (fun i W'=>∃ dv,gw w W' xb rb ob ((l.drop i).flatMap kT++z) tv dv tl (l.take i)) h.fK hl (by omega) (fun w1 hR hG=>⟨_,by simpa using h.step hR hG⟩) (fun i wr ⟨dv,hd⟩=>⟨_,hd.fK⟩) (fun i wr hi ⟨dv,hd⟩=> ?_) ⟨_,Tryz.func188,rfl⟩ avP).mono ?_
 ·obtain ⟨n,hn⟩:∃ n,l[i]?=some n:=⟨l[i],by simp [hi]⟩
  have hN:=hf n (dB hn);have jR:(l.drop i).flatMap kT++z=aD n.toNat++((l.drop (i+1)).flatMap kT++z):=by
   obtain ⟨h1,rfl⟩:=dG.1 hn;rw [mh h1,List.flatMap_cons,ju];rfl
  rw [jR] at hd;refine (avM (by have:=hN.2;omega) hd (by have:=hlen (i+1);omega) (by rw [List.length_take];omega)).mono ?_;rintro e w' ⟨rfl,OX,ow⟩;refine ⟨rfl,OX,?_⟩;rw [CT hn];rw [Int.toNat_of_nonneg hN.1] at ow;exact ow
 ·rintro e w' ⟨rfl,dv,hd⟩
  rw [List.drop_length,ij] at hd;exact ⟨rfl,dv,hd⟩
theorem avS {E:cH} (hf:Au E) (h:Bv w bv (dA E)) (hl:(dA E).length≤500000000000):
  Calls Tryz.prog 137 #[bv] w fun e w'=>∃ tv dv,e= .returned (.tuple #[.agg (dN tv dv E.seq E.next E.wal),.int .i64 0])∧Own w.heap.size w' tv E.add∧Az w.heap.size w' dv E.drop∧Grow w w':=by
 obtain ⟨z5,Km⟩:∃ x,x=aD E.wal.toNat++ []:=⟨_,rfl⟩
 obtain ⟨z4,OZ⟩:∃ x,x=aD E.next.toNat++z5:=⟨_,rfl⟩
 obtain ⟨z3,hz3⟩:∃ x,x=aD E.seq.toNat++z4:=⟨_,rfl⟩
 obtain ⟨z1,hz1⟩:∃ x,x=aD E.drop.length++(E.drop.flatMap kT++z3):=⟨_,rfl⟩
 have Vp:dA E=aD E.add.length++(E.add.flatMap jm++z1):=by rw [hz1,hz3,OZ,Km];simp [dA]
 have hl0:(E.add.flatMap jm++z1).length≤700000000000:=by rw [Vp] at hl;simp only [aJ] at hl ⊢;omega
 have yh:(E.drop.flatMap kT++z3).length≤700000000000:=by rw [hz1] at hl0;simp only [aJ] at hl0 ⊢;omega
 have b5:=cB E.wal.toNat;have b4:=cB E.next.toNat;have hl5:z5.length≤100:=by rw [Km];simp;omega
 have hl4:z4.length≤100:=by rw [OZ,Km];simp;omega
 obtain ⟨ba,bc,rfl⟩:=h.slice;have hW:gw w ((((w.alloc (.cells (dN (.slice none 0 0) (.slice none 0 0) 0 0 0) 148)).alloc (.cells #[.slice ba (dA E).length bc,.int .i64 0] 293)).alloc (.cells #[.pointer (some ⟨w.heap.size+1,0,none⟩)] 291)).alloc (.cells (dN (.slice none 0 0) (.slice none 0 0) 0 0 0) 148)) (w.heap.size+1+1) (w.heap.size+1) (w.heap.size+1+1+1) (dA E) (.slice none 0 0) (.slice none 0 0) [] []:=by
  have s1:∀ (W:World) (o:Obj),(W.alloc o).heap.size=W.heap.size+1:=fun W o=>by simp
  have n1:=ax w (.cells (dN (.slice none 0 0) (.slice none 0 0) 0 0 0) 148);generalize cp:w.alloc (.cells (dN (.slice none 0 0) (.slice none 0 0) 0 0 0) 148)=w1 at*;have z1':w1.heap.size=w.heap.size+1:=by rw [←cp];simp
  have g1:Grow w w1:=by rw [←cp];exact ar _ _
  have n2:=ax w1 (.cells #[.slice ba (dA E).length bc,.int .i64 0] 293);have g2:Grow w1 (w1.alloc (.cells #[.slice ba (dA E).length bc,.int .i64 0] 293)):=ar _ _;generalize hw2:w1.alloc (.cells #[.slice ba (dA E).length bc,.int .i64 0] 293)=w2 at*;have z2':w2.heap.size=w.heap.size+1+1:=by rw [←hw2];simp [z1']
  have n3:=ax w2 (.cells #[.pointer (some ⟨w.heap.size+1,0,none⟩)] 291);have g3:Grow w2 (w2.alloc (.cells #[.pointer (some ⟨w.heap.size+1,0,none⟩)] 291)):=ar _ _;generalize hw3:w2.alloc (.cells #[.pointer (some ⟨w.heap.size+1,0,none⟩)] 291)=w3 at*;have z3':w3.heap.size=w.heap.size+1+1+1:=by rw [←hw3];simp [z2']
  have n4:=ax w3 (.cells (dN (.slice none 0 0) (.slice none 0 0) 0 0 0) 148);have g4:Grow w3 (w3.alloc (.cells (dN (.slice none 0 0) (.slice none 0 0) 0 0 0) 148)):=ar _ _;rw [z1'] at n2;rw [z2'] at n3;rw [z3'] at n4;exact ⟨⟨⟨_,g4.heap (g3.heap n2),h⟩,((g1.trans g2).trans g3).trans g4,by omega⟩,g4.heap n3,n4,iL _ _ _ _,nO _ _ _,by omega,by omega,g4.heap (g3.heap (g2.heap n1)),by omega⟩
 have HW:=ae hW;have Hf:=ae hf;have Hz1:=ae hz1;have Hz3:=ae hz3;have Hz4:=ae OZ;have Hz5:=ae Km;have Vq:=ae Vp;clear h hW hf hz1 hz3 OZ Km b4 b5 Vp;go_enter Tryz.func137,Tryz.ntmps137
 go_upto_region 3 with fail
 generalize (((w.alloc (.cells (dN (.slice none 0 0) (.slice none 0 0) 0 0 0) 148)).alloc (.cells #[.slice ba (dA E).length bc,.int .i64 0] 293)).alloc (.cells #[.pointer (some ⟨w.heap.size+1,0,none⟩)] 291)).alloc (.cells (dN (.slice none 0 0) (.slice none 0 0) 0 0 0) 148)=W0 at*;have hW:=HW.out;rw [Vq.out] at hW;generalize (dA E).length=L at*;generalize il:w.heap.size+1+1=xb at*;generalize fC:w.heap.size+1=rb at*;obtain ⟨c0,lx⟩:=hW.cell;have Ha:=ae (avQ Hf.out.adds Hf.out.OH hl0 hW);clear hW HW hl
 go_wp2_with fail
 (with_reducible refine Ha.out.mono ?_);rintro e w1 ⟨rfl,tv,jR⟩;obtain ⟨c1,lx1⟩:=jR.cell;have Hb:=ae (avR (z:=z3) Hf.out.drops Hf.out.OI yh (by rw [←Hz1.out];exact jR));clear jR Ha c0 lx
 go_upto_region 4 with fail
 go_wp2_with fail
 (with_reducible refine Hb.out.mono ?_);rintro e w2 ⟨rfl,dv,cP⟩;have De:=ae cP;clear cP Hb c1 lx1
 go_upto_region 5 with fail
 obtain ⟨c2,lx2⟩:=De.out.cell;refine ou (fun W'=>W'.cell? ⟨xb,0,none⟩=some (.pointer (some ⟨rb,0,none⟩))∧xb<W'.heap.size) [(0,false),(2,false),(4,false),(1,true),(6,false),(3,true),(5,true),(7,true),(8,false),(9,true),(10,false),(11,true)] (by kernel_rfl) (by kernel_rfl) (bK fun _ _ _ _ _ h=>h) ⟨by simpa using c2,by simpa using lx2⟩ ?_;simp only [cm,nth];clear c2 lx2
 repeat ((first|(refine aA (v:= ?_) (by rfl) ?_ ?_;rotate_left;rintro W ⟨hW0,hW1⟩;go_simp;with_reducible rfl)|refine aB (by rfl) ?_);simp only [ai,List.set])
 have hdd:=De.out.grow (az w2);refine bp (by rfl) (by go_simp) (aew (w0:=w) (W:=w2.drew) (rb:=rb) (by have:=hdd.fK;rw [Hz3.out] at this;exact this) (n:=E.seq.toNat) (by have:=Hf.out.seq;omega) (by omega)) ?_;rintro e w3 ⟨rfl,hR,hG⟩;have fZ:=hdd.step hR hG;refine ⟨_,rfl,fZ.cell,?_⟩
 try simp only [ai,List.set,aC]
 repeat ((first|(refine aA (v:= ?_) (by rfl) ?_ ?_;rotate_left;rintro W ⟨hW0,hW1⟩;go_simp;with_reducible rfl)|refine aB (by rfl) ?_);simp only [ai,List.set])
 refine bp (by rfl) (by go_simp) (Gb (w0:=w) (W:=w3) (rb:=rb) (by have:=fZ.fK;rw [Hz4.out] at this;exact this) (n:=E.next.toNat) (by have:=Hf.out.next.2;omega) (by omega)) ?_;rintro e w4 ⟨rfl,hR4,Gc⟩;have jV:=fZ.step hR4 Gc;refine ⟨_,rfl,jV.cell,?_⟩
 try simp only [ai,List.set,aC]
 refine bp (by rfl) (by go_simp) (Gb (w0:=w) (W:=w4) (rb:=rb) (by have:=jV.fK;rw [Hz5.out] at this;exact this) (n:=E.wal.toNat) (by have:=Hf.out.wal.2;omega) (by simp)) ?_;rintro e w5 ⟨rfl,hR5,Gd⟩;have iG:=jV.step hR5 Gd;refine ⟨_,rfl,iG.cell,?_⟩
 try simp only [ai,List.set,aC]
 have Vr:=Int.toNat_of_nonneg Hf.out.seq.1;have Vs:=Int.toNat_of_nonneg Hf.out.next.1;have Vt:=Int.toNat_of_nonneg Hf.out.wal.1;rw [Vr,Vs,Vt];have rS:=ae iG;have Vu:=ae (ag Vr (ag Vs Vt));clear hdd hR hG hR4 Gc hR5 Gd fZ jV Vr Vs Vt;have gI:=iG.out;have wK:=iG.box;clear iG;obtain ⟨o0,o1,o2,o3,o4⟩:=dw gI;have lo5:=af gI;have fo5:=bG gI;have lQ:(w5.setCell ⟨xb+1,2,none⟩ (.int .u64 E.seq)).heap[xb+1]?=some (.cells (dN tv dv E.seq 0 0) 148 (0,0)):=Go.Gl.aK gI 2 _;have yB:(w5.setCell ⟨xb+1,2,none⟩ (.int .u64 E.seq)).heap[xb]?=some (.cells #[.pointer (some ⟨rb,0,none⟩)] 291 (0,0)):=(aP _ _ _ _ (oP wK gI (by decide))).trans wK;refine fO (by rfl) (fun K hK=> ?_);go_simp;refine hK _ _ ⟨⟨by simp [World.cell?,yB],af yB⟩,?_⟩;clear hK K
 try simp only [ai,List.set,aC]
 repeat ((first|(refine aA (v:= ?_) (by rfl) ?_ ?_;rotate_left;rintro W ⟨hW0,hW1⟩;go_simp;with_reducible rfl)|refine aB (by rfl) ?_);simp only [ai,List.set])
 clear o0 o1 o2 o3 o4 lo5 fo5;have uQ:∀ b,b≠xb+1→(w5.setCell ⟨xb+1,2,none⟩ (.int .u64 E.seq)).heap[b]?=w5.heap[b]?:=fun b hb=>aP _ _ _ _ hb
 have hp6:(w5.setCell ⟨xb+1,2,none⟩ (.int .u64 E.seq)).os=w5.os∧(w5.setCell ⟨xb+1,2,none⟩ (.int .u64 E.seq)).tape=w5.tape∧(w5.setCell ⟨xb+1,2,none⟩ (.int .u64 E.seq)).output=w5.output:=⟨rfl,rfl,rfl⟩
 have pR:(w5.setCell ⟨xb+1,2,none⟩ (.int .u64 E.seq)).heap.size=w5.heap.size:=by simp
 generalize w5.setCell ⟨xb+1,2,none⟩ (.int .u64 E.seq)=w6 at*;obtain ⟨o0,o1,o2,o3,o4⟩:=dw lQ;have lo6:=af lQ;have fo6:=bG lQ;have jT:(w6.setCell ⟨xb+1,3,none⟩ (.int .i64 E.next)).heap[xb+1]?=some (.cells (dN tv dv E.seq E.next 0) 148 (0,0)):=Go.Gl.aK lQ 3 _;have uU:(w6.setCell ⟨xb+1,3,none⟩ (.int .i64 E.next)).heap[xb]?=some (.cells #[.pointer (some ⟨rb,0,none⟩)] 291 (0,0)):=(aP _ _ _ _ (oP yB lQ (by decide))).trans yB;refine fO (by rfl) (fun K hK=> ?_);go_simp;refine hK _ _ ⟨⟨by simp [World.cell?,uU],af uU⟩,?_⟩;clear hK K
 try simp only [ai,List.set,aC]
 repeat ((first|(refine aA (v:= ?_) (by rfl) ?_ ?_;rotate_left;rintro W ⟨hW0,hW1⟩;go_simp;with_reducible rfl)|refine aB (by rfl) ?_);simp only [ai,List.set])
 clear o0 o1 o2 o3 o4 lo6 fo6;have hk7:∀ b,b≠xb+1→(w6.setCell ⟨xb+1,3,none⟩ (.int .i64 E.next)).heap[b]?=w5.heap[b]?:=fun b hb=>(aP _ _ _ _ hb).trans (uQ b hb)
 have hp7:(w6.setCell ⟨xb+1,3,none⟩ (.int .i64 E.next)).os=w5.os∧(w6.setCell ⟨xb+1,3,none⟩ (.int .i64 E.next)).tape=w5.tape∧(w6.setCell ⟨xb+1,3,none⟩ (.int .i64 E.next)).output=w5.output:=hp6;have oT:(w6.setCell ⟨xb+1,3,none⟩ (.int .i64 E.next)).heap.size=w5.heap.size:=by simpa using pR
 clear uQ hp6 pR lQ yB;generalize w6.setCell ⟨xb+1,3,none⟩ (.int .i64 E.next)=w7 at*;obtain ⟨o0,o1,o2,o3,o4⟩:=dw jT;have lo7:=af jT;have fo7:=bG jT;have qT:(w7.setCell ⟨xb+1,4,none⟩ (.int .i64 E.wal)).heap[xb+1]?=some (.cells (dN tv dv E.seq E.next E.wal) 148 (0,0)):=Go.Gl.aK jT 4 _;have Vv:(w7.setCell ⟨xb+1,4,none⟩ (.int .i64 E.wal)).heap[xb]?=some (.cells #[.pointer (some ⟨rb,0,none⟩)] 291 (0,0)):=(aP _ _ _ _ (oP uU jT (by decide))).trans uU;refine fO (by rfl) (fun K hK=> ?_);go_simp;refine hK _ _ ⟨⟨by simp [World.cell?,Vv],af Vv⟩,?_⟩;clear hK K
 try simp only [ai,List.set,aC]
 clear o0 o1 o2 o3 o4 lo7 fo7;have AB:∀ b,b≠xb+1→(w7.setCell ⟨xb+1,4,none⟩ (.int .i64 E.wal)).heap[b]?=w5.heap[b]?:=fun b hb=>(aP _ _ _ _ hb).trans (hk7 b hb)
 have hp8:(w7.setCell ⟨xb+1,4,none⟩ (.int .i64 E.wal)).os=w5.os∧(w7.setCell ⟨xb+1,4,none⟩ (.int .i64 E.wal)).tape=w5.tape∧(w7.setCell ⟨xb+1,4,none⟩ (.int .i64 E.wal)).output=w5.output:=hp7;have wL:(w7.setCell ⟨xb+1,4,none⟩ (.int .i64 E.wal)).heap.size=w5.heap.size:=by simpa using oT
 clear hk7 hp7 oT jT uU;generalize w7.setCell ⟨xb+1,4,none⟩ (.int .i64 E.wal)=w8 at*;refine bj ?_;obtain ⟨uV,Ge,rT,Gf,Df,di⟩:=rS.out.apart gI (by have:=rS.out.no;exact this) hp8 wL AB;have Gg:=Df rS.out.nq;obtain ⟨bv,rN,bC⟩:=uV.cell;obtain ⟨va,vc,rfl⟩:=bC.slice;have c1:w8.cell? ⟨xb,0,none⟩=some (.pointer (some ⟨rb,0,none⟩)):=by simp [World.cell?,Ge]
 have r0:w8.cell? ⟨rb,0,none⟩=some (.slice va 0 vc):=by simp [World.cell?,rN]
 have r1:w8.cell? ⟨rb,1,none⟩=some (.int .i64 0):=by simp [World.cell?,rN]
 have lr:=af rN;have lx8:=af Ge;obtain ⟨o0,o1,o2,o3,o4⟩:=dw qT;have lo8:=af qT;obtain ⟨q0,q1,q2,q3,q4⟩:=dw Gg;have lq8:=af Gg;have fq8:=bG Gg;have ta:=jL rT;obtain ⟨ta1,tc1,rfl⟩:=ta;obtain ⟨da1,dL,dc1,rfl⟩:∃ a L c,dv= .slice a L c:=by obtain ⟨a,c,h⟩:=Gf.slice;exact ⟨_,_,_,h⟩
 have fB:=OY Gg (.slice ta1 E.add.length tc1) (.slice da1 dL dc1) (.int .u64 E.seq) (.int .i64 E.next) (.int .i64 E.wal);have cJ:=ae fB;have Hq8:=ae Gg;have yC:=ae rT;have Hd8:=ae Gf;have AD:=ae di;clear uV Ge rT Gf Df di Gg rN bC qT Vv fB AB hp8 wL gI wK;go_wp2;refine bodyPost_ret (avN rfl rfl cJ.out) rfl ?_;refine ⟨_,_,rfl,wG yC.out fun g eR=> ?_,Hd8.out.keep fun g eR=> ?_,?_⟩
 ·obtain ⟨cur,hc,_⟩:=rP yC.out eR
  exact Vm (oP hc Hq8.out (by decide)) _ _ _ _ _
 ·obtain ⟨cur,hc⟩:=Hd8.out.block eR
  exact Vm (oP hc Hq8.out (by decide)) _ _ _ _ _
 ·exact ((((AD.out.setCell (p:=⟨w.heap.size,0,none⟩) (aw _) _).setCell (p:=⟨w.heap.size,1,none⟩) (aw _) _).setCell (p:=⟨w.heap.size,2,none⟩) (aw _) _).setCell (p:=⟨w.heap.size,3,none⟩) (aw _) _).setCell (p:=⟨w.heap.size,4,none⟩) (aw _) _
def Dg (B tb:Nat) (bv:Value) (L:List UInt8) (n4:Nat) (f2 f3:ByteArray) (j:Nat) (v:Value) (W:World):Prop:=
 match j with
 |0=>v=bv
 |1=>v= .pointer (some ⟨tb,2,none⟩)
 |2=>v= .string f2
 |3=>Bv W v f2.data.toList
 |4=>∃ (q:Nat) (pv:Value),v= .slice (some ⟨q,0,none⟩) 1 1∧W.heap[q]?=some (.cells #[pv] 49 (0,0))∧Bv W pv f2.data.toList
 |5=>aI B W v (L++aW f2.data.toList)
 |6=>v= .pointer (some ⟨tb,3,none⟩)
 |7=>v= .string f3
 |8=>Bv W v f3.data.toList
 |9=>∃ (q:Nat) (pv:Value),v= .slice (some ⟨q,0,none⟩) 1 1∧W.heap[q]?=some (.cells #[pv] 49 (0,0))∧Bv W pv f3.data.toList
 |10=>aI B W v (L++aW f2.data.toList++aW f3.data.toList)
 |11=>v= .pointer (some ⟨tb,4,none⟩)
 |12=>v= .int .i64 (n4:Int)
 |13=>v= .int .u64 (n4:Int)
 |14=>aI B W v (L++aW f2.data.toList++aW f3.data.toList++aD n4)
 |15=>aI B W v (L++aW f2.data.toList++aW f3.data.toList++aD n4)
 |_=>True
theorem Dg.keep {n4:Nat} {f2 f3:ByteArray}:∀ (j:Nat) (v:Value) (W W':World),Grow W W'→Dg B tb bv L n4 f2 f3 j v W→Dg B tb bv L n4 f2 f3 j v W':=by
 intro j v W W' hR h;unfold Dg at h
 split at h<;>first
  |exact h
  |exact Bv.grow h hR
  |exact Row1.grow h hR
  |(obtain ⟨q,pv,h1,h2,h3⟩:=h;exact ⟨q,pv,h1,hR.heap h2,h3.grow hR⟩)
  |(unfold Dg;split<;>first|trivial|(exfalso;simp_all))
def mL (w5:World) (bv:Value) (l:Array Bool) (a:Act) (W:World):Prop:=Grow w5 W∧(l.getD 15 false=false→a.tmps[3]?=some bv)
theorem mL.next {w5:World} {l:Array Bool} {a:Act} (h:mL w5 bv l a W) (hi:i≠15) (hd:d≠3) (hg:Grow W W'):mL w5 bv (l.setIfInBounds i true) (a.put (some d) v) W':=
 ⟨h.1.trans hg,fun hl=>gi hd (h.2 (by rw [getD_set_ne false hi] at hl;exact hl))⟩
theorem nz (x:List UInt8):(aW x).length≤x.length+10:=by
 have:=cB x.length;simp only [aW,aJ];omega
def Vx (w:World) (l:List Tb) (pre:List UInt8) (bv iv:Value) (wr:World):Prop:=
 ∃ i:Nat,iv= .int .i64 i∧i≤l.length∧aI w.heap.size wr bv (pre++(l.take i).flatMap jm)∧Grow w wr
def Vy (w:World) (l:List Int) (pre:List UInt8) (bv iv:Value) (wr:World):Prop:=
 ∃ i:Nat,iv= .int .i64 i∧i≤l.length∧aI w.heap.size wr bv (pre++(l.take i).flatMap kT)∧Grow w wr
theorem Vz {α:Type} {l:List α} {x:α} (f:α→List UInt8) (h:l[i]?=some x):(l.take (i+1)).flatMap f=(l.take i).flatMap f++f x:=by
 rw [CT h,List.flatMap_append];simp
theorem uW {n:Nat} (h:n<18446744073709551616):IntKind.u64.wrap (n:Int)=(n:Int):=by simp [IntKind.wrap,IntKind.bits,IntKind.signed];omega
theorem awg {E:cH} (hf:Au E) (hA:tB w av E.add) (hD:Ints w dv E.drop) (hk:jz E.add≤1000000000):
  Calls Tryz.prog 112 #[.agg (dN av dv E.seq E.next E.wal)] w fun e w'=>∃ v,e= .returned v∧aI w.heap.size w' v (dA E)∧Grow w w':=by
 obtain ⟨aa,ac,rfl,rU⟩:=hA;obtain ⟨da,dc,rfl,AE,hdr⟩:=hD;have wM:=ax w (.cells (dN (.slice aa E.add.length ac) (.slice da E.drop.length dc) E.seq E.next E.wal) 148);have ah:Grow w (w.alloc (.cells (dN (.slice aa E.add.length ac) (.slice da E.drop.length dc) E.seq E.next E.wal) 148)):=ar _ _;have oM:=hf.OH;have ic:=hf.OI;have wu:=uW (n:=E.add.length) (by omega);have jf:=oI (w:=w.alloc (.cells (dN (.slice aa E.add.length ac) (.slice da E.drop.length dc) E.seq E.next E.wal) 148)) (bv:= .slice none 0 0) (l:= []) ⟨none,0,rfl,aw _,aY _,fun _=>rfl,.inl rfl⟩ (by simp) (n:=E.add.length) (by omega);obtain ⟨e0,e1,e2,e3,e4⟩:=dw wM;have le:=af wM;have mZ:=ae jf;have Pa:=ae wM;have cQ:=ae ah;have VA:=ae rU;have tz:=ae hdr;have Hf:=ae hf;clear wM ah rU hdr jf hf;go_enter Tryz.func112,Tryz.ntmps112
 go_wp2_with fail
 generalize w.alloc (.cells (dN (.slice aa E.add.length ac) (.slice da E.drop.length dc) E.seq E.next E.wal) 148)=w1 at*;(with_reducible refine mZ.out.mono ?_);rintro e w2 ⟨nv,rfl,fY,hg2⟩;have hb2:=hg2.heap Pa.out;clear e0 e1 e2 e3 e4 le;obtain ⟨e0,e1,e2,e3,e4⟩:=dw hb2;have Kn:=af hb2;have bJ:Hid (Vx w1 E.add (aD E.add.length) nv (.int .i64 0) w2):=ae ⟨0,rfl,aY _,by simpa using fY,hg2⟩;obtain ⟨na,nc,rfl⟩:=fY.slice;clear fY hg2 hb2 mZ
 go_wp2_with fail
 go_loopw [3,16] (fun bv iv wr=>Vx w1 E.add (aD E.add.length) bv iv wr) (fun _ iv _=>E.add.length-(intOf iv).toNat)
 case atStart=>exact bJ.out
 case round=>
  obtain ⟨i,rfl,hi,hown,hg⟩:=hrel;clear e0 e1 e2 e3 e4 Kn;have fL:=hg.heap Pa.out;by_cases hlt:i<E.add.length
  ·obtain ⟨t,ht⟩:∃ t,E.add[i]?=some t:=⟨E.add[i],by simp [hlt]⟩
   obtain ⟨b,o,rfl,hbl,bm⟩:∃ b o,aa=some ⟨b,o,none⟩∧b<w.heap.size∧Rd w b o ji 5 E.add:=by
    rcases VA.out with h1|h1
    ·rw [h1] at hlt;simp at hlt
    ·exact h1
   have eZ:=cQ.out.trans hg;have iX:=bm.grow hbl eZ i t ht;have qD:=Hf.out.adds t (dB ht);have dS:=Vz jm ht;have Gh:=aeh (dB ht);have hpl:((E.add.take i).flatMap jm).length≤50*i+jz E.add:=by
    have h1:=OQ (E.add.take i);have h2:=avn E.add i;rw [List.length_take] at h1;omega
   obtain ⟨f0,f1,f2,f3,f4⟩:=t;obtain ⟨n0,rfl⟩:∃ n:Nat,f0=n:=⟨f0.toNat,(Int.toNat_of_nonneg qD.file.1).symm⟩
   obtain ⟨n1,rfl⟩:∃ n:Nat,f1=n:=⟨f1.toNat,(Int.toNat_of_nonneg qD.level.1).symm⟩
   obtain ⟨n4,rfl⟩:∃ n:Nat,f4=n:=⟨f4.toNat,(Int.toNat_of_nonneg qD.size.1).symm⟩
   have m0:n0≤1099511627776:=by have:=qD.file.2;exact Int.ofNat_le.1 this
   have m1:n1≤1099511627776:=by have:=qD.level.2;exact Int.ofNat_le.1 this
   have m4:n4≤1099511627776:=by have:=qD.size.2;exact Int.ofNat_le.1 this
   have m2:f2.size≤67108864:=qD.first;have m3:f3.size≤67108864:=qD.last;have m2':f2.data.toList.length≤67108864:=by rw [gO];exact m2
   have m3':f3.data.toList.length≤67108864:=by rw [gO];exact m3
   have k2:=nz f2.data.toList;have k3:=nz f3.data.toList;have afe:(E.add.take (i+1)).flatMap jm=(E.add.take i).flatMap jm++(aD n0++(aD n1++(aW f2.data.toList++(aW f3.data.toList++aD n4)))):=dS;have nA:=ae afe;have a0:=iX 0 _ rfl;have a1:=iX 1 _ rfl;have a2:=iX 2 _ rfl;have a3:=iX 3 _ rfl;have a4:=iX 4 _ rfl;simp only [Nat.add_zero] at a0;dsimp only at a0 a1 a2 a3 a4;have lb:b<wr.heap.size:=cf hbl eZ.size;have eB:(i:Int)<(E.add.length:Int):=by omega
   have bO:(0:Int)≤(i:Int):=by omega
   have fE:IntKind.i64.wrap ((i:Int)+1)=(i:Int)+1:=aS _ (by omega);have wu0:=uW (n:=n0) (by omega);have wu1:=uW (n:=n1) (by omega);have wu4:=uW (n:=n4) (by omega);have dY:(wr.alloc (.cells #[.int .i64 (n0:Int),.int .i64 (n1:Int),.string f2,.string f3,.int .i64 (n4:Int)] 101)).heap[wr.heap.size]?=some (.cells #[.int .i64 (n0:Int),.int .i64 (n1:Int),.string f2,.string f3,.int .i64 (n4:Int)] 101 (0,0)):=ax _ _;have aU:Grow wr (wr.alloc (.cells #[.int .i64 (n0:Int),.int .i64 (n1:Int),.string f2,.string f3,.int .i64 (n4:Int)] 101)):=ar _ _;obtain ⟨PL,AG⟩:∃ x,x=aD E.add.length++(E.add.take i).flatMap jm:=⟨_,rfl⟩
   rw [←AG] at hown;have fX:=ae (hown.grow aU);obtain ⟨ba,bc,rfl⟩:=hown.slice;have aIg:PL.length≤5000000000:=by rw [AG];have:=cB E.add.length;simp only [aJ];omega
   have VB:=ae AG;have HG:=ae (hg.trans aU);clear hown hg eZ bm iX dS afe Gh hpl qD ht AG fL
   go_upto_region 5 with fail
   clear a0 a1 a2 a3 a4 lb aU;generalize wr.alloc (.cells #[.int .i64 (n0:Int),.int .i64 (n1:Int),.string f2,.string f3,.int .i64 (n4:Int)] 101)=w3 at*;generalize wr.heap.size=tb at*;obtain ⟨t0,t1,t2,t3,t4⟩:=dw dY;have Kl:=af dY;have aQ:=Grow.cells (w:=w3);have kX:=ae dY;clear dY;refine ou (fun W=>Below w3.heap.size w3 W) [(0,false),(1,false),(2,false),(3,false),(5,false),(6,false),(7,false),(4,true),(8,true),(9,false)] (by kernel_rfl) (by kernel_rfl) (bK fun _ _ _ _ _ h=>h) (az _) ?_;simp only [cm,nth]
   repeat ((first|(refine aA (v:= ?_) (by rfl) ?_ ?_;rotate_left;rintro W hW;go_simp;with_reducible rfl)|refine aB (by rfl) ?_);simp only [ai,List.set])
   have hgd:=az w3;refine bp (by rfl) (by go_simp) (oI (cI (fX.out.grow hgd)) (by omega) (n:=n0) (by omega)) ?_;rintro e w4 ⟨v4,rfl,ki,hg4⟩;refine ⟨_,rfl,hgd.trans hg4,?_⟩
   try simp only [ai,List.set,aC]
   refine bp (by rfl) (by go_simp) (oI (cI ki) (by have:=cB n0;simp;omega) (n:=n1) (by omega)) ?_;rintro e w5 ⟨v5,rfl,gI,br⟩;have yD:Grow w3 w5:=(hgd.trans hg4).trans br;refine ⟨_,rfl,yD,?_⟩
   try simp only [ai,List.set,aC]
   obtain ⟨L5,Pc⟩:∃ x,x=PL++aD n0++aD n1:=⟨_,rfl⟩
   rw [←Pc] at gI;have aIh:L5.length≤6000000000:=by rw [Pc];have:=cB n0;have:=cB n1;simp only [aJ];omega
   have HL5:=ae Pc;obtain ⟨va,vL,vc,rfl⟩:∃ a L c,v5= .slice a L c:=by obtain ⟨a,c,h⟩:=gI.slice;exact ⟨_,_,_,h⟩
   repeat ((first|(refine aA (v:= ?_) (by rfl) ?_ ?_;rotate_left;rintro W hW;go_simp;with_reducible rfl)|refine aB (by rfl) ?_);simp only [ai,List.set])
   refine bj ?_;have Pd:=yD.heap kX.out;have Ko:=ae gI;have HG5:=ae (HG.out.trans yD);clear ki hg4 hgd Pc gI yD t0 t1 t2 t3 t4 Kl aQ;obtain ⟨t0,t1,t2,t3,t4⟩:=dw Pd;have lR:=af Pd;have VC:=ae Pd;clear Pd
   go_wp2_with fail
   refine uB (fun a0 ha0=> ?_);have F3:a0.tmps[3]?=some (.slice va vL vc):=by rw [ha0];rfl
   have F5:a0.tmps[5]?=some (.pointer (some ⟨tb,0,none⟩)):=by rw [ha0];rfl
   have hsz:a0.tmps.size=75:=by rw [ha0];rfl
   have lS:=ae ha0;clear ha0;refine uD (Dg w5.heap.size tb (.slice va vL vc) L5 n4 f2 f3) (mL w5 (.slice va vL vc)) Grow [3,29,30,31,32,33,34,35,36,37,38,39,40,41,42,43] (by kernel_rfl) (by kernel_rfl) (by rw [hsz];rfl) Dg.keep ⟨az _,fun _=>F3⟩ ?_ (fun a1 W1 hf=> ?_);rotate_left
   ·obtain ⟨v,hv,hq⟩:=hf.slot 15 3 (by rfl) (by rfl)
    have hG:Grow w5 W1:=hf.world.1;have hq':aI w5.heap.size W1 v (L5++aW f2.data.toList++aW f3.data.toList++aD n4):=hq;have e:=hf.alike.fill;rw [lS.out] at e;simp only [List.foldl_cons,List.foldl_nil,Act.put,mf,List.set_cons_zero,kz] at e;have h3:a1.tmps.getD 3 undef=v:=by rw [eQ,hv];rfl
    obtain ⟨Kq,AH⟩:∃ u,a1.tmps.getD 29 undef=u:=⟨_,rfl⟩
    obtain ⟨Kr,AJ⟩:∃ u,a1.tmps.getD 30 undef=u:=⟨_,rfl⟩
    obtain ⟨Ks,AK⟩:∃ u,a1.tmps.getD 31 undef=u:=⟨_,rfl⟩
    obtain ⟨u32,AL⟩:∃ u,a1.tmps.getD 32 undef=u:=⟨_,rfl⟩
    obtain ⟨u33,AO⟩:∃ u,a1.tmps.getD 33 undef=u:=⟨_,rfl⟩
    obtain ⟨Pe,Kt⟩:∃ u,a1.tmps.getD 34 undef=u:=⟨_,rfl⟩
    obtain ⟨VD,h35⟩:∃ u,a1.tmps.getD 35 undef=u:=⟨_,rfl⟩
    obtain ⟨VE,h36⟩:∃ u,a1.tmps.getD 36 undef=u:=⟨_,rfl⟩
    obtain ⟨VF,h37⟩:∃ u,a1.tmps.getD 37 undef=u:=⟨_,rfl⟩
    obtain ⟨VG,h38⟩:∃ u,a1.tmps.getD 38 undef=u:=⟨_,rfl⟩
    obtain ⟨Pf,Ku⟩:∃ u,a1.tmps.getD 39 undef=u:=⟨_,rfl⟩
    obtain ⟨Pg,Kv⟩:∃ u,a1.tmps.getD 40 undef=u:=⟨_,rfl⟩
    obtain ⟨Ph,Kw⟩:∃ u,a1.tmps.getD 41 undef=u:=⟨_,rfl⟩
    obtain ⟨Pj,Ky⟩:∃ u,a1.tmps.getD 42 undef=u:=⟨_,rfl⟩
    obtain ⟨Pk,Kz⟩:∃ u,a1.tmps.getD 43 undef=u:=⟨_,rfl⟩
    rw [h3,AH,AJ,AK,AL,AO,Kt,h35,h36,h37,h38,Ku,Kv,Kw,Ky,Kz] at e;clear h3 hv hq hf AH AJ AK AL AO Kt h35 h36 h37 h38 Ku Kv Kw Ky Kz;rw [e];clear e lS F3 F5 hsz;obtain ⟨xa,xL,xc,rfl⟩:∃ a L c,v= .slice a L c:=by obtain ⟨a,c,h⟩:=hq'.slice;exact ⟨_,_,_,h⟩
    have aX:Hid (Vx w1 E.add (aD E.add.length) (.slice xa xL xc) (.int .i64 ((i:Int)+1)) W1):=ae ⟨i+1,by simp,hlt,by
     have h1:=hq'.mono HG5.out.size;rw [HL5.out,VB.out] at h1;rw [nA.out];simpa [ju] using h1,HG5.out.trans hG⟩
    clear hq' hG t0 t1 t2 t3 t4 lR;go_wp2;go_roundw
    case rel=>exact aX.out
    case measure=>simp [intOf];omega
   refine ⟨?_,?_,?_,?_,?_,?_,?_,?_,?_,?_,?_,?_,?_,?_,?_,?_,True.intro⟩
   ·intro listed a W hf ak aj
    have hs1:=hf.sz hsz;have hT:=hf.world;have hG:Grow w5 W:=hT.1;have awj:=dI hf.closed (n:=8) (e:=15) (i:=0) (by kernel_rfl) ak;have G3:a.tmps[3]'(by rw [hs1];decide)= .slice va vL vc:=aO (hT.2 awj) _;refine aR rfl (by rfl) (fun K' hK'=> ?_);go_simp;exact hK' _ _ ⟨_,rfl,(fun _ _=>rfl),aV _,mL.next hT (by decide) (by decide) (aV _)⟩
   ·intro listed a W hf ak aj
    have hs1:=hf.sz hsz;have hT:=hf.world;have hG:Grow w5 W:=hT.1;have G5:=hf.got (by decide) F5 (by rw [hs1];decide);refine aR rfl (by rfl) (fun K' hK'=> ?_);go_simp;exact hK' _ _ ⟨_,rfl,(fun _ _=>rfl),aV _,mL.next hT (by decide) (by decide) (aV _)⟩
   ·intro listed a W hf ak aj
    have hs1:=hf.sz hsz;have hT:=hf.world;have hG:Grow w5 W:=hT.1;have G30:=aO (hf.sv 1 30 rfl (aH aj 1 (by kernel_rfl)) fun _ _ h=>h) (by rw [hs1];decide);have hb:=hG.heap VC.out;obtain ⟨Dh,Di,Dj,VH,t4'⟩:=dw hb;have lb:=af hb;refine aR rfl (by rfl) (fun K' hK'=> ?_);go_simp;exact hK' _ _ ⟨_,rfl,(fun _ _=>rfl),aV _,mL.next hT (by decide) (by decide) (aV _)⟩
   ·intro listed a W hf ak aj
    have hs1:=hf.sz hsz;have hT:=hf.world;have hG:Grow w5 W:=hT.1;have G31:=aO (hf.sv 2 31 rfl (aH aj 2 (by kernel_rfl)) fun _ _ h=>h) (by rw [hs1];decide);obtain ⟨cap,W2,Ax,bC,hg2⟩:=Aj f2 (by omega) W;refine aR rfl (by rfl) (fun K' hK'=> ?_);go_simp;exact hK' _ _ ⟨_,rfl,(fun _ _=>bC),hg2,mL.next hT (by decide) (by decide) hg2⟩
   ·intro listed a W hf ak aj
    have hs1:=hf.sz hsz;have hT:=hf.world;have hG:Grow w5 W:=hT.1;obtain ⟨v3,s3,q3⟩:=hf.slot 3 32 rfl (aH aj 3 (by kernel_rfl));have G32:=aO s3 (by rw [hs1];decide);have qU:Bv W v3 f2.data.toList:=q3;obtain ⟨xa,xc,rfl⟩:=qU.slice;have hg2:Grow W (W.alloc (.cells #[.slice xa f2.data.toList.length xc] 49)):=ar _ _;refine xZ rfl (by rfl) (sQ (v:= .slice xa f2.data.toList.length xc) rfl Tryz.underlying131 Tryz.ye rfl (by show a.tmps.getD 32 undef=_;rw [eQ,s3];rfl) rfl) ?_;exact ⟨_,rfl,(fun _ _=>⟨W.heap.size,_,rfl,ax _ _,qU.grow hg2⟩),hg2,mL.next hT (by decide) (by decide) hg2⟩
   ·intro listed a W hf ak aj
    have hs1:=hf.sz hsz;have hT:=hf.world;have hG:Grow w5 W:=hT.1;have G29:=aO (hf.sv 0 29 rfl (aH aj 0 (by kernel_rfl)) fun _ _ h=>h) (by rw [hs1];decide);obtain ⟨v4,s4,qb,pv,q4,nX,oD⟩:=hf.slot 4 33 rfl (aH aj 4 (by kernel_rfl));subst q4;have G33:=aO s4 (by rw [hs1];decide);refine jE rfl (by rfl) (by go_simp) (CN (cI (Ko.out.grow hG)) (by omega) nX oD (by omega)) ?_;rintro e W2 ⟨v,rfl,ho,hg2⟩;exact ⟨_,rfl,_,rfl,(fun _ _=>ho.mono hG.size),hg2,mL.next hT (by decide) (by decide) hg2⟩
   ·intro listed a W hf ak aj
    have hs1:=hf.sz hsz;have hT:=hf.world;have hG:Grow w5 W:=hT.1;have G5:=hf.got (by decide) F5 (by rw [hs1];decide);refine aR rfl (by rfl) (fun K' hK'=> ?_);go_simp;exact hK' _ _ ⟨_,rfl,(fun _ _=>rfl),aV _,mL.next hT (by decide) (by decide) (aV _)⟩
   ·intro listed a W hf ak aj
    have hs1:=hf.sz hsz;have hT:=hf.world;have hG:Grow w5 W:=hT.1;have G35:=aO (hf.sv 6 35 rfl (aH aj 6 (by kernel_rfl)) fun _ _ h=>h) (by rw [hs1];decide);have hb:=hG.heap VC.out;obtain ⟨Dh,Di,Dj,VH,t4'⟩:=dw hb;have lb:=af hb;refine aR rfl (by rfl) (fun K' hK'=> ?_);go_simp;exact hK' _ _ ⟨_,rfl,(fun _ _=>rfl),aV _,mL.next hT (by decide) (by decide) (aV _)⟩
   ·intro listed a W hf ak aj
    have hs1:=hf.sz hsz;have hT:=hf.world;have hG:Grow w5 W:=hT.1;have G36:=aO (hf.sv 7 36 rfl (aH aj 7 (by kernel_rfl)) fun _ _ h=>h) (by rw [hs1];decide);obtain ⟨cap,W2,Ax,bC,hg2⟩:=Aj f3 (by omega) W;refine aR rfl (by rfl) (fun K' hK'=> ?_);go_simp;exact hK' _ _ ⟨_,rfl,(fun _ _=>bC),hg2,mL.next hT (by decide) (by decide) hg2⟩
   ·intro listed a W hf ak aj
    have hs1:=hf.sz hsz;have hT:=hf.world;have hG:Grow w5 W:=hT.1;obtain ⟨v8,s8,q8⟩:=hf.slot 8 37 rfl (aH aj 8 (by kernel_rfl));have G37:=aO s8 (by rw [hs1];decide);have qU:Bv W v8 f3.data.toList:=q8;obtain ⟨xa,xc,rfl⟩:=qU.slice;have hg2:Grow W (W.alloc (.cells #[.slice xa f3.data.toList.length xc] 49)):=ar _ _;refine xZ rfl (by rfl) (sQ (v:= .slice xa f3.data.toList.length xc) rfl Tryz.underlying131 Tryz.ye rfl (by show a.tmps.getD 37 undef=_;rw [eQ,s8];rfl) rfl) ?_;exact ⟨_,rfl,(fun _ _=>⟨W.heap.size,_,rfl,ax _ _,qU.grow hg2⟩),hg2,mL.next hT (by decide) (by decide) hg2⟩
   ·intro listed a W hf ak aj
    have hs1:=hf.sz hsz;have hT:=hf.world;have hG:Grow w5 W:=hT.1;obtain ⟨v5,s5,q5⟩:=hf.slot 5 34 rfl (aH aj 5 (by kernel_rfl));have G34:=aO s5 (by rw [hs1];decide);have awl:aI w5.heap.size W v5 (L5++aW f2.data.toList):=q5;obtain ⟨v9,s9,qb,pv,q9,nX,oD⟩:=hf.slot 9 38 rfl (aH aj 9 (by kernel_rfl));subst q9;have G38:=aO s9 (by rw [hs1];decide);refine jE rfl (by rfl) (by go_simp) (CN (cI awl) (by rw [aJ];omega) nX oD (by omega)) ?_;rintro e W2 ⟨v,rfl,ho,hg2⟩;exact ⟨_,rfl,_,rfl,(fun _ _=>ho.mono hG.size),hg2,mL.next hT (by decide) (by decide) hg2⟩
   ·intro listed a W hf ak aj
    have hs1:=hf.sz hsz;have hT:=hf.world;have hG:Grow w5 W:=hT.1;have G5:=hf.got (by decide) F5 (by rw [hs1];decide);refine aR rfl (by rfl) (fun K' hK'=> ?_);go_simp;exact hK' _ _ ⟨_,rfl,(fun _ _=>rfl),aV _,mL.next hT (by decide) (by decide) (aV _)⟩
   ·intro listed a W hf ak aj
    have hs1:=hf.sz hsz;have hT:=hf.world;have hG:Grow w5 W:=hT.1;have G40:=aO (hf.sv 11 40 rfl (aH aj 11 (by kernel_rfl)) fun _ _ h=>h) (by rw [hs1];decide);have hb:=hG.heap VC.out;obtain ⟨Dh,Di,Dj,VH,t4'⟩:=dw hb;have lb:=af hb;refine aR rfl (by rfl) (fun K' hK'=> ?_);go_simp;exact hK' _ _ ⟨_,rfl,(fun _ _=>rfl),aV _,mL.next hT (by decide) (by decide) (aV _)⟩
   ·intro listed a W hf ak aj
    have hs1:=hf.sz hsz;have hT:=hf.world;have hG:Grow w5 W:=hT.1;have G41:=aO (hf.sv 12 41 rfl (aH aj 12 (by kernel_rfl)) fun _ _ h=>h) (by rw [hs1];decide);refine aR rfl (by rfl) (fun K' hK'=> ?_);go_simp;exact hK' _ _ ⟨_,rfl,(fun _ _=>rfl),aV _,mL.next hT (by decide) (by decide) (aV _)⟩
   ·intro listed a W hf ak aj
    have hs1:=hf.sz hsz;have hT:=hf.world;have hG:Grow w5 W:=hT.1;obtain ⟨v10,yE,yF⟩:=hf.slot 10 39 rfl (aH aj 10 (by kernel_rfl));have G39:=aO yE (by rw [hs1];decide);have G42:=aO (hf.sv 13 42 rfl (aH aj 13 (by kernel_rfl)) fun _ _ h=>h) (by rw [hs1];decide);have wN:aI w5.heap.size W v10 (L5++aW f2.data.toList++aW f3.data.toList):=yF;refine jE rfl (by rfl) (by go_simp) (oI (cI wN) (by rw [aJ,aJ];omega) (n:=n4) (by omega)) ?_;rintro e W2 ⟨v,rfl,ho,hg2⟩;exact ⟨_,rfl,_,rfl,(fun _ _=>ho.mono hG.size),hg2,mL.next hT (by decide) (by decide) hg2⟩
   ·intro listed a W hf ak aj
    have hs1:=hf.sz hsz;have hT:=hf.world;have hG:Grow w5 W:=hT.1;obtain ⟨v14,s14,q14⟩:=hf.slot 14 43 rfl (aH aj 14 (by kernel_rfl));have G43:=aO s14 (by rw [hs1];decide);have rR:listed.size=16:=hf.size;refine aR rfl (by rfl) (fun K' hK'=> ?_);go_simp;exact hK' _ _ ⟨_,rfl,(fun _ _=>q14),aV _,⟨hG,fun h=>by rw [jQ (by rw [rR];decide)] at h;cases h⟩⟩
  ·obtain rfl:i=E.add.length:=by omega
   have hown':=hown;rw [ij] at hown';obtain ⟨P1,Pm⟩:∃ x,x=aD E.add.length++E.add.flatMap jm:=⟨_,rfl⟩
   rw [←Pm] at hown';have aIi:P1.length≤5000000000:=by
    rw [Pm];have h1:=OQ E.add;have h2:=cB E.add.length;simp only [aJ];omega
   have HP1:=ae Pm;have iO:¬ ((E.add.length:Int)<(E.add.length:Int)):=by omega
   obtain ⟨e0,e1,e2,e3,e4⟩:=dw fL;have Kn:=af fL;have wud:=uW (n:=E.drop.length) (by omega);have mZ:=ae (oI (cI hown') (by omega) (n:=E.drop.length) (by omega));obtain ⟨ba,bc,bC⟩:=hown'.slice;subst bC;have HG:=ae hg;clear hown hown' Pm hg fL
   go_wp2_with fail
   (with_reducible refine mZ.out.mono ?_);rintro e w3 ⟨nv3,rfl,mz,hg3⟩;have pS:=HG.out.trans hg3;have hb3:=pS.heap Pa.out;clear e0 e1 e2 e3 e4 Kn;obtain ⟨e0,e1,e2,e3,e4⟩:=dw hb3;have Pn:=af hb3;have Po:=mz.mono HG.out.size;obtain ⟨P2,Pp⟩:∃ x,x=P1++aD E.drop.length:=⟨_,rfl⟩
   rw [←Pp] at Po;have aIk:P2.length≤6000000000:=by rw [Pp];have:=cB E.drop.length;simp only [aJ];omega
   have HP2:=ae Pp;have Dm:Hid (Vy w1 E.drop P2 nv3 (.int .i64 0) w3):=ae ⟨0,rfl,aY _,by simpa using Po,pS⟩;obtain ⟨na3,nL3,nc3,rfl⟩:∃ a L c,nv3= .slice a L c:=by obtain ⟨a,c,h⟩:=Po.slice;exact ⟨_,_,_,h⟩
   clear mz Po Pp hg3 pS hb3 mZ
   go_wp2_with fail
   go_loopw [3,54] (fun bv iv wr=>Vy w1 E.drop P2 bv iv wr) (fun _ iv _=>E.drop.length-(intOf iv).toNat)
   case atStart=>exact Dm.out
   case round=>
    obtain ⟨j,rfl,hj,hown,hg⟩:=hrel;clear e0 e1 e2 e3 e4 Pn;have fL:=hg.heap Pa.out;have nN:((E.drop.take j).flatMap kT).length≤10*j:=by
     have h1:=Vf (E.drop.take j);rw [List.length_take] at h1;omega
    by_cases AQ:j<E.drop.length
    ·obtain ⟨k,hk⟩:∃ k,E.drop[j]?=some k:=⟨E.drop[j],by simp [AQ]⟩
     obtain ⟨b,o,rfl,hbl,bm⟩:∃ b o,da=some ⟨b,o,none⟩∧b<w.heap.size∧∀ (j:Nat) (k:Int),E.drop[j]?=some k→w.cell? ⟨b,o+j,none⟩=some (.int .i64 k):=by
      rcases tz.out with h1|h1
      ·rw [h1] at AQ;simp at AQ
      ·exact h1
     have eZ:=cQ.out.trans hg;have a0:=bm j k hk;rw [←Grow.cells _ _ _ eZ hbl] at a0;have lb:=cf hbl eZ.size;have hN:=Hf.out.drops k (dB hk);obtain ⟨n,rfl⟩:∃ n:Nat,k=n:=⟨k.toNat,(Int.toNat_of_nonneg hN.1).symm⟩
     have mn:n≤1099511627776:=by have:=hN.2;exact Int.ofNat_le.1 this
     have dS:(E.drop.take (j+1)).flatMap kT=(E.drop.take j).flatMap kT++aD n:=Vz kT hk;have nA:=ae dS;have FX:(j:Int)<(E.drop.length:Int):=by omega
     have Al:(0:Int)≤(j:Int):=by omega
     have hwj:IntKind.i64.wrap ((j:Int)+1)=(j:Int)+1:=aS _ (by omega);have wun:=uW (n:=n) (by omega);obtain ⟨PJ,Pq⟩:∃ x,x=P2++(E.drop.take j).flatMap kT:=⟨_,rfl⟩
     rw [←Pq] at hown;have aIp:PJ.length≤7000000000:=by rw [Pq];simp only [aJ];omega
     have HPJ:=ae Pq;have mZ:=ae (oI (cI hown) (by omega) (n:=n) (by omega));obtain ⟨va,vc,bC⟩:=hown.slice;subst bC;have kY:=ae hg;clear hown hg eZ bm hk dS hN fL nN Pq
     go_wp2_with fail
     (with_reducible refine mZ.out.mono ?_);rintro e w4 ⟨v4,rfl,ki,hg4⟩;have aX:Hid (Vy w1 E.drop P2 v4 (.int .i64 ((j:Int)+1)) w4):=ae ⟨j+1,by simp,AQ,by rw [nA.out,←ju,←HPJ.out];exact ki.mono kY.out.size,kY.out.trans hg4⟩;obtain ⟨xa,xL,xc,rfl⟩:∃ a L c,v4= .slice a L c:=by obtain ⟨a,c,h⟩:=ki.slice;exact ⟨_,_,_,h⟩
     clear ki hg4 a0 lb;go_wp2;go_roundw
     case rel=>exact aX.out
     case measure=>simp [intOf];omega
    ·obtain rfl:j=E.drop.length:=by omega
     rw [ij] at hown nN;obtain ⟨P3,Pr⟩:∃ x,x=P2++E.drop.flatMap kT:=⟨_,rfl⟩
     rw [←Pr] at hown;have aIq:P3.length≤7000000000:=by rw [Pr];simp only [aJ];omega
     have HP3:=ae Pr;have jg:¬ ((E.drop.length:Int)<(E.drop.length:Int)):=by omega
     obtain ⟨sq,eD⟩:∃ n:Nat,E.seq=n:=⟨E.seq.toNat,(Int.toNat_of_nonneg Hf.out.seq.1).symm⟩
     obtain ⟨nx,ie⟩:∃ n:Nat,E.next=n:=⟨E.next.toNat,(Int.toNat_of_nonneg Hf.out.next.1).symm⟩
     obtain ⟨wl,rV⟩:∃ n:Nat,E.wal=n:=⟨E.wal.toNat,(Int.toNat_of_nonneg Hf.out.wal.1).symm⟩
     have q1:sq<18446744073709551616:=by have:=Hf.out.seq.2;rw [eD] at this;omega
     have q2:nx≤1099511627776:=by have:=Hf.out.next.2;rw [ie] at this;omega
     have q3:wl≤1099511627776:=by have:=Hf.out.wal.2;rw [rV] at this;omega
     have wu2:=uW (n:=nx) (by omega);have wu3:=uW (n:=wl) (by omega);have Vq:Hid (dA E=P3++aD sq++aD nx++aD wl):=ae (by
      rw [HP3.out,HP2.out,HP1.out];unfold dA;rw [eD,ie,rV];simp [ju])
     rw [eD,ie,rV] at fL;obtain ⟨e0,e1,e2,e3,e4⟩:=dw fL;have leb:=af fL;have fX:=ae hown;obtain ⟨va,vc,bC⟩:=hown.slice;subst bC;have kY:=ae hg;have Hsw:=ae (ag eD (ag ie rV));clear hown hg Pr nN fL eD ie rV
     go_upto_region 14 with fail
     have aQ:=Grow.cells (w:=wr);refine ou (fun W=>Below wr.heap.size wr W) [(0,false),(1,false),(2,false),(4,false),(5,false),(6,false),(8,false),(9,false),(10,false),(3,true),(7,true),(11,true),(12,false)] (by kernel_rfl) (by kernel_rfl) (bK fun _ _ _ _ _ h=>h) (az _) ?_;simp only [cm,nth]
     repeat ((first|(refine aA (v:= ?_) (by rfl) ?_ ?_;rotate_left;rintro W hW;go_simp;with_reducible rfl)|refine aB (by rfl) ?_);simp only [ai,List.set])
     have hgd:=az wr;refine bp (by rfl) (by go_simp) (oI (cI (fX.out.grow hgd)) (by omega) (n:=sq) q1) ?_;rintro e w4 ⟨v4,rfl,ki,hg4⟩;refine ⟨_,rfl,hgd.trans hg4,?_⟩
     try simp only [ai,List.set,aC]
     refine bp (by rfl) (by go_simp) (oI (cI ki) (by have:=cB sq;simp only [aJ];omega) (n:=nx) (by omega)) ?_;rintro e w5 ⟨v5,rfl,gI,br⟩;refine ⟨_,rfl,(hgd.trans hg4).trans br,?_⟩
     try simp only [ai,List.set,aC]
     refine bp (by rfl) (by go_simp) (oI (cI gI) (by have:=cB sq;have:=cB nx;simp only [aJ];omega) (n:=wl) (by omega)) ?_;rintro e w6 ⟨v6,rfl,lQ,cx⟩;have Dn:=((hgd.trans hg4).trans br).trans cx;refine ⟨_,rfl,Dn,?_⟩
     try simp only [ai,List.set,aC]
     obtain ⟨xa,xL,xc,rfl⟩:∃ a L c,v6= .slice a L c:=by obtain ⟨a,c,h⟩:=lQ.slice;exact ⟨_,_,_,h⟩
     repeat ((first|(refine aA (v:= ?_) (by rfl) ?_ ?_;rotate_left;rintro W hW;go_simp;with_reducible rfl)|refine aB (by rfl) ?_);simp only [ai,List.set])
     refine bj ?_;have cJ:Hid (aI w.heap.size w6 (.slice xa xL xc) (dA E)∧Grow w w6):=ae ⟨by
      rw [Vq.out];exact lQ.mono (aM (aM (aM (aM cQ.out.size kY.out.size) hgd.size) hg4.size) br.size),(cQ.out.trans kY.out).trans Dn⟩
     clear ki gI lQ hg4 br cx Dn hgd aQ;go_wp2;go_ret;exact ⟨_,rfl,cJ.out⟩
end Go.Proofs.YtoolkdapflaeeaaGreatDoor
namespace Go.Proofs.YtoolkdapflaeeaaGreatDoor.Mn
open Go.RowKit Go.Gl
section
structure kG (w:World) (B1:Nat) (tv:Value) (tabs:List Tb) (V:bI) (E:cH) (av dv:Value) (b1 b2 b3:Bool) (W:World):Prop where
 own:Own B1 W tv tabs
 vb:W.heap[w.heap.size]?=some (.cells (bP tv (cond b1 (df E.seq V.seq) V.seq) (cond b2 (df E.next V.next) V.next) (cond b3 (df E.wal V.wal) V.wal)) 85 (0,0))
 eb:W.heap[w.heap.size+1]?=some (.cells (dN av dv E.seq E.next E.wal) 148 (0,0))
 rb:W.heap[w.heap.size+1+1]?=some (.cells (bP (.slice none 0 0) 0 0 0) 85 (0,0))
 below:Below w.heap.size w W
section
variable {w:World} {B1:Nat} {tv:Value} {tabs:List Tb} {V:bI} {E:cH} {av dv:Value} {b1 b2 b3:Bool} {W W':World}
theorem kG.grow (h:kG w B1 tv tabs V E av dv b1 b2 b3 W) (hg:Grow W W'):kG w B1 tv tabs V E av dv b1 b2 b3 W':=
 ⟨eM h.own hg,hg.heap h.vb,hg.heap h.eb,hg.heap h.rb,h.below.trans (hg.mono h.below.size)⟩
theorem kG.aws (h:kG w B1 tv tabs V E av dv b1 b2 b3 W):kG w B1 tv tabs V E av dv true b2 b3 (W.setCell ⟨w.heap.size,1,none⟩ (.int .u64 (df E.seq V.seq))):=
 ⟨qN h.own h.vb (by decide),aK h.vb 1 _,(aP _ _ _ _ (by show w.heap.size+1≠w.heap.size;omega)).trans h.eb,(aP _ _ _ _ (by show w.heap.size+1+1≠w.heap.size;omega)).trans h.rb,h.below.setCell (aw _) _⟩
theorem kG.awt (h:kG w B1 tv tabs V E av dv b1 b2 b3 W):kG w B1 tv tabs V E av dv b1 true b3 (W.setCell ⟨w.heap.size,2,none⟩ (.int .i64 (df E.next V.next))):=
 ⟨qN h.own h.vb (by decide),aK h.vb 2 _,(aP _ _ _ _ (by show w.heap.size+1≠w.heap.size;omega)).trans h.eb,(aP _ _ _ _ (by show w.heap.size+1+1≠w.heap.size;omega)).trans h.rb,h.below.setCell (aw _) _⟩
theorem kG.awu (h:kG w B1 tv tabs V E av dv b1 b2 b3 W):kG w B1 tv tabs V E av dv b1 b2 true (W.setCell ⟨w.heap.size,3,none⟩ (.int .i64 (df E.wal V.wal))):=
 ⟨qN h.own h.vb (by decide),aK h.vb 3 _,(aP _ _ _ _ (by show w.heap.size+1≠w.heap.size;omega)).trans h.eb,(aP _ _ _ _ (by show w.heap.size+1+1≠w.heap.size;omega)).trans h.rb,h.below.setCell (aw _) _⟩
end
def eE (w:World) (B1:Nat) (tv:Value) (tabs:List Tb) (V:bI) (E:cH) (av dv:Value) (l:Array Bool) (_:Act) (W:World):Prop:=kG w B1 tv tabs V E av dv (l.getD 19 false) (l.getD 21 false) (l.getD 23 false) W
section
variable {w:World} {B1:Nat} {tv:Value} {tabs:List Tb} {V:bI} {E:cH} {av dv:Value} {W W':World} {l:Array Bool} {a a':Act}
theorem eE.other (i:Nat) (h1:i≠19) (h2:i≠21) (h3:i≠23) (h:eE w B1 tv tabs V E av dv l a W):eE w B1 tv tabs V E av dv (l.setIfInBounds i true) a' W:=by
 unfold eE;rw [getD_set_ne false h1,getD_set_ne false h2,getD_set_ne false h3];exact h
theorem eE.grow (h:eE w B1 tv tabs V E av dv l a W) (hg:Grow W W'):eE w B1 tv tabs V E av dv l a W':=kG.grow h hg
theorem eE.st1 (hs:19<l.size) (h:eE w B1 tv tabs V E av dv l a W):eE w B1 tv tabs V E av dv (l.setIfInBounds 19 true) a' (W.setCell ⟨w.heap.size,1,none⟩ (.int .u64 (df E.seq V.seq))):=by
 unfold eE;rw [jQ hs,getD_set_ne false (show 19≠21 by decide),getD_set_ne false (show 19≠23 by decide)];exact kG.aws h
theorem eE.st2 (hs:21<l.size) (h:eE w B1 tv tabs V E av dv l a W):eE w B1 tv tabs V E av dv (l.setIfInBounds 21 true) a' (W.setCell ⟨w.heap.size,2,none⟩ (.int .i64 (df E.next V.next))):=by
 unfold eE;rw [jQ hs,getD_set_ne false (show 21≠19 by decide),getD_set_ne false (show 21≠23 by decide)];exact kG.awt h
theorem eE.st3 (hs:23<l.size) (h:eE w B1 tv tabs V E av dv l a W):eE w B1 tv tabs V E av dv (l.setIfInBounds 23 true) a' (W.setCell ⟨w.heap.size,3,none⟩ (.int .i64 (df E.wal V.wal))):=by
 unfold eE;rw [jQ hs,getD_set_ne false (show 23≠19 by decide),getD_set_ne false (show 23≠21 by decide)];exact kG.awu h
theorem eE.yG (h:eE w B1 tv tabs V E av dv l a W):W.heap[w.heap.size]?=some (.cells (bP tv (cond (l.getD 19 false) (df E.seq V.seq) V.seq) (cond (l.getD 21 false) (df E.next V.next) V.next) (cond (l.getD 23 false) (df E.wal V.wal) V.wal)) 85 (0,0)):=kG.vb h
theorem eE.eb (h:eE w B1 tv tabs V E av dv l a W):W.heap[w.heap.size+1]?=some (.cells (dN av dv E.seq E.next E.wal) 148 (0,0)):=kG.eb h
end
def Rest (vb:Nat) (W W':World):Prop:=∀ b o,b≠vb→W.heap[b]?=some o→W'.heap[b]?=some o
theorem Rest.refl (vb:Nat) (W:World):Rest vb W W:=fun _ _ _ h=>h
theorem Rest.grow {vb:Nat} {W W':World} (h:Grow W W'):Rest vb W W':=fun _ _ _ hb=>h.heap hb
theorem Rest.set (vb:Nat) (W:World) (i:Nat) (v:Value):Rest vb W (W.setCell ⟨vb,i,none⟩ v):=fun _ _ hb h=>(aP _ _ _ _ hb).trans h
def Dp (w:World) (V:bI) (E:cH) (i:Nat) (v:Value) (W:World):Prop:=
 match i with
 |0=>v= .pointer (some ⟨w.heap.size+1,2,none⟩)
 |1=>v= .int .u64 E.seq
 |2=>v= .pointer (some ⟨w.heap.size,1,none⟩)
 |3=>v= .int .u64 V.seq
 |4=>∃ b,b≠w.heap.size∧v= .slice (some ⟨b,0,none⟩) 2 2∧W.heap[b]?=some (.cells #[.int .u64 E.seq,.int .u64 V.seq] 37 (0,0))
 |5=>v= .int .u64 (df E.seq V.seq)
 |6=>v= .pointer (some ⟨w.heap.size+1,3,none⟩)
 |7=>v= .int .i64 E.next
 |8=>v= .pointer (some ⟨w.heap.size,2,none⟩)
 |9=>v= .int .i64 V.next
 |10=>∃ b,b≠w.heap.size∧v= .slice (some ⟨b,0,none⟩) 2 2∧W.heap[b]?=some (.cells #[.int .i64 E.next,.int .i64 V.next] 3 (0,0))
 |11=>v= .int .i64 (df E.next V.next)
 |12=>v= .pointer (some ⟨w.heap.size+1,4,none⟩)
 |13=>v= .int .i64 E.wal
 |14=>v= .pointer (some ⟨w.heap.size,3,none⟩)
 |15=>v= .int .i64 V.wal
 |16=>∃ b,b≠w.heap.size∧v= .slice (some ⟨b,0,none⟩) 2 2∧W.heap[b]?=some (.cells #[.int .i64 E.wal,.int .i64 V.wal] 3 (0,0))
 |17=>v= .int .i64 (df E.wal V.wal)
 |18=>v= .pointer (some ⟨w.heap.size,1,none⟩)
 |20=>v= .pointer (some ⟨w.heap.size,2,none⟩)
 |22=>v= .pointer (some ⟨w.heap.size,3,none⟩)
 |_=>True
theorem Dp.keep {w:World} {V:bI} {E:cH}:∀ (j:Nat) (v:Value) (W W':World),Rest w.heap.size W W'→Dp w V E j v W→Dp w V E j v W':=by
 intro j v W W' hR h;unfold Dp at h
 split at h<;>first
  |exact h
  |(obtain ⟨b,hb,hv,hc⟩:=h;exact ⟨b,hb,hv,hR _ _ hb hc⟩)
  |(unfold Dp;split<;>first|trivial|(exfalso;simp_all))
end
theorem afu:adY:=by
 intro w tv V av dv E h;have dK:=nW.start w tv V.seq V.next V.wal av dv E.seq E.next E.wal;obtain ⟨ta,tc,rfl⟩:=jL h.own;obtain ⟨da,dc,rfl,aIt,hdr⟩:=h.drops;obtain ⟨aa,ac,rfl,rU⟩:=h.adds;obtain ⟨v0,v1,v2,v3⟩:=dy dK.vb;obtain ⟨e0,e1,e2,e3,e4⟩:=dw dK.eb;have lv:=af dK.vb;have le:=af dK.eb;have lr:=af dK.rb;have H:=ae h;have pQ:=ae dK;have tz:=ae hdr;have VA:=ae rU;have hlen:=h.len;have ic:=h.OI;have oM:=h.OH;clear h dK hdr rU;go_enter Tryz.func161,Tryz.ntmps161
 go_wp2_with fail
 generalize ((w.alloc (.cells (bP (.slice ta V.tabs.length tc) V.seq V.next V.wal) 85)).alloc (.cells (dN (.slice aa E.add.length ac) (.slice da E.drop.length dc) E.seq E.next E.wal) 148)).alloc (.cells (bP (.slice none 0 0) 0 0 0) 85)=W0 at*
 go_loopw [13] (fun iv wr=>avd W0 V.tabs E.drop iv wr) (fun iv _=>E.drop.length-(intOf iv).toNat)
 case atStart=>exact ⟨0,rfl,aY _,rfl,aV _⟩
 case round=>
  obtain ⟨i,rfl,hi,pT,hg⟩:=hrel;by_cases hlt:i<E.drop.length
  ·obtain ⟨n,hn⟩:∃ n,E.drop[i]?=some n:=⟨E.drop[i],by simp [hlt]⟩
   have fL:=pQ.out.grow hg;clear v0 v1 v2 v3 e0 e1 e2 e3 e4;obtain ⟨v0,v1,v2,v3⟩:=dy fL.vb;obtain ⟨e0,e1,e2,e3,e4⟩:=dw fL.eb;obtain ⟨r0,r1,r2,r3⟩:=dy fL.rb;have lv2:=af fL.vb;have Kn:=af fL.eb;have lr2:=af fL.rb;have hst:=ave (l:=V.tabs) hn;obtain ⟨b,o,rfl,hbl,AE⟩:∃ b o,da=some ⟨b,o,none⟩∧b<w.heap.size∧∀ (j:Nat) (k:Int),E.drop[j]?=some k→w.cell? ⟨b,o+j,none⟩=some (.int .i64 k):=by
    rcases tz.out with h1|h1
    ·rw [h1] at hlt;simp at hlt
    ·exact h1
   have c0:=AE i n hn;rw [←Grow.cells _ _ _ fL.gr hbl] at c0;have KA:=adK (eM H.out.own fL.gr) (by omega) n;have eB:(i:Int)<(E.drop.length:Int):=by omega
   have bO:(0:Int)≤(i:Int):=by omega
   have wO:=ae KA;have tF:=ae fL;have Hdc:=ae AE;have bJ:=ae hst;have yH:=ae pT;clear KA fL AE hst pT hn;cases hh:jK V.tabs n with
   |false=>
    rw [hh] at wO;have dC:Hid (bz V E=(4,dh)):=ae (by unfold bz;rw [if_pos (by rw [yH.out,bJ.out,hh];rfl)]);clear hh
    go_wp2_with fail
    (with_reducible refine wO.out.mono ?_);rintro e w1 ⟨rfl,hg1⟩;have kj:=tF.out.grow hg1;have VI:=af kj.rb;have fr:=bG kj.rb;obtain ⟨s0,s1,s2,s3⟩:=dy kj.rb;have VJ:=ae kj.gr;clear kj hg1;go_wp2;refine bodyPost_ret (v:= .tuple #[.agg (bP (.slice none 0 0) 0 0 0),.int .i64 4]) (by simp [results,Tryz.results161,go_sem, *]) rfl (by
     rw [dC.out];refine ⟨_,rfl,iL _ _ _ _,?_⟩;have eZ:=VJ.out
     ((repeat (first|exact bS _ _|assumption|refine cz ?_|refine cA ?_|refine cj ?_ ?_ _|refine cy ?_ ?_ _))<;>try (first|omega|(simp<;>omega))))
   |true=>
    rw [hh] at wO;cases Ag:(E.drop.take i).contains n with
    |true=>
     have dC:Hid (bz V E=(4,dh)):=ae (by unfold bz;rw [if_pos (by rw [yH.out,bJ.out,hh,Ag];rfl)])
     go_wp2_with fail
     (with_reducible refine wO.out.mono ?_);rintro e w1 ⟨rfl,hg1⟩;have kj:=tF.out.grow hg1;clear v0 v1 v2 v3 e0 e1 e2 e3 e4;obtain ⟨e0,e1,e2,e3,e4⟩:=dw kj.eb;have Pn:=af kj.eb;have VI:=af kj.rb;have fr:=bG kj.rb;obtain ⟨s0,s1,s2,s3⟩:=dy kj.rb;have Dq:=UQ w1 b o i dc E.drop n hi (by omega) (fun j k hk=>by rw [Grow.cells _ _ _ kj.gr hbl];exact Hdc.out j k hk);rw [Ag] at Dq;have Gi:=ae Dq;have VJ:=ae kj.gr;have awy:(i:Int)≤(E.drop.length:Int):=by omega
     have awz:(i:Int)≤(dc:Int):=by omega
     clear kj hg1 Dq hh Ag
     go_wp2_with fail
     (with_reducible refine Gi.out.mono ?_);rintro e w2 ⟨rfl,rfl⟩;go_wp2;refine bodyPost_ret (v:= .tuple #[.agg (bP (.slice none 0 0) 0 0 0),.int .i64 4]) (by simp [results,Tryz.results161,go_sem, *]) rfl (by
      rw [dC.out];refine ⟨_,rfl,iL _ _ _ _,?_⟩;have eZ:=VJ.out
      ((repeat (first|exact bS _ _|assumption|refine cz ?_|refine cA ?_|refine cj ?_ ?_ _|refine cy ?_ ?_ _))<;>try (first|omega|(simp<;>omega))))
    |false=>
     have cJ:Hid (rK V.tabs [] E.drop=rK V.tabs (E.drop.take (i+1)) (E.drop.drop (i+1))):=ae (by rw [yH.out,bJ.out,hh,Ag];rfl)
     go_wp2_with fail
     (with_reducible refine wO.out.mono ?_);rintro e w1 ⟨rfl,hg1⟩;have kj:=tF.out.grow hg1;clear v0 v1 v2 v3 e0 e1 e2 e3 e4;obtain ⟨e0,e1,e2,e3,e4⟩:=dw kj.eb;have Pn:=af kj.eb;have Dq:=UQ w1 b o i dc E.drop n hi (by omega) (fun j k hk=>by rw [Grow.cells _ _ _ kj.gr hbl];exact Hdc.out j k hk);rw [Ag] at Dq;have Gi:=ae Dq;have eC:=ae (hg.trans hg1);have awy:(i:Int)≤(E.drop.length:Int):=by omega
     have awz:(i:Int)≤(dc:Int):=by omega
     clear kj hg1 Dq hh Ag
     go_wp2_with fail
     (with_reducible refine Gi.out.mono ?_);rintro e w2 ⟨rfl,rfl⟩;go_wp2;go_roundw
     case rel=>exact ⟨i+1,rfl,hlt,cJ.out,eC.out⟩
     case measure=>simp [intOf];omega
  ·obtain rfl:i=E.drop.length:=by omega
   have dJ:rK V.tabs [] E.drop=false:=by rw [pT,List.drop_length];rfl
   have fL:=pQ.out.grow hg;clear v0 v1 v2 v3 e0 e1 e2 e3 e4;obtain ⟨v0,v1,v2,v3⟩:=dy fL.vb;obtain ⟨e0,e1,e2,e3,e4⟩:=dw fL.eb;have lv2:=af fL.vb;have Kn:=af fL.eb;have lr2:=af fL.rb;have hown:=eM H.out.own fL.gr;have aQ:=vX hown (by omega);have gp:=ae aQ;have tF:=ae fL;have nQ:=ae dJ;clear aQ hown fL dJ pT hg
   go_wp2_with fail
   (with_reducible refine gp.out.mono ?_);rintro e w1 ⟨cv,rfl,hown1,hg1⟩;have kj:=tF.out.grow hg1;have hdel:=auX (w0:=wr) hown1 (by omega) hg1.size (eb:=w.heap.size+1) (by omega) kj.eb hg1 (H.out.drops.grow tF.out.gr) (aw _) (by omega);have afw:=ae hdel;obtain ⟨ca,cc,rfl⟩:=jL hown1;have awA:=ae kj;have eC:=ae hg1;clear hdel hown1 kj hg1
   go_wp2_with fail
   (with_reducible refine afw.out.mono ?_);rintro e w2 ⟨cv2,rfl,hown2,hb2⟩;obtain ⟨B1,VK⟩:∃ B1,B1=wr.heap.size:=⟨_,rfl⟩
   have Gj:w.heap.size+1+1<B1:=by omega
   have yI:=awA.out.below (B:=B1) (by rw [VK];exact hb2) Gj;have afy:=yI.Uy cv2;have iC:=qN (i:=0) (x:=cv2) hown2 yI.vb (by decide);have AR:B1≤w2.heap.size:=by rw [VK];exact aM eC.out.size hb2.size
   obtain ⟨xa,xc,rfl⟩:=jL hown2;clear v0 v1 v2 v3 e0 e1 e2 e3 e4;obtain ⟨v0,v1,v2,v3⟩:=dy yI.vb;obtain ⟨e0,e1,e2,e3,e4⟩:=dw yI.eb;have lv3:=af yI.vb;have Pn:=af yI.eb;have VI:=af yI.rb;have fv3:=bG yI.vb;have awB:=ae afy;have KB:=ae iC;rw [←VK] at KB;have ed:(V.tabs.filter (iD E.drop)).length≤10000:=aM (List.length_filter_le _ _) hlen;clear yI afy hown2 iC hb2 afw gp
   go_wp2_with fail
   generalize hw3:w2.setCell ⟨w.heap.size,0,none⟩ (.slice xa (V.tabs.filter (iD E.drop)).length xc)=W3 at*;have hB3:B1≤W3.heap.size:=by rw [←hw3];simpa using AR
   clear hw3 AR
   go_loopw [42] (fun iv wr=>adW w B1 V E (.slice aa E.add.length ac) (.slice da E.drop.length dc) iv wr) (fun iv _=>E.add.length-(intOf iv).toNat)
   case atStart=>exact ⟨0,_,_,rfl,aY _,awB.out,KB.out,rfl,by omega,hB3⟩
   case round=>
    obtain ⟨i,cv,cur,rfl,hi,qV,hown,mM,aQ,AR⟩:=hrel;have Am:=qV.gr;clear v0 v1 v2 v3 e0 e1 e2 e3 e4;by_cases hlt:i<E.add.length
    ·obtain ⟨t,ht⟩:∃ t,E.add[i]?=some t:=⟨E.add[i],by simp [hlt]⟩
     obtain ⟨b,o,rfl,hbl,bm⟩:∃ b o,aa=some ⟨b,o,none⟩∧b<w.heap.size∧Rd w b o ji 5 E.add:=by
      rcases VA.out with h1|h1
      ·rw [h1] at hlt;simp at hlt
      ·exact h1
     have iX:=bm.grow hbl Am i t ht;obtain ⟨f0,f1,f2,f3,f4⟩:=t;have a0:=iX 0 _ rfl;have a1:=iX 1 _ rfl;have a2:=iX 2 _ rfl;have a3:=iX 3 _ rfl;have a4:=iX 4 _ rfl;simp only [Nat.add_zero] at a0;dsimp only at a0 a1 a2 a3 a4;have hstep:=avc (l:=cur) ht;have aU:Grow wr (wr.alloc (.cells #[.int .i64 f0,.int .i64 f1,.string f2,.string f3,.int .i64 f4] 101)):=ar _ _;have dY:(wr.alloc (.cells #[.int .i64 f0,.int .i64 f1,.string f2,.string f3,.int .i64 f4] 101)).heap[wr.heap.size]?=some (.cells #[.int .i64 f0,.int .i64 f1,.string f2,.string f3,.int .i64 f4] 101 (0,0)):=ax _ _;have Gk:=qV.grow aU;have KA:=adK (eM hown aU) (by omega) f0;obtain ⟨ca,cc,rfl⟩:=jL hown;obtain ⟨v0,v1,v2,v3⟩:=dy Gk.vb;obtain ⟨e0,e1,e2,e3,e4⟩:=dw Gk.eb;obtain ⟨r0,r1,r2,r3⟩:=dy Gk.rb;obtain ⟨t0,t1,t2,t3,t4⟩:=dw dY;have lv4:=af qV.vb;have le4:=af qV.eb;have lr4:=af qV.rb;have lb4:b<wr.heap.size:=cf hbl Am.size;have fr4:=bG Gk.rb;obtain ⟨rr0,rr1,rr2,rr3⟩:=dy qV.rb;have frr:=bG qV.rb;have eB:(i:Int)<(E.add.length:Int):=by omega
     have bO:(0:Int)≤(i:Int):=by omega
     have wO:=ae KA;have Pt:=ae Gk;have VL:=ae mM;have oy:=ae hstep;have fX:=ae hown;have Dr:=ae aU;have kX:=ae dY;have pJ:True:=trivial;have awG:=ae Am;clear KA Gk qV mM hstep hown aU dY bm iX ht Am;cases h1:decide (f0<0) with
     |true=>
      have dC:Hid (bz V E=(1,dh)):=ae (by
       have Dt:rL cur ⟨f0,f1,f2,f3,f4⟩=true:=by simp only [rL,h1];rfl
       unfold bz;rw [if_neg (by rw [nQ.out];decide),VL.out,oy.out,if_pos Dt])
      have fW:=awG;clear pJ;go_wp2;refine bodyPost_ret (v:= .tuple #[.agg (bP (.slice none 0 0) 0 0 0),.int .i64 1]) (by simp [results,Tryz.results161,go_sem, *]) rfl (by
       rw [dC.out];refine ⟨_,rfl,iL _ _ _ _,?_⟩;have eZ:=fW.out
       ((repeat (first|exact bS _ _|assumption|refine cz ?_|refine cA ?_|refine cj ?_ ?_ _|refine cy ?_ ?_ _))<;>try (first|omega|(simp<;>omega))))
     |false=>
      cases hb:rL cur ⟨f0,f1,f2,f3,f4⟩ with
      |true=>
       have dC:Hid (bz V E=(1,dh)):=ae (by
        unfold bz;rw [if_neg (by rw [nQ.out];decide),VL.out,oy.out,if_pos hb])
       simp only [rL,h1,Bool.false_or] at hb;have hd:jK cur f0=true∨(jK cur f0=false∧decide (f1<0)=true)∨(jK cur f0=false∧decide (f1<0)=false∧decide (6<f1)=true)∨(jK cur f0=false∧decide (f1<0)=false∧decide (6<f1)=false∧(Op.bytesLess f2.toList f3.toList||f2.toList==f3.toList)=false)∨(jK cur f0=false∧decide (f1<0)=false∧decide (6<f1)=false∧(Op.bytesLess f2.toList f3.toList||f2.toList==f3.toList)=true∧decide (f4<0)=true)∨(jK cur f0=false∧decide (f1<0)=false∧decide (6<f1)=false∧(Op.bytesLess f2.toList f3.toList||f2.toList==f3.toList)=true∧decide (f4<0)=false∧decide (1099511627776<f0)=true)∨(jK cur f0=false∧decide (f1<0)=false∧decide (6<f1)=false∧(Op.bytesLess f2.toList f3.toList||f2.toList==f3.toList)=true∧decide (f4<0)=false∧decide (1099511627776<f0)=false∧decide (1099511627776<f4)=true):=by
        revert hb
        generalize jK cur f0=x2;generalize decide (f1<0)=x3;generalize decide (6<f1)=x4;generalize (Op.bytesLess f2.toList f3.toList||f2.toList==f3.toList)=x5;generalize decide (f4<0)=x6;generalize decide (1099511627776<f0)=x7;generalize decide (1099511627776<f4)=x8;cases x2<;>cases x3<;>cases x4<;>cases x5<;>cases x6<;>cases x7<;>cases x8<;>simp
       clear hb;rcases hd with h2|⟨h2,h3⟩|⟨h2,h3,h4⟩|⟨h2,h3,h4,h5⟩|⟨h2,h3,h4,h5,h6⟩|⟨h2,h3,h4,h5,h6,h7⟩|⟨h2,h3,h4,h5,h6,h7,h8⟩
       all_goals
        rw [h2] at wO
        go_wp2_with fail
        (with_reducible refine wO.out.mono ?_);rintro e w5 ⟨rfl,br⟩;have km:=Pt.out.grow br;clear v0 v1 v2 v3 e0 e1 e2 e3 e4 r0 r1 r2 r3 t0 t1 t2 t3 t4;obtain ⟨v0,v1,v2,v3⟩:=dy km.vb;obtain ⟨r0,r1,r2,r3⟩:=dy km.rb;obtain ⟨t0,t1,t2,t3,t4⟩:=dw (br.heap kX.out);have lv5:=af km.vb;have lr5:=af km.rb;have lR:=af (br.heap kX.out);have fv5:=bG km.vb;have fr5:=bG km.rb;have fW:=ae km.gr;clear km br h2 fv5;go_wp2;refine bodyPost_ret (v:= .tuple #[.agg (bP (.slice none 0 0) 0 0 0),.int .i64 1]) (by simp [results,Tryz.results161,go_sem, *]) rfl (by
         rw [dC.out];refine ⟨_,rfl,iL _ _ _ _,?_⟩;have eZ:=fW.out
         ((repeat (first|exact bS _ _|assumption|refine cz ?_|refine cA ?_|refine cj ?_ ?_ _|refine cy ?_ ?_ _))<;>try (first|omega|(simp<;>omega))))
      |false=>
       obtain ⟨h2,h3,h4,h5,h6,h7,h8⟩:jK cur f0=false∧decide (f1<0)=false∧decide (6<f1)=false∧(Op.bytesLess f2.toList f3.toList||f2.toList==f3.toList)=true∧decide (f4<0)=false∧decide (1099511627776<f0)=false∧decide (1099511627776<f4)=false:=by
        simp only [rL,h1,Bool.false_or] at hb
        revert hb
        generalize jK cur f0=x2;generalize decide (f1<0)=x3;generalize decide (6<f1)=x4;generalize (Op.bytesLess f2.toList f3.toList||f2.toList==f3.toList)=x5;generalize decide (f4<0)=x6;generalize decide (1099511627776<f0)=x7;generalize decide (1099511627776<f4)=x8;cases x2<;>cases x3<;>cases x4<;>cases x5<;>cases x6<;>cases x7<;>cases x8<;>simp
       have awI:=ae hb;rw [h2] at wO
       go_wp2_with fail
       (with_reducible refine wO.out.mono ?_);rintro e w5 ⟨rfl,br⟩;have km:=Pt.out.grow br;clear v0 v1 v2 v3 e0 e1 e2 e3 e4 r0 r1 r2 r3 t0 t1 t2 t3 t4;obtain ⟨v0,v1,v2,v3⟩:=dy km.vb;obtain ⟨r0,r1,r2,r3⟩:=dy km.rb;obtain ⟨t0,t1,t2,t3,t4⟩:=dw (br.heap kX.out);have lv5:=af km.vb;have lr5:=af km.rb;have lR:=af (br.heap kX.out);have fv5:=bG km.vb;have fr5:=bG km.rb;have fW:=ae km.gr;have wJ:=eM (eM fX.out Dr.out) br;obtain ⟨i0,bO,hz0,hz1,hz2⟩:=info_parts Tryz.UR;have eK:(w5.alloc (.cells #[.int .i64 f0,.int .i64 f1,.string f2,.string f3,.int .i64 f4] 101)).heap[w5.heap.size]?=some (.cells #[.int .i64 f0,.int .i64 f1,.string f2,.string f3,.int .i64 f4] 101 (0,0)):=ax _ _;have OO:B1≤w5.heap.size:=aM (aM AR Dr.out.size) br.size;obtain ⟨g6,Pu,w6,afC,KC,rX,awJ,awK⟩:=run_append_lies (P:=Tryz.prog) (w5.alloc (.cells #[.int .i64 f0,.int .i64 f1,.string f2,.string f3,.int .i64 f4] 101)) 83 83 B1 101 i0 _ 5 56 Tryz.underlying83 bO hz0 hz1 hz2 rfl (by decide) _ _ _ (wJ.alloc _)
        ⟨w5.heap.size,0,none⟩ 1 1 (ji ⟨f0,f1,f2,f3,f4⟩) rfl (fun j u hu=>World.news_of_block eK j u (by simpa [ji] using hu)) (OC _) (by decide) (by unfold maxLen;omega) (by omega) (by simp;omega) _ rfl
       have nB:nW w w6 (.slice ca cur.length cc) V.seq V.next V.wal (.slice (some ⟨b,o,none⟩) E.add.length ac) (.slice da E.drop.length dc) E.seq E.next E.wal:=(km.grow (ar _ _)).grown rX (fun k hk=>((wJ.lt k hk).1)) (by omega);have afD:=nB.Uy (.slice (some ⟨g6,0,none⟩) (cur.length+1) Pu);have AU:Own B1 (w6.setCell ⟨w.heap.size,0,none⟩ (.slice (some ⟨g6,0,none⟩) (cur.length+1) Pu)) (.slice (some ⟨g6,0,none⟩) (cur.length+1) Pu) (cur++ [⟨f0,f1,f2,f3,f4⟩]):=by
        refine qN ?_ nB.vb (by decide);have yA:lK (cur++ [(⟨f0,f1,f2,f3,f4⟩:Tb)])=lK cur++ji ⟨f0,f1,f2,f3,f4⟩:=by simp [lK]
        rw [aJ,yA];exact KC
       have aX:Hid (adW w B1 V E (.slice (some ⟨b,o,none⟩) E.add.length ac) (.slice da E.drop.length dc) (.int .i64 ((i+1:Nat):Int)) (w6.setCell ⟨w.heap.size,0,none⟩ (.slice (some ⟨g6,0,none⟩) (cur.length+1) Pu))):=ae ⟨i+1,_,_,rfl,hlt,afD,AU,by rw [VL.out,oy.out,if_neg (by rw [awI.out];decide)],by simp;omega,by have:=rX.size;simp at this ⊢;omega⟩;have awL:=ae afC;obtain ⟨q0,q1,q2,q3⟩:=dy nB.vb;have lq6:=af nB.vb;have fq6:=bG nB.vb;clear km br h2 fr5 wJ bO hz0 hz1 hz2 eK afC KC rX awJ awK nB afD AU hb
       go_wp2_with (at_builtin;refine fI rfl rfl rfl rfl awL.out ?_)
       go_roundw
       case rel=>exact aX.out
       case measure=>simp [intOf];omega
    ·obtain rfl:i=E.add.length:=by omega
     rw [List.drop_length] at mM;have afE:lN (V.tabs.filter (iD E.drop)) E.add=some cur:=mM;have nU:(kf cur).length=cur.length:=(Ak cur).length_eq;have gh:Hid (bz V E=if lM (kf cur)=true then (15,dh) else if rM V E=true then (1,dh) else (0,⟨kf cur,df E.seq V.seq,df E.next V.next,df E.wal V.wal⟩)):=ae (by
      unfold bz;rw [if_neg (by rw [nQ.out];decide),afE];dsimp only;rw [if_neg (by rw [nU];omega)])
     have Du:=auA hown (by omega);have afF:=hown.lt;obtain ⟨ca,cc,rfl⟩:=jL hown;obtain ⟨v0,v1,v2,v3⟩:=dy qV.vb;have lv4:=af qV.vb;have le4:=af qV.eb;have lr4:=af qV.rb;have afG:=ae Du;have Pt:=ae qV;have awN:=ae afF;have afH:(cur.length:Int)≤65536:=by omega
     clear Du qV afF hown mM afE Am
     go_wp2_with fail
     (with_reducible refine afG.out.mono ?_);rintro e w5 ⟨rfl,wJ,oQ⟩;have km:=Pt.out.grown oQ (fun k hk=>(awN.out k hk).1) Gj;have tA:=ava wJ (by rw [nU];omega);have CU:=ae tA;have Pv:=ae wJ;have awO:=ae km;clear v0 v1 v2 v3;obtain ⟨v0,v1,v2,v3⟩:=dy km.vb;have lv5:=af km.vb;clear tA wJ oQ km
     go_wp2_with fail
     (with_reducible refine CU.out.mono ?_);rintro e w6 ⟨rfl,cx⟩;have nB:=awO.out.grow cx;have KC:=eM Pv.out cx;clear v0 v1 v2 v3;obtain ⟨v0,v1,v2,v3⟩:=dy nB.vb;obtain ⟨e0,e1,e2,e3,e4⟩:=dw nB.eb;obtain ⟨r0,r1,r2,r3⟩:=dy nB.rb;have lv6:=af nB.vb;have le6:=af nB.eb;have lr6:=af nB.rb;have fv6:=bG nB.vb;have fr6:=bG nB.rb;have Pw:=ae nB;have Px:=ae KC;have Dv:=ae nB.gr;clear nB KC cx CU afG;cases Py:lM (kf cur) with
     |true=>
      have dC:Hid (bz V E=(15,dh)):=ae (by rw [gh.out,if_pos Py]);clear Py fv6;go_wp2;refine bodyPost_ret (v:= .tuple #[.agg (bP (.slice none 0 0) 0 0 0),.int .i64 15]) (by simp [results,Tryz.results161,go_sem, *]) rfl (by
       rw [dC.out];refine ⟨_,rfl,iL _ _ _ _,?_⟩;have eZ:=Dv.out
       ((repeat (first|exact bS _ _|assumption|refine cz ?_|refine cA ?_|refine cj ?_ ?_ _|refine cy ?_ ?_ _))<;>try (first|omega|(simp<;>omega))))
     |false=>
     rw [if_neg (by rw [Py];decide)] at gh;clear Py
     go_upto_region 20 with fail
     go_cut [110] from 111 to 120 (fun c wx=>c= .bool ((E.seq != 0)&&decide (E.seq<V.seq))∧wx=w6)
     case first=>
      cases p1:(E.seq != 0) with
      |false=>
       go_wp2;go_meet;exact ⟨by rw [p1];rfl,rfl⟩
      |true=>
       go_wp2;go_meet;exact ⟨by rw [p1];rfl,rfl⟩
     case rest=>
     obtain ⟨rfl,hwc⟩:=hcut;have hwc':=hwc.symm;subst hwc';clear hwc;cases n1:((E.seq != 0)&&decide (E.seq<V.seq)) with
     |true=>
      have dC:Hid (bz V E=(1,dh)):=ae (by rw [gh.out,if_pos (by simp only [rM,n1];rfl)]);go_wp2;refine bodyPost_ret (v:= .tuple #[.agg (bP (.slice none 0 0) 0 0 0),.int .i64 1]) (by simp [results,Tryz.results161,go_sem, *]) rfl (by
       rw [dC.out];refine ⟨_,rfl,iL _ _ _ _,?_⟩;have eZ:=Dv.out
       ((repeat (first|exact bS _ _|assumption|refine cz ?_|refine cA ?_|refine cj ?_ ?_ _|refine cy ?_ ?_ _))<;>try (first|omega|(simp<;>omega))))
     |false=>
     go_upto_region 21 with fail
     go_cut [110] from 121 to 130 (fun c wx=>c= .bool ((E.next != 0)&&decide (E.next<V.next))∧wx=w6)
     case first=>
      cases p1:(E.next != 0) with
      |false=>
       go_wp2;go_meet;exact ⟨by rw [p1];rfl,rfl⟩
      |true=>
       go_wp2;go_meet;exact ⟨by rw [p1];rfl,rfl⟩
     case rest=>
     obtain ⟨rfl,hwc⟩:=hcut;have hwc':=hwc.symm;subst hwc';clear hwc;cases n2:((E.next != 0)&&decide (E.next<V.next)) with
     |true=>
      have dC:Hid (bz V E=(1,dh)):=ae (by rw [gh.out,if_pos (by simp only [rM,n1,n2];rfl)]);go_wp2;refine bodyPost_ret (v:= .tuple #[.agg (bP (.slice none 0 0) 0 0 0),.int .i64 1]) (by simp [results,Tryz.results161,go_sem, *]) rfl (by
       rw [dC.out];refine ⟨_,rfl,iL _ _ _ _,?_⟩;have eZ:=Dv.out
       ((repeat (first|exact bS _ _|assumption|refine cz ?_|refine cA ?_|refine cj ?_ ?_ _|refine cy ?_ ?_ _))<;>try (first|omega|(simp<;>omega))))
     |false=>
     go_upto_region 22 with fail
     go_cut [110] from 131 to 140 (fun c wx=>c= .bool ((E.wal != 0)&&decide (E.wal<V.wal))∧wx=w6)
     case first=>
      cases p1:(E.wal != 0) with
      |false=>
       go_wp2;go_meet;exact ⟨by rw [p1];rfl,rfl⟩
      |true=>
       go_wp2;go_meet;exact ⟨by rw [p1];rfl,rfl⟩
     case rest=>
     obtain ⟨rfl,hwc⟩:=hcut;have hwc':=hwc.symm;subst hwc';clear hwc;cases n3:((E.wal != 0)&&decide (E.wal<V.wal)) with
     |true=>
      have dC:Hid (bz V E=(1,dh)):=ae (by rw [gh.out,if_pos (by simp only [rM,n1,n2,n3];rfl)]);go_wp2;refine bodyPost_ret (v:= .tuple #[.agg (bP (.slice none 0 0) 0 0 0),.int .i64 1]) (by simp [results,Tryz.results161,go_sem, *]) rfl (by
       rw [dC.out];refine ⟨_,rfl,iL _ _ _ _,?_⟩;have eZ:=Dv.out
       ((repeat (first|exact bS _ _|assumption|refine cz ?_|refine cA ?_|refine cj ?_ ?_ _|refine cy ?_ ?_ _))<;>try (first|omega|(simp<;>omega))))
     |false=>
     cases n4:decide (1099511627776<E.next) with
     |true=>
      have dC:Hid (bz V E=(1,dh)):=ae (by rw [gh.out,if_pos (by simp only [rM,n1,n2,n3,n4];rfl)]);go_wp2;refine bodyPost_ret (v:= .tuple #[.agg (bP (.slice none 0 0) 0 0 0),.int .i64 1]) (by simp [results,Tryz.results161,go_sem, *]) rfl (by
       rw [dC.out];refine ⟨_,rfl,iL _ _ _ _,?_⟩;have eZ:=Dv.out
       ((repeat (first|exact bS _ _|assumption|refine cz ?_|refine cA ?_|refine cj ?_ ?_ _|refine cy ?_ ?_ _))<;>try (first|omega|(simp<;>omega))))
     |false=>
     cases n5:decide (1099511627776<E.wal) with
     |true=>
      have dC:Hid (bz V E=(1,dh)):=ae (by rw [gh.out,if_pos (by simp only [rM,n1,n2,n3,n4,n5];rfl)]);go_wp2;refine bodyPost_ret (v:= .tuple #[.agg (bP (.slice none 0 0) 0 0 0),.int .i64 1]) (by simp [results,Tryz.results161,go_sem, *]) rfl (by
       rw [dC.out];refine ⟨_,rfl,iL _ _ _ _,?_⟩;have eZ:=Dv.out
       ((repeat (first|exact bS _ _|assumption|refine cz ?_|refine cA ?_|refine cj ?_ ?_ _|refine cy ?_ ?_ _))<;>try (first|omega|(simp<;>omega))))
     |false=>
     have dC:Hid (bz V E=(0,⟨kf cur,df E.seq V.seq,df E.next V.next,df E.wal V.wal⟩)):=ae (by rw [gh.out,if_neg (by simp only [rM,n1,n2,n3,n4,n5];decide)])
     go_upto_region 26 with fail
     go_cut [] from 148 to 168 (fun wx=>kG w B1 (.slice ca cur.length cc) (kf cur) V E (.slice aa E.add.length ac) (.slice da E.drop.length dc) true true true wx)
     case first=>
      rename_i J K hJ hK
      refine uB (fun a0 ha0=> ?_);have F2:a0.tmps[2]?=some (.pointer (some ⟨w.heap.size,0,none⟩)):=by rw [ha0];rfl
      have F3:a0.tmps[3]?=some (.pointer (some ⟨w.heap.size+1,0,none⟩)):=by rw [ha0];rfl
      have hsz:a0.tmps.size=170:=by rw [ha0];rfl
      have uH:Hid (∀ a1 wx,rA [148,149,150,151,152,153,154,155,156,157,158,159,160,161,162,163,164,165,166,167,168] a0 a1→kG w B1 (.slice ca cur.length cc) (kf cur) V E (.slice aa E.add.length ac) (.slice da E.drop.length dc) true true true wx→K a1 wx):=ae (fun a1 wx ha hT=>by
       refine hK _ _ (hJ _ _ ?_);refine ⟨a1.tmps.getD 148 undef,a1.tmps.getD 149 undef,a1.tmps.getD 150 undef,a1.tmps.getD 151 undef,a1.tmps.getD 152 undef,a1.tmps.getD 153 undef,a1.tmps.getD 154 undef,a1.tmps.getD 155 undef,a1.tmps.getD 156 undef,a1.tmps.getD 157 undef,a1.tmps.getD 158 undef,a1.tmps.getD 159 undef,a1.tmps.getD 160 undef,a1.tmps.getD 161 undef,a1.tmps.getD 162 undef,a1.tmps.getD 163 undef,a1.tmps.getD 164 undef,a1.tmps.getD 165 undef,a1.tmps.getD 166 undef,a1.tmps.getD 167 undef,a1.tmps.getD 168 undef,hT,ha.fill.trans ?_⟩;subst ha0;kernel_rfl)
      clear ha0 n1 n2 n3 n4 n5 fr6 r0 r1 r2 r3 hK hJ;refine uD (Dp w V E) (eE w B1 (.slice ca cur.length cc) (kf cur) V E (.slice aa E.add.length ac) (.slice da E.drop.length dc)) (Rest w.heap.size) [148,149,150,151,152,153,154,155,156,157,158,159,160,161,162,163,164,165,166,167,168] (by kernel_rfl) (by kernel_rfl) (by rw [hsz];rfl) Dp.keep ?_ ?_ (fun a1 W hf=>uH.out a1 W hf.alike hf.world)
      ·exact kG.grow ⟨Px.out,Pw.out.vb,Pw.out.eb,Pw.out.rb,Dv.out⟩ (az _)
      clear uH Px Pw;refine ⟨?_,?_,?_,?_,?_,?_,?_,?_,?_,?_,?_,?_,?_,?_,?_,?_,?_,?_,?_,?_,?_,?_,?_,?_,True.intro⟩
      ·intro listed a W hf ak aj
       have hs1:=hf.sz hsz;have G3:=hf.got (by decide) F3 (by rw [hs1];decide);refine aR rfl (by rfl) (fun K' hK'=> ?_);go_simp;exact hK' _ _ ⟨_,rfl,(fun _ _=>rfl),Rest.refl _ _,eE.other 0 (by decide) (by decide) (by decide) hf.world⟩
      ·intro listed a W hf ak aj
       have hs1:=hf.sz hsz;have aIH:=aO (hf.sv 0 148 rfl (aH aj 0 (by kernel_rfl)) fun _ _ h=>h) (by rw [hs1];decide);obtain ⟨e0,e1,e2,e3,e4⟩:=dw hf.world.eb;have le:=af hf.world.eb;refine aR rfl (by rfl) (fun K' hK'=> ?_);go_simp;exact hK' _ _ ⟨_,rfl,(fun _ _=>rfl),Rest.refl _ _,eE.other 1 (by decide) (by decide) (by decide) hf.world⟩
      ·intro listed a W hf ak aj
       have hs1:=hf.sz hsz;have G2:=hf.got (by decide) F2 (by rw [hs1];decide);refine aR rfl (by rfl) (fun K' hK'=> ?_);go_simp;exact hK' _ _ ⟨_,rfl,(fun _ _=>rfl),Rest.refl _ _,eE.other 2 (by decide) (by decide) (by decide) hf.world⟩
      ·intro listed a W hf ak aj
       have hs1:=hf.sz hsz;have aII:=aO (hf.sv 2 150 rfl (aH aj 2 (by kernel_rfl)) fun _ _ h=>h) (by rw [hs1];decide);have dP:=dI hf.closed (n:=6) (e:=19) (i:=3) (by kernel_rfl) ak;have hv:=hf.world.yG;rw [dP] at hv;obtain ⟨e0,e1,e2,e3⟩:=dy hv;have le:=af hv;simp only [cond] at e1 e2 e3;refine aR rfl (by rfl) (fun K' hK'=> ?_);go_simp;exact hK' _ _ ⟨_,rfl,(fun _ _=>rfl),Rest.refl _ _,eE.other 3 (by decide) (by decide) (by decide) hf.world⟩
      ·intro listed a W hf ak aj
       have hs1:=hf.sz hsz;have aIJ:=aO (hf.sv 1 149 rfl (aH aj 1 (by kernel_rfl)) fun _ _ h=>h) (by rw [hs1];decide);have aIK:=aO (hf.sv 3 151 rfl (aH aj 3 (by kernel_rfl)) fun _ _ h=>h) (by rw [hs1];decide);have lv:=af hf.world.yG;refine aR rfl (by rfl) (fun K' hK'=> ?_);go_simp;exact hK' _ (W.alloc (.cells #[.int .u64 E.seq,.int .u64 V.seq] 37)) ⟨_,rfl,(fun _ _=>⟨W.heap.size,by omega,rfl,ax _ _⟩),Rest.grow (ar _ _),eE.other 4 (by decide) (by decide) (by decide) (hf.world.grow (ar _ _))⟩
      ·intro listed a W hf ak aj
       have hs1:=hf.sz hsz;obtain ⟨v4,s4,q4⟩:=hf.slot 4 152 rfl (aH aj 4 (by kernel_rfl));obtain ⟨b4,ne4,q4,c4⟩:=q4;have q4':v4=_:=q4;subst q4';have aIM:=aO s4 (by rw [hs1];decide);refine jE rfl (by rfl) (by go_simp) (aum E.seq V.seq b4 W (by simp [World.cell?,c4]) (by simp [World.cell?,c4])) ?_;rintro e w7 ⟨rfl,rfl⟩;exact ⟨_,rfl,_,rfl,(fun _ _=>rfl),Rest.refl _ _,eE.other 5 (by decide) (by decide) (by decide) hf.world⟩
      ·intro listed a W hf ak aj
       have hs1:=hf.sz hsz;have G3:=hf.got (by decide) F3 (by rw [hs1];decide);refine aR rfl (by rfl) (fun K' hK'=> ?_);go_simp;exact hK' _ _ ⟨_,rfl,(fun _ _=>rfl),Rest.refl _ _,eE.other 6 (by decide) (by decide) (by decide) hf.world⟩
      ·intro listed a W hf ak aj
       have hs1:=hf.sz hsz;have aIN:=aO (hf.sv 6 154 rfl (aH aj 6 (by kernel_rfl)) fun _ _ h=>h) (by rw [hs1];decide);obtain ⟨e0,e1,e2,e3,e4⟩:=dw hf.world.eb;have le:=af hf.world.eb;refine aR rfl (by rfl) (fun K' hK'=> ?_);go_simp;exact hK' _ _ ⟨_,rfl,(fun _ _=>rfl),Rest.refl _ _,eE.other 7 (by decide) (by decide) (by decide) hf.world⟩
      ·intro listed a W hf ak aj
       have hs1:=hf.sz hsz;have G2:=hf.got (by decide) F2 (by rw [hs1];decide);refine aR rfl (by rfl) (fun K' hK'=> ?_);go_simp;exact hK' _ _ ⟨_,rfl,(fun _ _=>rfl),Rest.refl _ _,eE.other 8 (by decide) (by decide) (by decide) hf.world⟩
      ·intro listed a W hf ak aj
       have hs1:=hf.sz hsz;have aIO:=aO (hf.sv 8 156 rfl (aH aj 8 (by kernel_rfl)) fun _ _ h=>h) (by rw [hs1];decide);have dP:=dI hf.closed (n:=6) (e:=21) (i:=9) (by kernel_rfl) ak;have hv:=hf.world.yG;rw [dP] at hv;obtain ⟨e0,e1,e2,e3⟩:=dy hv;have le:=af hv;simp only [cond] at e1 e2 e3;refine aR rfl (by rfl) (fun K' hK'=> ?_);go_simp;exact hK' _ _ ⟨_,rfl,(fun _ _=>rfl),Rest.refl _ _,eE.other 9 (by decide) (by decide) (by decide) hf.world⟩
      ·intro listed a W hf ak aj
       have hs1:=hf.sz hsz;have aIP:=aO (hf.sv 7 155 rfl (aH aj 7 (by kernel_rfl)) fun _ _ h=>h) (by rw [hs1];decide);have aIQ:=aO (hf.sv 9 157 rfl (aH aj 9 (by kernel_rfl)) fun _ _ h=>h) (by rw [hs1];decide);have lv:=af hf.world.yG;refine aR rfl (by rfl) (fun K' hK'=> ?_);go_simp;exact hK' _ (W.alloc (.cells #[.int .i64 E.next,.int .i64 V.next] 3)) ⟨_,rfl,(fun _ _=>⟨W.heap.size,by omega,rfl,ax _ _⟩),Rest.grow (ar _ _),eE.other 10 (by decide) (by decide) (by decide) (hf.world.grow (ar _ _))⟩
      ·intro listed a W hf ak aj
       have hs1:=hf.sz hsz;obtain ⟨v10,yE,yF⟩:=hf.slot 10 158 rfl (aH aj 10 (by kernel_rfl));obtain ⟨Pz,aIR,yF,c10⟩:=yF;have awS:v10=_:=yF;subst awS;have aIS:=aO yE (by rw [hs1];decide);refine jE rfl (by rfl) (by go_simp) (UJ E.next V.next Pz W (by simp [World.cell?,c10]) (by simp [World.cell?,c10])) ?_;rintro e w7 ⟨rfl,rfl⟩;exact ⟨_,rfl,_,rfl,(fun _ _=>rfl),Rest.refl _ _,eE.other 11 (by decide) (by decide) (by decide) hf.world⟩
      ·intro listed a W hf ak aj
       have hs1:=hf.sz hsz;have G3:=hf.got (by decide) F3 (by rw [hs1];decide);refine aR rfl (by rfl) (fun K' hK'=> ?_);go_simp;exact hK' _ _ ⟨_,rfl,(fun _ _=>rfl),Rest.refl _ _,eE.other 12 (by decide) (by decide) (by decide) hf.world⟩
      ·intro listed a W hf ak aj
       have hs1:=hf.sz hsz;have aIT:=aO (hf.sv 12 160 rfl (aH aj 12 (by kernel_rfl)) fun _ _ h=>h) (by rw [hs1];decide);obtain ⟨e0,e1,e2,e3,e4⟩:=dw hf.world.eb;have le:=af hf.world.eb;refine aR rfl (by rfl) (fun K' hK'=> ?_);go_simp;exact hK' _ _ ⟨_,rfl,(fun _ _=>rfl),Rest.refl _ _,eE.other 13 (by decide) (by decide) (by decide) hf.world⟩
      ·intro listed a W hf ak aj
       have hs1:=hf.sz hsz;have G2:=hf.got (by decide) F2 (by rw [hs1];decide);refine aR rfl (by rfl) (fun K' hK'=> ?_);go_simp;exact hK' _ _ ⟨_,rfl,(fun _ _=>rfl),Rest.refl _ _,eE.other 14 (by decide) (by decide) (by decide) hf.world⟩
      ·intro listed a W hf ak aj
       have hs1:=hf.sz hsz;have aIU:=aO (hf.sv 14 162 rfl (aH aj 14 (by kernel_rfl)) fun _ _ h=>h) (by rw [hs1];decide);have dP:=dI hf.closed (n:=6) (e:=23) (i:=15) (by kernel_rfl) ak;have hv:=hf.world.yG;rw [dP] at hv;obtain ⟨e0,e1,e2,e3⟩:=dy hv;have le:=af hv;simp only [cond] at e1 e2 e3;refine aR rfl (by rfl) (fun K' hK'=> ?_);go_simp;exact hK' _ _ ⟨_,rfl,(fun _ _=>rfl),Rest.refl _ _,eE.other 15 (by decide) (by decide) (by decide) hf.world⟩
      ·intro listed a W hf ak aj
       have hs1:=hf.sz hsz;have aIV:=aO (hf.sv 13 161 rfl (aH aj 13 (by kernel_rfl)) fun _ _ h=>h) (by rw [hs1];decide);have aIW:=aO (hf.sv 15 163 rfl (aH aj 15 (by kernel_rfl)) fun _ _ h=>h) (by rw [hs1];decide);have lv:=af hf.world.yG;refine aR rfl (by rfl) (fun K' hK'=> ?_);go_simp;exact hK' _ (W.alloc (.cells #[.int .i64 E.wal,.int .i64 V.wal] 3)) ⟨_,rfl,(fun _ _=>⟨W.heap.size,by omega,rfl,ax _ _⟩),Rest.grow (ar _ _),eE.other 16 (by decide) (by decide) (by decide) (hf.world.grow (ar _ _))⟩
      ·intro listed a W hf ak aj
       have hs1:=hf.sz hsz;obtain ⟨v16,s16,VM⟩:=hf.slot 16 164 rfl (aH aj 16 (by kernel_rfl));obtain ⟨b16,aIX,VM,c16⟩:=VM;have awV:v16=_:=VM;subst awV;have aIY:=aO s16 (by rw [hs1];decide);refine jE rfl (by rfl) (by go_simp) (UJ E.wal V.wal b16 W (by simp [World.cell?,c16]) (by simp [World.cell?,c16])) ?_;rintro e w7 ⟨rfl,rfl⟩;exact ⟨_,rfl,_,rfl,(fun _ _=>rfl),Rest.refl _ _,eE.other 17 (by decide) (by decide) (by decide) hf.world⟩
      ·intro listed a W hf ak aj
       have hs1:=hf.sz hsz;have G2:=hf.got (by decide) F2 (by rw [hs1];decide);refine aR rfl (by rfl) (fun K' hK'=> ?_);go_simp;exact hK' _ _ ⟨_,rfl,(fun _ _=>rfl),Rest.refl _ _,eE.other 18 (by decide) (by decide) (by decide) hf.world⟩
      ·intro listed a W hf ak aj
       have hs1:=hf.sz hsz;have aIZ:=aO (hf.sv 18 166 rfl (aH aj 18 (by kernel_rfl)) fun _ _ h=>h) (by rw [hs1];decide);have aJa:=aO (hf.sv 5 153 rfl (aH aj 5 (by kernel_rfl)) fun _ _ h=>h) (by rw [hs1];decide);have hv:=hf.world.yG;obtain ⟨e0,e1,e2,e3⟩:=dy hv;have le:=af hv;have fy:=bG hv;refine aR rfl (by rfl) (fun K' hK'=> ?_);go_simp;exact hK' _ _ ⟨undef,rfl,(fun _ h=>by cases h),Rest.set _ _ _ _,hf.world.st1 (by rw [hf.size];decide)⟩
      ·intro listed a W hf ak aj
       have hs1:=hf.sz hsz;have G2:=hf.got (by decide) F2 (by rw [hs1];decide);refine aR rfl (by rfl) (fun K' hK'=> ?_);go_simp;exact hK' _ _ ⟨_,rfl,(fun _ _=>rfl),Rest.refl _ _,eE.other 20 (by decide) (by decide) (by decide) hf.world⟩
      ·intro listed a W hf ak aj
       have hs1:=hf.sz hsz;have aJb:=aO (hf.sv 20 167 rfl (aH aj 20 (by kernel_rfl)) fun _ _ h=>h) (by rw [hs1];decide);have aJc:=aO (hf.sv 11 159 rfl (aH aj 11 (by kernel_rfl)) fun _ _ h=>h) (by rw [hs1];decide);have hv:=hf.world.yG;obtain ⟨e0,e1,e2,e3⟩:=dy hv;have le:=af hv;have fy:=bG hv;refine aR rfl (by rfl) (fun K' hK'=> ?_);go_simp;exact hK' _ _ ⟨undef,rfl,(fun _ h=>by cases h),Rest.set _ _ _ _,hf.world.st2 (by rw [hf.size];decide)⟩
      ·intro listed a W hf ak aj
       have hs1:=hf.sz hsz;have G2:=hf.got (by decide) F2 (by rw [hs1];decide);refine aR rfl (by rfl) (fun K' hK'=> ?_);go_simp;exact hK' _ _ ⟨_,rfl,(fun _ _=>rfl),Rest.refl _ _,eE.other 22 (by decide) (by decide) (by decide) hf.world⟩
      ·intro listed a W hf ak aj
       have hs1:=hf.sz hsz;have aJd:=aO (hf.sv 22 168 rfl (aH aj 22 (by kernel_rfl)) fun _ _ h=>h) (by rw [hs1];decide);have aJe:=aO (hf.sv 17 165 rfl (aH aj 17 (by kernel_rfl)) fun _ _ h=>h) (by rw [hs1];decide);have hv:=hf.world.yG;obtain ⟨e0,e1,e2,e3⟩:=dy hv;have le:=af hv;have fy:=bG hv;refine aR rfl (by rfl) (fun K' hK'=> ?_);go_simp;exact hK' _ _ ⟨undef,rfl,(fun _ h=>by cases h),Rest.set _ _ _ _,hf.world.st3 (by rw [hf.size];decide)⟩
     case rest=>
     have fC:=hcut.rb;have jG:=hcut.vb;simp only [cond] at jG;clear v0 v1 v2 v3;obtain ⟨v0,v1,v2,v3⟩:=dy jG;obtain ⟨z0,z1,z2,z3⟩:=dy fC;have lv7:=af jG;have lr7:=af fC;have fr7:=bG fC;have Dw:=ae hcut;have lO:=ae fC;clear hcut fC jG;go_wp2;refine bodyPost_ret (avf (c:=0) rfl rfl (Ap lO.out _ _ _ _)) rfl ?_;rw [dC.out];exact ⟨_,rfl,qK (CW Dw.out.own lO.out _ _ _ _) (by omega),wE Dw.out.below (by omega) _ _ _ _⟩
end Go.Proofs.YtoolkdapflaeeaaGreatDoor.Mn
