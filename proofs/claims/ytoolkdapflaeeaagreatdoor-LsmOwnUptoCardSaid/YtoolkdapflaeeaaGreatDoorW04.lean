/- Helpers. -/
import Derived.Test.YtoolkdapflaeeaaGreatDoorW03
import Derived.Test.YtoolkdapflaeeaaGreatDoorW00
import Derived.Deep.CutRange
import Derived.Deep.DeepCutAuto
set_option maxRecDepth 100000
set_option maxHeartbeats 16000000
set_option linter.unusedSimpArgs false
open Go
variable{B b c d g i ob rb tb xb:Nat}{L l l':List UInt8}{W W' w w' w0:World}{arr cs:Array Value}{av bv dv tv v v0 x0 x1 x2 x3 x4:Value}{f:Nat × Nat}{t:TypeId}
namespace Go.Proofs.YtoolkdapflaeeaaGreatDoor
open Go.RowKit Go.Gl Go.aF Mn
abbrev BU(B:Nat)(w:World)(v:Value)(l:List Int):Prop:=Go.Gl.Row1 3 B w v (l.map (λa=>Value.int .i64 a))
structure gF(w0 W:World)(xb rb ob:Nat)(l:List UInt8)(tv dv:Value)(tl:List Tb)(dl:List Int):Prop where
 fW:lH w0 W rb l
 box:W.heap[xb]?=some (.cells #[.pointer (some ⟨rb,0,none⟩)] 291 (0,0))
 out:W.heap[ob]?=some (.cells (dY tv dv 0 0 0) 148 (0,0))
 tabs:Own w0.heap.size W tv tl
 drops:BU w0.heap.size W dv dl
 nx:w0.heap.size<=xb
 no:w0.heap.size<=ob
 res:W.heap[w0.heap.size]?=some (.cells (dY (.slice none 0 0) (.slice none 0 0) 0 0 0) 148 (0,0))
 nq:w0.heap.size≠ob
theorem gF.cell{b:List Tb}{c:List Int}(a:gF w0 W xb rb ob l tv dv b c):W.cell? ⟨xb,0,none⟩=some (.pointer (some ⟨rb,0,none⟩))/\xb<W.heap.size:=
 ⟨by simp[World.cell?,a.box],af a.box⟩
theorem pX{e:Array Value}{a:TypeId}{f':Nat×Nat}(g:W.heap[b]?=some (.cells arr t f))(d:W.heap[c]?=some (.cells e a f'))(e:t≠a):b≠c:=λa=>by subst a;rw[g]at d;cases d;exact e rfl
theorem xY{l:List Tb}(a:Own B w v l)(b:∀g,v.ownBlock=some g->w'.heap[g]?=w.heap[g]?):Own B w' v l:=by
 refine⟨a.1,?_⟩;rcases a.2 with a|⟨g,cap,cur,a,h2,h3,h4⟩
 .exact .inl a
 .exact .inr ⟨g,cap,cur,a,h2,by rw[b g (by rw[a];rfl)];exact h3,h4⟩
theorem sT{l:List Tb}(c:Own B w v l)(b:v.ownBlock=some g):∃a,w.heap[g]?=some (.cells a 101 (0,0))/\B<=g:=by
 rcases c.2 with⟨rfl,_⟩|⟨c,c,a,rfl,c,d,e⟩
 .cases b
 .cases b;exact⟨a,d,c⟩
theorem gF.step{d:List Tb}{e:List Int}(a:gF w0 W xb rb ob l tv dv d e)(h:lH w0 W' rb l')(c:GX rb W W'):gF w0 W' xb rb ob l' tv dv d e:=by
 obtain⟨bv,e,_⟩:=a.fW.cell;have d:∀{b:Nat}{arr:Array Value}{t:TypeId}{f:Nat×Nat},W.heap[b]?=some (.cells arr t f)->t≠293->b≠rb:=λb f i=>by subst i;rw[e]at b;cases b;exact f rfl
 refine⟨h,c.heap a.box (d a.box (by decide)),c.heap a.out (d a.out (by decide)),xY a.tabs λg e=>?_,a.drops.keep λg e=>?_,a.nx,a.no,c.heap a.res (d a.res (by decide)),a.nq⟩
 .obtain⟨f,b,_⟩:=sT a.tabs e;rw[c.heap b (d b (by decide)),b]
 .obtain⟨f,b⟩:=a.drops.block e;rw[c.heap b (d b (by decide)),b]
theorem gF.grow{a:List Tb}{b:List Int}(c:gF w0 W xb rb ob l tv dv a b)(d:Grow W W'):gF w0 W' xb rb ob l tv dv a b:=
 c.step (c.fW.ou d) (GX.of d)
def ow(W W':World):Prop:=∀(b:Nat)(cs:Array Value),W.heap[b]?=some (.cells cs 101 (0,0))->cs.size=5->∃a:Array Value,W'.heap[b]?=some (.cells a 101 (0,0))/\a.size=5
theorem ow.refl(W:World):ow W W:=λ_ cs a b=>⟨cs,a,b⟩
theorem ow.grow(a:Grow W W'):ow W W':=λ_ cs b c=>⟨cs,a.heap b,c⟩
theorem ow.gx(c:W.heap[rb]?=some (.cells arr 293 f))(d:GX rb W W'):ow W W':=λb cs a b=>
 ⟨cs,d.heap a (λd=>by subst d;rw[c]at a;cases a),b⟩
theorem agZ(a:cs.size=5):∃x0 x1 x2 x3 x4,cs=#[x0,x1,x2,x3,x4]:=by
 obtain⟨l⟩:=cs
 match l,a with
 | [x0,x1,x2,x3,x4],_=>exact⟨_,_,_,_,_,rfl⟩
abbrev ayr(W:World)(b:Nat)(a c d e f:Value):World:=((((W.setCell ⟨b,0,none⟩ a).setCell ⟨b,1,none⟩ c).setCell ⟨b,2,none⟩ d).setCell ⟨b,3,none⟩ e).setCell ⟨b,4,none⟩ f
theorem ays(g:W.heap[b]?=some (.cells cs 101 (0,0)))(h:cs.size=5)(a c d e f:Value):
  (((((W.setCell ⟨b,0,none⟩ a).setCell ⟨b,1,none⟩ c).setCell ⟨b,2,none⟩ d).setCell ⟨b,3,none⟩ e).setCell ⟨b,4,none⟩ f).heap[b]?=some (.cells #[a,c,d,e,f] 101 (0,0)):=by
 obtain⟨l⟩:=cs
 match l,h with
 | [x0,x1,x2,x3,x4],_=>exact Go.Gl.aK (Go.Gl.aK (Go.Gl.aK (Go.Gl.aK (Go.Gl.aK g 0 a) 1 c) 2 d) 3 e) 4 f
theorem XA(a:c≠b)(d e f g h:Value):
  (((((W.setCell ⟨b,0,none⟩ d).setCell ⟨b,1,none⟩ e).setCell ⟨b,2,none⟩ f).setCell ⟨b,3,none⟩ g).setCell ⟨b,4,none⟩ h).heap[c]?=W.heap[c]?:=by
 rw[aN _ _ _ _ a,aN _ _ _ _ a,aN _ _ _ _ a,aN _ _ _ _ a,aN _ _ _ _ a]
theorem gF.tab{e:List Tb}{i:List Int}(a:gF w0 W xb rb ob l tv dv e i)(j:W.heap[tb]?=some (.cells cs 101 f))(d:w0.heap.size<=tb)(k:tv.ownBlock≠some tb)(m:w0.heap.size<=W'.heap.size)(h:W'.os=w0.os/\W'.tape=w0.tape/\W'.output=w0.output)(d:∀c,c≠tb->W'.heap[c]?=W.heap[c]?):gF w0 W' xb rb ob l tv dv e i:=by
 obtain⟨bv,c,i⟩:=a.fW.cell;have e:∀{b:Nat}{arr:Array Value}{t:TypeId}{f:Nat×Nat},W.heap[b]?=some (.cells arr t f)->t≠101->b≠tb:=λc l f=>by subst f;rw[j]at c;cases c;exact l rfl
 refine⟨⟨⟨bv,by rw[d _ (e c (by decide))];exact c,i⟩,⟨h.1,h.2.1,h.2.2,m,λb c=>by rw[d b (by omega)];exact a.fW.grow.block b c⟩,a.fW.new⟩,by rw[d _ (e a.box (by decide))];exact a.box,by rw[d _ (e a.out (by decide))];exact a.out,xY a.tabs λg b=>d g (λf=>k (by rw[b,f])),a.drops.keep λg b=>?_,a.nx,a.no,by rw[d _ (e a.res (by decide))];exact a.res,a.nq⟩;obtain⟨c,c⟩:=a.drops.block b;exact d g (e c (by decide))
theorem ayt{l:List Tb}(m:Own B w v l)(e:B<=w.heap.size)(e:l.length<=70000)(e f:Int)(h i:ByteArray)(j:Int):
  ∃g k w',(Builtin.append_ #[83,83] 83 #[v,.slice (some ⟨w.heap.size,0,none⟩) 1 1]).run Tryz.prog (w.alloc (.cells #[.int .i64 e,.int .i64 f,.string h,.string i,.int .i64 j] 101))=.ok (.slice (some ⟨g,0,none⟩) (l.length+1) k) w'/\
   Own B w' (.slice (some ⟨g,0,none⟩) (l.length+1) k) (l++[⟨e,f,h,i,j⟩])/\w.grownBy w' v.ownBlock:=by
 obtain⟨n,o,p,q,r⟩:=info_parts Tryz.Xh;have s:(w.alloc (.cells #[.int .i64 e,.int .i64 f,.string h,.string i,.int .i64 j] 101)).heap[w.heap.size]?=some (.cells #[.int .i64 e,.int .i64 f,.string h,.string i,.int .i64 j] 101 (0,0)):=ax _ _;obtain⟨g,k,w',t,u,v,_,_⟩:=run_append_lies (P:=Tryz.prog) (w.alloc (.cells #[.int .i64 e,.int .i64 f,.string h,.string i,.int .i64 j] 101)) 83 83 B 101 n _ 5 56 Tryz.underlying83 o p q r rfl (by decide) _ _ _ (fB m (ar _ _))
  ⟨w.heap.size,0,none⟩ 1 1 (jF ⟨e,f,h,i,j⟩) rfl (λm n o=>World.news_of_block s m n (by simpa[jF]using o)) (QU _) (by decide) (by unfold maxLen;omega) (by omega) (by simp;omega) _ rfl
 refine⟨g,k,w',t,?_,?_⟩
 .have g:mP (l++[(⟨e,f,h,i,j⟩:Tb)])=mP l++jF ⟨e,f,h,i,j⟩:=by simp[mP]
  show w'.ownsRow B 101 5 _ (l++[(⟨e,f,h,i,j⟩:Tb)]).length _;rw[aM,g];exact u
 .obtain⟨a,b,c,d,e⟩:=v;exact⟨a,b,c,aJ (by simp) d,λa b c=>by rw[e a (by simp;omega) c];exact heap_alloc_old _ _ b⟩
theorem gF.more{v':Value}{e c:List Tb}{d:List Int}(a:gF w0 W xb rb ob l tv dv e d)(e:W.grownBy W' tv.ownBlock)(m:Own w0.heap.size W' v' c):gF w0 (W'.setCell ⟨ob,0,none⟩ v') xb rb ob l v' dv c d:=by
 obtain⟨bv,p,q⟩:=a.fW.cell;obtain⟨r,s,u,v,n⟩:=e;have h:∀{b:Nat}{arr:Array Value}{t:TypeId}{f:Nat×Nat},W.heap[b]?=some (.cells arr t f)->t≠101->W'.heap[b]?=some (.cells arr t f):=λ{b arr t f} c j=>by
  rw[n b (af c) (λd=>?_)]
  .exact c
  .obtain⟨k,e,_⟩:=sT a.tabs d.symm;rw[c]at e;cases e;exact j rfl
 have l:=h a.out (by decide);have i:∀{b:Nat}{arr:Array Value}{t:TypeId}{f:Nat×Nat},W'.heap[b]?=some (.cells arr t f)->t≠148->(W'.setCell ⟨ob,0,none⟩ v').heap[b]?=some (.cells arr t f):=λ{b arr t f} c j=>by
  rw[aN _ _ _ _ (λd=>?_)]
  .exact c
  .have o:b=ob:=d;subst o;rw[c]at l;cases l;exact j rfl
 have f:=a.fW.grow;refine⟨⟨⟨bv,i (h p (by decide)) (by decide),q⟩,⟨r.trans f.os,s.trans f.tape,u.trans f.output,by simp;exact aJ f.size v,λb c=>?_⟩,a.fW.new⟩,i (h a.box (by decide)) (by decide),Go.Gl.aK l 0 v',xY m λg j=>?_,a.drops.keep λg j=>?_,a.nx,a.no,(aN _ _ _ _ (λd=>a.nq d)).trans (h a.res (by decide)),a.nq⟩
 .rw[aN _ _ _ _ (λd=>by have o:b=ob:=d;have:=a.no;omega),n b (bF c f.size) (λd=>by obtain⟨k,_,g⟩:=sT a.tabs d.symm;omega)];exact f.block b c
 .obtain⟨k,e,_⟩:=sT m j;rw[i e (by decide),e]
 .obtain⟨k,e⟩:=a.drops.block j;rw[i (h e (by decide)) (by decide),e]
def Eo(B rb:Nat)(a:Option Nat)(t:Tb)(j:Nat)(v:Value)(W:World):Prop:=
 match j with
 |0=>v=.pointer (some ⟨rb,0,none⟩)
 |1=>v=.int .i64 t.file
 |2=>v=.pointer (some ⟨rb,0,none⟩)
 |3=>v=.int .i64 t.level
 |4=>v=.pointer (some ⟨rb,0,none⟩)
 |5=>v=.string t.first
 |6=>v=.pointer (some ⟨rb,0,none⟩)
 |7=>v=.string t.last
 |8=>v=.agg #[.int .i64 t.file,.int .i64 t.level,.string t.first,.string t.last,.int .i64 0]
 |9=>∃(tb:Nat)(cs:Array Value),v=.pointer (some ⟨tb,0,none⟩)/\B<=tb/\a≠some tb/\W.heap[tb]?=some (.cells cs 101 (0,0))/\cs.size=5
 |_=>True
theorem Eo.keep{a:Option Nat}{t:Tb}:∀(j:Nat)(v:Value)(W W':World),ow W W'->Eo B rb a t j v W->Eo B rb a t j v W':=by
 intro j v W W' b a;unfold Eo at a
 split at a<;>first
  |exact a
  |(obtain⟨tb,cs,c,d,e,f,g⟩:=a;obtain⟨a,h,i⟩:=b _ _ f g;exact⟨tb,a,c,d,e,h,i⟩)
  |(unfold Eo;split<;>first|trivial|(exfalso;simp_all))
def stA(a b c d e:List UInt8)(l:Array Bool):List UInt8:=
 if l.getD 7 false=true then e else if l.getD 5 false=true then d else if l.getD 3 false=true then c else if l.getD 1 false=true then b else a
theorem Ep{a b c d e:List UInt8}{l:Array Bool}(i:Nat)(f:i≠1)(g:i≠3)(h:i≠5)(j:i≠7):stA a b c d e (l.setIfInBounds i true)=stA a b c d e l:=by unfold stA;rw[getD_set_ne false f,getD_set_ne false g,getD_set_ne false h,getD_set_ne false j]
theorem Rk{l:Array Bool}(hi:i<l.size)(a:l.getD i true=false):l.getD i false=false:=by simp only[Array.getD,hi,dif_pos]at a ⊢;exact a
def sU(w0:World)(xb rb ob:Nat)(b c d e f:List UInt8)(tv dv:Value)(g:List Tb)(h:List Int)(t:Tb)(l:Array Bool)(a:Act)(W:World):Prop:=
 gF w0 W xb rb ob (stA b c d e f l) tv dv g h/\
 (l.getD 10 false=true->∃tb:Nat,a.tmps[2]?=some (.pointer (some ⟨tb,0,none⟩))/\w0.heap.size<=tb/\tv.ownBlock≠some tb/\W.heap[tb]?=some (.cells #[.int .i64 t.file,.int .i64 t.level,.string t.first,.string t.last,.int .i64 0] 101 (0,0)))
theorem sU.mf{b c d e f:List UInt8}{g:List Tb}{h:List Int}{t:Tb}{l:Array Bool}{a':Act}(i:Nat)(hi:i≠10)(j:l.getD 10 false=false)(k:stA b c d e f (l.setIfInBounds i true)=l')(a:gF w0 W' xb rb ob l' tv dv g h):sU w0 xb rb ob b c d e f tv dv g h t (l.setIfInBounds i true) a' W':=
 ⟨by rw[k];exact a,λa=>by rw[getD_set_ne false hi,j]at a;cases a⟩
theorem ayu{r:List UInt8}{E:List Tb}{dl:List Int}{t:Tb}(l:Xs t)(h:gF w0 W xb rb ob (jH t++r) tv dv E dl)(d:r.length<=800000000000)(dG:E.length<=70000):
  Calls Tryz.prog 185 #[.pointer (some ⟨xb,0,none⟩),.pointer (some ⟨ob,0,none⟩)] W λe w'=>e=.returned (.tuple #[])/\∃d,gF w0 w' xb rb ob r d dv (E++[t]) dl:=by
 obtain⟨q,d⟩:∃x,x=aG t.size.toNat++r:=⟨_,rfl⟩
 obtain⟨s,f⟩:∃x,x=bp t.last.data.toList++q:=⟨_,rfl⟩
 obtain⟨u,j⟩:∃x,x=bp t.first.data.toList++s:=⟨_,rfl⟩
 obtain⟨v,m⟩:∃x,x=aG t.level.toNat++u:=⟨_,rfl⟩
 obtain⟨y,o⟩:∃x,x=aG t.file.toNat++v:=⟨_,rfl⟩
 have p:jH t++r=y:=by rw[o,m,j,f,d];simp[jH,jL]
 rw[p]at h;have f1:t.first.data.toList.length<=67108864:=by rw[ia];exact l.first
 have f2:t.last.data.toList.length<=67108864:=by rw[ia];exact l.last
 have r:=cF t.size.toNat;have w:=cF t.last.data.toList.length;have b3:=cF t.first.data.toList.length;have b2:=cF t.level.toNat;have l4:q.length<=900000000000:=by rw[d];simp only[aM];omega
 have l3:s.length<=900000000000:=by rw[f,d];simp only[aM,bp];omega
 have l2:u.length<=900000000000:=by rw[j,f,d];simp only[aM,bp];omega
 have C:v.length<=900000000000:=by rw[m,j,f,d];simp only[aM,bp];omega
 obtain⟨c0,S⟩:=h.cell;have T:=ae h;have L:=ae l;have U:=ae o;have V:=ae m;have X:=ae j;have Y:=ae f;have Z:=ae d;clear h l p o m j f d b2 b3 w r;go_enter Tryz.func185,Tryz.ntmps185
 go_wp2_with fail
 go_cut [2]from 3 to 11 (λpv d=>∃tb:Nat,pv=.pointer (some ⟨tb,0,none⟩)/\w0.heap.size<=tb/\tv.ownBlock≠some tb/\d.heap[tb]?=some (.cells #[.int .i64 t.file,.int .i64 t.level,.string t.first,.string t.last,.int .i64 0] 101 (0,0))/\gF w0 d xb rb ob q tv dv E dl)
 case first=>
  rename_i f K m o
  refine xA (λl j=>?_);have N:l.tmps[0]?=some (.pointer (some ⟨xb,0,none⟩)):=by rw[j];rfl
  have r:l.tmps.size=21:=by rw[j];rfl
  have p:Hid (∀f d (tb:Nat),sF [3,4,5,6,7,8,9,10,11,2] l f->f.tmps[2]?=some (.pointer (some ⟨tb,0,none⟩))->w0.heap.size<=tb->tv.ownBlock≠some tb->d.heap[tb]?=some (.cells #[.int .i64 t.file,.int .i64 t.level,.string t.first,.string t.last,.int .i64 0] 101 (0,0))->gF w0 d xb rb ob q tv dv E dl->K f d):=ae (λf d tb ha F A G l d=>by refine o _ _ (m _ _ ?_);refine⟨f.tmps.getD 2 undef,f.tmps.getD 3 undef,f.tmps.getD 4 undef,f.tmps.getD 5 undef,f.tmps.getD 6 undef,f.tmps.getD 7 undef,f.tmps.getD 8 undef,f.tmps.getD 9 undef,f.tmps.getD 10 undef,f.tmps.getD 11 undef,⟨tb,by rw[gZ,F];rfl,A,G,l,d⟩,ha.fill.trans ?_⟩;subst j;kernel_rfl)
  clear j o m;refine xC (Eo w0.heap.size rb tv.ownBlock t) (sU w0 xb rb ob y v u s q tv dv E dl t) ow [3,4,5,6,7,8,9,10,11,2] (by kernel_rfl) (by kernel_rfl) (by rw[r];rfl) Eo.keep ⟨by rw[show stA y v u s q (Array.replicate _ false)=y from rfl];exact T.out.grow (ay W),λh=>by cases h⟩ ?_ (λf j d=>?_);rotate_left
  .obtain⟨tb,F,A,G,l⟩:=d.world.2 (by rfl);exact p.out f j tb d.alike F A G l (by have:=d.world.1;rw[show stA y v u s q (Array.replicate _ true)=q from rfl]at this;exact this)
  clear p;refine⟨?_,?_,?_,?_,?_,?_,?_,?_,?_,?_,?_,True.intro⟩
  .intro o a W d j m;have l:=d.sz r;have f:=d.world.1;have p:=fF d.closed (n:=8) (e:=10) (i:=0) (by kernel_rfl) j;obtain⟨O,P⟩:=f.cell;have Q:=d.got (by decide) N (by rw[l];decide);refine br rfl (by rfl) (λK x=>?_);go_simp;exact x _ _ ⟨_,rfl,(λ_ _=>rfl),ow.refl _,sU.mf 0 (by decide) p (Ep 0 (by decide) (by decide) (by decide) (by decide)) f⟩
  .intro o a W d j m
   have l:=d.sz r;have f:=d.world.1;have p:=fF d.closed (n:=8) (e:=10) (i:=1) (by kernel_rfl) j;have w:=aP (d.sv 0 3 rfl (aO m 0 (by kernel_rfl)) λ_ _ h=>h) (by rw[l];decide);have n3:=fF d.closed (n:=8) (e:=3) (i:=1) (by kernel_rfl) j;have M:=fF d.closed (n:=8) (e:=5) (i:=1) (by kernel_rfl) j;have D:=fF d.closed (n:=8) (e:=7) (i:=1) (by kernel_rfl) j;have z:o.size=11:=d.size;have H:=Rk (by rw[z];decide) j;have I:stA y v u s q o=y:=by unfold stA;simp[H,n3,M,D]
   rw[I]at f;have J:stA y v u s q (o.setIfInBounds 1 true)=v:=by unfold stA;rw[pJ (k:=1) (by rw[z];decide),getD_set_ne false (show 1≠3 by decide),getD_set_ne false (show 1≠5 by decide),getD_set_ne false (show 1≠7 by decide)];simp[n3,M,D]
   obtain⟨bv,B,_⟩:=f.fW.cell;refine ky rfl (by rfl) (by go_simp) (IJ (w0:=w0) (W:=W) (rb:=rb) (by have:=f.fW;rw[U.out]at this;exact this) (by have:=L.out.file.2;omega) C) ?_;rintro e R ⟨rfl,C,w⟩;exact⟨_,rfl,_,rfl,(λ_ _=>by show Value.int .i64 _=Value.int .i64 _;rw[Int.toNat_of_nonneg L.out.file.1]),ow.gx B w,sU.mf 1 (by decide) p J (f.step C w)⟩
  .intro o a W d j m;have l:=d.sz r;have f:=d.world.1;have p:=fF d.closed (n:=8) (e:=10) (i:=2) (by kernel_rfl) j;obtain⟨O,P⟩:=f.cell;have Q:=d.got (by decide) N (by rw[l];decide);refine br rfl (by rfl) (λK x=>?_);go_simp;exact x _ _ ⟨_,rfl,(λ_ _=>rfl),ow.refl _,sU.mf 2 (by decide) p (Ep 2 (by decide) (by decide) (by decide) (by decide)) f⟩
  .intro o a W d j m
   have l:=d.sz r;have f:=d.world.1;have p:=fF d.closed (n:=8) (e:=10) (i:=3) (by kernel_rfl) j;have G5:=aP (d.sv 2 5 rfl (aO m 2 (by kernel_rfl)) λ_ _ h=>h) (by rw[l];decide);have M:=fF d.closed (n:=8) (e:=5) (i:=3) (by kernel_rfl) j;have D:=fF d.closed (n:=8) (e:=7) (i:=3) (by kernel_rfl) j;have y1:=aO m 1 (by kernel_rfl);have z:o.size=11:=d.size;have H:=Rk (by rw[z];decide) j;have I:stA y v u s q o=v:=by unfold stA;simp[H,M,D,y1]
   rw[I]at f;have J:stA y v u s q (o.setIfInBounds 3 true)=u:=by unfold stA;rw[pJ (k:=3) (by rw[z];decide),getD_set_ne false (show 3≠5 by decide),getD_set_ne false (show 3≠7 by decide)];simp[M,D]
   obtain⟨bv,B,_⟩:=f.fW.cell;refine ky rfl (by rfl) (by go_simp) (IJ (w0:=w0) (W:=W) (rb:=rb) (by have:=f.fW;rw[V.out]at this;exact this) (by have:=L.out.level.2;omega) l2) ?_;rintro e R ⟨rfl,C,w⟩;exact⟨_,rfl,_,rfl,(λ_ _=>by show Value.int .i64 _=Value.int .i64 _;rw[Int.toNat_of_nonneg L.out.level.1]),ow.gx B w,sU.mf 3 (by decide) p J (f.step C w)⟩
  .intro o a W d j m;have l:=d.sz r;have f:=d.world.1;have p:=fF d.closed (n:=8) (e:=10) (i:=4) (by kernel_rfl) j;obtain⟨O,P⟩:=f.cell;have Q:=d.got (by decide) N (by rw[l];decide);refine br rfl (by rfl) (λK x=>?_);go_simp;exact x _ _ ⟨_,rfl,(λ_ _=>rfl),ow.refl _,sU.mf 4 (by decide) p (Ep 4 (by decide) (by decide) (by decide) (by decide)) f⟩
  .intro o a W d j m
   have l:=d.sz r;have f:=d.world.1;have p:=fF d.closed (n:=8) (e:=10) (i:=5) (by kernel_rfl) j;have M:=aP (d.sv 4 7 rfl (aO m 4 (by kernel_rfl)) λ_ _ h=>h) (by rw[l];decide);have D:=fF d.closed (n:=8) (e:=7) (i:=5) (by kernel_rfl) j;have M:=aO m 3 (by kernel_rfl);have z:o.size=11:=d.size;have H:=Rk (by rw[z];decide) j;have I:stA y v u s q o=u:=by unfold stA;simp[H,D,M]
   rw[I]at f;have J:stA y v u s q (o.setIfInBounds 5 true)=s:=by unfold stA;rw[pJ (k:=5) (by rw[z];decide),getD_set_ne false (show 5≠7 by decide)];simp[D]
   obtain⟨bv,B,_⟩:=f.fW.cell;refine ky rfl (by rfl) (by go_simp) (agS (w0:=w0) (W:=W) (rb:=rb) (by have:=f.fW;rw[X.out]at this;exact this) f1 l3) ?_;rintro e R ⟨rfl,C,w⟩;exact⟨_,rfl,_,rfl,(λ_ _=>rfl),ow.gx B w,sU.mf 5 (by decide) p J (f.step C w)⟩
  .intro o a W d j m;have l:=d.sz r;have f:=d.world.1;have p:=fF d.closed (n:=8) (e:=10) (i:=6) (by kernel_rfl) j;obtain⟨O,P⟩:=f.cell;have Q:=d.got (by decide) N (by rw[l];decide);refine br rfl (by rfl) (λK x=>?_);go_simp;exact x _ _ ⟨_,rfl,(λ_ _=>rfl),ow.refl _,sU.mf 6 (by decide) p (Ep 6 (by decide) (by decide) (by decide) (by decide)) f⟩
  .intro o a W d j m
   have l:=d.sz r;have f:=d.world.1;have p:=fF d.closed (n:=8) (e:=10) (i:=7) (by kernel_rfl) j;have D:=aP (d.sv 6 9 rfl (aO m 6 (by kernel_rfl)) λ_ _ h=>h) (by rw[l];decide);have D:=aO m 5 (by kernel_rfl);have z:o.size=11:=d.size;have H:=Rk (by rw[z];decide) j;have I:stA y v u s q o=s:=by unfold stA;simp[H,D]
   rw[I]at f;have J:stA y v u s q (o.setIfInBounds 7 true)=q:=by unfold stA;rw[pJ (k:=7) (by rw[z];decide)];simp
   obtain⟨bv,B,_⟩:=f.fW.cell;refine ky rfl (by rfl) (by go_simp) (agS (w0:=w0) (W:=W) (rb:=rb) (by have:=f.fW;rw[Y.out]at this;exact this) f2 l4) ?_;rintro e R ⟨rfl,C,w⟩;exact⟨_,rfl,_,rfl,(λ_ _=>rfl),ow.gx B w,sU.mf 7 (by decide) p J (f.step C w)⟩
  .intro o a W d j m;have l:=d.sz r;have f:=d.world.1;have p:=fF d.closed (n:=8) (e:=10) (i:=8) (by kernel_rfl) j;have k:=aP (d.sv 1 4 rfl (aO m 1 (by kernel_rfl)) λ_ _ h=>h) (by rw[l];decide);have k:=aP (d.sv 3 6 rfl (aO m 3 (by kernel_rfl)) λ_ _ h=>h) (by rw[l];decide);have k:=aP (d.sv 5 8 rfl (aO m 5 (by kernel_rfl)) λ_ _ h=>h) (by rw[l];decide);have k:=aP (d.sv 7 10 rfl (aO m 7 (by kernel_rfl)) λ_ _ h=>h) (by rw[l];decide);refine br rfl (by rfl) (λK x=>?_);go_simp;exact x _ _ ⟨_,rfl,(λ_ _=>rfl),ow.refl _,sU.mf 8 (by decide) p (Ep 8 (by decide) (by decide) (by decide) (by decide)) f⟩
  .intro o a W d j m;have l:=d.sz r;have f:=d.world.1;have p:=fF d.closed (n:=8) (e:=10) (i:=9) (by kernel_rfl) j;refine br rfl (by rfl) (λK x=>?_);go_simp;exact x _ (W.alloc (.cells #[.int .i64 0,.int .i64 0,.string ByteArray.empty,.string ByteArray.empty,.int .i64 0] 101)) ⟨_,rfl,(λ_ _=>⟨W.heap.size,_,rfl,f.fW.grow.size,(λe=>by obtain⟨cur,i,_⟩:=sT f.tabs e;have:=af i;omega),ax _ _,rfl⟩),ow.grow (ar _ _),sU.mf 9 (by decide) p (Ep 9 (by decide) (by decide) (by decide) (by decide)) (f.grow (ar _ _))⟩
  .intro o a W d j m
   have l:=d.sz r;have f:=d.world.1;have a:=aP (d.sv 8 11 rfl (aO m 8 (by kernel_rfl)) λ_ _ h=>h) (by rw[l];decide);obtain⟨a,j,tb,cs,p,k,n,a,o⟩:=d.slot 9 2 rfl (aO m 9 (by kernel_rfl));subst p;have d:=aP j (by rw[l];decide);obtain⟨x0,x1,x2,x3,x4,rfl⟩:=agZ o;obtain⟨l,m,p,q,s⟩:=dI a;have d:=af a;have d:=bG a;have d:=ays a o (.int .i64 t.file) (.int .i64 t.level) (.string t.first) (.string t.last) (.int .i64 0);have o:=λ(c:Nat)(i:c≠tb)=>XA (W:=W) (b:=tb) i (.int .i64 t.file) (.int .i64 t.level) (.string t.first) (.string t.last) (.int .i64 0)
   have hg:=f.fW.grow;have b:=f.tab (W':=ayr W tb (.int .i64 t.file) (.int .i64 t.level) (.string t.first) (.string t.last) (.int .i64 0)) a k n (by simpa using hg.size) ⟨hg.os,hg.tape,hg.output⟩ o;refine br rfl (by rfl) (λK x=>?_);go_simp;refine x _ _ ⟨undef,rfl,(λ_ h=>by cases h),(λc a i f=>?_),by rw[Ep 10 (by decide) (by decide) (by decide) (by decide)];exact b,λ_=>⟨tb,j,k,n,d⟩⟩;by_cases e:c=tb
   .subst e;exact⟨_,d,rfl⟩
   .exact⟨a,(o c e).trans i,f⟩
 case rest=>
 obtain⟨tb,rfl,b1,x,F,a⟩:=hcut;obtain⟨c0,S⟩:=a.cell;have d:=IJ (w0:=w0) (W:=wc) (rb:=rb) (by have:=a.fW;rw[Z.out]at this;exact this) (by have:=L.out.size.2;omega) (by omega);have r:=Int.toNat_of_nonneg L.out.size.1;obtain⟨bv,B,_⟩:=a.fW.cell;have y:tb≠rb:=pX F B (by decide);have f:=ae d;have k:=ae a;have h:=ae F;clear d B a F T U V X Y Z;obtain⟨n,o,u,v,a⟩:=t;dsimp only at r f h ⊢;generalize Int.toNat a=sz at*;subst r
 go_wp2_with fail
 (with_reducible refine f.out.mono ?_);rintro e j ⟨rfl,C,w⟩;have b:=k.out.step C w;have A:=w.heap h.out y;obtain⟨l,m,p,q,s⟩:=dI A;have r:=af A;have t:=bG A;have G:(j.setCell ⟨tb,4,none⟩ (.int .i64 (sz:Int))).heap[tb]?=some (.cells #[.int .i64 n,.int .i64 o,.string u,.string v,.int .i64 (sz:Int)] 101 (0,0)):=Go.Gl.aK A 4 _;have d:=b.fW.grow;have a:=b.tab (W':=j.setCell ⟨tb,4,none⟩ (.int .i64 (sz:Int))) A b1 x (by simpa using d.size) ⟨d.os,d.tape,d.output⟩ (λc i=>aN _ _ _ _ i);have x:=af b.out;clear c0 S b d A C w f k h
 go_upto_region 2 with fail
 clear l m p q s r t;generalize j.setCell ⟨tb,4,none⟩ (.int .i64 (sz:Int))=b at*;obtain⟨c,c⟩:b.cell? ⟨ob,0,none⟩=some tv/\ob<b.heap.size:=⟨by simp[World.cell?,a.out],af a.out⟩
 obtain⟨b,b,b,b,b⟩:=dI G;have b:=af G;obtain⟨g,c,j,d,f,b⟩:=ayt a.tabs a.fW.grow.size dG n o u v (sz:Int);have h:=a.more (v':=.slice (some ⟨g,0,none⟩) (E.length+1) c) b f;have g:=ae d;have k:=ae h;have l:∃arr,j.heap[ob]?=some (.cells arr 148 (0,0))/\arr.size=5:=by obtain⟨_,_,_,_,c⟩:=b;refine⟨_,(c ob (af a.out) (λe=>?_)).trans a.out,rfl⟩;obtain⟨cur,i,_⟩:=sT a.tabs e.symm;exact pX i a.out (by decide) rfl
 obtain⟨arr,c,e⟩:=l;obtain⟨i,y1,i,M,i,rfl⟩:=agZ e;obtain⟨e,_,_,_,_⟩:=dI c;have e:=af c;have e:=bG c;clear d f b h a G x
 go_wp2_with (at_builtin;refine fP rfl rfl rfl rfl g.out ?_)
 exact⟨rfl,.tuple #[],by simp[results,Tryz.results185,go_sem],rfl,_,k.out⟩
theorem ayy{l:List Int}(g:BU B w v l)(e:B<=w.heap.size)(e:l.length<=70000)(n:Int):
  ∃v' w',(Builtin.append_ #[24,24] 24 #[v,.slice (some ⟨w.heap.size,0,none⟩) 1 1]).run Tryz.prog (w.alloc (.cells #[.int .i64 n] 3))=.ok v' w'/\BU B w' v' (l++[n])/\w.grownBy w' v.ownBlock:=by
 have h:(w.alloc (.cells #[.int .i64 n] 3)).heap[w.heap.size]?=some (.cells #[.int .i64 n] 3 (0,0)):=ax _ _;have i:Src Tryz.prog 1 24 (.slice (some ⟨w.heap.size,0,none⟩) 1 1) 1 [.int .i64 n] (w.alloc (.cells #[.int .i64 n] 3)):=
  Src.ofSlice _ Tryz.underlying24 ⟨w.heap.size,0,none⟩ 1 1 [.int .i64 n] rfl (λj f e=>World.news_of_block h j f (by simpa using e)) (λf e=>by rw[cZ.1 e];rfl)
 obtain⟨v',w',e,f,h,_⟩:=zx (ty:=24) Tryz.underlying24 Tryz.QD rfl (g.grow (ar _ _)) i (by simp;omega) (by simp;unfold maxLen;omega) (by simp;omega);obtain⟨a,b,c,d,g⟩:=h;exact⟨v',w',e,by rw[BU,dS];exact f,⟨a,b,c,aJ (by simp) d,λa b c=>by rw[g a (by simp;omega) c];exact heap_alloc_old _ _ b⟩⟩
theorem gF.drop{v':Value}{c:List Tb}{e d:List Int}(a:gF w0 W xb rb ob l tv dv c e)(e:W.grownBy W' dv.ownBlock)(m:BU w0.heap.size W' v' d):gF w0 (W'.setCell ⟨ob,1,none⟩ v') xb rb ob l tv v' c d:=by
 obtain⟨bv,p,q⟩:=a.fW.cell;obtain⟨r,s,u,v,l⟩:=e;have h:∀{b:Nat}{arr:Array Value}{t:TypeId}{f:Nat×Nat},W.heap[b]?=some (.cells arr t f)->t≠3->W'.heap[b]?=some (.cells arr t f):=λ{b arr t f} c j=>by
  rw[l b (af c) (λd=>?_)]
  .exact c
  .obtain⟨n,e⟩:=a.drops.block d.symm;rw[c]at e;cases e;exact j rfl
 have k:=h a.out (by decide);have i:∀{b:Nat}{arr:Array Value}{t:TypeId}{f:Nat×Nat},W'.heap[b]?=some (.cells arr t f)->t≠148->(W'.setCell ⟨ob,1,none⟩ v').heap[b]?=some (.cells arr t f):=λ{b arr t f} c j=>by
  rw[aN _ _ _ _ (λd=>?_)]
  .exact c
  .have o:b=ob:=d;subst o;rw[c]at k;cases k;exact j rfl
 have f:=a.fW.grow;refine⟨⟨⟨bv,i (h p (by decide)) (by decide),q⟩,⟨r.trans f.os,s.trans f.tape,u.trans f.output,by simp;exact aJ f.size v,λb c=>?_⟩,a.fW.new⟩,i (h a.box (by decide)) (by decide),Go.Gl.aK k 1 v',xY a.tabs λg j=>?_,m.keep λg j=>?_,a.nx,a.no,(aN _ _ _ _ (λd=>a.nq d)).trans (h a.res (by decide)),a.nq⟩
 .rw[aN _ _ _ _ (λd=>by have o:b=ob:=d;have:=a.no;omega),l b (bF c f.size) (λd=>by have:=(a.drops.lt d.symm).1;omega)];exact f.block b c
 .obtain⟨n,e,_⟩:=sT a.tabs j;rw[i (h e (by decide)) (by decide),e]
 .obtain⟨n,e⟩:=m.block j;rw[i e (by decide),e]
theorem ayz{r:List UInt8}{f:List Tb}{b:List Int}{n:Nat}(k:n<=1099511627776)(d:gF w0 W xb rb ob (aG n++r) tv dv f b)(g:r.length<=800000000000)(s:b.length<=70000):
  Calls Tryz.prog 188 #[.pointer (some ⟨ob,0,none⟩),.pointer (some ⟨xb,0,none⟩)] W λe w'=>e=.returned (.tuple #[])/\∃g,gF w0 w' xb rb ob r tv g f (b++[(n:Int)]):=by
 obtain⟨f,g⟩:=d.cell;have h:W.cell? ⟨ob,1,none⟩=some dv:=by simp[World.cell?,d.out]
 have i:=af d.out;have j:=ae d;clear d;go_enter Tryz.func188,Tryz.ntmps188
 go_wp2_with fail
 refine ue (λW'=>(W'.cell? ⟨xb,0,none⟩=some (.pointer (some ⟨rb,0,none⟩))/\xb<W'.heap.size)/\W'.cell? ⟨ob,1,none⟩=some dv/\ob<W'.heap.size) [(0,false),(1,false),(2,false),(3,true),(4,true),(5,true),(6,false)] 7 (by kernel_rfl) (by kernel_rfl) (bB λ_ _ _ _ _ d=>d) ⟨⟨by simpa using f,by simpa using g⟩,by simpa using h,by simpa using i⟩ ?_;simp only[cm,nth];clear f g h i
 repeat ((first|(apply az;rfl;rintro W ⟨⟨r,t⟩,u,w⟩;go_simp;with_reducible rfl)|(apply aA;rfl));simp only[ah,List.set])
 refine bw (by rfl) (by go_simp) (IJ (w0:=w0) (W:=W.drew) (rb:=rb) (j.out.grow (ay W)).fW k (by omega)) ?_;rintro e k ⟨rfl,m,o⟩;have b:=(j.out.grow (ay W)).step m o;obtain⟨f,g⟩:=b.cell;have h:k.cell? ⟨ob,1,none⟩=some dv:=by simp[World.cell?,b.out]
 have i:=af b.out;refine⟨_,rfl,⟨⟨f,g⟩,h,i⟩,?_⟩
 try simp only[ah,List.set,aC]
 refine ud (by rfl) (tZ (v:=.int .i64 (n:Int)) rfl Tryz.underlying24 Tryz.QD rfl rfl rfl) ⟨⟨by rw[World.cell?_alloc_lt _ _ _ g];exact f,by simp;omega⟩,by rw[World.cell?_alloc_lt _ _ _ i];exact h,by simp;omega⟩ ?_
 try simp only[ah,List.set,aC]
 obtain⟨p,k,q,l,j⟩:=ayy b.drops b.fW.grow.size s (n:Int);obtain⟨s,L,v,rfl⟩:∃a L c,p=.slice a L c:=by obtain⟨a,c,d⟩:=l.slice;exact⟨_,_,_,d⟩
 have n:=b.drop (v':=.slice s L v) j l;have p:∃arr,k.heap[ob]?=some (.cells arr 148 (0,0))/\arr=dY tv dv 0 0 0:=by obtain⟨_,_,_,_,a⟩:=j;refine⟨_,(a ob (af b.out) (λe=>?_)).trans b.out,rfl⟩;obtain⟨s,c⟩:=b.drops.block e.symm;exact pX c b.out (by decide) rfl
 have d:k.heap[xb]?=some (.cells #[.pointer (some ⟨rb,0,none⟩)] 291 (0,0)):=by obtain⟨_,_,_,_,a⟩:=j;refine(a xb (af b.box) (λe=>?_)).trans b.box;obtain⟨s,c⟩:=b.drops.block e.symm;exact pX c b.box (by decide) rfl
 obtain⟨arr,a,rfl⟩:=p;refine ud (by rfl) (KU rfl rfl rfl q) ⟨⟨by simp[World.cell?,d],af d⟩,by simp[World.cell?,a],af a⟩ ?_
 try simp only[ah,List.set,aC]
 repeat ((first|(apply az;rfl;rintro W ⟨⟨r,t⟩,u,w⟩;go_simp;with_reducible rfl)|(apply aA;rfl));simp only[ah,List.set])
 refine bg ?_;have c:=ae n;have e:k.cell? ⟨ob,1,none⟩=some dv:=by simp[World.cell?,a]
 have e:=af a;have e:=bG a;clear n b l j a d q h i f g m o;refine uf (by rfl) (λb a=>?_);go_simp;refine a _ _ ?_;clear a b;exact⟨rfl,.tuple #[],by simp[results,Tryz.results188,go_sem],rfl,_,c.out⟩
theorem gF.apart{h:List Tb}{i:List Int}(a:gF w0 W xb rb ob l tv dv h i)(e:W.heap[c]?=some (.cells arr 148 (0,0)))(d:w0.heap.size<=c)(f:W'.os=W.os/\W'.tape=W.tape/\W'.output=W.output)(j:W'.heap.size=W.heap.size)(d:∀b,b≠c->W'.heap[b]?=W.heap[b]?):
  lH w0 W' rb l/\W'.heap[xb]?=some (.cells #[.pointer (some ⟨rb,0,none⟩)] 291 (0,0))/\Own w0.heap.size W' tv h/\BU w0.heap.size W' dv i/\(w0.heap.size≠c->W'.heap[w0.heap.size]?=some (.cells (dY (.slice none 0 0) (.slice none 0 0) 0 0 0) 148 (0,0)))/\Grow w0 W':=by
 obtain⟨bv,h,k⟩:=a.fW.cell;have c:=a.fW.grow;have i:Grow w0 W':=⟨f.1.trans c.os,f.2.1.trans c.tape,f.2.2.trans c.output,by rw[j];exact c.size,λb f=>by rw[d b (by omega)];exact c.block b f⟩
 refine⟨⟨⟨bv,(d _ (pX h e (by decide))).trans h,k⟩,i,a.fW.new⟩,(d _ (pX a.box e (by decide))).trans a.box,xY a.tabs λg b=>?_,a.drops.keep λg b=>?_,λc=>(d _ c).trans a.res,i⟩
 .obtain⟨f,c,_⟩:=sT a.tabs b;exact d g (pX c e (by decide))
 .obtain⟨f,c⟩:=a.drops.block b;exact d g (pX c e (by decide))
theorem Rp{v1 v2 v3 a:Value}(g:W.heap[b]?=some (.cells #[v0,v1,v2,v3,a] t (0,0)))(a c d e f:Value):
  (((((W.setCell ⟨b,0,none⟩ a).setCell ⟨b,1,none⟩ c).setCell ⟨b,2,none⟩ d).setCell ⟨b,3,none⟩ e).setCell ⟨b,4,none⟩ f).heap[b]?=some (.cells #[a,c,d,e,f] t (0,0)):=
 Go.Gl.aK (Go.Gl.aK (Go.Gl.aK (Go.Gl.aK (Go.Gl.aK g 0 a) 1 c) 2 d) 3 e) 4 f
theorem ayA{t:Array Value}{c:Int}(a:t.getD 2 undef=.pointer (some ⟨rb,0,none⟩))(b:t.getD 3 undef=.int .i64 c)(d:w.heap[rb]?=some (.cells #[x0,x1,x2,x3,x4] 148 (0,0))):
  (results Tryz.f137 t).run Tryz.prog w=.ok (.tuple #[.agg #[x0,x1,x2,x3,x4],.int .i64 c]) w:=by
 obtain⟨c,e,f,g,h⟩:=dI d;simp only[gZ]at a b;simp[results,Tryz.results137,go_sem,a,b,c,e,f,g,h]
theorem ayB:∀args w,(callFunc 185 args).run Tryz.prog w=.ok (.enter 185 args) w:=enters_of Tryz.func185 (by kernel_rfl) rfl
theorem ayC:∀args w,(callFunc 188 args).run Tryz.prog w=.ok (.enter 188 args) w:=enters_of Tryz.func188 (by kernel_rfl) rfl
theorem ayD{xb:Nat}{l:List Tb}{z:List UInt8}(c:∀t∈l,Xs t)(d:l.length<=65536)(a:(l.flatMap jH++z).length<=700000000000)(b:gF w W xb rb ob (aG l.length++(l.flatMap jH++z)) (.slice none 0 0) (.slice none 0 0) [] []):
  Calls Tryz.prog 184 #[.pointer (some ⟨rb,0,none⟩),.func (.func 185) #[] #[.pointer (some ⟨xb,0,none⟩),.pointer (some ⟨ob,0,none⟩)]] W λe w'=>e=.returned (.tuple #[])/\∃tv,gF w w' xb rb ob z tv (.slice none 0 0) l []:=by
 have f:∀i,((l.drop i).flatMap jH++z).length<=700000000000:=λi=>by
  have:l.flatMap jH=(l.take i).flatMap jH++(l.drop i).flatMap jH:=by rw[<-List.flatMap_append,List.take_append_drop]
  rw[this]at a;simp only[aM]at a ⊢;omega
 refine(agU (fn:=185) (λi W'=>∃tv,gF w W' xb rb ob ((l.drop i).flatMap jH++z) tv (.slice none 0 0) (l.take i) []) b.fW d (by omega) (λa a d=>⟨_,by simpa using b.step a d⟩) (λi wr ⟨tv,a⟩=>⟨_,a.fW⟩) (λi wr hi ⟨tv,a⟩=>?_) ⟨_,Tryz.func185,rfl⟩ ayB).mono ?_
 .obtain⟨t,b⟩:∃t,l[i]?=some t:=⟨l[i],by simp[hi]⟩
  have d:(l.drop i).flatMap jH++z=jH t++((l.drop (i+1)).flatMap jH++z):=by obtain⟨g,rfl⟩:=dW.1 b;rw[nA g,List.flatMap_cons,jL]
  rw[d]at a;refine(ayu (c t (dm b)) a (by have:=f (i+1);omega) (by rw[List.length_take];omega)).mono ?_;rintro e w' ⟨rfl,c,d⟩;refine⟨rfl,c,?_⟩;rw[Eh b];exact d
 .rintro e w' ⟨rfl,tv,a⟩;rw[List.drop_length,iA]at a;exact⟨rfl,tv,a⟩
theorem ayE{ob:Nat}{a:List Tb}{l:List Int}{z:List UInt8}(d:∀n∈l,nN n)(f:l.length<=65536)(b:(l.flatMap lZ++z).length<=700000000000)(c:gF w W xb rb ob (aG l.length++(l.flatMap lZ++z)) tv (.slice none 0 0) a []):
  Calls Tryz.prog 184 #[.pointer (some ⟨rb,0,none⟩),.func (.func 188) #[] #[.pointer (some ⟨ob,0,none⟩),.pointer (some ⟨xb,0,none⟩)]] W λe w'=>e=.returned (.tuple #[])/\∃dv,gF w w' xb rb ob z tv dv a l:=by
 have g:∀i,((l.drop i).flatMap lZ++z).length<=700000000000:=λi=>by
  have:l.flatMap lZ=(l.take i).flatMap lZ++(l.drop i).flatMap lZ:=by rw[<-List.flatMap_append,List.take_append_drop]
  rw[this]at b;simp only[aM]at b ⊢;omega
 refine(agU (fn:=188) (λi W'=>∃dv,gF w W' xb rb ob ((l.drop i).flatMap lZ++z) tv dv a (l.take i)) c.fW f (by omega) (λa a b=>⟨_,by simpa using c.step a b⟩) (λi wr ⟨dv,a⟩=>⟨_,a.fW⟩) (λi wr hi ⟨dv,a⟩=>?_) ⟨_,Tryz.func188,rfl⟩ ayC).mono ?_
 .obtain⟨n,b⟩:∃n,l[i]?=some n:=⟨l[i],by simp[hi]⟩
  have c:=d n (dm b);have d:(l.drop i).flatMap lZ++z=aG n.toNat++((l.drop (i+1)).flatMap lZ++z):=by obtain⟨f,rfl⟩:=dW.1 b;rw[nA f,List.flatMap_cons,jL];rfl
  rw[d]at a;refine(ayz (by have:=c.2;omega) a (by have:=g (i+1);omega) (by rw[List.length_take];omega)).mono ?_;rintro e w' ⟨rfl,f,d⟩;refine⟨rfl,f,?_⟩;rw[Eh b];rw[Int.toNat_of_nonneg c.1]at d;exact d
 .rintro e w' ⟨rfl,dv,a⟩;rw[List.drop_length,iA]at a;exact⟨rfl,dv,a⟩
theorem ayF{E:cO}(hf:BO E)(h:Bv w bv (dP E))(hl:(dP E).length<=500000000000):
  Calls Tryz.prog 137 #[bv] w λe w'=>∃tv dv,e=.returned (.tuple #[.agg (dY tv dv E.seq E.next E.wal),.int .i64 0])/\Own w.heap.size w' tv E.add/\BU w.heap.size w' dv E.drop/\Grow w w':=by
 obtain⟨z5,Mi⟩:∃x,x=aG E.wal.toNat++[]:=⟨_,rfl⟩
 obtain⟨z4,Rq⟩:∃x,x=aG E.next.toNat++z5:=⟨_,rfl⟩
 obtain⟨z3,hz3⟩:∃x,x=aG E.seq.toNat++z4:=⟨_,rfl⟩
 obtain⟨z1,hz1⟩:∃x,x=aG E.drop.length++(E.drop.flatMap lZ++z3):=⟨_,rfl⟩
 have XD:dP E=aG E.add.length++(E.add.flatMap jH++z1):=by rw[hz1,hz3,Rq,Mi];simp[dP]
 have hl0:(E.add.flatMap jH++z1).length<=700000000000:=by rw[XD]at hl;simp only[aM]at hl ⊢;omega
 have dE:(E.drop.flatMap lZ++z3).length<=700000000000:=by rw[hz1]at hl0;simp only[aM]at hl0 ⊢;omega
 have b5:=cF E.wal.toNat;have b4:=cF E.next.toNat;have hl5:z5.length<=100:=by rw[Mi];simp;omega
 have hl4:z4.length<=100:=by rw[Rq,Mi];simp;omega
 obtain⟨ba,bc,rfl⟩:=h.slice;have hW:gF w ((((w.alloc (.cells (dY (.slice none 0 0) (.slice none 0 0) 0 0 0) 148)).alloc (.cells #[.slice ba (dP E).length bc,.int .i64 0] 293)).alloc (.cells #[.pointer (some ⟨w.heap.size+1,0,none⟩)] 291)).alloc (.cells (dY (.slice none 0 0) (.slice none 0 0) 0 0 0) 148)) (w.heap.size+1+1) (w.heap.size+1) (w.heap.size+1+1+1) (dP E) (.slice none 0 0) (.slice none 0 0) [] []:=by
  have s1:∀(W:World)(o:Obj),(W.alloc o).heap.size=W.heap.size+1:=λW o=>by simp
  have n1:=ax w (.cells (dY (.slice none 0 0) (.slice none 0 0) 0 0 0) 148);generalize bT:w.alloc (.cells (dY (.slice none 0 0) (.slice none 0 0) 0 0 0) 148)=w1 at*;have z1':w1.heap.size=w.heap.size+1:=by rw[<-bT];simp
  have g1:Grow w w1:=by rw[<-bT];exact ar _ _
  have n2:=ax w1 (.cells #[.slice ba (dP E).length bc,.int .i64 0] 293);have g2:Grow w1 (w1.alloc (.cells #[.slice ba (dP E).length bc,.int .i64 0] 293)):=ar _ _;generalize hw2:w1.alloc (.cells #[.slice ba (dP E).length bc,.int .i64 0] 293)=w2 at*;have z2':w2.heap.size=w.heap.size+1+1:=by rw[<-hw2];simp[z1']
  have n3:=ax w2 (.cells #[.pointer (some ⟨w.heap.size+1,0,none⟩)] 291);have g3:Grow w2 (w2.alloc (.cells #[.pointer (some ⟨w.heap.size+1,0,none⟩)] 291)):=ar _ _;generalize hw3:w2.alloc (.cells #[.pointer (some ⟨w.heap.size+1,0,none⟩)] 291)=w3 at*;have z3':w3.heap.size=w.heap.size+1+1+1:=by rw[<-hw3];simp[z2']
  have n4:=ax w3 (.cells (dY (.slice none 0 0) (.slice none 0 0) 0 0 0) 148);have g4:Grow w3 (w3.alloc (.cells (dY (.slice none 0 0) (.slice none 0 0) 0 0 0) 148)):=ar _ _;rw[z1']at n2;rw[z2']at n3;rw[z3']at n4;exact⟨⟨⟨_,g4.heap (g3.heap n2),h⟩,((g1.trans g2).trans g3).trans g4,by omega⟩,g4.heap n3,n4,jh _ _ _ _,oM _ _ _,by omega,by omega,g4.heap (g3.heap (g2.heap n1)),by omega⟩
 have HW:=ae hW;have Hf:=ae hf;have Hz1:=ae hz1;have Hz3:=ae hz3;have Hz4:=ae Rq;have Hz5:=ae Mi;have XE:=ae XD;clear h hW hf hz1 hz3 Rq Mi b4 b5 XD;go_enter Tryz.func137,Tryz.ntmps137
 go_upto_region 3 with fail
 generalize (((w.alloc (.cells (dY (.slice none 0 0) (.slice none 0 0) 0 0 0) 148)).alloc (.cells #[.slice ba (dP E).length bc,.int .i64 0] 293)).alloc (.cells #[.pointer (some ⟨w.heap.size+1,0,none⟩)] 291)).alloc (.cells (dY (.slice none 0 0) (.slice none 0 0) 0 0 0) 148)=W0 at*;have hW:=HW.out;rw[XE.out]at hW;generalize (dP E).length=L at*;generalize iE:w.heap.size+1+1=xb at*;generalize eW:w.heap.size+1=rb at*;obtain⟨c0,lx⟩:=hW.cell;have Ha:=ae (ayD Hf.out.adds Hf.out.QY hl0 hW);clear hW HW hl
 go_wp2_with fail
 (with_reducible refine Ha.out.mono ?_);rintro e w1 ⟨rfl,tv,jm⟩;obtain⟨c1,lx1⟩:=jm.cell;have Hb:=ae (ayE (z:=z3) Hf.out.drops Hf.out.QZ dE (by rw[<-Hz1.out];exact jm));clear jm Ha c0 lx
 go_upto_region 4 with fail
 go_wp2_with fail
 (with_reducible refine Hb.out.mono ?_);rintro e w2 ⟨rfl,dv,cS⟩;have Eu:=ae cS;clear cS Hb c1 lx1
 go_upto_region 5 with fail
 obtain⟨c2,lx2⟩:=Eu.out.cell;refine oK (λW'=>W'.cell? ⟨xb,0,none⟩=some (.pointer (some ⟨rb,0,none⟩))/\xb<W'.heap.size) [(0,false),(2,false),(4,false),(1,true),(6,false),(3,true),(5,true),(7,true),(8,false),(9,true),(10,false),(11,true)] (by kernel_rfl) (by kernel_rfl) (bB λ_ _ _ _ _ h=>h) ⟨by simpa using c2,by simpa using lx2⟩ ?_;simp only[cm,nth];clear c2 lx2
 repeat ((first|(apply az;rfl;rintro W ⟨hW0,hW1⟩;go_simp;with_reducible rfl)|(apply aA;rfl));simp only[ah,List.set])
 have hdd:=Eu.out.grow (ay w2);refine bw (by rfl) (by go_simp) (agQ (w0:=w) (W:=w2.drew) (rb:=rb) (by have:=hdd.fW;rw[Hz3.out]at this;exact this) (n:=E.seq.toNat) (by have:=Hf.out.seq;omega) (by omega)) ?_;rintro e w3 ⟨rfl,hR,hG⟩;have gA:=hdd.step hR hG;refine⟨_,rfl,gA.cell,?_⟩
 try simp only[ah,List.set,aC]
 repeat ((first|(apply az;rfl;rintro W ⟨hW0,hW1⟩;go_simp;with_reducible rfl)|(apply aA;rfl));simp only[ah,List.set])
 refine bw (by rfl) (by go_simp) (IJ (w0:=w) (W:=w3) (rb:=rb) (by have:=gA.fW;rw[Hz4.out]at this;exact this) (n:=E.next.toNat) (by have:=Hf.out.next.2;omega) (by omega)) ?_;rintro e w4 ⟨rfl,hR4,IK⟩;have kD:=gA.step hR4 IK;refine⟨_,rfl,kD.cell,?_⟩
 try simp only[ah,List.set,aC]
 refine bw (by rfl) (by go_simp) (IJ (w0:=w) (W:=w4) (rb:=rb) (by have:=kD.fW;rw[Hz5.out]at this;exact this) (n:=E.wal.toNat) (by have:=Hf.out.wal.2;omega) (by simp)) ?_;rintro e w5 ⟨rfl,hR5,IL⟩;have ja:=kD.step hR5 IL;refine⟨_,rfl,ja.cell,?_⟩
 try simp only[ah,List.set,aC]
 have XF:=Int.toNat_of_nonneg Hf.out.seq.1;have XG:=Int.toNat_of_nonneg Hf.out.next.1;have XH:=Int.toNat_of_nonneg Hf.out.wal.1;rw[XF,XG,XH];have sV:=ae ja;have XI:=ae (ag XF (ag XG XH));clear hdd hR hG hR4 IK hR5 IL gA kD XF XG XH;have gR:=ja.out;have zM:=ja.box;clear ja;obtain⟨o0,o1,o2,o3,o4⟩:=dI gR;have lo5:=af gR;have fo5:=bG gR;have mX:(w5.setCell ⟨xb+1,2,none⟩ (.int .u64 E.seq)).heap[xb+1]?=some (.cells (dY tv dv E.seq 0 0) 148 (0,0)):=Go.Gl.aK gR 2 _;have Mj:(w5.setCell ⟨xb+1,2,none⟩ (.int .u64 E.seq)).heap[xb]?=some (.cells #[.pointer (some ⟨rb,0,none⟩)] 291 (0,0)):=(aN _ _ _ _ (pX zM gR (by decide))).trans zM;refine fK (by rfl) (λK hK=>?_);go_simp;refine hK _ _ ⟨⟨by simp[World.cell?,Mj],af Mj⟩,?_⟩;clear hK K
 try simp only[ah,List.set,aC]
 repeat ((first|(apply az;rfl;rintro W ⟨hW0,hW1⟩;go_simp;with_reducible rfl)|(apply aA;rfl));simp only[ah,List.set])
 clear o0 o1 o2 o3 o4 lo5 fo5;have vX:∀b,b≠xb+1->(w5.setCell ⟨xb+1,2,none⟩ (.int .u64 E.seq)).heap[b]?=w5.heap[b]?:=λb hb=>aN _ _ _ _ hb
 have hp6:(w5.setCell ⟨xb+1,2,none⟩ (.int .u64 E.seq)).os=w5.os/\(w5.setCell ⟨xb+1,2,none⟩ (.int .u64 E.seq)).tape=w5.tape/\(w5.setCell ⟨xb+1,2,none⟩ (.int .u64 E.seq)).output=w5.output:=⟨rfl,rfl,rfl⟩
 have qM:(w5.setCell ⟨xb+1,2,none⟩ (.int .u64 E.seq)).heap.size=w5.heap.size:=by simp
 generalize w5.setCell ⟨xb+1,2,none⟩ (.int .u64 E.seq)=w6 at*;obtain⟨o0,o1,o2,o3,o4⟩:=dI mX;have lo6:=af mX;have fo6:=bG mX;have kA:(w6.setCell ⟨xb+1,3,none⟩ (.int .i64 E.next)).heap[xb+1]?=some (.cells (dY tv dv E.seq E.next 0) 148 (0,0)):=Go.Gl.aK mX 3 _;have Mk:(w6.setCell ⟨xb+1,3,none⟩ (.int .i64 E.next)).heap[xb]?=some (.cells #[.pointer (some ⟨rb,0,none⟩)] 291 (0,0)):=(aN _ _ _ _ (pX Mj mX (by decide))).trans Mj;refine fK (by rfl) (λK hK=>?_);go_simp;refine hK _ _ ⟨⟨by simp[World.cell?,Mk],af Mk⟩,?_⟩;clear hK K
 try simp only[ah,List.set,aC]
 repeat ((first|(apply az;rfl;rintro W ⟨hW0,hW1⟩;go_simp;with_reducible rfl)|(apply aA;rfl));simp only[ah,List.set])
 clear o0 o1 o2 o3 o4 lo6 fo6;have hk7:∀b,b≠xb+1->(w6.setCell ⟨xb+1,3,none⟩ (.int .i64 E.next)).heap[b]?=w5.heap[b]?:=λb hb=>(aN _ _ _ _ hb).trans (vX b hb)
 have hp7:(w6.setCell ⟨xb+1,3,none⟩ (.int .i64 E.next)).os=w5.os/\(w6.setCell ⟨xb+1,3,none⟩ (.int .i64 E.next)).tape=w5.tape/\(w6.setCell ⟨xb+1,3,none⟩ (.int .i64 E.next)).output=w5.output:=hp6;have pZ:(w6.setCell ⟨xb+1,3,none⟩ (.int .i64 E.next)).heap.size=w5.heap.size:=by simpa using qM
 clear vX hp6 qM mX Mj;generalize w6.setCell ⟨xb+1,3,none⟩ (.int .i64 E.next)=w7 at*;obtain⟨o0,o1,o2,o3,o4⟩:=dI kA;have lo7:=af kA;have fo7:=bG kA;have rR:(w7.setCell ⟨xb+1,4,none⟩ (.int .i64 E.wal)).heap[xb+1]?=some (.cells (dY tv dv E.seq E.next E.wal) 148 (0,0)):=Go.Gl.aK kA 4 _;have XJ:(w7.setCell ⟨xb+1,4,none⟩ (.int .i64 E.wal)).heap[xb]?=some (.cells #[.pointer (some ⟨rb,0,none⟩)] 291 (0,0)):=(aN _ _ _ _ (pX Mk kA (by decide))).trans Mk;refine fK (by rfl) (λK hK=>?_);go_simp;refine hK _ _ ⟨⟨by simp[World.cell?,XJ],af XJ⟩,?_⟩;clear hK K
 try simp only[ah,List.set,aC]
 clear o0 o1 o2 o3 o4 lo7 fo7;have BW:∀b,b≠xb+1->(w7.setCell ⟨xb+1,4,none⟩ (.int .i64 E.wal)).heap[b]?=w5.heap[b]?:=λb hb=>(aN _ _ _ _ hb).trans (hk7 b hb)
 have hp8:(w7.setCell ⟨xb+1,4,none⟩ (.int .i64 E.wal)).os=w5.os/\(w7.setCell ⟨xb+1,4,none⟩ (.int .i64 E.wal)).tape=w5.tape/\(w7.setCell ⟨xb+1,4,none⟩ (.int .i64 E.wal)).output=w5.output:=hp7;have yf:(w7.setCell ⟨xb+1,4,none⟩ (.int .i64 E.wal)).heap.size=w5.heap.size:=by simpa using pZ
 clear hk7 hp7 pZ kA Mk;generalize w7.setCell ⟨xb+1,4,none⟩ (.int .i64 E.wal)=w8 at*;refine bg ?_;obtain⟨wk,IM,sW,IP,Ew,cW⟩:=sV.out.apart gR (by have:=sV.out.no;exact this) hp8 yf BW;have IQ:=Ew sV.out.nq;obtain⟨bv,sS,bD⟩:=wk.cell;obtain⟨va,vc,rfl⟩:=bD.slice;have c1:w8.cell? ⟨xb,0,none⟩=some (.pointer (some ⟨rb,0,none⟩)):=by simp[World.cell?,IM]
 have r0:w8.cell? ⟨rb,0,none⟩=some (.slice va 0 vc):=by simp[World.cell?,sS]
 have r1:w8.cell? ⟨rb,1,none⟩=some (.int .i64 0):=by simp[World.cell?,sS]
 have lr:=af sS;have lx8:=af IM;obtain⟨o0,o1,o2,o3,o4⟩:=dI rR;have lo8:=af rR;obtain⟨q0,q1,q2,q3,q4⟩:=dI IQ;have lq8:=af IQ;have fq8:=bG IQ;have ta:=km sW;obtain⟨ta1,tc1,rfl⟩:=ta;obtain⟨da1,dL,dc1,rfl⟩:∃a L c,dv=.slice a L c:=by obtain⟨a,c,h⟩:=IP.slice;exact⟨_,_,_,h⟩
 have fI:=Rp IQ (.slice ta1 E.add.length tc1) (.slice da1 dL dc1) (.int .u64 E.seq) (.int .i64 E.next) (.int .i64 E.wal);have cP:=ae fI;have Hq8:=ae IQ;have zN:=ae sW;have Hd8:=ae IP;have zO:=ae cW;clear wk IM sW IP Ew cW IQ sS bD rR XJ fI BW hp8 yf gR zM;go_wp2;refine bodyPost_ret (ayA rfl rfl cP.out) rfl ?_;refine⟨_,_,rfl,xY zN.out λg fj=>?_,Hd8.out.keep λg fj=>?_,?_⟩
 .obtain⟨cur,hc,_⟩:=sT zN.out fj;exact XA (pX hc Hq8.out (by decide)) _ _ _ _ _
 .obtain⟨cur,hc⟩:=Hd8.out.block fj;exact XA (pX hc Hq8.out (by decide)) _ _ _ _ _
 .exact((((zO.out.setCell (p:=⟨w.heap.size,0,none⟩) (aw _) _).setCell (p:=⟨w.heap.size,1,none⟩) (aw _) _).setCell (p:=⟨w.heap.size,2,none⟩) (aw _) _).setCell (p:=⟨w.heap.size,3,none⟩) (aw _) _).setCell (p:=⟨w.heap.size,4,none⟩) (aw _) _
def Ex(B tb:Nat)(bv:Value)(L:List UInt8)(e:Nat)(a b:ByteArray)(j:Nat)(v:Value)(W:World):Prop:=
 match j with
 |0=>v=bv
 |1=>v=.pointer (some ⟨tb,2,none⟩)
 |2=>v=.string a
 |3=>Bv W v a.data.toList
 |4=>∃(c:Nat)(d:Value),v=.slice (some ⟨c,0,none⟩) 1 1/\W.heap[c]?=some (.cells #[d] 49 (0,0))/\Bv W d a.data.toList
 |5=>aI B W v (L++bp a.data.toList)
 |6=>v=.pointer (some ⟨tb,3,none⟩)
 |7=>v=.string b
 |8=>Bv W v b.data.toList
 |9=>∃(c:Nat)(d:Value),v=.slice (some ⟨c,0,none⟩) 1 1/\W.heap[c]?=some (.cells #[d] 49 (0,0))/\Bv W d b.data.toList
 |10=>aI B W v (L++bp a.data.toList++bp b.data.toList)
 |11=>v=.pointer (some ⟨tb,4,none⟩)
 |12=>v=.int .i64 (e:Int)
 |13=>v=.int .u64 (e:Int)
 |14=>aI B W v (L++bp a.data.toList++bp b.data.toList++aG e)
 |15=>aI B W v (L++bp a.data.toList++bp b.data.toList++aG e)
 |_=>True
theorem Ex.keep{a:Nat}{b c:ByteArray}:∀(j:Nat)(v:Value)(W W':World),Grow W W'->Ex B tb bv L a b c j v W->Ex B tb bv L a b c j v W':=by
 intro j v W W' b a;unfold Ex at a
 split at a<;>first
  |exact a
  |exact Bv.grow a b
  |exact Row1.grow a b
  |(obtain⟨c,d,e,f,g⟩:=a;exact⟨c,d,e,b.heap f,g.grow b⟩)
  |(unfold Ex;split<;>first|trivial|(exfalso;simp_all))
def nQ(b:World)(bv:Value)(l:Array Bool)(a:Act)(W:World):Prop:=Grow b W/\(l.getD 15 false=false->a.tmps[3]?=some bv)
theorem nQ.next{b:World}{l:Array Bool}{a:Act}(c:nQ b bv l a W)(hi:i≠15)(e:d≠3)(f:Grow W W'):nQ b bv (l.setIfInBounds i true) (a.put (some d) v) W':=
 ⟨c.1.trans f,λa=>jN e (c.2 (by rw[getD_set_ne false hi]at a;exact a))⟩
theorem ox(x:List UInt8):(bp x).length<=x.length+10:=by have:=cF x.length;simp only[bp,aM];omega
def XK(w:World)(l:List Tb)(pre:List UInt8)(bv b:Value)(a:World):Prop:=
 ∃i:Nat,b=.int .i64 i/\i<=l.length/\aI w.heap.size a bv (pre++(l.take i).flatMap jH)/\Grow w a
def XM(w:World)(l:List Int)(pre:List UInt8)(bv b:Value)(a:World):Prop:=
 ∃i:Nat,b=.int .i64 i/\i<=l.length/\aI w.heap.size a bv (pre++(l.take i).flatMap lZ)/\Grow w a
theorem XN{a:Type}{l:List a}{x:a}(f:a->List UInt8)(a:l[i]?=some x):(l.take (i+1)).flatMap f=(l.take i).flatMap f++f x:=by rw[Eh a,List.flatMap_append];simp
theorem wo{n:Nat}(a:n<18446744073709551616):IntKind.u64.wrap (n:Int)=(n:Int):=by simp[IntKind.wrap,IntKind.bits,IntKind.signed];omega
theorem ayT{E:cO}(hf:BO E)(hA:uD w av E.add)(hD:Ints w dv E.drop)(hk:jP E.add<=1000000000):
  Calls Tryz.prog 112 #[.agg (dY av dv E.seq E.next E.wal)] w λe w'=>∃v,e=.returned v/\aI w.heap.size w' v (dP E)/\Grow w w':=by
 obtain⟨aa,ac,rfl,sX⟩:=hA;obtain⟨da,dc,rfl,BX,hdr⟩:=hD;have yh:=ax w (.cells (dY (.slice aa E.add.length ac) (.slice da E.drop.length dc) E.seq E.next E.wal) 148);have ai:Grow w (w.alloc (.cells (dY (.slice aa E.add.length ac) (.slice da E.drop.length dc) E.seq E.next E.wal) 148)):=ar _ _;have pV:=hf.QY;have ir:=hf.QZ;have wu:=wo (n:=E.add.length) (by omega);have jC:=pS (w:=w.alloc (.cells (dY (.slice aa E.add.length ac) (.slice da E.drop.length dc) E.seq E.next E.wal) 148)) (bv:=.slice none 0 0) (l:=[]) ⟨none,0,rfl,aw _,aY _,λ_=>rfl,.inl rfl⟩ (by simp) (n:=E.add.length) (by omega);obtain⟨e0,e1,e2,e3,e4⟩:=dI yh;have le:=af yh;have od:=ae jC;have Rs:=ae yh;have cn:=ae ai;have XO:=ae sX;have qL:=ae hdr;have Hf:=ae hf;clear yh ai sX hdr jC hf;go_enter Tryz.func112,Tryz.ntmps112
 go_wp2_with fail
 generalize w.alloc (.cells (dY (.slice aa E.add.length ac) (.slice da E.drop.length dc) E.seq E.next E.wal) 148)=w1 at*;(with_reducible refine od.out.mono ?_);rintro e w2 ⟨nv,rfl,gy,hg2⟩;have hb2:=hg2.heap Rs.out;clear e0 e1 e2 e3 e4 le;obtain⟨e0,e1,e2,e3,e4⟩:=dI hb2;have Ml:=af hb2;have bz:Hid (XK w1 E.add (aG E.add.length) nv (.int .i64 0) w2):=ae ⟨0,rfl,aY _,by simpa using gy,hg2⟩;obtain⟨na,nc,rfl⟩:=gy.slice;clear gy hg2 hb2 od
 go_wp2_with fail
 go_loopw [3,16] (λbv iv wr=>XK w1 E.add (aG E.add.length) bv iv wr) (λ_ iv _=>E.add.length-(intOf iv).toNat)
 case atStart=>exact bz.out
 case round=>
  obtain⟨i,rfl,hi,hown,hg⟩:=hrel;clear e0 e1 e2 e3 e4 Ml;have fX:=hg.heap Rs.out;by_cases hlt:i<E.add.length
  .obtain⟨t,ht⟩:∃t,E.add[i]?=some t:=⟨E.add[i],by simp[hlt]⟩
   obtain⟨b,o,rfl,hbl,bq⟩:∃b o,aa=some ⟨b,o,none⟩/\b<w.heap.size/\Rd w b o jF 5 E.add:=by
    rcases XO.out with h1|h1
    .rw[h1]at hlt;simp at hlt
    .exact h1
   have eu:=cn.out.trans hg;have js:=bq.grow hbl eu i t ht;have rD:=Hf.out.adds t (dm ht);have ep:=XN jH ht;have IU:=agC (dm ht);have hpl:((E.add.take i).flatMap jH).length<=50*i+jP E.add:=by have h1:=Rh (E.add.take i);have h2:=axZ E.add i;rw[List.length_take]at h1;omega
   obtain⟨f0,f1,f2,f3,f4⟩:=t;obtain⟨n0,rfl⟩:∃n:Nat,f0=n:=⟨f0.toNat,(Int.toNat_of_nonneg rD.file.1).symm⟩
   obtain⟨n1,rfl⟩:∃n:Nat,f1=n:=⟨f1.toNat,(Int.toNat_of_nonneg rD.level.1).symm⟩
   obtain⟨n4,rfl⟩:∃n:Nat,f4=n:=⟨f4.toNat,(Int.toNat_of_nonneg rD.size.1).symm⟩
   have m0:n0<=1099511627776:=by have:=rD.file.2;exact Int.ofNat_le.1 this
   have m1:n1<=1099511627776:=by have:=rD.level.2;exact Int.ofNat_le.1 this
   have m4:n4<=1099511627776:=by have:=rD.size.2;exact Int.ofNat_le.1 this
   have m2:f2.size<=67108864:=rD.first;have m3:f3.size<=67108864:=rD.last;have m2':f2.data.toList.length<=67108864:=by rw[ia];exact m2
   have m3':f3.data.toList.length<=67108864:=by rw[ia];exact m3
   have k2:=ox f2.data.toList;have k3:=ox f3.data.toList;have ahw:(E.add.take (i+1)).flatMap jH=(E.add.take i).flatMap jH++(aG n0++(aG n1++(bp f2.data.toList++(bp f3.data.toList++aG n4)))):=ep;have oy:=ae ahw;have a0:=js 0 _ rfl;have a1:=js 1 _ rfl;have a2:=js 2 _ rfl;have a3:=js 3 _ rfl;have a4:=js 4 _ rfl;simp only[Nat.add_zero]at a0;dsimp only at a0 a1 a2 a3 a4;have lb:b<wr.heap.size:=bF hbl eu.size;have eN:(i:Int)<(E.add.length:Int):=by omega
   have bU:(0:Int)<=(i:Int):=by omega
   have fT:IntKind.i64.wrap ((i:Int)+1)=(i:Int)+1:=aQ _ (by omega);have wu0:=wo (n:=n0) (by omega);have wu1:=wo (n:=n1) (by omega);have wu4:=wo (n:=n4) (by omega);have eE:(wr.alloc (.cells #[.int .i64 (n0:Int),.int .i64 (n1:Int),.string f2,.string f3,.int .i64 (n4:Int)] 101)).heap[wr.heap.size]?=some (.cells #[.int .i64 (n0:Int),.int .i64 (n1:Int),.string f2,.string f3,.int .i64 (n4:Int)] 101 (0,0)):=ax _ _;have aX:Grow wr (wr.alloc (.cells #[.int .i64 (n0:Int),.int .i64 (n1:Int),.string f2,.string f3,.int .i64 (n4:Int)] 101)):=ar _ _;obtain⟨PL,BZ⟩:∃x,x=aG E.add.length++(E.add.take i).flatMap jH:=⟨_,rfl⟩
   rw[<-BZ]at hown;have gw:=ae (hown.grow aX);obtain⟨ba,bc,rfl⟩:=hown.slice;have aLo:PL.length<=5000000000:=by rw[BZ];have:=cF E.add.length;simp only[aM];omega
   have XP:=ae BZ;have HG:=ae (hg.trans aX);clear hown hg eu bq js ep ahw IU hpl rD ht BZ fX
   go_upto_region 5 with fail
   clear a0 a1 a2 a3 a4 lb aX;generalize wr.alloc (.cells #[.int .i64 (n0:Int),.int .i64 (n1:Int),.string f2,.string f3,.int .i64 (n4:Int)] 101)=w3 at*;generalize wr.heap.size=tb at*;obtain⟨t0,t1,t2,t3,t4⟩:=dI eE;have Mh:=af eE;have aU:=Grow.cells (w:=w3);have mh:=ae eE;clear eE;refine oK (λW=>Below w3.heap.size w3 W) [(0,false),(1,false),(2,false),(3,false),(5,false),(6,false),(7,false),(4,true),(8,true),(9,false)] (by kernel_rfl) (by kernel_rfl) (bB λ_ _ _ _ _ h=>h) (ay _) ?_;simp only[cm,nth]
   repeat ((first|(apply az;rfl;rintro W hW;go_simp;with_reducible rfl)|(apply aA;rfl));simp only[ah,List.set])
   have hgd:=ay w3;refine bw (by rfl) (by go_simp) (pS (cE (gw.out.grow hgd)) (by omega) (n:=n0) (by omega)) ?_;rintro e w4 ⟨v4,rfl,kM,hg4⟩;refine⟨_,rfl,hgd.trans hg4,?_⟩
   try simp only[ah,List.set,aC]
   refine bw (by rfl) (by go_simp) (pS (cE kM) (by have:=cF n0;simp;omega) (n:=n1) (by omega)) ?_;rintro e w5 ⟨v5,rfl,gR,bm⟩;have zP:Grow w3 w5:=(hgd.trans hg4).trans bm;refine⟨_,rfl,zP,?_⟩
   try simp only[ah,List.set,aC]
   obtain⟨L5,Ru⟩:∃x,x=PL++aG n0++aG n1:=⟨_,rfl⟩
   rw[<-Ru]at gR;have aLp:L5.length<=6000000000:=by rw[Ru];have:=cF n0;have:=cF n1;simp only[aM];omega
   have HL5:=ae Ru;obtain⟨va,vL,vc,rfl⟩:∃a L c,v5=.slice a L c:=by obtain⟨a,c,h⟩:=gR.slice;exact⟨_,_,_,h⟩
   repeat ((first|(apply az;rfl;rintro W hW;go_simp;with_reducible rfl)|(apply aA;rfl));simp only[ah,List.set])
   refine bg ?_;have Rx:=zP.heap mh.out;have Mm:=ae gR;have HG5:=ae (HG.out.trans zP);clear kM hg4 hgd Ru gR zP t0 t1 t2 t3 t4 Mh aU;obtain⟨t0,t1,t2,t3,t4⟩:=dI Rx;have mY:=af Rx;have XQ:=ae Rx;clear Rx
   go_wp2_with fail
   refine xA (λa0 ha0=>?_);have F3:a0.tmps[3]?=some (.slice va vL vc):=by rw[ha0];rfl
   have F5:a0.tmps[5]?=some (.pointer (some ⟨tb,0,none⟩)):=by rw[ha0];rfl
   have hsz:a0.tmps.size=75:=by rw[ha0];rfl
   have pd:=ae ha0;clear ha0;refine xC (Ex w5.heap.size tb (.slice va vL vc) L5 n4 f2 f3) (nQ w5 (.slice va vL vc)) Grow [3,29,30,31,32,33,34,35,36,37,38,39,40,41,42,43] (by kernel_rfl) (by kernel_rfl) (by rw[hsz];rfl) Ex.keep ⟨ay _,λ_=>F3⟩ ?_ (λa1 W1 hf=>?_);rotate_left
   .obtain⟨v,hv,hq⟩:=hf.slot 15 3 (by rfl) (by rfl)
    have hG:Grow w5 W1:=hf.world.1;have hq':aI w5.heap.size W1 v (L5++bp f2.data.toList++bp f3.data.toList++aG n4):=hq;have e:=hf.alike.fill;rw[pd.out]at e;simp only[List.foldl_cons,List.foldl_nil,Act.put,nZ,List.set_cons_zero,lU]at e;have h3:a1.tmps.getD 3 undef=v:=by rw[gZ,hv];rfl
    obtain⟨Mo,Ca⟩:∃u,a1.tmps.getD 29 undef=u:=⟨_,rfl⟩
    obtain⟨Mp,Cb⟩:∃u,a1.tmps.getD 30 undef=u:=⟨_,rfl⟩
    obtain⟨Mq,Cc⟩:∃u,a1.tmps.getD 31 undef=u:=⟨_,rfl⟩
    obtain⟨u32,Ce⟩:∃u,a1.tmps.getD 32 undef=u:=⟨_,rfl⟩
    obtain⟨u33,Cf⟩:∃u,a1.tmps.getD 33 undef=u:=⟨_,rfl⟩
    obtain⟨Ry,Mr⟩:∃u,a1.tmps.getD 34 undef=u:=⟨_,rfl⟩
    obtain⟨XR,h35⟩:∃u,a1.tmps.getD 35 undef=u:=⟨_,rfl⟩
    obtain⟨XS,h36⟩:∃u,a1.tmps.getD 36 undef=u:=⟨_,rfl⟩
    obtain⟨XT,h37⟩:∃u,a1.tmps.getD 37 undef=u:=⟨_,rfl⟩
    obtain⟨XU,h38⟩:∃u,a1.tmps.getD 38 undef=u:=⟨_,rfl⟩
    obtain⟨Rz,Ms⟩:∃u,a1.tmps.getD 39 undef=u:=⟨_,rfl⟩
    obtain⟨RA,Mt⟩:∃u,a1.tmps.getD 40 undef=u:=⟨_,rfl⟩
    obtain⟨RB,Mu⟩:∃u,a1.tmps.getD 41 undef=u:=⟨_,rfl⟩
    obtain⟨RD,Mv⟩:∃u,a1.tmps.getD 42 undef=u:=⟨_,rfl⟩
    obtain⟨RG,Mw⟩:∃u,a1.tmps.getD 43 undef=u:=⟨_,rfl⟩
    rw[h3,Ca,Cb,Cc,Ce,Cf,Mr,h35,h36,h37,h38,Ms,Mt,Mu,Mv,Mw]at e;clear h3 hv hq hf Ca Cb Cc Ce Cf Mr h35 h36 h37 h38 Ms Mt Mu Mv Mw;rw[e];clear e pd F3 F5 hsz;obtain⟨xa,xL,xc,rfl⟩:∃a L c,v=.slice a L c:=by obtain⟨a,c,h⟩:=hq'.slice;exact⟨_,_,_,h⟩
    have aR:Hid (XK w1 E.add (aG E.add.length) (.slice xa xL xc) (.int .i64 ((i:Int)+1)) W1):=ae ⟨i+1,by simp,hlt,by have h1:=hq'.mono HG5.out.size;rw[HL5.out,XP.out]at h1;rw[oy.out];simpa[jL]using h1,HG5.out.trans hG⟩
    clear hq' hG t0 t1 t2 t3 t4 mY;go_wp2;go_roundw
    case rel=>exact aR.out
    case measure=>simp[intOf];omega
   refine⟨?_,?_,?_,?_,?_,?_,?_,?_,?_,?_,?_,?_,?_,?_,?_,?_,True.intro⟩
   .intro listed a W hf ak aj;have hs1:=hf.sz hsz;have hT:=hf.world;have hG:Grow w5 W:=hT.1;have ayW:=fF hf.closed (n:=8) (e:=15) (i:=0) (by kernel_rfl) ak;have G3:a.tmps[3]'(by rw[hs1];decide)=.slice va vL vc:=aP (hT.2 ayW) _;refine br rfl (by rfl) (λK' hK'=>?_);go_simp;exact hK' _ _ ⟨_,rfl,(λ_ _=>rfl),aW _,nQ.next hT (by decide) (by decide) (aW _)⟩
   .intro listed a W hf ak aj;have hs1:=hf.sz hsz;have hT:=hf.world;have hG:Grow w5 W:=hT.1;have G5:=hf.got (by decide) F5 (by rw[hs1];decide);refine br rfl (by rfl) (λK' hK'=>?_);go_simp;exact hK' _ _ ⟨_,rfl,(λ_ _=>rfl),aW _,nQ.next hT (by decide) (by decide) (aW _)⟩
   .intro listed a W hf ak aj;have hs1:=hf.sz hsz;have hT:=hf.world;have hG:Grow w5 W:=hT.1;have G30:=aP (hf.sv 1 30 rfl (aO aj 1 (by kernel_rfl)) λ_ _ h=>h) (by rw[hs1];decide);have hb:=hG.heap XQ.out;obtain⟨Ey,Ez,EA,XV,t4'⟩:=dI hb;have lb:=af hb;refine br rfl (by rfl) (λK' hK'=>?_);go_simp;exact hK' _ _ ⟨_,rfl,(λ_ _=>rfl),aW _,nQ.next hT (by decide) (by decide) (aW _)⟩
   .intro listed a W hf ak aj;have hs1:=hf.sz hsz;have hT:=hf.world;have hG:Grow w5 W:=hT.1;have G31:=aP (hf.sv 2 31 rfl (aO aj 2 (by kernel_rfl)) λ_ _ h=>h) (by rw[hs1];decide);obtain⟨cap,W2,BR,bD,hg2⟩:=BG f2 (by omega) W;refine br rfl (by rfl) (λK' hK'=>?_);go_simp;exact hK' _ _ ⟨_,rfl,(λ_ _=>bD),hg2,nQ.next hT (by decide) (by decide) hg2⟩
   .intro listed a W hf ak aj;have hs1:=hf.sz hsz;have hT:=hf.world;have hG:Grow w5 W:=hT.1;obtain⟨v3,s3,q3⟩:=hf.slot 3 32 rfl (aO aj 3 (by kernel_rfl));have G32:=aP s3 (by rw[hs1];decide);have rS:Bv W v3 f2.data.toList:=q3;obtain⟨xa,xc,rfl⟩:=rS.slice;have hg2:Grow W (W.alloc (.cells #[.slice xa f2.data.toList.length xc] 49)):=ar _ _;refine DI rfl (by rfl) (tZ (v:=.slice xa f2.data.toList.length xc) rfl Tryz.underlying131 Tryz.zy rfl (by show a.tmps.getD 32 undef=_;rw[gZ,s3];rfl) rfl) ?_;exact⟨_,rfl,(λ_ _=>⟨W.heap.size,_,rfl,ax _ _,rS.grow hg2⟩),hg2,nQ.next hT (by decide) (by decide) hg2⟩
   .intro listed a W hf ak aj;have hs1:=hf.sz hsz;have hT:=hf.world;have hG:Grow w5 W:=hT.1;have G29:=aP (hf.sv 0 29 rfl (aO aj 0 (by kernel_rfl)) λ_ _ h=>h) (by rw[hs1];decide);obtain⟨v4,s4,qb,pv,q4,mZ,pQ⟩:=hf.slot 4 33 rfl (aO aj 4 (by kernel_rfl));subst q4;have G33:=aP s4 (by rw[hs1];decide);refine ky rfl (by rfl) (by go_simp) (Ed (cE (Mm.out.grow hG)) (by omega) mZ pQ (by omega)) ?_;rintro e W2 ⟨v,rfl,ho,hg2⟩;exact⟨_,rfl,_,rfl,(λ_ _=>ho.mono hG.size),hg2,nQ.next hT (by decide) (by decide) hg2⟩
   .intro listed a W hf ak aj;have hs1:=hf.sz hsz;have hT:=hf.world;have hG:Grow w5 W:=hT.1;have G5:=hf.got (by decide) F5 (by rw[hs1];decide);refine br rfl (by rfl) (λK' hK'=>?_);go_simp;exact hK' _ _ ⟨_,rfl,(λ_ _=>rfl),aW _,nQ.next hT (by decide) (by decide) (aW _)⟩
   .intro listed a W hf ak aj;have hs1:=hf.sz hsz;have hT:=hf.world;have hG:Grow w5 W:=hT.1;have G35:=aP (hf.sv 6 35 rfl (aO aj 6 (by kernel_rfl)) λ_ _ h=>h) (by rw[hs1];decide);have hb:=hG.heap XQ.out;obtain⟨Ey,Ez,EA,XV,t4'⟩:=dI hb;have lb:=af hb;refine br rfl (by rfl) (λK' hK'=>?_);go_simp;exact hK' _ _ ⟨_,rfl,(λ_ _=>rfl),aW _,nQ.next hT (by decide) (by decide) (aW _)⟩
   .intro listed a W hf ak aj;have hs1:=hf.sz hsz;have hT:=hf.world;have hG:Grow w5 W:=hT.1;have G36:=aP (hf.sv 7 36 rfl (aO aj 7 (by kernel_rfl)) λ_ _ h=>h) (by rw[hs1];decide);obtain⟨cap,W2,BR,bD,hg2⟩:=BG f3 (by omega) W;refine br rfl (by rfl) (λK' hK'=>?_);go_simp;exact hK' _ _ ⟨_,rfl,(λ_ _=>bD),hg2,nQ.next hT (by decide) (by decide) hg2⟩
   .intro listed a W hf ak aj;have hs1:=hf.sz hsz;have hT:=hf.world;have hG:Grow w5 W:=hT.1;obtain⟨v8,s8,q8⟩:=hf.slot 8 37 rfl (aO aj 8 (by kernel_rfl));have G37:=aP s8 (by rw[hs1];decide);have rS:Bv W v8 f3.data.toList:=q8;obtain⟨xa,xc,rfl⟩:=rS.slice;have hg2:Grow W (W.alloc (.cells #[.slice xa f3.data.toList.length xc] 49)):=ar _ _;refine DI rfl (by rfl) (tZ (v:=.slice xa f3.data.toList.length xc) rfl Tryz.underlying131 Tryz.zy rfl (by show a.tmps.getD 37 undef=_;rw[gZ,s8];rfl) rfl) ?_;exact⟨_,rfl,(λ_ _=>⟨W.heap.size,_,rfl,ax _ _,rS.grow hg2⟩),hg2,nQ.next hT (by decide) (by decide) hg2⟩
   .intro listed a W hf ak aj;have hs1:=hf.sz hsz;have hT:=hf.world;have hG:Grow w5 W:=hT.1;obtain⟨v5,s5,q5⟩:=hf.slot 5 34 rfl (aO aj 5 (by kernel_rfl));have G34:=aP s5 (by rw[hs1];decide);have ayY:aI w5.heap.size W v5 (L5++bp f2.data.toList):=q5;obtain⟨v9,s9,qb,pv,q9,mZ,pQ⟩:=hf.slot 9 38 rfl (aO aj 9 (by kernel_rfl));subst q9;have G38:=aP s9 (by rw[hs1];decide);refine ky rfl (by rfl) (by go_simp) (Ed (cE ayY) (by rw[aM];omega) mZ pQ (by omega)) ?_;rintro e W2 ⟨v,rfl,ho,hg2⟩;exact⟨_,rfl,_,rfl,(λ_ _=>ho.mono hG.size),hg2,nQ.next hT (by decide) (by decide) hg2⟩
   .intro listed a W hf ak aj;have hs1:=hf.sz hsz;have hT:=hf.world;have hG:Grow w5 W:=hT.1;have G5:=hf.got (by decide) F5 (by rw[hs1];decide);refine br rfl (by rfl) (λK' hK'=>?_);go_simp;exact hK' _ _ ⟨_,rfl,(λ_ _=>rfl),aW _,nQ.next hT (by decide) (by decide) (aW _)⟩
   .intro listed a W hf ak aj;have hs1:=hf.sz hsz;have hT:=hf.world;have hG:Grow w5 W:=hT.1;have G40:=aP (hf.sv 11 40 rfl (aO aj 11 (by kernel_rfl)) λ_ _ h=>h) (by rw[hs1];decide);have hb:=hG.heap XQ.out;obtain⟨Ey,Ez,EA,XV,t4'⟩:=dI hb;have lb:=af hb;refine br rfl (by rfl) (λK' hK'=>?_);go_simp;exact hK' _ _ ⟨_,rfl,(λ_ _=>rfl),aW _,nQ.next hT (by decide) (by decide) (aW _)⟩
   .intro listed a W hf ak aj;have hs1:=hf.sz hsz;have hT:=hf.world;have hG:Grow w5 W:=hT.1;have G41:=aP (hf.sv 12 41 rfl (aO aj 12 (by kernel_rfl)) λ_ _ h=>h) (by rw[hs1];decide);refine br rfl (by rfl) (λK' hK'=>?_);go_simp;exact hK' _ _ ⟨_,rfl,(λ_ _=>rfl),aW _,nQ.next hT (by decide) (by decide) (aW _)⟩
   .intro listed a W hf ak aj;have hs1:=hf.sz hsz;have hT:=hf.world;have hG:Grow w5 W:=hT.1;obtain⟨v10,zQ,rT⟩:=hf.slot 10 39 rfl (aO aj 10 (by kernel_rfl));have G39:=aP zQ (by rw[hs1];decide);have G42:=aP (hf.sv 13 42 rfl (aO aj 13 (by kernel_rfl)) λ_ _ h=>h) (by rw[hs1];decide);have yi:aI w5.heap.size W v10 (L5++bp f2.data.toList++bp f3.data.toList):=rT;refine ky rfl (by rfl) (by go_simp) (pS (cE yi) (by rw[aM,aM];omega) (n:=n4) (by omega)) ?_;rintro e W2 ⟨v,rfl,ho,hg2⟩;exact⟨_,rfl,_,rfl,(λ_ _=>ho.mono hG.size),hg2,nQ.next hT (by decide) (by decide) hg2⟩
   .intro listed a W hf ak aj;have hs1:=hf.sz hsz;have hT:=hf.world;have hG:Grow w5 W:=hT.1;obtain⟨v14,s14,Mx⟩:=hf.slot 14 43 rfl (aO aj 14 (by kernel_rfl));have G43:=aP s14 (by rw[hs1];decide);have kn:listed.size=16:=hf.size;refine br rfl (by rfl) (λK' hK'=>?_);go_simp;exact hK' _ _ ⟨_,rfl,(λ_ _=>Mx),aW _,⟨hG,λh=>by rw[pJ (by rw[kn];decide)]at h;cases h⟩⟩
  .obtain rfl:i=E.add.length:=by omega
   have hown':=hown;rw[iA]at hown';obtain⟨P1,wA⟩:∃x,x=aG E.add.length++E.add.flatMap jH:=⟨_,rfl⟩
   rw[<-wA]at hown';have aLq:P1.length<=5000000000:=by rw[wA];have h1:=Rh E.add;have h2:=cF E.add.length;simp only[aM];omega
   have XW:=ae wA;have jk:¬((E.add.length:Int)<(E.add.length:Int)):=by omega
   obtain⟨e0,e1,e2,e3,e4⟩:=dI fX;have Ml:=af fX;have wud:=wo (n:=E.drop.length) (by omega);have od:=ae (pS (cE hown') (by omega) (n:=E.drop.length) (by omega));obtain⟨ba,bc,bD⟩:=hown'.slice;subst bD;have HG:=ae hg;clear hown hown' wA hg fX
   go_wp2_with fail
   (with_reducible refine od.out.mono ?_);rintro e w3 ⟨nv3,rfl,nH,hg3⟩;have mi:=HG.out.trans hg3;have hb3:=mi.heap Rs.out;clear e0 e1 e2 e3 e4 Ml;obtain⟨e0,e1,e2,e3,e4⟩:=dI hb3;have RH:=af hb3;have RI:=nH.mono HG.out.size;obtain⟨P2,nR⟩:∃x,x=P1++aG E.drop.length:=⟨_,rfl⟩
   rw[<-nR]at RI;have aLs:P2.length<=6000000000:=by rw[nR];have:=cF E.drop.length;simp only[aM];omega
   have HP2:=ae nR;have EB:Hid (XM w1 E.drop P2 nv3 (.int .i64 0) w3):=ae ⟨0,rfl,aY _,by simpa using RI,mi⟩;obtain⟨na3,nL3,nc3,rfl⟩:∃a L c,nv3=.slice a L c:=by obtain⟨a,c,h⟩:=RI.slice;exact⟨_,_,_,h⟩
   clear nH RI nR hg3 mi hb3 od
   go_wp2_with fail
   go_loopw [3,54] (λbv iv wr=>XM w1 E.drop P2 bv iv wr) (λ_ iv _=>E.drop.length-(intOf iv).toNat)
   case atStart=>exact EB.out
   case round=>
    obtain⟨j,rfl,hj,hown,hg⟩:=hrel;clear e0 e1 e2 e3 e4 RH;have fX:=hg.heap Rs.out;have jA:((E.drop.take j).flatMap lZ).length<=10*j:=by have h1:=Xt (E.drop.take j);rw[List.length_take]at h1;omega
    by_cases Cg:j<E.drop.length
    .obtain⟨k,hk⟩:∃k,E.drop[j]?=some k:=⟨E.drop[j],by simp[Cg]⟩
     obtain⟨b,o,rfl,hbl,bq⟩:∃b o,da=some ⟨b,o,none⟩/\b<w.heap.size/\∀(j:Nat)(k:Int),E.drop[j]?=some k->w.cell? ⟨b,o+j,none⟩=some (.int .i64 k):=by
      rcases qL.out with h1|h1
      .rw[h1]at Cg;simp at Cg
      .exact h1
     have eu:=cn.out.trans hg;have a0:=bq j k hk;rw[<-Grow.cells _ _ _ eu hbl]at a0;have lb:=bF hbl eu.size;have hN:=Hf.out.drops k (dm hk);obtain⟨n,rfl⟩:∃n:Nat,k=n:=⟨k.toNat,(Int.toNat_of_nonneg hN.1).symm⟩
     have mn:n<=1099511627776:=by have:=hN.2;exact Int.ofNat_le.1 this
     have ep:(E.drop.take (j+1)).flatMap lZ=(E.drop.take j).flatMap lZ++aG n:=XN lZ hk;have oy:=ae ep;have uB:(j:Int)<(E.drop.length:Int):=by omega
     have rM:(0:Int)<=(j:Int):=by omega
     have LZ:IntKind.i64.wrap ((j:Int)+1)=(j:Int)+1:=aQ _ (by omega);have wun:=wo (n:=n) (by omega);obtain⟨PJ,RJ⟩:∃x,x=P2++(E.drop.take j).flatMap lZ:=⟨_,rfl⟩
     rw[<-RJ]at hown;have aLx:PJ.length<=7000000000:=by rw[RJ];simp only[aM];omega
     have HPJ:=ae RJ;have od:=ae (pS (cE hown) (by omega) (n:=n) (by omega));obtain⟨va,vc,bD⟩:=hown.slice;subst bD;have mj:=ae hg;clear hown hg eu bq hk ep hN fX jA RJ
     go_wp2_with fail
     (with_reducible refine od.out.mono ?_);rintro e w4 ⟨v4,rfl,kM,hg4⟩;have aR:Hid (XM w1 E.drop P2 v4 (.int .i64 ((j:Int)+1)) w4):=ae ⟨j+1,by simp,Cg,by rw[oy.out,<-jL,<-HPJ.out];exact kM.mono mj.out.size,mj.out.trans hg4⟩;obtain⟨xa,xL,xc,rfl⟩:∃a L c,v4=.slice a L c:=by obtain⟨a,c,h⟩:=kM.slice;exact⟨_,_,_,h⟩
     clear kM hg4 a0 lb;go_wp2;go_roundw
     case rel=>exact aR.out
     case measure=>simp[intOf];omega
    .obtain rfl:j=E.drop.length:=by omega
     rw[iA]at hown jA;obtain⟨P3,RM⟩:∃x,x=P2++E.drop.flatMap lZ:=⟨_,rfl⟩
     rw[<-RM]at hown;have aLy:P3.length<=7000000000:=by rw[RM];simp only[aM];omega
     have HP3:=ae RM;have jD:¬((E.drop.length:Int)<(E.drop.length:Int)):=by omega
     obtain⟨sq,dR⟩:∃n:Nat,E.seq=n:=⟨E.seq.toNat,(Int.toNat_of_nonneg Hf.out.seq.1).symm⟩
     obtain⟨nx,iu⟩:∃n:Nat,E.next=n:=⟨E.next.toNat,(Int.toNat_of_nonneg Hf.out.next.1).symm⟩
     obtain⟨wl,kO⟩:∃n:Nat,E.wal=n:=⟨E.wal.toNat,(Int.toNat_of_nonneg Hf.out.wal.1).symm⟩
     have q1:sq<18446744073709551616:=by have:=Hf.out.seq.2;rw[dR]at this;omega
     have q2:nx<=1099511627776:=by have:=Hf.out.next.2;rw[iu]at this;omega
     have q3:wl<=1099511627776:=by have:=Hf.out.wal.2;rw[kO]at this;omega
     have wu2:=wo (n:=nx) (by omega);have wu3:=wo (n:=wl) (by omega);have XE:Hid (dP E=P3++aG sq++aG nx++aG wl):=ae (by rw[HP3.out,HP2.out,XW.out];unfold dP;rw[dR,iu,kO];simp[jL])
     rw[dR,iu,kO]at fX;obtain⟨e0,e1,e2,e3,e4⟩:=dI fX;have leb:=af fX;have gw:=ae hown;obtain⟨va,vc,bD⟩:=hown.slice;subst bD;have mj:=ae hg;have Hsw:=ae (ag dR (ag iu kO));clear hown hg RM jA fX dR iu kO
     go_upto_region 14 with fail
     have aU:=Grow.cells (w:=wr);refine oK (λW=>Below wr.heap.size wr W) [(0,false),(1,false),(2,false),(4,false),(5,false),(6,false),(8,false),(9,false),(10,false),(3,true),(7,true),(11,true),(12,false)] (by kernel_rfl) (by kernel_rfl) (bB λ_ _ _ _ _ h=>h) (ay _) ?_;simp only[cm,nth]
     repeat ((first|(apply az;rfl;rintro W hW;go_simp;with_reducible rfl)|(apply aA;rfl));simp only[ah,List.set])
     have hgd:=ay wr;refine bw (by rfl) (by go_simp) (pS (cE (gw.out.grow hgd)) (by omega) (n:=sq) q1) ?_;rintro e w4 ⟨v4,rfl,kM,hg4⟩;refine⟨_,rfl,hgd.trans hg4,?_⟩
     try simp only[ah,List.set,aC]
     refine bw (by rfl) (by go_simp) (pS (cE kM) (by have:=cF sq;simp only[aM];omega) (n:=nx) (by omega)) ?_;rintro e w5 ⟨v5,rfl,gR,bm⟩;refine⟨_,rfl,(hgd.trans hg4).trans bm,?_⟩
     try simp only[ah,List.set,aC]
     refine bw (by rfl) (by go_simp) (pS (cE gR) (by have:=cF sq;have:=cF nx;simp only[aM];omega) (n:=wl) (by omega)) ?_;rintro e w6 ⟨v6,rfl,mX,dh⟩;have EC:=((hgd.trans hg4).trans bm).trans dh;refine⟨_,rfl,EC,?_⟩
     try simp only[ah,List.set,aC]
     obtain⟨xa,xL,xc,rfl⟩:∃a L c,v6=.slice a L c:=by obtain⟨a,c,h⟩:=mX.slice;exact⟨_,_,_,h⟩
     repeat ((first|(apply az;rfl;rintro W hW;go_simp;with_reducible rfl)|(apply aA;rfl));simp only[ah,List.set])
     refine bg ?_;have cP:Hid (aI w.heap.size w6 (.slice xa xL xc) (dP E)/\Grow w w6):=ae ⟨by rw[XE.out];exact mX.mono (aJ (aJ (aJ (aJ cn.out.size mj.out.size) hgd.size) hg4.size) bm.size),(cn.out.trans mj.out).trans EC⟩
     clear kM gR mX hg4 bm dh EC hgd aU;go_wp2;go_ret;exact⟨_,rfl,cP.out⟩
end Go.Proofs.YtoolkdapflaeeaaGreatDoor
namespace Go.Proofs.YtoolkdapflaeeaaGreatDoor.Mn
open Go.RowKit Go.Gl
section
structure lI(w:World)(B1:Nat)(tv:Value)(tabs:List Tb)(V:bM)(E:cO)(av dv:Value)(b1 b2 b3:Bool)(W:World):Prop where
 own:Own B1 W tv tabs
 vb:W.heap[w.heap.size]?=some (.cells (bS tv (cond b1 (dA E.seq V.seq) V.seq) (cond b2 (dA E.next V.next) V.next) (cond b3 (dA E.wal V.wal) V.wal)) 85 (0,0))
 eb:W.heap[w.heap.size+1]?=some (.cells (dY av dv E.seq E.next E.wal) 148 (0,0))
 rb:W.heap[w.heap.size+1+1]?=some (.cells (bS (.slice none 0 0) 0 0 0) 85 (0,0))
 below:Below w.heap.size w W
section
variable{w:World}{B1:Nat}{tv:Value}{tabs:List Tb}{V:bM}{E:cO}{av dv:Value}{b1 b2 b3:Bool}{W W':World}
theorem lI.grow(a:lI w B1 tv tabs V E av dv b1 b2 b3 W)(b:Grow W W'):lI w B1 tv tabs V E av dv b1 b2 b3 W':=
 ⟨fB a.own b,b.heap a.vb,b.heap a.eb,b.heap a.rb,a.below.trans (b.mono a.below.size)⟩
theorem lI.azd(a:lI w B1 tv tabs V E av dv b1 b2 b3 W):lI w B1 tv tabs V E av dv true b2 b3 (W.setCell ⟨w.heap.size,1,none⟩ (.int .u64 (dA E.seq V.seq))):=
 ⟨rN a.own a.vb (by decide),aK a.vb 1 _,(aN _ _ _ _ (by show w.heap.size+1≠w.heap.size;omega)).trans a.eb,(aN _ _ _ _ (by show w.heap.size+1+1≠w.heap.size;omega)).trans a.rb,a.below.setCell (aw _) _⟩
theorem lI.aze(a:lI w B1 tv tabs V E av dv b1 b2 b3 W):lI w B1 tv tabs V E av dv b1 true b3 (W.setCell ⟨w.heap.size,2,none⟩ (.int .i64 (dA E.next V.next))):=
 ⟨rN a.own a.vb (by decide),aK a.vb 2 _,(aN _ _ _ _ (by show w.heap.size+1≠w.heap.size;omega)).trans a.eb,(aN _ _ _ _ (by show w.heap.size+1+1≠w.heap.size;omega)).trans a.rb,a.below.setCell (aw _) _⟩
theorem lI.azf(a:lI w B1 tv tabs V E av dv b1 b2 b3 W):lI w B1 tv tabs V E av dv b1 b2 true (W.setCell ⟨w.heap.size,3,none⟩ (.int .i64 (dA E.wal V.wal))):=
 ⟨rN a.own a.vb (by decide),aK a.vb 3 _,(aN _ _ _ _ (by show w.heap.size+1≠w.heap.size;omega)).trans a.eb,(aN _ _ _ _ (by show w.heap.size+1+1≠w.heap.size;omega)).trans a.rb,a.below.setCell (aw _) _⟩
end
def eO(w:World)(B1:Nat)(tv:Value)(tabs:List Tb)(V:bM)(E:cO)(av dv:Value)(l:Array Bool)(_:Act)(W:World):Prop:=lI w B1 tv tabs V E av dv (l.getD 19 false) (l.getD 21 false) (l.getD 23 false) W
section
variable{w:World}{B1:Nat}{tv:Value}{tabs:List Tb}{V:bM}{E:cO}{av dv:Value}{W W':World}{l:Array Bool}{a a':Act}
theorem eO.other(i:Nat)(b:i≠19)(c:i≠21)(d:i≠23)(e:eO w B1 tv tabs V E av dv l a W):eO w B1 tv tabs V E av dv (l.setIfInBounds i true) a' W:=by unfold eO;rw[getD_set_ne false b,getD_set_ne false c,getD_set_ne false d];exact e
theorem eO.grow(b:eO w B1 tv tabs V E av dv l a W)(c:Grow W W'):eO w B1 tv tabs V E av dv l a W':=lI.grow b c
theorem eO.st1(b:19<l.size)(c:eO w B1 tv tabs V E av dv l a W):eO w B1 tv tabs V E av dv (l.setIfInBounds 19 true) a' (W.setCell ⟨w.heap.size,1,none⟩ (.int .u64 (dA E.seq V.seq))):=by unfold eO;rw[pJ b,getD_set_ne false (show 19≠21 by decide),getD_set_ne false (show 19≠23 by decide)];exact lI.azd c
theorem eO.st2(b:21<l.size)(c:eO w B1 tv tabs V E av dv l a W):eO w B1 tv tabs V E av dv (l.setIfInBounds 21 true) a' (W.setCell ⟨w.heap.size,2,none⟩ (.int .i64 (dA E.next V.next))):=by unfold eO;rw[pJ b,getD_set_ne false (show 21≠19 by decide),getD_set_ne false (show 21≠23 by decide)];exact lI.aze c
theorem eO.st3(b:23<l.size)(c:eO w B1 tv tabs V E av dv l a W):eO w B1 tv tabs V E av dv (l.setIfInBounds 23 true) a' (W.setCell ⟨w.heap.size,3,none⟩ (.int .i64 (dA E.wal V.wal))):=by unfold eO;rw[pJ b,getD_set_ne false (show 23≠19 by decide),getD_set_ne false (show 23≠21 by decide)];exact lI.azf c
theorem eO.zR(b:eO w B1 tv tabs V E av dv l a W):W.heap[w.heap.size]?=some (.cells (bS tv (cond (l.getD 19 false) (dA E.seq V.seq) V.seq) (cond (l.getD 21 false) (dA E.next V.next) V.next) (cond (l.getD 23 false) (dA E.wal V.wal) V.wal)) 85 (0,0)):=lI.vb b
theorem eO.eb(b:eO w B1 tv tabs V E av dv l a W):W.heap[w.heap.size+1]?=some (.cells (dY av dv E.seq E.next E.wal) 148 (0,0)):=lI.eb b
end
def Rest(c:Nat)(W W':World):Prop:=∀b a,b≠c->W.heap[b]?=some a->W'.heap[b]?=some a
theorem Rest.refl(a:Nat)(W:World):Rest a W W:=λ_ _ _ a=>a
theorem Rest.grow{a:Nat}{W W':World}(b:Grow W W'):Rest a W W':=λ_ _ _ a=>b.heap a
theorem Rest.set(a:Nat)(W:World)(i:Nat)(v:Value):Rest a W (W.setCell ⟨a,i,none⟩ v):=λ_ _ a b=>(aN _ _ _ _ a).trans b
def ED(w:World)(V:bM)(E:cO)(i:Nat)(v:Value)(W:World):Prop:=
 match i with
 |0=>v=.pointer (some ⟨w.heap.size+1,2,none⟩)
 |1=>v=.int .u64 E.seq
 |2=>v=.pointer (some ⟨w.heap.size,1,none⟩)
 |3=>v=.int .u64 V.seq
 |4=>∃b,b≠w.heap.size/\v=.slice (some ⟨b,0,none⟩) 2 2/\W.heap[b]?=some (.cells #[.int .u64 E.seq,.int .u64 V.seq] 37 (0,0))
 |5=>v=.int .u64 (dA E.seq V.seq)
 |6=>v=.pointer (some ⟨w.heap.size+1,3,none⟩)
 |7=>v=.int .i64 E.next
 |8=>v=.pointer (some ⟨w.heap.size,2,none⟩)
 |9=>v=.int .i64 V.next
 |10=>∃b,b≠w.heap.size/\v=.slice (some ⟨b,0,none⟩) 2 2/\W.heap[b]?=some (.cells #[.int .i64 E.next,.int .i64 V.next] 3 (0,0))
 |11=>v=.int .i64 (dA E.next V.next)
 |12=>v=.pointer (some ⟨w.heap.size+1,4,none⟩)
 |13=>v=.int .i64 E.wal
 |14=>v=.pointer (some ⟨w.heap.size,3,none⟩)
 |15=>v=.int .i64 V.wal
 |16=>∃b,b≠w.heap.size/\v=.slice (some ⟨b,0,none⟩) 2 2/\W.heap[b]?=some (.cells #[.int .i64 E.wal,.int .i64 V.wal] 3 (0,0))
 |17=>v=.int .i64 (dA E.wal V.wal)
 |18=>v=.pointer (some ⟨w.heap.size,1,none⟩)
 |20=>v=.pointer (some ⟨w.heap.size,2,none⟩)
 |22=>v=.pointer (some ⟨w.heap.size,3,none⟩)
 |_=>True
theorem ED.keep{w:World}{V:bM}{E:cO}:∀(j:Nat)(v:Value)(W W':World),Rest w.heap.size W W'->ED w V E j v W->ED w V E j v W':=by
 intro j v W W' d a;unfold ED at a
 split at a<;>first
  |exact a
  |(obtain⟨b,c,e,f⟩:=a;exact⟨b,c,e,d _ _ c f⟩)
  |(unfold ED;split<;>first|trivial|(exfalso;simp_all))
end
theorem ahM:agt:=by
 intro w tv V av dv E h;have dy:=oX.start w tv V.seq V.next V.wal av dv E.seq E.next E.wal;obtain⟨ta,tc,rfl⟩:=km h.own;obtain⟨da,dc,rfl,aLB,hdr⟩:=h.drops;obtain⟨aa,ac,rfl,sX⟩:=h.adds;obtain⟨v0,v1,v2,v3⟩:=dJ dy.vb;obtain⟨e0,e1,e2,e3,e4⟩:=dI dy.eb;have lv:=af dy.vb;have le:=af dy.eb;have lr:=af dy.rb;have H:=ae h;have qK:=ae dy;have qL:=ae hdr;have XO:=ae sX;have hlen:=h.len;have ir:=h.QZ;have pV:=h.QY;clear h dy hdr sX;go_enter Tryz.func161,Tryz.ntmps161
 go_wp2_with fail
 generalize ((w.alloc (.cells (bS (.slice ta V.tabs.length tc) V.seq V.next V.wal) 85)).alloc (.cells (dY (.slice aa E.add.length ac) (.slice da E.drop.length dc) E.seq E.next E.wal) 148)).alloc (.cells (bS (.slice none 0 0) 0 0 0) 85)=W0 at*
 go_loopw [13] (λiv wr=>axP W0 V.tabs E.drop iv wr) (λiv _=>E.drop.length-(intOf iv).toNat)
 case atStart=>exact⟨0,rfl,aY _,rfl,aW _⟩
 case round=>
  obtain⟨i,rfl,hi,sY,hg⟩:=hrel;by_cases hlt:i<E.drop.length
  .obtain⟨n,hn⟩:∃n,E.drop[i]?=some n:=⟨E.drop[i],by simp[hlt]⟩
   have fX:=qK.out.grow hg;clear v0 v1 v2 v3 e0 e1 e2 e3 e4;obtain⟨v0,v1,v2,v3⟩:=dJ fX.vb;obtain⟨e0,e1,e2,e3,e4⟩:=dI fX.eb;obtain⟨r0,r1,r2,r3⟩:=dJ fX.rb;have lv2:=af fX.vb;have Ml:=af fX.eb;have lr2:=af fX.rb;have hst:=axQ (l:=V.tabs) hn;obtain⟨b,o,rfl,hbl,BX⟩:∃b o,da=some ⟨b,o,none⟩/\b<w.heap.size/\∀(j:Nat)(k:Int),E.drop[j]?=some k->w.cell? ⟨b,o+j,none⟩=some (.int .i64 k):=by
    rcases qL.out with h1|h1
    .rw[h1]at hlt;simp at hlt
    .exact h1
   have c0:=BX i n hn;rw[<-Grow.cells _ _ _ fX.gr hbl]at c0;have My:=agf (fB H.out.own fX.gr) (by omega) n;have eN:(i:Int)<(E.drop.length:Int):=by omega
   have bU:(0:Int)<=(i:Int):=by omega
   have yj:=ae My;have uH:=ae fX;have Hdc:=ae BX;have bz:=ae hst;have zS:=ae sY;clear My fX BX hst sY hn;cases hh:kj V.tabs n with
   |false=>
    rw[hh]at yj;have dQ:Hid (bH V E=(4,dw)):=ae (by unfold bH;rw[if_pos (by rw[zS.out,bz.out,hh];rfl)]);clear hh
    go_wp2_with fail
    (with_reducible refine yj.out.mono ?_);rintro e w1 ⟨rfl,hg1⟩;have kP:=uH.out.grow hg1;have XX:=af kP.rb;have fr:=bG kP.rb;obtain⟨s0,s1,s2,s3⟩:=dJ kP.rb;have XY:=ae kP.gr;clear kP hg1;go_wp2;refine bodyPost_ret (v:=.tuple #[.agg (bS (.slice none 0 0) 0 0 0),.int .i64 4]) (by simp[results,Tryz.results161,go_sem, *]) rfl (by
     rw[dQ.out];refine⟨_,rfl,jh _ _ _ _,?_⟩;have eu:=XY.out
     ((repeat (first|exact bW _ _|assumption|refine cC ?_|refine cD ?_|refine cw ?_ ?_ _|refine cB ?_ ?_ _))<;>try (first|omega|(simp<;>omega))))
   |true=>
    rw[hh]at yj;cases BF:(E.drop.take i).contains n with
    |true=>
     have dQ:Hid (bH V E=(4,dw)):=ae (by unfold bH;rw[if_pos (by rw[zS.out,bz.out,hh,BF];rfl)])
     go_wp2_with fail
     (with_reducible refine yj.out.mono ?_);rintro e w1 ⟨rfl,hg1⟩;have kP:=uH.out.grow hg1;clear v0 v1 v2 v3 e0 e1 e2 e3 e4;obtain⟨e0,e1,e2,e3,e4⟩:=dI kP.eb;have RH:=af kP.eb;have XX:=af kP.rb;have fr:=bG kP.rb;obtain⟨s0,s1,s2,s3⟩:=dJ kP.rb;have EE:=Xg w1 b o i dc E.drop n hi (by omega) (λj k hk=>by rw[Grow.cells _ _ _ kP.gr hbl];exact Hdc.out j k hk);rw[BF]at EE;have IV:=ae EE;have XY:=ae kP.gr;have azj:(i:Int)<=(E.drop.length:Int):=by omega
     have azk:(i:Int)<=(dc:Int):=by omega
     clear kP hg1 EE hh BF
     go_wp2_with fail
     (with_reducible refine IV.out.mono ?_);rintro e w2 ⟨rfl,rfl⟩;go_wp2;refine bodyPost_ret (v:=.tuple #[.agg (bS (.slice none 0 0) 0 0 0),.int .i64 4]) (by simp[results,Tryz.results161,go_sem, *]) rfl (by
      rw[dQ.out];refine⟨_,rfl,jh _ _ _ _,?_⟩;have eu:=XY.out
      ((repeat (first|exact bW _ _|assumption|refine cC ?_|refine cD ?_|refine cw ?_ ?_ _|refine cB ?_ ?_ _))<;>try (first|omega|(simp<;>omega))))
    |false=>
     have cP:Hid (sP V.tabs [] E.drop=sP V.tabs (E.drop.take (i+1)) (E.drop.drop (i+1))):=ae (by rw[zS.out,bz.out,hh,BF];rfl)
     go_wp2_with fail
     (with_reducible refine yj.out.mono ?_);rintro e w1 ⟨rfl,hg1⟩;have kP:=uH.out.grow hg1;clear v0 v1 v2 v3 e0 e1 e2 e3 e4;obtain⟨e0,e1,e2,e3,e4⟩:=dI kP.eb;have RH:=af kP.eb;have EE:=Xg w1 b o i dc E.drop n hi (by omega) (λj k hk=>by rw[Grow.cells _ _ _ kP.gr hbl];exact Hdc.out j k hk);rw[BF]at EE;have IV:=ae EE;have eV:=ae (hg.trans hg1);have azj:(i:Int)<=(E.drop.length:Int):=by omega
     have azk:(i:Int)<=(dc:Int):=by omega
     clear kP hg1 EE hh BF
     go_wp2_with fail
     (with_reducible refine IV.out.mono ?_);rintro e w2 ⟨rfl,rfl⟩;go_wp2;go_roundw
     case rel=>exact⟨i+1,rfl,hlt,cP.out,eV.out⟩
     case measure=>simp[intOf];omega
  .obtain rfl:i=E.drop.length:=by omega
   have dB:sP V.tabs [] E.drop=false:=by rw[sY,List.drop_length];rfl
   have fX:=qK.out.grow hg;clear v0 v1 v2 v3 e0 e1 e2 e3 e4;obtain⟨v0,v1,v2,v3⟩:=dJ fX.vb;obtain⟨e0,e1,e2,e3,e4⟩:=dI fX.eb;have lv2:=af fX.vb;have Ml:=af fX.eb;have lr2:=af fX.rb;have hown:=fB H.out.own fX.gr;have aU:=xG hown (by omega);have gC:=ae aU;have uH:=ae fX;have kH:=ae dB;clear aU hown fX dB sY hg
   go_wp2_with fail
   (with_reducible refine gC.out.mono ?_);rintro e w1 ⟨cv,rfl,hown1,hg1⟩;have kP:=uH.out.grow hg1;have hdel:=axJ (w0:=wr) hown1 (by omega) hg1.size (eb:=w.heap.size+1) (by omega) kP.eb hg1 (H.out.drops.grow uH.out.gr) (aw _) (by omega);have ahO:=ae hdel;obtain⟨ca,cc,rfl⟩:=km hown1;have azl:=ae kP;have eV:=ae hg1;clear hdel hown1 kP hg1
   go_wp2_with fail
   (with_reducible refine ahO.out.mono ?_);rintro e w2 ⟨cv2,rfl,hown2,hb2⟩;obtain⟨B1,XZ⟩:∃B1,B1=wr.heap.size:=⟨_,rfl⟩
   have IW:w.heap.size+1+1<B1:=by omega
   have zT:=azl.out.below (B:=B1) (by rw[XZ];exact hb2) IW;have ahQ:=zT.WN cv2;have iW:=rN (i:=0) (x:=cv2) hown2 zT.vb (by decide);have Ch:B1<=w2.heap.size:=by rw[XZ];exact aJ eV.out.size hb2.size
   obtain⟨xa,xc,rfl⟩:=km hown2;clear v0 v1 v2 v3 e0 e1 e2 e3 e4;obtain⟨v0,v1,v2,v3⟩:=dJ zT.vb;obtain⟨e0,e1,e2,e3,e4⟩:=dI zT.eb;have lv3:=af zT.vb;have RH:=af zT.eb;have XX:=af zT.rb;have fv3:=bG zT.vb;have azm:=ae ahQ;have Mz:=ae iW;rw[<-XZ]at Mz;have eF:(V.tabs.filter (iY E.drop)).length<=10000:=aJ (List.length_filter_le _ _) hlen;clear zT ahQ hown2 iW hb2 ahO gC
   go_wp2_with fail
   generalize hw3:w2.setCell ⟨w.heap.size,0,none⟩ (.slice xa (V.tabs.filter (iY E.drop)).length xc)=W3 at*;have hB3:B1<=W3.heap.size:=by rw[<-hw3];simpa using Ch
   clear hw3 Ch
   go_loopw [42] (λiv wr=>agr w B1 V E (.slice aa E.add.length ac) (.slice da E.drop.length dc) iv wr) (λiv _=>E.add.length-(intOf iv).toNat)
   case atStart=>exact⟨0,_,_,rfl,aY _,azm.out,Mz.out,rfl,by omega,hB3⟩
   case round=>
    obtain⟨i,cv,cur,rfl,hi,rU,hown,nS,aU,Ch⟩:=hrel;have BI:=rU.gr;clear v0 v1 v2 v3 e0 e1 e2 e3 e4;by_cases hlt:i<E.add.length
    .obtain⟨t,ht⟩:∃t,E.add[i]?=some t:=⟨E.add[i],by simp[hlt]⟩
     obtain⟨b,o,rfl,hbl,bq⟩:∃b o,aa=some ⟨b,o,none⟩/\b<w.heap.size/\Rd w b o jF 5 E.add:=by
      rcases XO.out with h1|h1
      .rw[h1]at hlt;simp at hlt
      .exact h1
     have js:=bq.grow hbl BI i t ht;obtain⟨f0,f1,f2,f3,f4⟩:=t;have a0:=js 0 _ rfl;have a1:=js 1 _ rfl;have a2:=js 2 _ rfl;have a3:=js 3 _ rfl;have a4:=js 4 _ rfl;simp only[Nat.add_zero]at a0;dsimp only at a0 a1 a2 a3 a4;have hstep:=axO (l:=cur) ht;have aX:Grow wr (wr.alloc (.cells #[.int .i64 f0,.int .i64 f1,.string f2,.string f3,.int .i64 f4] 101)):=ar _ _;have eE:(wr.alloc (.cells #[.int .i64 f0,.int .i64 f1,.string f2,.string f3,.int .i64 f4] 101)).heap[wr.heap.size]?=some (.cells #[.int .i64 f0,.int .i64 f1,.string f2,.string f3,.int .i64 f4] 101 (0,0)):=ax _ _;have IX:=rU.grow aX;have My:=agf (fB hown aX) (by omega) f0;obtain⟨ca,cc,rfl⟩:=km hown;obtain⟨v0,v1,v2,v3⟩:=dJ IX.vb;obtain⟨e0,e1,e2,e3,e4⟩:=dI IX.eb;obtain⟨r0,r1,r2,r3⟩:=dJ IX.rb;obtain⟨t0,t1,t2,t3,t4⟩:=dI eE;have lv4:=af rU.vb;have le4:=af rU.eb;have lr4:=af rU.rb;have lb4:b<wr.heap.size:=bF hbl BI.size;have fr4:=bG IX.rb;obtain⟨rr0,rr1,rr2,rr3⟩:=dJ rU.rb;have frr:=bG rU.rb;have eN:(i:Int)<(E.add.length:Int):=by omega
     have bU:(0:Int)<=(i:Int):=by omega
     have yj:=ae My;have RN:=ae IX;have Ya:=ae nS;have pL:=ae hstep;have gw:=ae hown;have EF:=ae aX;have mh:=ae eE;have qC:True:=trivial;have azr:=ae BI;clear My IX rU nS hstep hown aX eE bq js ht BI;cases h1:decide (f0<0)with
     |true=>
      have dQ:Hid (bH V E=(1,dw)):=ae (by
       have RO:sQ cur ⟨f0,f1,f2,f3,f4⟩=true:=by simp only[sQ,h1];rfl
       unfold bH;rw[if_neg (by rw[kH.out];decide),Ya.out,pL.out,if_pos RO])
      have gu:=azr;clear qC;go_wp2;refine bodyPost_ret (v:=.tuple #[.agg (bS (.slice none 0 0) 0 0 0),.int .i64 1]) (by simp[results,Tryz.results161,go_sem, *]) rfl (by
       rw[dQ.out];refine⟨_,rfl,jh _ _ _ _,?_⟩;have eu:=gu.out
       ((repeat (first|exact bW _ _|assumption|refine cC ?_|refine cD ?_|refine cw ?_ ?_ _|refine cB ?_ ?_ _))<;>try (first|omega|(simp<;>omega))))
     |false=>
      cases hb:sQ cur ⟨f0,f1,f2,f3,f4⟩with
      |true=>
       have dQ:Hid (bH V E=(1,dw)):=ae (by unfold bH;rw[if_neg (by rw[kH.out];decide),Ya.out,pL.out,if_pos hb])
       simp only[sQ,h1,Bool.false_or]at hb;have hd:kj cur f0=true\/(kj cur f0=false/\decide (f1<0)=true)\/(kj cur f0=false/\decide (f1<0)=false/\decide (6<f1)=true)\/(kj cur f0=false/\decide (f1<0)=false/\decide (6<f1)=false/\(Op.bytesLess f2.toList f3.toList||f2.toList==f3.toList)=false)\/(kj cur f0=false/\decide (f1<0)=false/\decide (6<f1)=false/\(Op.bytesLess f2.toList f3.toList||f2.toList==f3.toList)=true/\decide (f4<0)=true)\/(kj cur f0=false/\decide (f1<0)=false/\decide (6<f1)=false/\(Op.bytesLess f2.toList f3.toList||f2.toList==f3.toList)=true/\decide (f4<0)=false/\decide (1099511627776<f0)=true)\/(kj cur f0=false/\decide (f1<0)=false/\decide (6<f1)=false/\(Op.bytesLess f2.toList f3.toList||f2.toList==f3.toList)=true/\decide (f4<0)=false/\decide (1099511627776<f0)=false/\decide (1099511627776<f4)=true):=by
        revert hb
        generalize kj cur f0=x2;generalize decide (f1<0)=x3;generalize decide (6<f1)=x4;generalize (Op.bytesLess f2.toList f3.toList||f2.toList==f3.toList)=x5;generalize decide (f4<0)=x6;generalize decide (1099511627776<f0)=x7;generalize decide (1099511627776<f4)=x8;cases x2<;>cases x3<;>cases x4<;>cases x5<;>cases x6<;>cases x7<;>cases x8<;>simp
       clear hb;rcases hd with h2|⟨h2,h3⟩|⟨h2,h3,h4⟩|⟨h2,h3,h4,h5⟩|⟨h2,h3,h4,h5,h6⟩|⟨h2,h3,h4,h5,h6,h7⟩|⟨h2,h3,h4,h5,h6,h7,h8⟩
       all_goals
        rw[h2]at yj
        go_wp2_with fail
        (with_reducible refine yj.out.mono ?_);rintro e w5 ⟨rfl,bm⟩;have kQ:=RN.out.grow bm;clear v0 v1 v2 v3 e0 e1 e2 e3 e4 r0 r1 r2 r3 t0 t1 t2 t3 t4;obtain⟨v0,v1,v2,v3⟩:=dJ kQ.vb;obtain⟨r0,r1,r2,r3⟩:=dJ kQ.rb;obtain⟨t0,t1,t2,t3,t4⟩:=dI (bm.heap mh.out);have lv5:=af kQ.vb;have lr5:=af kQ.rb;have mY:=af (bm.heap mh.out);have fv5:=bG kQ.vb;have fr5:=bG kQ.rb;have gu:=ae kQ.gr;clear kQ bm h2 fv5;go_wp2;refine bodyPost_ret (v:=.tuple #[.agg (bS (.slice none 0 0) 0 0 0),.int .i64 1]) (by simp[results,Tryz.results161,go_sem, *]) rfl (by
         rw[dQ.out];refine⟨_,rfl,jh _ _ _ _,?_⟩;have eu:=gu.out
         ((repeat (first|exact bW _ _|assumption|refine cC ?_|refine cD ?_|refine cw ?_ ?_ _|refine cB ?_ ?_ _))<;>try (first|omega|(simp<;>omega))))
      |false=>
       obtain⟨h2,h3,h4,h5,h6,h7,h8⟩:kj cur f0=false/\decide (f1<0)=false/\decide (6<f1)=false/\(Op.bytesLess f2.toList f3.toList||f2.toList==f3.toList)=true/\decide (f4<0)=false/\decide (1099511627776<f0)=false/\decide (1099511627776<f4)=false:=by
        simp only[sQ,h1,Bool.false_or]at hb
        revert hb
        generalize kj cur f0=x2;generalize decide (f1<0)=x3;generalize decide (6<f1)=x4;generalize (Op.bytesLess f2.toList f3.toList||f2.toList==f3.toList)=x5;generalize decide (f4<0)=x6;generalize decide (1099511627776<f0)=x7;generalize decide (1099511627776<f4)=x8;cases x2<;>cases x3<;>cases x4<;>cases x5<;>cases x6<;>cases x7<;>cases x8<;>simp
       have azt:=ae hb;rw[h2]at yj
       go_wp2_with fail
       (with_reducible refine yj.out.mono ?_);rintro e w5 ⟨rfl,bm⟩;have kQ:=RN.out.grow bm;clear v0 v1 v2 v3 e0 e1 e2 e3 e4 r0 r1 r2 r3 t0 t1 t2 t3 t4;obtain⟨v0,v1,v2,v3⟩:=dJ kQ.vb;obtain⟨r0,r1,r2,r3⟩:=dJ kQ.rb;obtain⟨t0,t1,t2,t3,t4⟩:=dI (bm.heap mh.out);have lv5:=af kQ.vb;have lr5:=af kQ.rb;have mY:=af (bm.heap mh.out);have fv5:=bG kQ.vb;have fr5:=bG kQ.rb;have gu:=ae kQ.gr;have ye:=fB (fB gw.out EF.out) bm;obtain⟨i0,bU,hz0,hz1,hz2⟩:=info_parts Tryz.Xh;have eU:(w5.alloc (.cells #[.int .i64 f0,.int .i64 f1,.string f2,.string f3,.int .i64 f4] 101)).heap[w5.heap.size]?=some (.cells #[.int .i64 f0,.int .i64 f1,.string f2,.string f3,.int .i64 f4] 101 (0,0)):=ax _ _;have Rf:B1<=w5.heap.size:=aJ (aJ Ch EF.out.size) bm.size;obtain⟨g6,RP,w6,ahU,MB,sZ,azu,azv⟩:=run_append_lies (P:=Tryz.prog) (w5.alloc (.cells #[.int .i64 f0,.int .i64 f1,.string f2,.string f3,.int .i64 f4] 101)) 83 83 B1 101 i0 _ 5 56 Tryz.underlying83 bU hz0 hz1 hz2 rfl (by decide) _ _ _ (ye.alloc _)
        ⟨w5.heap.size,0,none⟩ 1 1 (jF ⟨f0,f1,f2,f3,f4⟩) rfl (λj u hu=>World.news_of_block eU j u (by simpa[jF]using hu)) (QU _) (by decide) (by unfold maxLen;omega) (by omega) (by simp;omega) _ rfl
       have oz:oX w w6 (.slice ca cur.length cc) V.seq V.next V.wal (.slice (some ⟨b,o,none⟩) E.add.length ac) (.slice da E.drop.length dc) E.seq E.next E.wal:=(kQ.grow (ar _ _)).grown sZ (λk hk=>((ye.lt k hk).1)) (by omega);have ahV:=oz.WN (.slice (some ⟨g6,0,none⟩) (cur.length+1) RP);have Ci:Own B1 (w6.setCell ⟨w.heap.size,0,none⟩ (.slice (some ⟨g6,0,none⟩) (cur.length+1) RP)) (.slice (some ⟨g6,0,none⟩) (cur.length+1) RP) (cur++[⟨f0,f1,f2,f3,f4⟩]):=by
        refine rN ?_ oz.vb (by decide);have zL:mP (cur++[(⟨f0,f1,f2,f3,f4⟩:Tb)])=mP cur++jF ⟨f0,f1,f2,f3,f4⟩:=by simp[mP]
        rw[aM,zL];exact MB
       have aR:Hid (agr w B1 V E (.slice (some ⟨b,o,none⟩) E.add.length ac) (.slice da E.drop.length dc) (.int .i64 ((i+1:Nat):Int)) (w6.setCell ⟨w.heap.size,0,none⟩ (.slice (some ⟨g6,0,none⟩) (cur.length+1) RP))):=ae ⟨i+1,_,_,rfl,hlt,ahV,Ci,by rw[Ya.out,pL.out,if_neg (by rw[azt.out];decide)],by simp;omega,by have:=sZ.size;simp at this ⊢;omega⟩;have azw:=ae ahU;obtain⟨q0,q1,q2,q3⟩:=dJ oz.vb;have lq6:=af oz.vb;have fq6:=bG oz.vb;clear kQ bm h2 fr5 ye bU hz0 hz1 hz2 eU ahU MB sZ azu azv oz ahV Ci hb
       go_wp2_with (at_builtin;refine fP rfl rfl rfl rfl azw.out ?_)
       go_roundw
       case rel=>exact aR.out
       case measure=>simp[intOf];omega
    .obtain rfl:i=E.add.length:=by omega
     rw[List.drop_length]at nS;have ahW:mV (V.tabs.filter (iY E.drop)) E.add=some cur:=nS;have oV:(kK cur).length=cur.length:=(BH cur).length_eq;have fC:Hid (bH V E=if mU (kK cur)=true then(15,dw)else if sR V E=true then(1,dw)else(0,⟨kK cur,dA E.seq V.seq,dA E.next V.next,dA E.wal V.wal⟩)):=ae (by unfold bH;rw[if_neg (by rw[kH.out];decide),ahW];dsimp only;rw[if_neg (by rw[oV];omega)])
     have EG:=axl hown (by omega);have ahX:=hown.lt;obtain⟨ca,cc,rfl⟩:=km hown;obtain⟨v0,v1,v2,v3⟩:=dJ rU.vb;have lv4:=af rU.vb;have le4:=af rU.eb;have lr4:=af rU.rb;have ahY:=ae EG;have RN:=ae rU;have azy:=ae ahX;have ahZ:(cur.length:Int)<=65536:=by omega
     clear EG rU ahX hown nS ahW BI
     go_wp2_with fail
     (with_reducible refine ahY.out.mono ?_);rintro e w5 ⟨rfl,ye,pY⟩;have kQ:=RN.out.grown pY (λk hk=>(azy.out k hk).1) IW;have uC:=axM ye (by rw[oV];omega);have Ei:=ae uC;have RQ:=ae ye;have azz:=ae kQ;clear v0 v1 v2 v3;obtain⟨v0,v1,v2,v3⟩:=dJ kQ.vb;have lv5:=af kQ.vb;clear uC ye pY kQ
     go_wp2_with fail
     (with_reducible refine Ei.out.mono ?_);rintro e w6 ⟨rfl,dh⟩;have oz:=azz.out.grow dh;have MB:=fB RQ.out dh;clear v0 v1 v2 v3;obtain⟨v0,v1,v2,v3⟩:=dJ oz.vb;obtain⟨e0,e1,e2,e3,e4⟩:=dI oz.eb;obtain⟨r0,r1,r2,r3⟩:=dJ oz.rb;have lv6:=af oz.vb;have le6:=af oz.eb;have lr6:=af oz.rb;have fv6:=bG oz.vb;have fr6:=bG oz.rb;have RS:=ae oz;have RT:=ae MB;have EH:=ae oz.gr;clear oz MB dh Ei ahY;cases RU:mU (kK cur)with
     |true=>
      have dQ:Hid (bH V E=(15,dw)):=ae (by rw[fC.out,if_pos RU]);clear RU fv6;go_wp2;refine bodyPost_ret (v:=.tuple #[.agg (bS (.slice none 0 0) 0 0 0),.int .i64 15]) (by simp[results,Tryz.results161,go_sem, *]) rfl (by
       rw[dQ.out];refine⟨_,rfl,jh _ _ _ _,?_⟩;have eu:=EH.out
       ((repeat (first|exact bW _ _|assumption|refine cC ?_|refine cD ?_|refine cw ?_ ?_ _|refine cB ?_ ?_ _))<;>try (first|omega|(simp<;>omega))))
     |false=>
     rw[if_neg (by rw[RU];decide)]at fC;clear RU
     go_upto_region 20 with fail
     go_cut [110]from 111 to 120 (λc wx=>c=.bool ((E.seq != 0)&&decide (E.seq<V.seq))/\wx=w6)
     case first=>
      cases p1:(E.seq != 0)with
      |false=>go_wp2;go_meet;exact⟨by rw[p1];rfl,rfl⟩
      |true=>go_wp2;go_meet;exact⟨by rw[p1];rfl,rfl⟩
     case rest=>
     obtain⟨rfl,hwc⟩:=hcut;have hwc':=hwc.symm;subst hwc';clear hwc;cases n1:((E.seq != 0)&&decide (E.seq<V.seq))with
     |true=>
      have dQ:Hid (bH V E=(1,dw)):=ae (by rw[fC.out,if_pos (by simp only[sR,n1];rfl)]);go_wp2;refine bodyPost_ret (v:=.tuple #[.agg (bS (.slice none 0 0) 0 0 0),.int .i64 1]) (by simp[results,Tryz.results161,go_sem, *]) rfl (by
       rw[dQ.out];refine⟨_,rfl,jh _ _ _ _,?_⟩;have eu:=EH.out
       ((repeat (first|exact bW _ _|assumption|refine cC ?_|refine cD ?_|refine cw ?_ ?_ _|refine cB ?_ ?_ _))<;>try (first|omega|(simp<;>omega))))
     |false=>
     go_upto_region 21 with fail
     go_cut [110]from 121 to 130 (λc wx=>c=.bool ((E.next != 0)&&decide (E.next<V.next))/\wx=w6)
     case first=>
      cases p1:(E.next != 0)with
      |false=>go_wp2;go_meet;exact⟨by rw[p1];rfl,rfl⟩
      |true=>go_wp2;go_meet;exact⟨by rw[p1];rfl,rfl⟩
     case rest=>
     obtain⟨rfl,hwc⟩:=hcut;have hwc':=hwc.symm;subst hwc';clear hwc;cases n2:((E.next != 0)&&decide (E.next<V.next))with
     |true=>
      have dQ:Hid (bH V E=(1,dw)):=ae (by rw[fC.out,if_pos (by simp only[sR,n1,n2];rfl)]);go_wp2;refine bodyPost_ret (v:=.tuple #[.agg (bS (.slice none 0 0) 0 0 0),.int .i64 1]) (by simp[results,Tryz.results161,go_sem, *]) rfl (by
       rw[dQ.out];refine⟨_,rfl,jh _ _ _ _,?_⟩;have eu:=EH.out
       ((repeat (first|exact bW _ _|assumption|refine cC ?_|refine cD ?_|refine cw ?_ ?_ _|refine cB ?_ ?_ _))<;>try (first|omega|(simp<;>omega))))
     |false=>
     go_upto_region 22 with fail
     go_cut [110]from 131 to 140 (λc wx=>c=.bool ((E.wal != 0)&&decide (E.wal<V.wal))/\wx=w6)
     case first=>
      cases p1:(E.wal != 0)with
      |false=>go_wp2;go_meet;exact⟨by rw[p1];rfl,rfl⟩
      |true=>go_wp2;go_meet;exact⟨by rw[p1];rfl,rfl⟩
     case rest=>
     obtain⟨rfl,hwc⟩:=hcut;have hwc':=hwc.symm;subst hwc';clear hwc;cases n3:((E.wal != 0)&&decide (E.wal<V.wal))with
     |true=>
      have dQ:Hid (bH V E=(1,dw)):=ae (by rw[fC.out,if_pos (by simp only[sR,n1,n2,n3];rfl)]);go_wp2;refine bodyPost_ret (v:=.tuple #[.agg (bS (.slice none 0 0) 0 0 0),.int .i64 1]) (by simp[results,Tryz.results161,go_sem, *]) rfl (by
       rw[dQ.out];refine⟨_,rfl,jh _ _ _ _,?_⟩;have eu:=EH.out
       ((repeat (first|exact bW _ _|assumption|refine cC ?_|refine cD ?_|refine cw ?_ ?_ _|refine cB ?_ ?_ _))<;>try (first|omega|(simp<;>omega))))
     |false=>
     cases n4:decide (1099511627776<E.next)with
     |true=>
      have dQ:Hid (bH V E=(1,dw)):=ae (by rw[fC.out,if_pos (by simp only[sR,n1,n2,n3,n4];rfl)]);go_wp2;refine bodyPost_ret (v:=.tuple #[.agg (bS (.slice none 0 0) 0 0 0),.int .i64 1]) (by simp[results,Tryz.results161,go_sem, *]) rfl (by
       rw[dQ.out];refine⟨_,rfl,jh _ _ _ _,?_⟩;have eu:=EH.out
       ((repeat (first|exact bW _ _|assumption|refine cC ?_|refine cD ?_|refine cw ?_ ?_ _|refine cB ?_ ?_ _))<;>try (first|omega|(simp<;>omega))))
     |false=>
     cases n5:decide (1099511627776<E.wal)with
     |true=>
      have dQ:Hid (bH V E=(1,dw)):=ae (by rw[fC.out,if_pos (by simp only[sR,n1,n2,n3,n4,n5];rfl)]);go_wp2;refine bodyPost_ret (v:=.tuple #[.agg (bS (.slice none 0 0) 0 0 0),.int .i64 1]) (by simp[results,Tryz.results161,go_sem, *]) rfl (by
       rw[dQ.out];refine⟨_,rfl,jh _ _ _ _,?_⟩;have eu:=EH.out
       ((repeat (first|exact bW _ _|assumption|refine cC ?_|refine cD ?_|refine cw ?_ ?_ _|refine cB ?_ ?_ _))<;>try (first|omega|(simp<;>omega))))
     |false=>
     have dQ:Hid (bH V E=(0,⟨kK cur,dA E.seq V.seq,dA E.next V.next,dA E.wal V.wal⟩)):=ae (by rw[fC.out,if_neg (by simp only[sR,n1,n2,n3,n4,n5];decide)])
     go_upto_region 26 with fail
     go_cut []from 148 to 168 (λwx=>lI w B1 (.slice ca cur.length cc) (kK cur) V E (.slice aa E.add.length ac) (.slice da E.drop.length dc) true true true wx)
     case first=>
      rename_i J K hJ hK
      refine xA (λa0 ha0=>?_);have F2:a0.tmps[2]?=some (.pointer (some ⟨w.heap.size,0,none⟩)):=by rw[ha0];rfl
      have F3:a0.tmps[3]?=some (.pointer (some ⟨w.heap.size+1,0,none⟩)):=by rw[ha0];rfl
      have hsz:a0.tmps.size=170:=by rw[ha0];rfl
      have vN:Hid (∀a1 wx,sF [148,149,150,151,152,153,154,155,156,157,158,159,160,161,162,163,164,165,166,167,168] a0 a1->lI w B1 (.slice ca cur.length cc) (kK cur) V E (.slice aa E.add.length ac) (.slice da E.drop.length dc) true true true wx->K a1 wx):=ae (λa1 wx ha hT=>by refine hK _ _ (hJ _ _ ?_);refine⟨a1.tmps.getD 148 undef,a1.tmps.getD 149 undef,a1.tmps.getD 150 undef,a1.tmps.getD 151 undef,a1.tmps.getD 152 undef,a1.tmps.getD 153 undef,a1.tmps.getD 154 undef,a1.tmps.getD 155 undef,a1.tmps.getD 156 undef,a1.tmps.getD 157 undef,a1.tmps.getD 158 undef,a1.tmps.getD 159 undef,a1.tmps.getD 160 undef,a1.tmps.getD 161 undef,a1.tmps.getD 162 undef,a1.tmps.getD 163 undef,a1.tmps.getD 164 undef,a1.tmps.getD 165 undef,a1.tmps.getD 166 undef,a1.tmps.getD 167 undef,a1.tmps.getD 168 undef,hT,ha.fill.trans ?_⟩;subst ha0;kernel_rfl)
      clear ha0 n1 n2 n3 n4 n5 fr6 r0 r1 r2 r3 hK hJ;refine xC (ED w V E) (eO w B1 (.slice ca cur.length cc) (kK cur) V E (.slice aa E.add.length ac) (.slice da E.drop.length dc)) (Rest w.heap.size) [148,149,150,151,152,153,154,155,156,157,158,159,160,161,162,163,164,165,166,167,168] (by kernel_rfl) (by kernel_rfl) (by rw[hsz];rfl) ED.keep ?_ ?_ (λa1 W hf=>vN.out a1 W hf.alike hf.world)
      .exact lI.grow ⟨RT.out,RS.out.vb,RS.out.eb,RS.out.rb,EH.out⟩ (ay _)
      clear vN RT RS;refine⟨?_,?_,?_,?_,?_,?_,?_,?_,?_,?_,?_,?_,?_,?_,?_,?_,?_,?_,?_,?_,?_,?_,?_,?_,True.intro⟩
      .intro listed a W hf ak aj;have hs1:=hf.sz hsz;have G3:=hf.got (by decide) F3 (by rw[hs1];decide);refine br rfl (by rfl) (λK' hK'=>?_);go_simp;exact hK' _ _ ⟨_,rfl,(λ_ _=>rfl),Rest.refl _ _,eO.other 0 (by decide) (by decide) (by decide) hf.world⟩
      .intro listed a W hf ak aj;have hs1:=hf.sz hsz;have aLP:=aP (hf.sv 0 148 rfl (aO aj 0 (by kernel_rfl)) λ_ _ h=>h) (by rw[hs1];decide);obtain⟨e0,e1,e2,e3,e4⟩:=dI hf.world.eb;have le:=af hf.world.eb;refine br rfl (by rfl) (λK' hK'=>?_);go_simp;exact hK' _ _ ⟨_,rfl,(λ_ _=>rfl),Rest.refl _ _,eO.other 1 (by decide) (by decide) (by decide) hf.world⟩
      .intro listed a W hf ak aj;have hs1:=hf.sz hsz;have G2:=hf.got (by decide) F2 (by rw[hs1];decide);refine br rfl (by rfl) (λK' hK'=>?_);go_simp;exact hK' _ _ ⟨_,rfl,(λ_ _=>rfl),Rest.refl _ _,eO.other 2 (by decide) (by decide) (by decide) hf.world⟩
      .intro listed a W hf ak aj;have hs1:=hf.sz hsz;have aLQ:=aP (hf.sv 2 150 rfl (aO aj 2 (by kernel_rfl)) λ_ _ h=>h) (by rw[hs1];decide);have dZ:=fF hf.closed (n:=6) (e:=19) (i:=3) (by kernel_rfl) ak;have hv:=hf.world.zR;rw[dZ]at hv;obtain⟨e0,e1,e2,e3⟩:=dJ hv;have le:=af hv;simp only[cond]at e1 e2 e3;refine br rfl (by rfl) (λK' hK'=>?_);go_simp;exact hK' _ _ ⟨_,rfl,(λ_ _=>rfl),Rest.refl _ _,eO.other 3 (by decide) (by decide) (by decide) hf.world⟩
      .intro listed a W hf ak aj;have hs1:=hf.sz hsz;have aLR:=aP (hf.sv 1 149 rfl (aO aj 1 (by kernel_rfl)) λ_ _ h=>h) (by rw[hs1];decide);have aLS:=aP (hf.sv 3 151 rfl (aO aj 3 (by kernel_rfl)) λ_ _ h=>h) (by rw[hs1];decide);have lv:=af hf.world.zR;refine br rfl (by rfl) (λK' hK'=>?_);go_simp;exact hK' _ (W.alloc (.cells #[.int .u64 E.seq,.int .u64 V.seq] 37)) ⟨_,rfl,(λ_ _=>⟨W.heap.size,by omega,rfl,ax _ _⟩),Rest.grow (ar _ _),eO.other 4 (by decide) (by decide) (by decide) (hf.world.grow (ar _ _))⟩
      .intro listed a W hf ak aj;have hs1:=hf.sz hsz;obtain⟨v4,s4,q4⟩:=hf.slot 4 152 rfl (aO aj 4 (by kernel_rfl));obtain⟨b4,ne4,q4,c4⟩:=q4;have q4':v4=_:=q4;subst q4';have aLU:=aP s4 (by rw[hs1];decide);refine ky rfl (by rfl) (by go_simp) (awY E.seq V.seq b4 W (by simp[World.cell?,c4]) (by simp[World.cell?,c4])) ?_;rintro e w7 ⟨rfl,rfl⟩;exact⟨_,rfl,_,rfl,(λ_ _=>rfl),Rest.refl _ _,eO.other 5 (by decide) (by decide) (by decide) hf.world⟩
      .intro listed a W hf ak aj;have hs1:=hf.sz hsz;have G3:=hf.got (by decide) F3 (by rw[hs1];decide);refine br rfl (by rfl) (λK' hK'=>?_);go_simp;exact hK' _ _ ⟨_,rfl,(λ_ _=>rfl),Rest.refl _ _,eO.other 6 (by decide) (by decide) (by decide) hf.world⟩
      .intro listed a W hf ak aj;have hs1:=hf.sz hsz;have aLV:=aP (hf.sv 6 154 rfl (aO aj 6 (by kernel_rfl)) λ_ _ h=>h) (by rw[hs1];decide);obtain⟨e0,e1,e2,e3,e4⟩:=dI hf.world.eb;have le:=af hf.world.eb;refine br rfl (by rfl) (λK' hK'=>?_);go_simp;exact hK' _ _ ⟨_,rfl,(λ_ _=>rfl),Rest.refl _ _,eO.other 7 (by decide) (by decide) (by decide) hf.world⟩
      .intro listed a W hf ak aj;have hs1:=hf.sz hsz;have G2:=hf.got (by decide) F2 (by rw[hs1];decide);refine br rfl (by rfl) (λK' hK'=>?_);go_simp;exact hK' _ _ ⟨_,rfl,(λ_ _=>rfl),Rest.refl _ _,eO.other 8 (by decide) (by decide) (by decide) hf.world⟩
      .intro listed a W hf ak aj;have hs1:=hf.sz hsz;have aLW:=aP (hf.sv 8 156 rfl (aO aj 8 (by kernel_rfl)) λ_ _ h=>h) (by rw[hs1];decide);have dZ:=fF hf.closed (n:=6) (e:=21) (i:=9) (by kernel_rfl) ak;have hv:=hf.world.zR;rw[dZ]at hv;obtain⟨e0,e1,e2,e3⟩:=dJ hv;have le:=af hv;simp only[cond]at e1 e2 e3;refine br rfl (by rfl) (λK' hK'=>?_);go_simp;exact hK' _ _ ⟨_,rfl,(λ_ _=>rfl),Rest.refl _ _,eO.other 9 (by decide) (by decide) (by decide) hf.world⟩
      .intro listed a W hf ak aj;have hs1:=hf.sz hsz;have aLX:=aP (hf.sv 7 155 rfl (aO aj 7 (by kernel_rfl)) λ_ _ h=>h) (by rw[hs1];decide);have aLY:=aP (hf.sv 9 157 rfl (aO aj 9 (by kernel_rfl)) λ_ _ h=>h) (by rw[hs1];decide);have lv:=af hf.world.zR;refine br rfl (by rfl) (λK' hK'=>?_);go_simp;exact hK' _ (W.alloc (.cells #[.int .i64 E.next,.int .i64 V.next] 3)) ⟨_,rfl,(λ_ _=>⟨W.heap.size,by omega,rfl,ax _ _⟩),Rest.grow (ar _ _),eO.other 10 (by decide) (by decide) (by decide) (hf.world.grow (ar _ _))⟩
      .intro listed a W hf ak aj;have hs1:=hf.sz hsz;obtain⟨v10,zQ,rT⟩:=hf.slot 10 158 rfl (aO aj 10 (by kernel_rfl));obtain⟨RV,aLZ,rT,c10⟩:=rT;have azD:v10=_:=rT;subst azD;have aMa:=aP zQ (by rw[hs1];decide);refine ky rfl (by rfl) (by go_simp) (Xa E.next V.next RV W (by simp[World.cell?,c10]) (by simp[World.cell?,c10])) ?_;rintro e w7 ⟨rfl,rfl⟩;exact⟨_,rfl,_,rfl,(λ_ _=>rfl),Rest.refl _ _,eO.other 11 (by decide) (by decide) (by decide) hf.world⟩
      .intro listed a W hf ak aj;have hs1:=hf.sz hsz;have G3:=hf.got (by decide) F3 (by rw[hs1];decide);refine br rfl (by rfl) (λK' hK'=>?_);go_simp;exact hK' _ _ ⟨_,rfl,(λ_ _=>rfl),Rest.refl _ _,eO.other 12 (by decide) (by decide) (by decide) hf.world⟩
      .intro listed a W hf ak aj;have hs1:=hf.sz hsz;have aMb:=aP (hf.sv 12 160 rfl (aO aj 12 (by kernel_rfl)) λ_ _ h=>h) (by rw[hs1];decide);obtain⟨e0,e1,e2,e3,e4⟩:=dI hf.world.eb;have le:=af hf.world.eb;refine br rfl (by rfl) (λK' hK'=>?_);go_simp;exact hK' _ _ ⟨_,rfl,(λ_ _=>rfl),Rest.refl _ _,eO.other 13 (by decide) (by decide) (by decide) hf.world⟩
      .intro listed a W hf ak aj;have hs1:=hf.sz hsz;have G2:=hf.got (by decide) F2 (by rw[hs1];decide);refine br rfl (by rfl) (λK' hK'=>?_);go_simp;exact hK' _ _ ⟨_,rfl,(λ_ _=>rfl),Rest.refl _ _,eO.other 14 (by decide) (by decide) (by decide) hf.world⟩
      .intro listed a W hf ak aj;have hs1:=hf.sz hsz;have aMc:=aP (hf.sv 14 162 rfl (aO aj 14 (by kernel_rfl)) λ_ _ h=>h) (by rw[hs1];decide);have dZ:=fF hf.closed (n:=6) (e:=23) (i:=15) (by kernel_rfl) ak;have hv:=hf.world.zR;rw[dZ]at hv;obtain⟨e0,e1,e2,e3⟩:=dJ hv;have le:=af hv;simp only[cond]at e1 e2 e3;refine br rfl (by rfl) (λK' hK'=>?_);go_simp;exact hK' _ _ ⟨_,rfl,(λ_ _=>rfl),Rest.refl _ _,eO.other 15 (by decide) (by decide) (by decide) hf.world⟩
      .intro listed a W hf ak aj;have hs1:=hf.sz hsz;have aMd:=aP (hf.sv 13 161 rfl (aO aj 13 (by kernel_rfl)) λ_ _ h=>h) (by rw[hs1];decide);have aMe:=aP (hf.sv 15 163 rfl (aO aj 15 (by kernel_rfl)) λ_ _ h=>h) (by rw[hs1];decide);have lv:=af hf.world.zR;refine br rfl (by rfl) (λK' hK'=>?_);go_simp;exact hK' _ (W.alloc (.cells #[.int .i64 E.wal,.int .i64 V.wal] 3)) ⟨_,rfl,(λ_ _=>⟨W.heap.size,by omega,rfl,ax _ _⟩),Rest.grow (ar _ _),eO.other 16 (by decide) (by decide) (by decide) (hf.world.grow (ar _ _))⟩
      .intro listed a W hf ak aj;have hs1:=hf.sz hsz;obtain⟨v16,s16,td⟩:=hf.slot 16 164 rfl (aO aj 16 (by kernel_rfl));obtain⟨b16,aMf,td,c16⟩:=td;have azG:v16=_:=td;subst azG;have aMg:=aP s16 (by rw[hs1];decide);refine ky rfl (by rfl) (by go_simp) (Xa E.wal V.wal b16 W (by simp[World.cell?,c16]) (by simp[World.cell?,c16])) ?_;rintro e w7 ⟨rfl,rfl⟩;exact⟨_,rfl,_,rfl,(λ_ _=>rfl),Rest.refl _ _,eO.other 17 (by decide) (by decide) (by decide) hf.world⟩
      .intro listed a W hf ak aj;have hs1:=hf.sz hsz;have G2:=hf.got (by decide) F2 (by rw[hs1];decide);refine br rfl (by rfl) (λK' hK'=>?_);go_simp;exact hK' _ _ ⟨_,rfl,(λ_ _=>rfl),Rest.refl _ _,eO.other 18 (by decide) (by decide) (by decide) hf.world⟩
      .intro listed a W hf ak aj;have hs1:=hf.sz hsz;have aMh:=aP (hf.sv 18 166 rfl (aO aj 18 (by kernel_rfl)) λ_ _ h=>h) (by rw[hs1];decide);have aMi:=aP (hf.sv 5 153 rfl (aO aj 5 (by kernel_rfl)) λ_ _ h=>h) (by rw[hs1];decide);have hv:=hf.world.zR;obtain⟨e0,e1,e2,e3⟩:=dJ hv;have le:=af hv;have fy:=bG hv;refine br rfl (by rfl) (λK' hK'=>?_);go_simp;exact hK' _ _ ⟨undef,rfl,(λ_ h=>by cases h),Rest.set _ _ _ _,hf.world.st1 (by rw[hf.size];decide)⟩
      .intro listed a W hf ak aj;have hs1:=hf.sz hsz;have G2:=hf.got (by decide) F2 (by rw[hs1];decide);refine br rfl (by rfl) (λK' hK'=>?_);go_simp;exact hK' _ _ ⟨_,rfl,(λ_ _=>rfl),Rest.refl _ _,eO.other 20 (by decide) (by decide) (by decide) hf.world⟩
      .intro listed a W hf ak aj;have hs1:=hf.sz hsz;have aMj:=aP (hf.sv 20 167 rfl (aO aj 20 (by kernel_rfl)) λ_ _ h=>h) (by rw[hs1];decide);have aMk:=aP (hf.sv 11 159 rfl (aO aj 11 (by kernel_rfl)) λ_ _ h=>h) (by rw[hs1];decide);have hv:=hf.world.zR;obtain⟨e0,e1,e2,e3⟩:=dJ hv;have le:=af hv;have fy:=bG hv;refine br rfl (by rfl) (λK' hK'=>?_);go_simp;exact hK' _ _ ⟨undef,rfl,(λ_ h=>by cases h),Rest.set _ _ _ _,hf.world.st2 (by rw[hf.size];decide)⟩
      .intro listed a W hf ak aj;have hs1:=hf.sz hsz;have G2:=hf.got (by decide) F2 (by rw[hs1];decide);refine br rfl (by rfl) (λK' hK'=>?_);go_simp;exact hK' _ _ ⟨_,rfl,(λ_ _=>rfl),Rest.refl _ _,eO.other 22 (by decide) (by decide) (by decide) hf.world⟩
      .intro listed a W hf ak aj;have hs1:=hf.sz hsz;have aMl:=aP (hf.sv 22 168 rfl (aO aj 22 (by kernel_rfl)) λ_ _ h=>h) (by rw[hs1];decide);have aMm:=aP (hf.sv 17 165 rfl (aO aj 17 (by kernel_rfl)) λ_ _ h=>h) (by rw[hs1];decide);have hv:=hf.world.zR;obtain⟨e0,e1,e2,e3⟩:=dJ hv;have le:=af hv;have fy:=bG hv;refine br rfl (by rfl) (λK' hK'=>?_);go_simp;exact hK' _ _ ⟨undef,rfl,(λ_ h=>by cases h),Rest.set _ _ _ _,hf.world.st3 (by rw[hf.size];decide)⟩
     case rest=>
     have eW:=hcut.rb;have kf:=hcut.vb;simp only[cond]at kf;clear v0 v1 v2 v3;obtain⟨v0,v1,v2,v3⟩:=dJ kf;obtain⟨z0,z1,z2,z3⟩:=dJ eW;have lv7:=af kf;have lr7:=af eW;have fr7:=bG eW;have EI:=ae hcut;have mW:=ae eW;clear hcut eW kf;go_wp2;refine bodyPost_ret (axR (c:=0) rfl rfl (BK mW.out _ _ _ _)) rfl ?_;rw[dQ.out];exact⟨_,rfl,rK (Ek EI.out.own mW.out _ _ _ _) (by omega),xV EI.out.below (by omega) _ _ _ _⟩
end Go.Proofs.YtoolkdapflaeeaaGreatDoor.Mn
