/- Helpers. -/
import Derived.Test.YtoolkdapflaeeaaGreatDoorW01
import Derived.MapKept
import Derived.Shelf.Abstract
import Derived.Deep.CutRange
import Derived.Deep.DeepCutAuto
set_option maxRecDepth 100000
set_option maxHeartbeats 16000000
namespace Go.Proofs.YtoolkdapflaeeaaGreatDoor
open Go.RowKit Go.Gl Go.aH
def ko (B:Nat) (w:World) (v:Value) (ps:List (List UInt8)):Prop:=
 ∃ vals,Row1 49 B w v vals∧vals.length=ps.length∧∀ (i:Nat) (u:Value) (p:List UInt8),vals[i]?=some u→ps[i]?=some p→aG B w u p
theorem aoA (B:Nat) (w:World):ko B w (.slice none 0 0) []:=⟨[],mi _ _ _,rfl,fun i u p h=>by simp at h⟩
theorem ko.slice {B:Nat} {w:World} {v:Value} {ps:List (List UInt8)} (h:ko B w v ps):∃ a c,v= .slice a ps.length c:=by
 obtain ⟨vals,h1,h2,_⟩:=h;obtain ⟨a,c,h3⟩:=h1.slice;exact ⟨a,c,by rw [h3,h2]⟩
theorem ko.grow {B:Nat} {w w':World} {v:Value} {ps:List (List UInt8)} (h:ko B w v ps) (hg:Grow w w'):ko B w' v ps:=by
 obtain ⟨vals,h1,h2,h3⟩:=h;exact ⟨vals,h1.grow hg,h2,fun i u p hu hp=>(h3 i u p hu hp).grow hg⟩
theorem ko.rv {B:Nat} {w:World} {v:Value} {ps:List (List UInt8)} (h:ko B w v ps):Rv w v ps:=by
 obtain ⟨vals,h1,h2,h3⟩:=h;rcases h1 with ⟨rfl,rfl⟩|⟨g,cap,cur,rfl,hB,hg,hn,hc,hm,ht⟩
 ·have:ps= []:=jb h2.symm
  subst this;exact ⟨none,0,rfl,.inl rfl⟩
 ·have hrow:Row1 49 B w (.slice (some ⟨g,0,none⟩) vals.length cap) vals:= .inr ⟨g,cap,cur,rfl,hB,hg,hn,hc,hm,ht⟩
  refine ⟨some ⟨g,0,none⟩,cap,by rw [h2],.inr ⟨g,0,rfl,af hg,fun j p hp=> ?_⟩⟩;obtain ⟨u,hu⟩:∃ u,vals[j]?=some u:=by
   have:=(dQ.1 hp).1;exact ⟨vals[j]'(by omega),by simp [show j<vals.length by omega]⟩
  exact ⟨u,by rw [Nat.zero_add];exact hrow.cells rfl hu,cy (h3 j u p hu hp)⟩
theorem aG.aai {B:Nat} {w:World} {v:Value} {l:List UInt8} (h:aG B w v l):v.oneCell'=true:=by
 obtain ⟨a,c,rfl⟩:=h.slice;rfl
theorem aaj {B:Nat} {w:World} {v u:Value} {ps:List (List UInt8)} {p:List UInt8} (h:ko B w v ps) (hu:aG B w u p) (hB:B≤w.heap.size) (hlen:ps.length+1≤1000000000000):
  ∃ v' w',(Builtin.append_ #[131,131] 131 #[v,.slice (some ⟨w.heap.size,0,none⟩) 1 1]).run Tryz.prog (w.alloc (.cells #[u] 49))= .ok v' w'∧ko B w' v' (ps++ [p])∧Below B w w':=by
 obtain ⟨vals,h1,h2,h3⟩:=h;have ai:Grow w (w.alloc (.cells #[u] 49)):=Grow.alloc _ _;have uK:Src Tryz.prog 1 131 (.slice (some ⟨w.heap.size,0,none⟩) 1 1) 1 [u] (w.alloc (.cells #[u] 49)):=
  Src.ofSlice _ Tryz.underlying131 _ _ _ _ rfl (cell_one_new w u _) (fun x hx=>by rw [cY.1 hx];exact hu.aai)
 obtain ⟨v',w',r1,r2,r3,r4⟩:=Bd (ty:=131) Tryz.underlying131 Tryz.wE rfl (h1.grow ai) uK (by simp;omega) (by rw [h2];unfold maxLen;omega) (by rw [h2];omega);have hne:∀ b x q,aG B w x q→x.ownBlock=some b→w'.heap[b]?=w.heap[b]?:=fun b x q hx hb=>by
  have MA:aG B (w.alloc (.cells #[u] 49)) x q:=hx.grow ai;obtain ⟨cur,hc⟩:=MA.block hb;rw [r3.block b (af hc) (fun he=>(h1.grow ai).apart hc (by decide) he.symm)];exact ai.block b (hx.lt hb).2
 refine ⟨v',w',r1,⟨vals++ [u],r2,by simp [h2],fun i x q hx hq=> ?_⟩,below_grown (ai.mono hB) (by simp;omega) (h1.grow ai) r3⟩;by_cases hi:i<vals.length
 ·rw [List.getElem?_append_left hi] at hx
  rw [List.getElem?_append_left (by omega)] at hq;exact (h3 i x q hx hq).keep (fun b hb=>hne b x q (h3 i x q hx hq) hb)
 ·have hiv:i=vals.length:=by
   have:=(dQ.1 hx).1;simp at this;omega
  subst hiv;simp at hx;rw [h2] at hq;simp at hq;subst hx hq;exact hu.keep (fun b hb=>hne b u p hu hb)
theorem aoC (T:List Nat) (b:List UInt8) (h:(gC T b).2.2=0):0<(gC T b).2.1∧(gC T b).1≤(gC T b).2.1∧(gC T b).2.1≤b.length:=by
 unfold gC at h ⊢;split
 ·rename_i h1;rw [if_pos h1] at h;exact absurd h h1
 ·rename_i h1
  rw [if_neg h1] at h;split
  ·rename_i h2;rw [if_pos h2] at h;cases h
  ·rename_i h2
   rw [if_neg h2] at h;split
   ·rename_i h3;rw [if_pos h3] at h;cases h
   ·rename_i h3
    rw [if_neg h3] at h;split
    ·rename_i h4;rw [if_pos h4] at h;cases h
    ·simp;omega
def RU (w:World) (l:List UInt8) (ov av:Value) (wr:World):Prop:=
 ∃ (k at':Nat) (ps:List (List UInt8)),av= .int .i64 at'∧at'≤l.length∧ko w.heap.size wr ov ps∧ps.length≤at'∧(l.drop at').length<k∧kj aq l=(ps++(oW aq k (l.drop at')).1,at'+(oW aq k (l.drop at')).2.1,(oW aq k (l.drop at')).2.2)∧Grow w wr
theorem aak {w:World} {bv:Value} {l:List UInt8} (h:Bv w bv l) (hl:l.length≤900000000000):
  Calls Tryz.prog 97 #[bv] w fun e w'=>∃ rv,e= .returned (.tuple #[rv,.int .i64 ((kj aq l).2.1:Nat),.int .i64 ((kj aq l).2.2:Nat)])∧ko w.heap.size w' rv (kj aq l).1∧Grow w w':=by
 obtain ⟨ba,bc,rfl⟩:=h.slice;have hbc:l.length≤bc:=by obtain ⟨_,_,he,hlc,_⟩:=h;cases he;exact hlc
 have H:=ae h;clear h;go_enter Tryz.func97,Tryz.ntmps97
 go_wp2_with fail
 go_loopw [5,6] (fun ov av wr=>RU w l ov av wr) (fun _ av _=>l.length-(intOf av).toNat)
 case atStart=>exact ⟨l.length+1,0,[],rfl,bk _,aoA _ _,ay _,by simp,by simp [kj],Grow.refl _⟩
 case round=>
  obtain ⟨k,at',ps,rfl,hat,hown,hpl,hk,og,hg⟩:=hrel;obtain ⟨k,rfl⟩:∃ k',k=k'+1:=⟨k-1,by omega⟩
  rw [oW] at og;by_cases hlt:at'<l.length
  ·have hne:¬ l.drop at'= []:=by intro h0;have:=congrArg List.length h0;simp at this;omega
   rw [if_neg hne] at og;have hcut:=rA (H.out.grow hg) (i:=at') (j:=l.length) (by omega) (ay _);rw [show (l.drop at').take (l.length-at')=l.drop at' from List.take_of_length_le (by simp),if_neg (by omega)] at hcut;have eu:=ZY hcut (by simp;omega);have hle:=aoC aq (l.drop at');have hlen:(l.drop at').length=l.length-at':=by simp
   have dJ:(at':Int)<(l.length:Int):=by omega
   have c1:at'≤bc:=by omega
   have oX:=ae eu;have lh:=ae og;have eT:=ae hown;have Hg:=ae hg;obtain ⟨oa,oc,rfl⟩:=hown.slice;clear hcut eu og hown hg hne
   go_wp2_with fail
   (with_reducible refine oX.out.mono ?_);rintro e w2 ⟨rfl,hg2⟩;generalize gC aq (l.drop at')=R at*;obtain ⟨fr,tt,er⟩:=R;dsimp only at hle lh ⊢;by_cases her:er=0
   ·subst her
    obtain ⟨oh,oY,iz⟩:=hle rfl;rw [if_neg (by simp)] at lh;obtain ⟨i1,aal⟩:∃ i:Nat,i=at'+fr:=⟨_,rfl⟩
    obtain ⟨j1,MB⟩:∃ j:Nat,j=at'+tt:=⟨_,rfl⟩
    have s1:(at':Int)+(fr:Int)=(i1:Int):=by omega
    have s2:(at':Int)+(tt:Int)=(j1:Int):=by omega
    have hg3:=Hg.out.trans hg2;have hcut:=rA (H.out.grow hg3) (i:=i1) (j:=j1) (by omega) (by omega);have hP:(l.drop i1).take (j1-i1)=((l.drop at').drop fr).take (tt-fr):=by rw [List.drop_drop,aal,MB,show at'+tt-(at'+fr)=tt-fr by omega]
    rw [hP] at hcut;have tu:l.drop j1=(l.drop at').drop tt:=by rw [List.drop_drop,MB]
    have aDu:(((l.drop at').drop fr).take (tt-fr)).length≤900000000000:=by simp;omega
    generalize ((l.drop at').drop fr).take (tt-fr)=p at*;have b1:i1≤j1:=by omega
    have b2:j1≤bc:=by omega
    have b3:j1≤l.length:=by omega
    have b4:at'<j1:=by omega
    have e0:((0:Int) != 0)=false:=rfl;have GZ:=ae tu;have Hj:=ae (eT.out.grow hg2);have kq:=ae hg3;have RV:=ae MB;clear hP tu hg3 hg2 aal MB oX hle oY iz oh eT;by_cases hb:bc=i1
    ·subst hb
     rw [if_pos rfl,Nat.sub_self,show j1-bc=0 by omega] at hcut;have Hu:=uJ hcut (by omega);have RX:=ae Hu;clear Hu hcut
     go_wp2_with fail
     (with_reducible refine RX.out.mono ?_);rintro e w4 ⟨cv,rfl,rC,hg4⟩;have aO:=kq.out.trans hg4;obtain ⟨v',w',r1,r2,r3⟩:=aaj (Hj.out.grow hg4) (rC.mono kq.out.size) aO.size (by omega);obtain ⟨ca,cc,rfl⟩:=rC.slice;have hrel:RU w l v' (.int .i64 j1) w':=by
      refine ⟨k,j1,ps++ [p],rfl,b3,r2,by simp;omega,?_,?_,Below.trans aO r3⟩
      ·simp at hk ⊢;omega
      ·rw [lh.out,GZ.out,RV.out]
       refine Prod.ext (by simp) (Prod.ext ?_ rfl);simp;omega
     have bq:=ae hrel;have dC:=ae r1;clear hrel r1 r2 r3 rC hg4 aO
     go_wp2_with (at_builtin;refine fC rfl rfl rfl rfl dC.out ?_)
     go_roundw
     case rel=>exact bq.out
     case measure=>simp [intOf];omega
    ·skip
     rw [if_neg hb] at hcut;have Hu:=uJ hcut (by omega);have RX:=ae Hu;clear Hu hcut
     go_wp2_with fail
     (with_reducible refine RX.out.mono ?_);rintro e w4 ⟨cv,rfl,rC,hg4⟩;have aO:=kq.out.trans hg4;obtain ⟨v',w',r1,r2,r3⟩:=aaj (Hj.out.grow hg4) (rC.mono kq.out.size) aO.size (by omega);obtain ⟨ca,cc,rfl⟩:=rC.slice;have hrel:RU w l v' (.int .i64 j1) w':=by
      refine ⟨k,j1,ps++ [p],rfl,b3,r2,by simp;omega,?_,?_,Below.trans aO r3⟩
      ·simp at hk ⊢;omega
      ·rw [lh.out,GZ.out,RV.out]
       refine Prod.ext (by simp) (Prod.ext ?_ rfl);simp;omega
     have bq:=ae hrel;have dC:=ae r1;clear hrel r1 r2 r3 rC hg4 aO
     go_wp2_with (at_builtin;refine fC rfl rfl rfl rfl dC.out ?_)
     go_roundw
     case rel=>exact bq.out
     case measure=>simp [intOf];omega
   ·have e0:((er:Int) != 0)=true:=by simp;omega
    rw [if_pos her] at lh;have aDv:er≠0:=her;clear her;go_wp2;refine bodyPost_ret (v:= .tuple #[.slice oa ps.length oc,.int .i64 ((kj aq l).2.1:Nat),.int .i64 ((kj aq l).2.2:Nat)]) ?_ rfl ⟨_,rfl,?_,Hg.out.trans hg2⟩
    ·rw [lh.out]
     simp [results,Tryz.results97,go_sem]
    ·rw [lh.out]
     simp only [List.append_nil];exact eT.out.grow hg2
  ·have hdr:l.drop at'= []:=List.drop_eq_nil_of_le (by omega)
   rw [if_pos hdr] at og;have lh:=ae og;have eT:=ae hown;obtain ⟨oa,oc,rfl⟩:=hown.slice;have GV:l.length≤at':=by omega
   clear og hown hdr hk;go_wp2;refine bodyPost_ret (v:= .tuple #[.slice oa ps.length oc,.int .i64 ((kj aq l).2.1:Nat),.int .i64 ((kj aq l).2.2:Nat)]) ?_ rfl ⟨_,rfl,?_,hg⟩
   ·rw [lh.out]
    simp [results,Tryz.results97,go_sem]
   ·rw [lh.out]
    simp only [List.append_nil];exact eT.out
end Go.Proofs.YtoolkdapflaeeaaGreatDoor
namespace Go.Proofs.YtoolkdapflaeeaaGreatDoor
open Go.RowKit Go.Gl Go.aH
open Go.MapKept (bytes_beq run_checkKey run_findKey IsKey)
theorem aam (k:ByteArray):∀ (l:List (aF ByteArray)) (i:Nat),Instr.findNow .string (.string k) (l.map (aF.raw Value.string)) i=some (kL k l i)
 | [],_=>rfl
 |e::es,i=>by
  simp only [List.map_cons,Instr.findNow,aF.raw,Instr.sameNow,kL];by_cases h:k=e.key
  ·have:(k==e.key)=true:=(bytes_beq _ _).2 h
   rw [this,if_pos h]
  ·have:(k==e.key)=false:=by
    cases hb:(k==e.key) with
    |false=>rfl
    |true=>exact absurd ((bytes_beq _ _).1 hb) h
   simp only [this,if_neg h];exact aam k es (i+1)
theorem yK:yD (κ:=ByteArray) Tryz.prog 9 Value.string where
 check:=fun b k w=>run_checkKey Tryz.underlying9 (by simp [IsKey]) b 9999
 same:=fun k=>by simp [Instr.sameBits,bytes_beq]
 find:=fun k l w=>run_findKey Tryz.underlying9 (aam k l 0)
theorem aoD (w:World):(zeroValue 162).run Tryz.prog w= .ok (.pointer none) w:=by kernel_rfl
structure Fe where
 name:ByteArray
 born:Nat
 fb:Nat
 bv:Value
 b:List UInt8
 synced:Nat
def Fe.az (f:Fe):aF ByteArray:=⟨f.name,.pointer (some ⟨f.fb,0,none⟩),f.born⟩
structure aoE (B:Nat) (w:World) (f:Fe):Prop where
 cell:w.heap[f.fb]?=some (.cells #[f.bv,.int .i64 f.synced] 165 (0,0))
 row:aG B w f.bv f.b
 base:B≤f.fb
 sync:f.synced≤f.b.length
structure bM (B:Nat) (w:World) (p r:Nat) (size used born:Int) (fs:List Fe):Prop where
 self:w.heap[p]?=some (.cells #[.int .i64 size,.int .i64 used,.int .i64 born,.map (some r)] 125 (0,0))
 map:∃ clock,MapAt w r Value.string (fs.map Fe.az) clock∧∀ f∈fs,f.born<clock
 names:(fs.map Fe.name).Nodup
 rD:(fs.map Fe.born).Nodup
 rE:(fs.map Fe.fb).Nodup
 rows:∀ f∈fs,∀ g∈fs,∀ b,f.bv.ownBlock=some b→g.bv.ownBlock=some b→f.name=g.name
 files:∀ f∈fs,aoE B w f
 base:B≤p∧B≤r∧B≤w.heap.size
def cN (p r:Nat) (fs:List Fe) (b:Nat):Prop:=b=p∨b=r∨∃ f∈fs,b=f.fb∨f.bv.ownBlock=some b
structure Sep (F:Nat→Prop) (w w':World) (F':Nat→Prop):Prop where
 os:w'.os=w.os
 tape:w'.tape=w.tape
 output:w'.output=w.output
 size:w.heap.size≤w'.heap.size
 out:∀ b,b<w.heap.size→¬ F b→w'.heap[b]?=w.heap[b]?
 foot:∀ b,F' b→F b∨w.heap.size≤b
theorem Sep.refl (F:Nat→Prop) (w:World):Sep F w w F:=⟨rfl,rfl,rfl,ay _,fun _ _ _=>rfl,fun _ h=> .inl h⟩
theorem Sep.trans {F F' uL:Nat→Prop} {w w' w'':World} (h:Sep F w w' F') (k:Sep F' w' w'' uL):Sep F w w'' uL:=
 ⟨k.os.trans h.os,k.tape.trans h.tape,k.output.trans h.output,aN h.size k.size,fun b hb hn=>by
  have rF:¬ F' b:=fun hf=>by
   rcases h.foot b hf with h1|h1
   ·exact hn h1
   ·omega
  rw [k.out b (cj hb h.size) rF,h.out b hb hn],fun b hb=>by
  rcases k.foot b hb with h1|h1
  ·exact h.foot b h1
  ·exact .inr (aN h.size h1)⟩
theorem Sep.bF {F:Nat→Prop} {w w':World} (h:Grow w w'):Sep F w w' F:=
 ⟨h.os,h.tape,h.output,h.size,fun b hb _=>h.block b hb,fun _ h=> .inl h⟩
theorem Sep.free {F F':Nat→Prop} {w w':World} (h:Sep F w w' F') {b:Nat} (hb:b<w.heap.size) (hn:¬ F b):w'.heap[b]?=w.heap[b]?∧b<w'.heap.size∧¬ F' b:=
 ⟨h.out b hb hn,cj hb h.size,fun hf=>by
  rcases h.foot b hf with h1|h1
  ·exact hn h1
  ·omega⟩
theorem Sep.below {F F':Nat→Prop} {w w':World} {B:Nat} (h:Sep F w w' F') (hB:∀ b,F b→B≤b) (hs:B≤w.heap.size):Below B w w':=
 ⟨h.os,h.tape,h.output,h.size,fun b hb=>h.out b (by omega) (fun hf=>by have:=hB b hf;omega)⟩
section
variable {B:Nat} {w w':World} {p r:Nat} {size used born:Int} {fs:List Fe}
theorem bM.RY (h:bM B w p r size used born fs) {b:Nat} (hb:cN p r fs b):B≤b∧b<w.heap.size:=by
 obtain ⟨c,hm,_⟩:=h.map;rcases hb with rfl|rfl|⟨f,hf,rfl|hr⟩
 ·exact ⟨h.base.1,af h.self⟩
 ·exact ⟨h.base.2.1,af hm⟩
 ·exact ⟨(h.files f hf).base,af (h.files f hf).cell⟩
 ·exact (h.files f hf).row.lt hr
theorem bM.apart (h:bM B w p r size used born fs) {b:Nat} {arr:Array Value} {t:TypeId} {f:Nat×Nat} (hb:w.heap[b]?=some (.cells arr t f)) (h1:t≠125) (h2:t≠165) (h3:t≠5):¬ cN p r fs b:=by
 obtain ⟨c,hm,_⟩:=h.map;rintro (rfl|rfl|⟨g,hg,rfl|hr⟩)
 ·rw [h.self] at hb;cases hb;exact h1 rfl
 ·rw [hm] at hb;cases hb
 ·rw [(h.files g hg).cell] at hb;cases hb;exact h2 rfl
 ·exact (h.files g hg).row.apart hb h3 hr
theorem bM.grow (h:bM B w p r size used born fs) (hg:Grow w w'):bM B w' p r size used born fs:=by
 obtain ⟨c,hm,hc⟩:=h.map;exact ⟨hg.heap h.self,⟨c,hg.heap hm,hc⟩,h.names,h.rD,h.rE,h.rows,fun f hf=>⟨hg.heap (h.files f hf).cell,(h.files f hf).row.grow hg,(h.files f hf).base,(h.files f hf).sync⟩,h.base.1,h.base.2.1,aN h.base.2.2 hg.size⟩
def fileOf (n:ByteArray) (fs:List Fe):Option Fe:=fs.find? (fun f=>decide (n=f.name))
def mj (n:ByteArray) (fs:List Fe):Value:=match fileOf n fs with|none=> .pointer none|some f=> .pointer (some ⟨f.fb,0,none⟩)
theorem rG {n:ByteArray} {f:Fe} (h:fileOf n fs=some f):f∈fs∧f.name=n:=by
 have:=List.find?_some h;exact ⟨List.mem_of_find?_eq_some h,by simpa using (by simpa using this:n=f.name).symm⟩
theorem Bp {n:ByteArray} (h:fileOf n fs=none):∀ f∈fs,n≠f.name:=fun f hf=>by
 have:=List.find?_eq_none.1 h f hf;simpa using this
theorem aoF (n:ByteArray) (fs:List Fe):AZ n (.pointer none) (fs.map Fe.az)=mj n fs:=by
 unfold AZ mj fileOf
 induction fs with
 |nil=>rfl
 |cons f fs ih=>
  simp only [List.map_cons,List.find?_cons];by_cases h:n=f.name
  ·simp [Fe.az,h]
  ·have h':n≠f.az.key:=h
   simp only [h,h',decide_false];exact ih
theorem bM.lookup (h:bM B w p r size used born fs) (n:ByteArray):(Instr.lookup 123 (.map (some r)) (.string n) false).run Tryz.prog w= .ok (mj n fs) w:=by
 obtain ⟨c,hm,_⟩:=h.map;rw [Zo yK Tryz.underlying123 (aoD w) hm n,aoF]
theorem bM.cells (h:bM B w p r size used born fs):w.cell? ⟨p,0,none⟩=some (.int .i64 size)∧w.cell? ⟨p,1,none⟩=some (.int .i64 used)∧w.cell? ⟨p,2,none⟩=some (.int .i64 born)∧w.cell? ⟨p,3,none⟩=some (.map (some r)):=by
 simp [World.cell?,h.self]
end
end Go.Proofs.YtoolkdapflaeeaaGreatDoor
namespace Go.Proofs.YtoolkdapflaeeaaGreatDoor
open Go.RowKit Go.Gl Go.aH
theorem aoG (size:Int) (w:World) (h1:1≤size) (h2:size≤1073741824):
  Calls Tryz.prog 20 #[.int .i64 size] w fun e w'=>e= .returned (.tuple #[.pointer (some ⟨w.heap.size+1,0,none⟩),.int .i64 0])∧bM w.heap.size w' (w.heap.size+1) w.heap.size size 0 0 []∧Grow w w':=by
 have jB:= @run_makeMap Tryz.prog;go_enter Tryz.func20,Tryz.ntmps20;go_wp2;go_ret2;refine ⟨rfl,⟨?_,⟨0,?_,(fun f hf=>by cases hf)⟩,List.nodup_nil,List.nodup_nil,List.nodup_nil,(fun f hf=>by cases hf),(fun f hf=>by cases hf),by omega,ay _,by simp;omega⟩,by (repeat (first|exact Below.refl _ _|assumption|refine Below.drew ?_|refine cp ?_|refine Below.setCell ?_ (by first|omega|(simp<;>omega)) _|refine Below.alloc ?_ (by first|omega|(simp<;>omega)) _))⟩
 ·have:=aw (w.alloc (.map #[] 0)) (.cells #[.int .i64 size,.int .i64 0,.int .i64 0,.map (some w.heap.size)] 125)
  simpa using this
 ·exact (heap_alloc_old _ _ (by simp)).trans (aw _ _)
def yM (c:UInt8):Bool:=(decide (97≤c.toNat)&&decide (c.toNat≤122))||(decide (48≤c.toNat)&&decide (c.toNat≤57))||decide (c.toNat=45)||decide (c.toNat=46)
def jC (s:ByteArray):Prop:=1≤s.size∧s.size≤64∧∀ (i:Nat) (h:i<s.size),yM s[i]=true
def aoH (w:World) (s:ByteArray) (iv:Value) (wr:World):Prop:=∃ i:Nat,iv= .int .i64 i∧i≤s.size∧wr=w
theorem Ec {s:ByteArray} (h:jC s) (w:World):Calls Tryz.prog 125 #[.string s] w fun e w'=>e= .returned (.bool true)∧w'=w:=by
 obtain ⟨hs1,hs2,hall⟩:=h;have eX:=ae hall;have e1:decide ((s.size:Int)<1)=false:=by simp;omega
 have e2:decide ((64:Int)<(s.size:Int))=false:=by simp;omega
 clear hall;go_enter Tryz.func125,Tryz.ntmps125
 go_wp2_with fail
 go_loopw [15] (fun iv wr=>aoH w s iv wr) (fun iv _=>s.size-(intOf iv).toNat)
 case atStart=>exact ⟨0,rfl,bk _,rfl⟩
 case round=>
  obtain ⟨i,rfl,hi,hwr⟩:=hrel;have sZ:=hwr.symm;subst sZ;clear hwr;by_cases hlt:i<s.size
  ·have dJ:(i:Int)<(s.size:Int):=by omega
   have bK:(0:Int)≤(i:Int):=by omega
   have eE:IntKind.i64.wrap ((i:Int)+1)=(i:Int)+1:=aR _ (by omega);have hc:=eX.out i hlt;have rH:(97≤s[i].toNat∧s[i].toNat≤122)∨(48≤s[i].toNat∧s[i].toNat≤57)∨s[i].toNat=45∨s[i].toNat=46:=by
    simp only [yM,Bool.or_eq_true,Bool.and_eq_true,decide_eq_true_eq] at hc;rcases hc with ((h|h)|h)|h
    ·exact .inl h
    ·exact .inr (.inl h)
    ·exact .inr (.inr (.inl h))
    ·exact .inr (.inr (.inr h))
   clear hc
   go_upto_region 7 with fail
   generalize s[i].toNat=k at*;rcases rH with h|h|h|h
   ·have Hk:=ae h
    have f1:decide ((97:Int)≤(k:Int))=true:=by simp;omega
    have f2:decide ((k:Int)≤122)=true:=by simp;omega
    clear h;go_wp2;go_roundw
    case rel=>exact ⟨i+1,by simp,hlt,rfl⟩
    case measure=>simp [intOf];omega
   ·have Hk:=ae h
    have f1:decide ((97:Int)≤(k:Int))=false:=by simp;omega
    have f3:decide ((48:Int)≤(k:Int))=true:=by simp;omega
    have f4:decide ((k:Int)≤57)=true:=by simp;omega
    clear h;go_wp2;go_roundw
    case rel=>exact ⟨i+1,by simp,hlt,rfl⟩
    case measure=>simp [intOf];omega
   ·have Hk:=ae h
    have f1:decide ((97:Int)≤(k:Int))=false:=by simp;omega
    have f3:decide ((48:Int)≤(k:Int))=false:=by simp;omega
    have f5:((k:Int)==45)=true:=by simp;omega
    clear h;go_wp2;go_roundw
    case rel=>exact ⟨i+1,by simp,hlt,rfl⟩
    case measure=>simp [intOf];omega
   ·have Hk:=ae h
    have f1:decide ((97:Int)≤(k:Int))=false:=by simp;omega
    have f3:decide ((48:Int)≤(k:Int))=false:=by simp;omega
    have f5:((k:Int)==45)=false:=by simp;omega
    have f6:((k:Int)==46)=true:=by simp;omega
    clear h;go_wp2;go_roundw
    case rel=>exact ⟨i+1,by simp,hlt,rfl⟩
    case measure=>simp [intOf];omega
  ·obtain rfl:i=s.size:=by omega
   go_wp2;go_ret;exact ⟨rfl,rfl⟩
theorem aan {B:Nat} {w:World} {p r:Nat} {size used born:Int} {fs:List Fe} (h:bM B w p r size used born fs) (n:ByteArray) (hb:∀ f∈fs,f.b.length≤140737488355328):
  Calls Tryz.prog 34 #[.pointer (some ⟨p,0,none⟩),.string n] w fun e w'=>
   (match fileOf n fs with
    |none=>e= .returned (.tuple #[.slice none 0 0,.int .i64 4])
    |some f=>∃ v,e= .returned (.tuple #[v,.int .i64 0])∧aG w.heap.size w' v f.b)∧Grow w w':=by
 have hlk:=h.lookup n;obtain ⟨c0,c1,c2,c3⟩:=h.cells;have lp:=af h.self;cases hf:fileOf n fs with
 |none=>
  simp only [mj,hf] at hlk;have Hf:=ae hf;clear hf;go_enter Tryz.func34,Tryz.ntmps34;go_wp2;go_ret2;exact ⟨rfl,Grow.refl _⟩
 |some f=>
  simp only [mj,hf] at hlk;obtain ⟨hm,hn⟩:=rG hf;have bh:=h.files f hm;have aQ:=uJ (cy bh.row) (hb f hm);obtain ⟨ba,bc,bg⟩:=bh.row.slice;have q0:w.cell? ⟨f.fb,0,none⟩=some (.slice ba (cR f.b).length bc):=by simp [World.cell?,bh.cell,bg]
  have lf:=af bh.cell;rw [bg] at aQ;have fL:=ae aQ;clear aQ hf bh bg;go_enter Tryz.func34,Tryz.ntmps34
  go_wp2_with fail
  (with_reducible refine fL.out.mono ?_);rintro e w1 ⟨v1,rfl,mV,hg1⟩;go_wp2;go_ret2;exact ⟨⟨_,rfl,mV⟩,hg1⟩
end Go.Proofs.YtoolkdapflaeeaaGreatDoor
namespace Go.Proofs.YtoolkdapflaeeaaGreatDoor
open Go.RowKit Go.Gl Go.aH
abbrev Vw:=List (ByteArray×List UInt8×Nat)
def vw (fs:List Fe):Vw:=fs.map fun f=>(f.name,f.b,f.synced)
section
variable {B:Nat} {w w':World} {p r:Nat} {size used born:Int} {fs:List Fe}
theorem MC (h:(fs.map Fe.name).Nodup) {a b:Fe} (ha:a∈fs) (hb:b∈fs) (hk:a.name=b.name):a=b:=by
 induction fs with
 |nil=>cases ha
 |cons x fs ih=>
  simp only [List.map_cons,List.nodup_cons,List.mem_map,not_exists,not_and] at h;rcases List.mem_cons.1 ha with rfl|ha'<;>rcases List.mem_cons.1 hb with rfl|hb'
  ·rfl
  ·exact absurd hk.symm (h.1 b hb')
  ·exact absurd hk (h.1 a ha')
  ·exact ih h.2 ha' hb'
theorem RZ (h:(fs.map Fe.fb).Nodup) {a b:Fe} (ha:a∈fs) (hb:b∈fs) (hk:a.fb=b.fb):a=b:=by
 induction fs with
 |nil=>cases ha
 |cons x fs ih=>
  simp only [List.map_cons,List.nodup_cons,List.mem_map,not_exists,not_and] at h;rcases List.mem_cons.1 ha with rfl|ha'<;>rcases List.mem_cons.1 hb with rfl|hb'
  ·rfl
  ·exact absurd hk.symm (h.1 b hb')
  ·exact absurd hk (h.1 a ha')
  ·exact ih h.2 ha' hb'
theorem bM.Bq (h:bM B w p r size used born fs):p≠r:=by
 obtain ⟨c,hm,_⟩:=h.map;rintro rfl;rw [MapAt,h.self] at hm;cases hm
theorem bM.yN (h:bM B w p r size used born fs) {f:Fe} (hf:f∈fs):f.fb≠p∧f.fb≠r:=by
 obtain ⟨c,hm,_⟩:=h.map;have hc:=(h.files f hf).cell;constructor
 ·intro e;rw [e,h.self] at hc;simp at hc
 ·intro e;rw [e,hm] at hc;cases hc
theorem bM.tz (h:bM B w p r size used born fs) {f:Fe} (hf:f∈fs) {b:Nat} (hb:f.bv.ownBlock=some b):b≠p∧b≠r∧∀ g∈fs,b≠g.fb:=by
 obtain ⟨c,hm,_⟩:=h.map;obtain ⟨cur,hc⟩:=(h.files f hf).row.block hb;refine ⟨fun e=> ?_,fun e=> ?_,fun g hg e=> ?_⟩
 ·rw [e,h.self] at hc;cases hc
 ·rw [e,hm] at hc;cases hc
 ·rw [e,(h.files g hg).cell] at hc;cases hc
theorem bM.Ed (h:bM B w p r size used born fs) (rI:Int):bM B (w.setCell ⟨p,1,none⟩ (.int .i64 rI)) p r size rI born fs∧Sep (cN p r fs) w (w.setCell ⟨p,1,none⟩ (.int .i64 rI)) (cN p r fs):=by
 obtain ⟨c,hm,hc⟩:=h.map;have ho:∀ b,b≠p→(w.setCell ⟨p,1,none⟩ (.int .i64 rI)).heap[b]?=w.heap[b]?:=fun b hb=>aK _ _ _ _ hb
 refine ⟨⟨aI h.self 1 _,⟨c,(ho r (Ne.symm h.Bq)).trans hm,hc⟩,h.names,h.rD,h.rE,h.rows,fun f hf=> ?_,h.base.1,h.base.2.1,by simpa using h.base.2.2⟩,⟨rfl,rfl,rfl,by simp,fun b _ hn=>ho b (fun e=>hn (.inl e)),fun b hb=> .inl hb⟩⟩;have bh:=h.files f hf;exact ⟨(ho _ (h.yN hf).1).trans bh.cell,bh.row.keep (fun b hb=>ho b (h.tz hf hb).1),bh.base,bh.sync⟩
theorem bM.aao (h:bM B w p r size used born fs) {n:ByteArray} (hn:fileOf n fs=none) {c:Nat} (hm:MapAt w r Value.string (fs.map Fe.az) c) (hc:∀ f∈fs,f.born<c):
  bM B (cB (w.alloc (.cells #[.slice none 0 0,.int .i64 0] 165)) r (.map (((fs.map Fe.az)++ [(⟨n,.pointer (some ⟨w.heap.size,0,none⟩),c⟩:aF ByteArray)]).map (aF.raw Value.string)).toArray (c+1))) p r size used born (fs++ [⟨n,c,w.heap.size,.slice none 0 0,[],0⟩])∧
  Sep (cN p r fs) w (cB (w.alloc (.cells #[.slice none 0 0,.int .i64 0] 165)) r (.map (((fs.map Fe.az)++ [(⟨n,.pointer (some ⟨w.heap.size,0,none⟩),c⟩:aF ByteArray)]).map (aF.raw Value.string)).toArray (c+1))) (cN p r (fs++ [⟨n,c,w.heap.size,.slice none 0 0,[],0⟩])):=by
 have qj:=af hm;have hne:=Bp hn;generalize hw2:cB (w.alloc (.cells #[.slice none 0 0,.int .i64 0] 165)) r (.map (((fs.map Fe.az)++ [(⟨n,.pointer (some ⟨w.heap.size,0,none⟩),c⟩:aF ByteArray)]).map (aF.raw Value.string)).toArray (c+1))=w2;have ho:∀ b,b<w.heap.size→b≠r→w2.heap[b]?=w.heap[b]?:=fun b hb hbr=>by
  rw [←hw2,wC hbr];exact heap_alloc_old _ _ hb
 have hr2:MapAt w2 r Value.string ((fs++ [(⟨n,c,w.heap.size,.slice none 0 0,[],0⟩:Fe)]).map Fe.az) (c+1):=by
  rw [←hw2];unfold MapAt;rw [yE (by simp;omega)];simp [Fe.az]
 have gO:w2.heap[w.heap.size]?=some (.cells #[.slice none 0 0,.int .i64 0] 165 (0,0)):=by
  rw [←hw2,wC (by omega)];exact aw _ _
 have hsz:w2.heap.size=w.heap.size+1:=by rw [←hw2];simp [cB]
 refine ⟨⟨(ho p (af h.self) h.Bq).trans h.self,⟨c+1,hr2,fun f hf=> ?_⟩,?_,?_,?_,?_,?_,h.base.1,h.base.2.1,by have:=h.base.2.2;omega⟩,⟨by rw [←hw2];rfl,by rw [←hw2];rfl,by rw [←hw2];rfl,by omega,fun b hb Br=>ho b hb (fun e=>Br (.inr (.inl e))),?_⟩⟩
 ·rcases List.mem_append.1 hf with h1|h1
  ·have:=hc f h1;omega
  ·obtain rfl:=cY.1 h1;simp
 ·rw [List.map_append]
  refine List.nodup_append.2 ⟨h.names,by simp,fun a ha b hb=> ?_⟩;simp only [List.map_cons,List.map_nil,cY] at hb;subst hb;obtain ⟨f,hf,rfl⟩:=List.mem_map.1 ha;exact Ne.symm (hne f hf)
 ·rw [List.map_append]
  refine List.nodup_append.2 ⟨h.rD,by simp,fun a ha b hb=> ?_⟩;simp only [List.map_cons,List.map_nil,cY] at hb;subst hb;obtain ⟨f,hf,rfl⟩:=List.mem_map.1 ha;have:=hc f hf;omega
 ·rw [List.map_append]
  refine List.nodup_append.2 ⟨h.rE,by simp,fun a ha b hb=> ?_⟩;simp only [List.map_cons,List.map_nil,cY] at hb;subst hb;obtain ⟨f,hf,rfl⟩:=List.mem_map.1 ha;have:=af (h.files f hf).cell;omega
 ·intro f hf g hg b hb1 hb2
  rcases List.mem_append.1 hf with h1|h1
  ·rcases List.mem_append.1 hg with h2|h2
   ·exact h.rows f h1 g h2 b hb1 hb2
   ·obtain rfl:=cY.1 h2;cases hb2
  ·obtain rfl:=cY.1 h1;cases hb1
 ·intro f hf
  rcases List.mem_append.1 hf with h1|h1
  ·have bh:=h.files f h1
   exact ⟨(ho _ (af bh.cell) (h.yN h1).2).trans bh.cell,bh.row.keep (fun b hb=>ho b (bh.row.lt hb).2 (h.tz h1 hb).2.1),bh.base,bh.sync⟩
  ·obtain rfl:=cY.1 h1
   exact ⟨gO,mi _ _ _,h.base.2.2,ay _⟩
 ·rintro b (rfl|rfl|⟨f,hf,hb⟩)
  ·exact .inl (.inl rfl)
  ·exact .inl (.inr (.inl rfl))
  ·rcases List.mem_append.1 hf with h1|h1
   ·exact .inl (.inr (.inr ⟨f,h1,hb⟩))
   ·obtain rfl:=cY.1 h1
    rcases hb with rfl|hb
    ·exact .inr (ay _)
    ·cases hb
def jf (n:ByteArray) (v:Value) (x:List UInt8) (s:Nat) (fs:List Fe):List Fe:=fs.map fun g=>if g.name=n then {g with bv:=v,b:=x,synced:=s} else g
theorem HZ {n:ByteArray} {v:Value} {x:List UInt8} {s:Nat} {g:Fe} (h:g∈jf n v x s fs):∃ g0∈fs,g.name=g0.name∧g.fb=g0.fb∧g.born=g0.born∧((g0.name=n∧g.bv=v∧g.b=x∧g.synced=s)∨(g0.name≠n∧g=g0)):=by
 obtain ⟨g0,h0,rfl⟩:=List.mem_map.1 h;refine ⟨g0,h0,?_⟩;by_cases hn:g0.name=n
 ·rw [if_pos hn];exact ⟨rfl,rfl,rfl,.inl ⟨hn,rfl,rfl,rfl⟩⟩
 ·rw [if_neg hn];exact ⟨rfl,rfl,rfl,.inr ⟨hn,rfl⟩⟩
theorem aoI (n:ByteArray) (v:Value) (x:List UInt8) (s:Nat) (fs:List Fe):(jf n v x s fs).map Fe.az=fs.map Fe.az:=by
 unfold jf;rw [List.map_map];refine List.map_congr_left fun g _=> ?_
 simp only [Function.comp]
 split<;>rfl
theorem aoJ (n:ByteArray) (v:Value) (x:List UInt8) (s:Nat) (fs:List Fe):(jf n v x s fs).map Fe.name=fs.map Fe.name:=by
 unfold jf;rw [List.map_map];refine List.map_congr_left fun g _=> ?_
 simp only [Function.comp]
 split<;>rfl
theorem aoK (n:ByteArray) (v:Value) (x:List UInt8) (s:Nat) (fs:List Fe):(jf n v x s fs).map Fe.born=fs.map Fe.born:=by
 unfold jf;rw [List.map_map];refine List.map_congr_left fun g _=> ?_
 simp only [Function.comp]
 split<;>rfl
theorem aoL (n:ByteArray) (v:Value) (x:List UInt8) (s:Nat) (fs:List Fe):(jf n v x s fs).map Fe.fb=fs.map Fe.fb:=by
 unfold jf;rw [List.map_map];refine List.map_congr_left fun g _=> ?_
 simp only [Function.comp]
 split<;>rfl
theorem bM.put (h:bM B w p r size used born fs) {f:Fe} (hf:f∈fs) {w1 w2:World} {v:Value} {x:List UInt8} {s:Nat} (hrow:aG B w1 v x) (hgr:w.grownBy w1 f.bv.ownBlock) (hown:∀ b,v.ownBlock=some b→f.bv.ownBlock=some b∨w.heap.size≤b)
  (h2:w2.heap[f.fb]?=some (.cells #[v,.int .i64 s] 165 (0,0))) (rJ:w1.grownBy w2 (some f.fb)) (hs:s≤x.length):
  bM B w2 p r size used born (jf f.name v x s fs)∧Sep (cN p r fs) w w2 (cN p r (jf f.name v x s fs)):=by
 obtain ⟨c,hm,hc⟩:=h.map;have ho:∀ b,b<w.heap.size→f.bv.ownBlock≠some b→b≠f.fb→w2.heap[b]?=w.heap[b]?:=fun b hb h1 h3=>by
  rw [rJ.block b (cj hb hgr.size) (fun e=>h3 (bB e)),hgr.block b hb (fun e=>h1 e.symm)]
 have aoM:f.bv.ownBlock≠some p:=fun e=>(h.tz hf e).1 rfl
 have aoN:f.bv.ownBlock≠some r:=fun e=>(h.tz hf e).2.1 rfl
 have iO:∀ b,v.ownBlock=some b→b≠f.fb:=fun b hb e=>by
  rcases hown b hb with h1|h1
  ·exact (h.tz hf h1).2.2 f hf e
  ·have:=af (h.files f hf).cell;omega
 have hsz:w.heap.size≤w2.heap.size:=aN hgr.size rJ.size;refine ⟨⟨(ho p (af h.self) aoM (Ne.symm (h.yN hf).1)).trans h.self,⟨c,by rw [aoI];exact (ho r (af hm) aoN (Ne.symm (h.yN hf).2)).trans hm,fun g hg=> ?_⟩,by rw [aoJ];exact h.names,by rw [aoK];exact h.rD,by rw [aoL];exact h.rE,?_,?_,h.base.1,h.base.2.1,aN h.base.2.2 hsz⟩,
  ⟨rJ.os.trans hgr.os,rJ.tape.trans hgr.tape,rJ.output.trans hgr.output,hsz,fun b hb hn=>ho b hb (fun e=>hn (.inr (.inr ⟨f,hf,.inr e⟩))) (fun e=>hn (.inr (.inr ⟨f,hf,.inl e⟩))),?_⟩⟩
 ·obtain ⟨g0,h0,_,_,hb,_⟩:=HZ hg
  rw [hb];exact hc g0 h0
 ·intro g hg g' eA b hb1 hb2
  obtain ⟨g0,h0,gD,Ia,_,hc0⟩:=HZ hg;obtain ⟨g1,h1,gQ,aDw,_,hc1⟩:=HZ eA;rw [gD,gQ];rcases hc0 with ⟨e0,hv0,_,_⟩|⟨e0,rfl⟩<;>rcases hc1 with ⟨e1,yO,_,_⟩|⟨e1,rfl⟩
  ·rw [e0,e1]
  ·exfalso
   rw [hv0] at hb1;rcases hown b hb1 with h3|h3
   ·exact e1 (h.rows g' h1 f hf b hb2 h3)
   ·have:=((h.files g' h1).row.lt hb2).2;omega
  ·exfalso
   rw [yO] at hb2;rcases hown b hb2 with h3|h3
   ·exact e0 (h.rows g h0 f hf b hb1 h3)
   ·have:=((h.files g h0).row.lt hb1).2;omega
  ·exact h.rows g h0 g' h1 b hb1 hb2
 ·intro g hg
  obtain ⟨g0,h0,gD,Ia,_,hc0⟩:=HZ hg;rcases hc0 with ⟨e0,hv0,hb0,hs0⟩|⟨e0,rfl⟩
  ·have iP:g0=f:=MC h.names h0 hf e0
   subst iP;refine ⟨by rw [Ia,hv0,hs0];exact h2,?_,by rw [Ia];exact (h.files g0 h0).base,by rw [hs0,hb0];exact hs⟩;rw [hv0,hb0];exact hrow.keep (fun b hb=>rJ.block b (hrow.lt hb).2 (fun e=>iO b hb (bB e)))
  ·have bh:=h.files g h0
   have hne:∀ b,g.bv.ownBlock=some b→f.bv.ownBlock≠some b:=fun b hb e=>e0 (h.rows g h0 f hf b hb e)
   have aoO:g.fb≠f.fb:=fun e=>e0 (by rw [RZ h.rE h0 hf e])
   exact ⟨(ho _ (af bh.cell) (fun e=>(h.tz hf e).2.2 g h0 rfl) aoO).trans bh.cell,bh.row.keep (fun b hb=>ho b (bh.row.lt hb).2 (hne b hb) ((h.tz h0 hb).2.2 f hf)),bh.base,bh.sync⟩
 ·rintro b (rfl|rfl|⟨g,hg,hb⟩)
  ·exact .inl (.inl rfl)
  ·exact .inl (.inr (.inl rfl))
  ·obtain ⟨g0,h0,gD,Ia,_,hc0⟩:=HZ hg
   rcases hb with rfl|hb
   ·exact .inl (.inr (.inr ⟨g0,h0,.inl Ia⟩))
   ·rcases hc0 with ⟨e0,hv0,_,_⟩|⟨e0,rfl⟩
    ·rw [hv0] at hb
     rcases hown b hb with h3|h3
     ·exact .inl (.inr (.inr ⟨f,hf,.inr h3⟩))
     ·exact .inr h3
    ·exact .inl (.inr (.inr ⟨g,h0,.inr hb⟩))
end
end Go.Proofs.YtoolkdapflaeeaaGreatDoor
namespace Go.Proofs.YtoolkdapflaeeaaGreatDoor
open Go.RowKit Go.Gl Go.aH
theorem Bv.keep {w w':World} {v:Value} {l:List UInt8} (h:Bv w v l) (hs:w.heap.size≤w'.heap.size) (hk:∀ (b:Nat) (arr:Array Value) (t:TypeId) (f:Nat×Nat),w.heap[b]?=some (.cells arr t f)→w'.heap[b]?=w.heap[b]?):Bv w' v l:=by
 obtain ⟨a,c,hv,hl,hm,hn,h⟩:=h;refine ⟨a,c,hv,hl,hm,hn,?_⟩;rcases h with h|⟨b,o,ha,hb,hc⟩
 ·exact .inl h
 ·refine .inr ⟨b,o,ha,by omega,fun j k hj=> ?_⟩
  have h1:=hc j k hj;have:w'.heap[b]?=w.heap[b]?:=by
   unfold World.cell? at h1
   split at h1
   ·rename_i arr t f gR
    exact hk b _ _ _ gR
   ·cases h1
  rw [←h1];simp only [World.cell?,this]
def rK (n:ByteArray) (x:List UInt8) (V:Vw):Vw:=if V.any (fun e=>decide (e.1=n))=true then V.map (fun e=>if e.1=n then (e.1,e.2.1++x,e.2.2) else e) else V++ [(n,x,0)]
theorem aoP {fs:List Fe} (h:(fs.map Fe.name).Nodup) {f:Fe} (hf:f∈fs) (v:Value) (x:List UInt8):vw (jf f.name v (f.b++x) f.synced fs)=rK f.name x (vw fs):=by
 unfold rK;have aoQ:(vw fs).any (fun e=>decide (e.1=f.name))=true:=List.any_eq_true.2 ⟨_,List.mem_map.2 ⟨f,hf,rfl⟩,by simp⟩;rw [if_pos aoQ];unfold vw jf;rw [List.map_map,List.map_map];refine List.map_congr_left fun g hg=> ?_
 simp only [Function.comp];by_cases hn:g.name=f.name
 ·have:=MC h hg hf hn
  subst this;simp
 ·simp [hn]
theorem aoR {fs:List Fe} {n:ByteArray} (h:fileOf n fs=none) (c b:Nat) (v:Value) (x:List UInt8):vw (fs++ [(⟨n,c,b,v,x,0⟩:Fe)])=rK n x (vw fs):=by
 unfold rK;rw [if_neg]
 ·simp [vw]
 ·intro hc
  obtain ⟨e,he,h2⟩:=List.any_eq_true.1 hc;obtain ⟨f,hf,rfl⟩:=List.mem_map.1 he;exact Bp h f hf (by simpa using h2:f.name=n).symm
def Ib (B:Nat) (w:World) (p r:Nat) (size used born:Int) (fs:List Fe) (n:ByteArray) (x:List UInt8) (e:Ending) (w':World):Prop:=
 e= .returned (.int .i64 0)∧∃ br,bM B w' p r size (used+x.length) born br∧Sep (cN p r fs) w w' (cN p r br)∧vw br=rK n x (vw fs)
theorem aoS {B:Nat} {w:World} {p r:Nat} {size used born:Int} {fs:List Fe} (h:bM B w p r size used born fs) {n:ByteArray} {f:Fe} (eN:fileOf n fs=some f) (hn:jC n)
  {qb:Nat} {pv:Value} {x:List UInt8} (hq:w.heap[qb]?=some (.cells #[pv] 49 (0,0))) (hx:Bv w pv x) (hu:0≤used) (hroom:used+x.length≤size) (hsz:size≤1073741824) (dA:f.b.length≤1073741824):
  Calls Tryz.prog 78 #[.pointer (some ⟨p,0,none⟩),.string n,.slice (some ⟨qb,0,none⟩) 1 1] w (Ib B w p r size used born fs n x):=by
 obtain ⟨c0,c1,c2,c3⟩:=h.cells;have lp:=af h.self;have p0:w.cell? ⟨qb,0,none⟩=some pv:=by simp [World.cell?,hq]
 have lq:=af hq;obtain ⟨xa,xc,rfl⟩:=hx.slice;have aap:¬ size<used+(x.length:Int):=by omega
 have Sc:decide (size<used+(x.length:Int))=false:=by simpa using hroom
 have bS:IntKind.i64.wrap (used+(x.length:Int))=used+(x.length:Int):=aR _ (by omega);have H:=ae h;have Hx:=ae hx;have kr:=ae eN;have Hq:=ae hq;have aQ:=Grow.cells (w:=w);clear h hx eN hq;go_enter Tryz.func78,Tryz.ntmps78
 go_wp2_with fail
 refine wp_loop_rounds 2 ?_;rw [rounds_succ]
 go_wp2_with fail
 rw [rounds_succ]
 go_wp2_with ((with_reducible refine (Ec hn _).mono ?_);rintro e w1 ⟨rfl,hw⟩;have hw':=hw.symm;subst hw';clear hw)
 refine bX (fun W=>Below w.heap.size w W) [(0,false),(1,false),(2,false),(3,false),(4,false),(5,false),(6,false),(7,false),(8,false),(9,false),(10,false),(11,false)] (by kernel_rfl) (by kernel_rfl) (fun c a d v w h=>by cases d<;>exact h) (Grow.drew _) ?_;simp only [aP,nth]
 repeat (first|(refine aB (v:= ?_) (by rfl) ?_ ?_;rotate_left;(rintro W hW;go_simp;with_reducible rfl);simp only [ag,List.set])|(refine aC (by rfl) ?_;simp only [ag,List.set]))
 refine bm ?_;have hgd:Grow w w.drew:=Grow.drew w;have h1:=H.out.grow hgd;have hx1:=Hx.out.grow hgd;have yP:=ae (hgd.heap Hq.out);clear c0 c1 c2 c3 lp p0 lq aQ;have hd:w.drew=w.drew:=rfl;generalize Ic:w.drew=w1 at*;clear hd;have hlk:=h1.lookup n;obtain ⟨c0,c1,c2,c3⟩:=h1.cells;have lp:=af h1.self;obtain ⟨hm,gG⟩:=rG kr.out;simp only [mj,kr.out] at hlk;have bh:=h1.files f hm;have p0:w1.cell? ⟨qb,0,none⟩=some (.slice xa x.length xc):=by simp [World.cell?,yP.out]
 have lq:=af yP.out;obtain ⟨v',w2,r1,r2,r3,r4⟩:=qh bh.row hx1 h1.base.2.2 (by omega);obtain ⟨rL,rM,rfl⟩:=r2.slice;obtain ⟨ba,bc,bg⟩:=bh.row.slice;have q0:w1.cell? ⟨f.fb,0,none⟩=some (.slice ba (cR f.b).length bc):=by simp [World.cell?,bh.cell,bg]
 have lf:=af bh.cell;have aoT:f.bv.ownBlock≠some f.fb:=fun e=>(h1.tz hm e).2.2 f hm rfl
 have Ie:w2.heap[f.fb]?=some (.cells #[f.bv,.int .i64 f.synced] 165 (0,0)):=by rw [r3.block _ lf (fun e=>aoT e.symm)];exact bh.cell
 have hput:=h1.put hm (w2:=w2.setCell ⟨f.fb,0,none⟩ (.slice rL (cR (f.b++x)).length rM)) (s:=f.synced) r2 r3 (fun b hb=>by
  rcases r4 with h3|h3
  ·exact .inl (h3 ▸ hb)
  ·rw [h3] at hb;cases hb;exact .inr (ay _)) (aI Ie 0 _) (iJ _ _ _ _) (by have:=bh.sync;simp;omega)
 obtain ⟨cn,hs2⟩:=hput;obtain ⟨eV,hs3⟩:=cn.Ed (used+x.length);have fK:Hid (Ib B w p r size used born fs n x (.returned (.int .i64 0)) ((w2.setCell ⟨f.fb,0,none⟩ (.slice rL (cR (f.b++x)).length rM)).setCell ⟨p,1,none⟩ (.int .i64 (used+x.length)))):=ae ⟨rfl,_,eV,((Sep.bF hgd).trans hs2).trans hs3,by rw [aoP H.out.names hm,gG]⟩;obtain ⟨e0,e1,e2,e3⟩:=cn.cells;have l2:=af Ie;have MD:=af cn.self;have f2:∀ i,w2.frozen? ⟨f.fb,i,none⟩=false:=fun i=>by simp [World.frozen?,Ie]
 have z0:w2.cell? ⟨f.fb,0,none⟩=some f.bv:=by simp [World.cell?,Ie]
 have f3:∀ i,(w2.setCell ⟨f.fb,0,none⟩ (.slice rL (cR (f.b++x)).length rM)).frozen? ⟨p,i,none⟩=false:=fun i=>by simp [World.frozen?,cn.self]
 rw [bg] at r1;have dC:=ae r1;clear r1 r2 r3 r4 cn hs2 eV hs3 Ie bh bg h1 hx1 hm gG Ic hgd
 go_wp2_with fail
 refine wp_loop_rounds 2 ?_;rw [rounds_succ]
 go_wp2_with (at_builtin;refine fC rfl rfl rfl rfl dC.out ?_)
 rw [rounds_succ];go_wp2;go_ret;exact fK.out
theorem aoU {B:Nat} {w:World} {p r:Nat} {size used born:Int} {fs:List Fe} (h:bM B w p r size used born fs) {n:ByteArray} (eN:fileOf n fs=none) (hn:jC n)
  {qb:Nat} {pv:Value} {x:List UInt8} (hq:w.heap[qb]?=some (.cells #[pv] 49 (0,0))) (hx:Bv w pv x) (hu:0≤used) (hroom:used+x.length≤size) (hsz:size≤1073741824):
  Calls Tryz.prog 78 #[.pointer (some ⟨p,0,none⟩),.string n,.slice (some ⟨qb,0,none⟩) 1 1] w (Ib B w p r size used born fs n x):=by
 obtain ⟨c0,c1,c2,c3⟩:=h.cells;have lp:=af h.self;have p0:w.cell? ⟨qb,0,none⟩=some pv:=by simp [World.cell?,hq]
 have lq:=af hq;obtain ⟨xa,xc,rfl⟩:=hx.slice;have aap:¬ size<used+(x.length:Int):=by omega
 have Sc:decide (size<used+(x.length:Int))=false:=by simpa using hroom
 have bS:IntKind.i64.wrap (used+(x.length:Int))=used+(x.length:Int):=aR _ (by omega);have H:=ae h;have Hx:=ae hx;have kr:=ae eN;have Hq:=ae hq;have aQ:=Grow.cells (w:=w);clear h hx eN hq;go_enter Tryz.func78,Tryz.ntmps78
 go_wp2_with fail
 refine wp_loop_rounds 2 ?_;rw [rounds_succ]
 go_wp2_with fail
 rw [rounds_succ]
 go_wp2_with ((with_reducible refine (Ec hn _).mono ?_);rintro e w1 ⟨rfl,hw⟩;have hw':=hw.symm;subst hw';clear hw)
 refine bX (fun W=>Below w.heap.size w W) [(0,false),(1,false),(2,false),(3,false),(4,false),(5,false),(6,false),(7,false),(8,false),(9,false),(10,false),(11,false)] (by kernel_rfl) (by kernel_rfl) (fun c a d v w h=>by cases d<;>exact h) (Grow.drew _) ?_;simp only [aP,nth]
 repeat (first|(refine aB (v:= ?_) (by rfl) ?_ ?_;rotate_left;(rintro W hW;go_simp;with_reducible rfl);simp only [ag,List.set])|(refine aC (by rfl) ?_;simp only [ag,List.set]))
 refine bm ?_;have hgd:Grow w w.drew:=Grow.drew w;have h1:=H.out.grow hgd;have hx1:=Hx.out.grow hgd;have yP:=ae (hgd.heap Hq.out);clear c0 c1 c2 c3 lp p0 lq aQ;generalize Ic:w.drew=w1 at*;have hlk:=h1.lookup n;obtain ⟨c0,c1,c2,c3⟩:=h1.cells;have lp:=af h1.self;simp only [mj,kr.out] at hlk;obtain ⟨ck,hmap,gH⟩:=h1.map;obtain ⟨cn,hs2⟩:=h1.aao kr.out hmap gH;have ai:Grow w1 (w1.alloc (.cells #[.slice none 0 0,.int .i64 0] 165)):=Grow.alloc _ _;have ME:=Mo yK Tryz.underlying123 (ai.heap hmap) n (.pointer (some ⟨w1.heap.size,0,none⟩)) (fun e he=>by
  obtain ⟨f,hf,rfl⟩:=List.mem_map.1 he;exact Bp kr.out f hf)
 have aaq:(w1.alloc (.cells #[.slice none 0 0,.int .i64 0] 165)).cell? ⟨p,3,none⟩=some (.map (some r)):=by rw [World.cell?_alloc_lt _ _ _ lp];exact c3
 have hro:∀ (b:Nat) (arr:Array Value) (t:TypeId) (f:Nat×Nat),w1.heap[b]?=some (.cells arr t f)→(cB (w1.alloc (.cells #[.slice none 0 0,.int .i64 0] 165)) r (.map (((fs.map Fe.az)++ [(⟨n,.pointer (some ⟨w1.heap.size,0,none⟩),ck⟩:aF ByteArray)]).map (aF.raw Value.string)).toArray (ck+1))).heap[b]?=w1.heap[b]?:=fun b arr t f hb=>by
  rw [wC (fun e=>by rw [e,hmap] at hb;cases hb)];exact heap_alloc_old _ _ (af hb)
 have hx2:=hx1.keep (by simp [cB]) hro;have jg:=(hro _ _ _ _ yP.out).trans yP.out;have aDx:=jg;clear hro;have lp1:p<(w1.alloc (.cells #[.slice none 0 0,.int .i64 0] 165)).heap.size:=cj lp ai.size;generalize Sd:cB (w1.alloc (.cells #[.slice none 0 0,.int .i64 0] 165)) r (.map (((fs.map Fe.az)++ [(⟨n,.pointer (some ⟨w1.heap.size,0,none⟩),ck⟩:aF ByteArray)]).map (aF.raw Value.string)).toArray (ck+1))=w2 at*;clear Sd;have oZ:=ae ((Sep.bF hgd).trans hs2);have rN:=ae cn;have Hx2:=ae hx2;have Hq2:=ae jg;clear hmap gH h1 hx1 hs2 cn hx2 jg ai Ic hgd yP
 go_upto_region 15 with fail
 clear ME aaq lp1 c0 c1 c2 c3 lp hlk;generalize w1.heap.size=fb at*;have cn:=rN.out;have hm:(⟨n,ck,fb,.slice none 0 0,[],0⟩:Fe)∈fs++ [(⟨n,ck,fb,.slice none 0 0,[],0⟩:Fe)]:=by simp
 have bh:=cn.files _ hm;have p0:w2.cell? ⟨qb,0,none⟩=some (.slice xa x.length xc):=by simp [World.cell?,Hq2.out]
 have lq:=af Hq2.out;obtain ⟨v',w3,r1,r2,r3,r4⟩:=qh bh.row Hx2.out cn.base.2.2 (by simp;omega);obtain ⟨rL,rM,rfl⟩:=r2.slice;have MF:w2.heap[fb]?=some (.cells #[.slice none 0 0,.int .i64 0] 165 (0,0)):=bh.cell;have q0:w2.cell? ⟨fb,0,none⟩=some (.slice none 0 0):=by simp [World.cell?,MF]
 have lf:=af MF;have Ig:w3.heap[fb]?=some (.cells #[.slice none 0 0,.int .i64 0] 165 (0,0)):=by rw [r3.block _ lf (fun e=>by cases e)];exact MF
 obtain ⟨eV,hs3⟩:=cn.put hm (w2:=w3.setCell ⟨fb,0,none⟩ (.slice rL (cR ([]++x)).length rM)) (s:=0) r2 r3 (fun b hb=>by
  rcases r4 with h3|h3
  ·exact .inl (h3 ▸ hb)
  ·rw [h3] at hb;cases hb;exact .inr (ay _)) (aI Ig 0 _) (iJ _ _ _ _) (bk _)
 obtain ⟨jh,ji⟩:=eV.Ed (used+x.length);have Ee:vw (jf n (.slice rL (cR ([]++x)).length rM) ([]++x) 0 (fs++ [(⟨n,ck,fb,.slice none 0 0,[],0⟩:Fe)]))=rK n x (vw fs):=by
  rw [←aoR kr.out ck fb (.slice none 0 0) x];unfold vw jf;rw [List.map_map,List.map_append,List.map_append];congr 1
  ·refine List.map_congr_left fun g hg=> ?_
   have:g.name≠n:=Ne.symm (Bp kr.out g hg);simp [Function.comp,this]
  ·simp
 have fK:Hid (Ib B w p r size used born fs n x (.returned (.int .i64 0)) ((w3.setCell ⟨fb,0,none⟩ (.slice rL (cR ([]++x)).length rM)).setCell ⟨p,1,none⟩ (.int .i64 (used+x.length)))):=ae ⟨rfl,_,jh,(oZ.out.trans hs3).trans ji,Ee⟩;generalize mW:(cR ([]++x)).length=ln at*;obtain ⟨e0,e1,e2,e3⟩:=eV.cells;have l2:=af Ig;have MD:=af eV.self;have f2:∀ i,w3.frozen? ⟨fb,i,none⟩=false:=fun i=>by simp [World.frozen?,Ig]
 have z0:w3.cell? ⟨fb,0,none⟩=some (.slice none 0 0):=by simp [World.cell?,Ig]
 have f3:∀ i,(w3.setCell ⟨fb,0,none⟩ (.slice rL ln rM)).frozen? ⟨p,i,none⟩=false:=fun i=>by simp [World.frozen?,eV.self]
 have dC:=ae r1;clear r1 r2 r3 r4 cn eV hs3 jh ji Ig bh hm MF Ee mW
 go_wp2_with fail
 refine wp_loop_rounds 2 ?_;rw [rounds_succ]
 go_wp2_with (at_builtin;refine fC rfl rfl rfl rfl dC.out ?_)
 rw [rounds_succ];go_wp2;go_ret;exact fK.out
theorem aoW {B:Nat} {w:World} {p r:Nat} {size used born:Int} {fs:List Fe} (h:bM B w p r size used born fs) {n:ByteArray} (eN:fileOf n fs=none) (hn:jC n)
  (hu:0≤used) (hroom:used≤size) (hsz:size≤1073741824):
  Calls Tryz.prog 78 #[.pointer (some ⟨p,0,none⟩),.string n,.slice none 0 0] w fun e w'=>e= .returned (.int .i64 0)∧∃ br,bM B w' p r size used born br∧Sep (cN p r fs) w w' (cN p r br)∧vw br=vw fs++ [(n,[],0)]:=by
 obtain ⟨c0,c1,c2,c3⟩:=h.cells;have lp:=af h.self;have aap:¬ size<used:=by omega
 have Sc:decide (size<used)=false:=by simpa using hroom
 have bS:IntKind.i64.wrap used=used:=aR _ (by omega);have H:=ae h;have kr:=ae eN;have aQ:=Grow.cells (w:=w);clear h eN;go_enter Tryz.func78,Tryz.ntmps78
 go_wp2_with fail
 refine wp_loop_rounds 1 ?_;rw [rounds_succ]
 go_wp2_with ((with_reducible refine (Ec hn _).mono ?_);rintro e w1 ⟨rfl,hw⟩;have hw':=hw.symm;subst hw';clear hw)
 refine bX (fun W=>Below w.heap.size w W) [(0,false),(1,false),(2,false),(3,false),(4,false),(5,false),(6,false),(7,false),(8,false),(9,false),(10,false),(11,false)] (by kernel_rfl) (by kernel_rfl) (fun c a d v w h=>by cases d<;>exact h) (Grow.drew _) ?_;simp only [aP,nth]
 repeat (first|(refine aB (v:= ?_) (by rfl) ?_ ?_;rotate_left;(rintro W hW;go_simp;with_reducible rfl);simp only [ag,List.set])|(refine aC (by rfl) ?_;simp only [ag,List.set]))
 refine bm ?_;have hgd:Grow w w.drew:=Grow.drew w;have h1:=H.out.grow hgd;clear c0 c1 c2 c3 lp aQ;generalize Ic:w.drew=w1 at*;have hlk:=h1.lookup n;obtain ⟨c0,c1,c2,c3⟩:=h1.cells;have lp:=af h1.self;simp only [mj,kr.out] at hlk;obtain ⟨ck,hmap,gH⟩:=h1.map;obtain ⟨cn,hs2⟩:=h1.aao kr.out hmap gH;have ai:Grow w1 (w1.alloc (.cells #[.slice none 0 0,.int .i64 0] 165)):=Grow.alloc _ _;have ME:=Mo yK Tryz.underlying123 (ai.heap hmap) n (.pointer (some ⟨w1.heap.size,0,none⟩)) (fun e he=>by
  obtain ⟨f,hf,rfl⟩:=List.mem_map.1 he;exact Bp kr.out f hf)
 have aaq:(w1.alloc (.cells #[.slice none 0 0,.int .i64 0] 165)).cell? ⟨p,3,none⟩=some (.map (some r)):=by rw [World.cell?_alloc_lt _ _ _ lp];exact c3
 have lp1:p<(w1.alloc (.cells #[.slice none 0 0,.int .i64 0] 165)).heap.size:=cj lp ai.size;generalize Sd:cB (w1.alloc (.cells #[.slice none 0 0,.int .i64 0] 165)) r (.map (((fs.map Fe.az)++ [(⟨n,.pointer (some ⟨w1.heap.size,0,none⟩),ck⟩:aF ByteArray)]).map (aF.raw Value.string)).toArray (ck+1))=w2 at*;clear Sd;obtain ⟨jh,ji⟩:=cn.Ed used;obtain ⟨e0,e1,e2,e3⟩:=cn.cells;have MD:=af cn.self;have f3:∀ i,w2.frozen? ⟨p,i,none⟩=false:=fun i=>by simp [World.frozen?,cn.self]
 have fK:Hid (∃ br,bM B (w2.setCell ⟨p,1,none⟩ (.int .i64 used)) p r size used born br∧Sep (cN p r fs) w (w2.setCell ⟨p,1,none⟩ (.int .i64 used)) (cN p r br)∧vw br=vw fs++ [(n,[],0)]):=ae ⟨_,jh,((Sep.bF hgd).trans hs2).trans ji,by simp [vw]⟩;clear hmap gH h1 hs2 cn ai Ic hgd jh ji
 go_wp2_with fail
 refine wp_loop_rounds 1 ?_;rw [rounds_succ];go_wp2;go_ret;exact ⟨rfl,fK.out⟩
theorem aoX {B:Nat} {w:World} {p r:Nat} {size used born:Int} {fs:List Fe} (h:bM B w p r size used born fs) (n:ByteArray) {bx:Nat} (hb:w.heap[bx]?=some (.cells #[.pointer (some ⟨p,0,none⟩)] 40 (0,0))):
  Calls Tryz.prog 163 #[.string n,.pointer (some ⟨bx,0,none⟩)] w fun e w'=>e= .returned (.bool (fileOf n fs).isNone)∧w'=w:=by
 have hlk:=h.lookup n;obtain ⟨c0,c1,c2,c3⟩:=h.cells;have lp:=af h.self;have b0:w.cell? ⟨bx,0,none⟩=some (.pointer (some ⟨p,0,none⟩)):=by simp [World.cell?,hb]
 have lb:=af hb;cases hf:fileOf n fs with
 |none=>
  simp only [mj,hf] at hlk;clear hf;go_enter Tryz.func163,Tryz.ntmps163;go_wp2;go_ret;exact ⟨rfl,rfl⟩
 |some f=>
  simp only [mj,hf] at hlk;clear hf;go_enter Tryz.func163,Tryz.ntmps163;go_wp2;go_ret;exact ⟨rfl,rfl⟩
theorem aat {w:World} {n:ByteArray} {qb:Nat} (hq:w.heap[qb]?=some (.cells #[.string n] 9 (0,0))) {fn:FuncId} {fv:Value} {b:Bool} (hfn:∃ F,Tryz.prog.funcs[fn]?=some F∧F.params.size=1)
  (hc:Calls Tryz.prog fn #[.string n,fv] w fun e w'=>e= .returned (.bool b)∧w'=w) (aoY:∀ args w,(callFunc fn args).run Tryz.prog w= .ok (.enter fn args) w):
  Calls Tryz.prog 69 #[.slice (some ⟨qb,0,none⟩) 1 1,.func (.func fn) #[] #[fv]] w fun e w'=>e= .returned (.bool b)∧w'=w:=by
 have q0:w.cell? ⟨qb,0,none⟩=some (.string n):=by simp [World.cell?,hq]
 have lq:=af hq;have Bu:Calls Tryz.prog 120 #[.slice (some ⟨qb,0,none⟩) 1 1,.func (.func fn) #[] #[fv]] w fun e w'=>e= .returned (.int .i64 (if b then 0 else -1))∧w'=w:=by
  have Hc:=ae hc;clear hc hq;go_enter Tryz.func120,Tryz.ntmps120
  go_wp2_with fail
  refine wp_loop_rounds 2 ?_;rw [rounds_succ]
  go_wp2_with fail
  (with_reducible refine Hc.out.mono ?_);rintro e w1 ⟨rfl,hw⟩;have hw':=hw.symm;subst hw';clear hw;cases b with
  |true=>
   go_wp2;go_ret;exact ⟨rfl,rfl⟩
  |false=>
   go_wp2_with fail
   rw [rounds_succ];go_wp2;go_ret;exact ⟨rfl,rfl⟩
 have Ef:=ae Bu;clear Bu hc hq;go_enter Tryz.func69,Tryz.ntmps69
 go_wp2_with fail
 (with_reducible refine Ef.out.mono ?_);rintro e w1 ⟨rfl,hw⟩;have hw':=hw.symm;subst hw';clear hw;cases b<;>(go_wp2;go_ret;exact ⟨rfl,rfl⟩)
theorem Sg {B:Nat} {w:World} {p r:Nat} {size used born:Int} {fs:List Fe} (h:bM B w p r size used born fs) (n:ByteArray) {qb:Nat} (hq:w.heap[qb]?=some (.cells #[.string n] 9 (0,0))):
  Calls Tryz.prog 113 #[.pointer (some ⟨p,0,none⟩),.slice (some ⟨qb,0,none⟩) 1 1] w fun e w'=>e= .returned (.bool (fileOf n fs).isSome)∧Grow w w':=by
 have ai:Grow w (w.alloc (.cells #[.pointer (some ⟨p,0,none⟩)] 40)):=Grow.alloc _ _;have hb1:=aw w (.cells #[.pointer (some ⟨p,0,none⟩)] 40);have hcon:=aat (ai.heap hq) (fn:=163) ⟨_,Tryz.func163,by kernel_rfl⟩ (aoX (h.grow ai) n hb1) (enters_of Tryz.func163 (by kernel_rfl) rfl);have tA:=ae hcon;have bT:=ae ai;clear hcon ai hb1;go_enter Tryz.func113,Tryz.ntmps113
 go_wp2_with fail
 (with_reducible refine tA.out.mono ?_);rintro e w1 ⟨rfl,hw⟩;subst hw;cases hf:fileOf n fs<;>(have Hf:=ae hf;clear hf;go_wp2;go_ret;exact ⟨by rw [Hf.out];rfl,bT.out⟩)
def rO (n:ByteArray) (V:Vw):Vw:=V.map (fun e=>if e.1=n then (e.1,e.2.1,e.2.1.length) else e)
theorem aoZ {fs:List Fe} (h:(fs.map Fe.name).Nodup) {f:Fe} (hf:f∈fs):vw (jf f.name f.bv f.b f.b.length fs)=rO f.name (vw fs):=by
 unfold rO vw jf;rw [List.map_map,List.map_map];refine List.map_congr_left fun g hg=> ?_
 simp only [Function.comp];by_cases hn:g.name=f.name
 ·have:=MC h hg hf hn
  subst this;simp
 ·simp [hn]
theorem apa {B:Nat} {w:World} {p r:Nat} {size used born:Int} {fs:List Fe} (h:bM B w p r size used born fs) {n:ByteArray} {f:Fe} (eN:fileOf n fs=some f) {qb:Nat} (hq:w.heap[qb]?=some (.cells #[.string n] 9 (0,0))) (_hfl:f.b.length≤1073741824):
  Calls Tryz.prog 83 #[.pointer (some ⟨p,0,none⟩),.slice (some ⟨qb,0,none⟩) 1 1] w fun e w'=>e= .returned (.int .i64 0)∧∃ br,bM B w' p r size used born br∧Sep (cN p r fs) w w' (cN p r br)∧vw br=rO n (vw fs):=by
 have hall:=Sg h n hq;rw [eN] at hall;have eX:=ae hall;have H:=ae h;have kr:=ae eN;have Hq:=ae hq;clear hall h eN hq;go_enter Tryz.func83,Tryz.ntmps83
 go_wp2_with fail
 (with_reducible refine eX.out.mono ?_);rintro e w1 ⟨rfl,hg1⟩;have h1:=H.out.grow hg1;have jk:=hg1.heap Hq.out;have q0:w1.cell? ⟨qb,0,none⟩=some (.string n):=by simp [World.cell?,jk]
 have lq:=af jk;have e0:(Option.some f).isSome=true:=rfl
 go_wp2_with fail
 refine wp_loop_rounds 2 ?_;rw [rounds_succ]
 go_upto_region 6 with fail
 obtain ⟨hm,gG⟩:=rG kr.out;have hlk:∀ W,Below w1.heap.size w1 W→(Instr.lookup 123 (.map (some r)) (.string n) false).run Tryz.prog W= .ok (.pointer (some ⟨f.fb,0,none⟩)) W:=fun W hW=>by
  have:=(h1.grow hW).lookup n;simpa only [mj,kr.out] using this
 obtain ⟨c0,c1,c2,c3⟩:=h1.cells;have lp:=af h1.self;have bh:=h1.files f hm;obtain ⟨ba,bc,bg⟩:=bh.row.slice;have z0:w1.cell? ⟨f.fb,0,none⟩=some (.slice ba (cR f.b).length bc):=by simp [World.cell?,bh.cell,bg]
 have z1:w1.cell? ⟨f.fb,1,none⟩=some (.int .i64 f.synced):=by simp [World.cell?,bh.cell]
 have lf:=af bh.cell;have ff:∀ i,w1.frozen? ⟨f.fb,i,none⟩=false:=fun i=>by simp [World.frozen?,bh.cell]
 have aQ:=Grow.cells (w:=w1);have hgd:Grow w1 w1.drew:=Grow.drew w1;have fR:=h1.grow hgd;have hrow:aG B w1.drew f.bv f.b:=(fR.files f hm).row;obtain ⟨cn,hs2⟩:=fR.put hm (w1:=w1.drew) (w2:=w1.drew.setCell ⟨f.fb,1,none⟩ (.int .i64 f.b.length)) (s:=f.b.length) hrow ⟨rfl,rfl,rfl,ay _,fun _ _ _=>rfl⟩ (fun b hb=> .inl hb) (aI (fR.files f hm).cell 1 _) (iJ _ _ _ _) (ay _);have Ee:=aoZ H.out.names hm;rw [gG] at Ee cn hs2;have fK:Hid (∃ br,bM B (w1.drew.setCell ⟨f.fb,1,none⟩ (.int .i64 f.b.length)) p r size used born br∧Sep (cN p r fs) w (w1.drew.setCell ⟨f.fb,1,none⟩ (.int .i64 f.b.length)) (cN p r br)∧vw br=rO n (vw fs)):=ae ⟨_,cn,(Sep.bF (hg1.trans hgd)).trans hs2,Ee⟩;have mW:(cR f.b).length=f.b.length:=iL _;rw [mW] at z0;clear cn hs2 Ee hrow fR hgd bh bg h1 hm gG mW jk c0 c1 c2;refine sX (fun W=>Below w1.heap.size w1 W) [(0,false),(1,false),(2,false),(3,false),(4,false),(5,false),(6,false),(7,false),(8,false),(9,false),(10,false),(11,false),(12,false),(13,false),(14,false),(15,false),(16,false),(17,false)] 18 (by kernel_rfl) (by kernel_rfl) (fun c a d v w h=>by cases d<;>exact h) (Grow.drew _) ?_;simp only [aP,nth]
 repeat (first|(refine aB (v:= ?_) (by rfl) ?_ ?_;rotate_left;(rintro W hW;go_simp;with_reducible rfl);simp only [ag,List.set])|(refine aC (by rfl) ?_;simp only [ag,List.set]))
 refine bm ?_;refine sY (by rfl) (fun K hK=> ?_);go_simp;refine hK _ _ ?_;clear hK K hlk aQ
 try first|simp only [ag,List.set]|simp only [aD]
 go_wp2_with fail
 rw [rounds_succ];go_wp2;go_ret;exact ⟨rfl,fK.out⟩
end Go.Proofs.YtoolkdapflaeeaaGreatDoor
namespace Go.Proofs.YtoolkdapflaeeaaGreatDoor
open Go.RowKit Go.Gl Go.aH
def jm (n:ByteArray) (V:Vw):Vw:=V.filter (fun e=>decide (n≠e.1))
def om (n:ByteArray) (fs:List Fe):List Fe:=fs.filter (fun f=>decide (n≠f.name))
theorem Sh (n:ByteArray) (fs:List Fe):vw (om n fs)=jm n (vw fs):=by
 unfold vw om jm;rw [List.filter_map];rfl
theorem aau (n:ByteArray) (fs:List Fe):(om n fs).map Fe.az=(fs.map Fe.az).filter (fun e=>decide (n≠e.key)):=by
 unfold om;rw [List.filter_map];rfl
section
variable {B:Nat} {w:World} {p r:Nat} {size used born:Int} {fs:List Fe}
theorem bM.del (h:bM B w p r size used born fs) (n:ByteArray) {c:Nat} (hm:MapAt w r Value.string (fs.map Fe.az) c) (hc:∀ f∈fs,f.born<c):
  bM B (cB w r (.map (((fs.map Fe.az).filter (fun e=>decide (n≠e.key))).map (aF.raw Value.string)).toArray c)) p r size used born (om n fs)∧
  Sep (cN p r fs) w (cB w r (.map (((fs.map Fe.az).filter (fun e=>decide (n≠e.key))).map (aF.raw Value.string)).toArray c)) (cN p r (om n fs)):=by
 have qj:=af hm;rw [←aau];generalize hw2:cB w r (.map (((om n fs).map Fe.az).map (aF.raw Value.string)).toArray c)=w2;have ho:∀ b,b≠r→w2.heap[b]?=w.heap[b]?:=fun b hbr=>by rw [←hw2,wC hbr]
 have hr2:MapAt w2 r Value.string ((om n fs).map Fe.az) c:=by
  rw [←hw2];unfold MapAt;rw [yE qj]
 have hsz:w2.heap.size=w.heap.size:=by rw [←hw2];simp [cB]
 have lj:∀ f∈om n fs,f∈fs:=fun f hf=>(List.mem_filter.1 hf).1
 refine ⟨⟨(ho p h.Bq).trans h.self,⟨c,hr2,fun f hf=>hc f (lj f hf)⟩,h.names.sublist (List.filter_sublist.map _),h.rD.sublist (List.filter_sublist.map _),h.rE.sublist (List.filter_sublist.map _),fun f hf g hg=>h.rows f (lj f hf) g (lj g hg),fun f hf=> ?_,h.base.1,h.base.2.1,by rw [hsz];exact h.base.2.2⟩,⟨by rw [←hw2];rfl,by rw [←hw2];rfl,by rw [←hw2];rfl,by omega,fun b _ hn=>ho b (fun e=>hn (.inr (.inl e))),?_⟩⟩
 ·have bh:=h.files f (lj f hf)
  exact ⟨(ho _ (h.yN (lj f hf)).2).trans bh.cell,bh.row.keep (fun b hb=>ho b (h.tz (lj f hf) hb).2.1),bh.base,bh.sync⟩
 ·rintro b (rfl|rfl|⟨f,hf,hb⟩)
  ·exact .inl (.inl rfl)
  ·exact .inl (.inr (.inl rfl))
  ·exact .inl (.inr (.inr ⟨f,lj f hf,hb⟩))
end
theorem apb {B:Nat} {w:World} {p r:Nat} {size used born:Int} {fs:List Fe} (h:bM B w p r size used born fs) {n:ByteArray} (eN:fileOf n fs=none) {qb:Nat} (hq:w.heap[qb]?=some (.cells #[.string n] 9 (0,0))):
  Calls Tryz.prog 64 #[.pointer (some ⟨p,0,none⟩),.slice (some ⟨qb,0,none⟩) 1 1] w fun e w'=>e= .returned (.int .i64 4)∧Grow w w':=by
 have hall:=Sg h n hq;rw [eN] at hall;have eX:=ae hall;clear hall h eN hq;go_enter Tryz.func64,Tryz.ntmps64
 go_wp2_with fail
 (with_reducible refine eX.out.mono ?_);rintro e w1 ⟨rfl,hg1⟩;have e0:(none:Option Fe).isSome=false:=rfl;go_wp2;go_ret;exact ⟨rfl,hg1⟩
theorem apc {B:Nat} {w:World} {p r:Nat} {size used born:Int} {fs:List Fe} (h:bM B w p r size used born fs) {n:ByteArray} {f:Fe} (eN:fileOf n fs=some f) {qb:Nat} (hq:w.heap[qb]?=some (.cells #[.string n] 9 (0,0))) (dA:f.b.length≤1073741824) (hu:0≤used) (Ih:used≤1073741824):
  Calls Tryz.prog 64 #[.pointer (some ⟨p,0,none⟩),.slice (some ⟨qb,0,none⟩) 1 1] w fun e w'=>e= .returned (.int .i64 0)∧∃ br,bM B w' p r size (used-f.b.length) born br∧Sep (cN p r fs) w w' (cN p r br)∧vw br=jm n (vw fs):=by
 have hall:=Sg h n hq;rw [eN] at hall;have eX:=ae hall;have H:=ae h;have kr:=ae eN;have Hq:=ae hq;clear hall h eN hq;go_enter Tryz.func64,Tryz.ntmps64
 go_wp2_with fail
 (with_reducible refine eX.out.mono ?_);rintro e w1 ⟨rfl,hg1⟩;have h1:=H.out.grow hg1;have jk:=hg1.heap Hq.out;have q0:w1.cell? ⟨qb,0,none⟩=some (.string n):=by simp [World.cell?,jk]
 have lq:=af jk;have e0:(Option.some f).isSome=true:=rfl;obtain ⟨hm,gG⟩:=rG kr.out;have hlk:(Instr.lookup 123 (.map (some r)) (.string n) false).run Tryz.prog w1= .ok (.pointer (some ⟨f.fb,0,none⟩)) w1:=by
  have:=h1.lookup n;simpa only [mj,kr.out] using this
 obtain ⟨c0,c1,c2,c3⟩:=h1.cells;have lp:=af h1.self;have bh:=h1.files f hm;obtain ⟨ba,bc,bg⟩:=bh.row.slice;have z0:w1.cell? ⟨f.fb,0,none⟩=some (.slice ba f.b.length bc):=by simp [World.cell?,bh.cell,bg,iL]
 have lf:=af bh.cell;have ff:∀ i,w1.frozen? ⟨p,i,none⟩=false:=fun i=>by simp [World.frozen?,h1.self]
 have aQ:=Grow.cells (w:=w1);have hgd:Grow w1 w1.drew:=Grow.drew w1;have bS:IntKind.i64.wrap (used-(f.b.length:Int))=used-(f.b.length:Int):=aR _ (by omega);obtain ⟨Ii,Ij⟩:=(h1.grow hgd).Ed (used-f.b.length);obtain ⟨w2,hw2⟩:∃ x,x=(w1.setCell ⟨p,1,none⟩ (.int .i64 (used-f.b.length))).drew:=⟨_,rfl⟩
 have cn:bM B w2 p r size (used-f.b.length) born fs:=by rw [hw2];exact Ii
 have hs2:Sep (cN p r fs) w1.drew w2 (cN p r fs):=by rw [hw2];exact Ij
 clear Ii Ij;obtain ⟨ck,hmap,gH⟩:=cn.map;obtain ⟨eV,hs3⟩:=cn.del n hmap gH;have hdel:=Rx (ty:=0) (kt':=9) yK Tryz.underlying123 hmap (by have:=cn.names;rw [List.map_map];exact this) n;obtain ⟨e0',Ik,e2',e3'⟩:=cn.cells;have MD:=af cn.self;have fK:Hid (∃ br,bM B (cB w2 r (.map (((fs.map Fe.az).filter (fun e=>decide (n≠e.key))).map (aF.raw Value.string)).toArray ck)) p r size (used-f.b.length) born br∧Sep (cN p r fs) w (cB w2 r (.map (((fs.map Fe.az).filter (fun e=>decide (n≠e.key))).map (aF.raw Value.string)).toArray ck)) (cN p r br)∧vw br=jm n (vw fs)):=ae ⟨_,eV,((Sep.bF (hg1.trans hgd)).trans hs2).trans hs3,Sh n fs⟩;generalize hw3:cB w2 r (.map (((fs.map Fe.az).filter (fun e=>decide (n≠e.key))).map (aF.raw Value.string)).toArray ck)=w3 at*;have pd:=ae hw2;clear hw2 hw3 cn hs2 eV hs3 hmap gH hgd bh bg h1 hm gG jk c0 c2
 go_wp2_with fail
 refine wp_loop_rounds 2 ?_;rw [rounds_succ]
 go_upto_region 8 with fail
 refine sX (fun W=>Below w1.heap.size w1 W) [(0,false),(1,false),(2,false),(3,false),(4,false),(5,false),(6,false),(7,false),(8,false),(9,false),(10,false),(11,false)] 12 (by kernel_rfl) (by kernel_rfl) (fun c a d v w h=>by cases d<;>exact h) (Grow.drew _) ?_;simp only [aP,nth]
 repeat (first|(refine aB (v:= ?_) (by rfl) ?_ ?_;rotate_left;(rintro W hW;go_simp;with_reducible rfl);simp only [ag,List.set])|(refine aC (by rfl) ?_;simp only [ag,List.set]))
 refine bm ?_;refine sY (by rfl) (fun K hK=> ?_);go_simp;refine hK _ ((w1.setCell ⟨p,1,none⟩ (.int .i64 (used-f.b.length))).drew) ?_;clear hK K aQ
 try first|simp only [ag,List.set]|simp only [aD]
 rw [←pd.out]
 go_wp2_with fail
 rw [rounds_succ];go_wp2;go_ret;exact ⟨rfl,fK.out⟩
end Go.Proofs.YtoolkdapflaeeaaGreatDoor
