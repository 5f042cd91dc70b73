/- Helpers. -/
import Derived.Test.YtoolkdapflaeeaaGreatDoorW0F
import Derived.Test.YtoolkdapflaeeaaGreatDoorW0A
import Derived.Test.YtoolkdapflaeeaaGreatDoorW0C
import Derived.Test.YtoolkdapflaeeaaGreatDoorW0D
import Derived.Test.YtoolkdapflaeeaaGreatDoorW0E
import Derived.Deep.CutRange
import Derived.Deep.DeepCutAuto
import Derived.Test.YtoolkdapflaeeaaGreatDoorW0B
import Derived.Test.YtoolkdapflaeeaaGreatDoorRows
import Derived.Deep.Slices
import Derived.Lib.SmallJoins
import Derived.ProofKit
import Derived.Test.YtoolkdapflaeeaaGreatDoorW06
set_option maxRecDepth 100000
set_option maxHeartbeats 16000000
set_option linter.unusedSimpArgs false
open Go
variable {A' B C' K K' T T' c cap db fuel i' lb n qb tb : Nat} {M N : Nat → Prop} {W W' w w' : World} {cs : Array Value} {ds : List Int} {dv pv v : Value} {e t : TypeId} {m : ByteArray} {xs : List Value}
namespace Go.Proofs.YtoolkdapflaeeaaGreatDoor
open Go.RowKit Go.Gl Go.aF Mn
section
theorem Tryz.apb:(Tryz.prog.info? 57).map (fun i=>(i.zero,i.size,i.bytes))=some (some (.slice none 0 0),1,24):=by kernel_rfl
section
variable {N:Nat→Prop} {W w:World} {g:Nat} {bR:List (List Ev)}
theorem gY.ofRow {vals:List Value} (h:Go.Gl.Row1 57 B W (.slice (some ⟨g,0,none⟩) vals.length cap) vals) (hl:vals.length=bR.length) (ha:∀ (i:Nat) (u:Value) (xs:List Ev),vals[i]?=some u→bR[i]?=some xs→Es N W u xs):gY N W g bR:=by
 rcases h with ⟨e,_⟩|⟨g',cap',cur,e,_,hg,hn,hc,_,ht⟩
 ·cases e
 ·cases e
  have hsz:cur.toList.length=cur.size:=gO;refine ⟨cur,hg,by omega,fun i xs hx=> ?_⟩;have hi:i<vals.length:=by rw [hl];exact (dG.1 hx).1
  have h1:(cur.toList.take vals.length)[i]?=vals[i]?:=by rw [ht]
  rw [List.getElem?_take,if_pos hi,Array.getElem?_toList] at h1;have h2:=dZ hi;exact ⟨_,h1.trans h2,ha i _ xs h2 hx⟩
theorem gY.vals (h:gY N W g bR):∃ us:List Value,us.length=bR.length∧(∀ (i:Nat) u,us[i]?=some u→W.cell? ⟨g,i,none⟩=some u)∧(∀ (i:Nat) (u:Value) (xs:List Ev),us[i]?=some u→bR[i]?=some xs→Es N W u xs)∧∀ u∈us,u.oneCell'=true:=by
 obtain ⟨cur,h1,h2,h3⟩:=h.box;have hsz:cur.toList.length=cur.size:=gO;have Iz:∀ i u,(cur.toList.take bR.length)[i]?=some u→cur[i]?=some u∧i<bR.length:=fun i u hu=>by
  rw [List.getElem?_take] at hu
  split at hu
  ·rw [Array.getElem?_toList] at hu;exact ⟨hu,by assumption⟩
  ·cases hu
 refine ⟨cur.toList.take bR.length,by rw [List.length_take];omega,fun i u hu=> ?_,fun i u xs hu hx=> ?_,fun u hu=> ?_⟩
 ·simp [World.cell?,h1,(Iz i u hu).1]
 ·obtain ⟨v,hv,he⟩:=h3 i xs hx
  rw [(Iz i u hu).1] at hv;cases hv;exact he
 ·obtain ⟨i,hi⟩:=List.mem_iff_getElem?.1 hu
  obtain ⟨h4,h5⟩:=Iz i u hi;obtain ⟨v,hv,he⟩:=h3 i _ (dZ h5);rw [h4] at hv;cases hv;obtain ⟨a,c,rfl⟩:=he.slice;rfl
theorem aGe (h:gY N w g bR) (hN:∀ b,N b→b<w.heap.size) (hl:bR.length≤1000000):
  Calls Tryz.prog 88 #[.slice (some ⟨g,0,none⟩) bR.length c] w fun e w'=>∃ g' c',e= .returned (.slice (some ⟨g',0,none⟩) bR.length c')∧w.heap.size≤g'∧gY N w' g' bR∧Grow w w':=by
 have ah:Grow w (w.alloc (.cells #[] 57)):=ar _ _;obtain ⟨us,u1,u2,u3,u4⟩:=(h.grow ah).vals;have hrow:Go.Gl.Row1 57 w.heap.size (w.alloc (.cells #[] 57)) (.slice (some ⟨w.heap.size,0,none⟩) 0 0) []:= .inr ⟨w.heap.size,0,#[],rfl,aw _,ax _ _,aw _,aw _,aY _,rfl⟩;have lH:Src Tryz.prog 1 116 (.slice (some ⟨g,0,none⟩) bR.length c) bR.length us (w.alloc (.cells #[] 57)):=
  Src.ofSlice _ Tryz.underlying116 ⟨g,0,none⟩ bR.length c us (by omega) (fun j u hu=>by rw [Addr.add_lit,Nat.zero_add];exact u2 j u hu) u4
 obtain ⟨v',w',h1,h2,h3,fG⟩:=yb (ty:=116) Tryz.underlying116 Tryz.apb rfl hrow lH (by simp) (by simp;unfold maxLen;omega) (by simp;omega);rw [iq] at h2;have hgr:Grow w w':=Go.Gl.below_grown ah (by simp) hrow h3;have fB:∃ g' c',v'= .slice (some ⟨g',0,none⟩) bR.length c'∧w.heap.size≤g'∧gY N w' g' bR:=by
  have k3:∀ (i:Nat) (u:Value) (xs:List Ev),us[i]?=some u→bR[i]?=some xs→Es N w' u xs:=fun i u xs hu hx=>by
   exact (u3 i u xs hu hx).kp (Kp.grown h3 (fun b hb hn=>by
    have h5:=hN b hn;have h6:w.heap.size=b:=bk hb;omega))
  rcases id h2 with ⟨h0,_⟩|⟨g',c',cur,rfl,hB,_⟩
  ·rw [h0] at fG
   rcases fG with h9|h9<;>cases h9
  ·rw [←u1]
   exact ⟨g',c',rfl,hB,gY.ofRow h2 u1 k3⟩
 have cW:=ae h1;have cJ:=ae fB;have fW:=ae hgr;have h0:= @Lib.run_eql_slice_nil Tryz.prog;clear h1 h2 h3 hgr hrow ah lH u2 u3 u4 u1 fB h fG;go_enter Tryz.func88,Tryz.ntmps88
 go_wp2_with (at_builtin;refine fI rfl rfl rfl rfl cW.out ?_)
 obtain ⟨g',c',rfl,h5,h6⟩:=cJ.out;go_ret;exact ⟨g',c',rfl,h5,h6,fW.out⟩
end
theorem aGf {N:Nat→Prop} {w:World} {g:Nat} {bR:List (List Ev)} (h:gY N w g bR) (hN:∀ b,N b→b<w.heap.size) (hlen:(bR.map List.length).sum≤1000000000) (hl2:bR.length≤1000000)
  (hval:∀ xs∈bR,∀ x∈xs,x.e.val.length≤1000000000000) (ho:∀ xs∈bR,cn (xs.map Ev.e)) (jh:∀ xs∈bR,yZ (xs.map Ev.e)) (hf:tN (bR.map (List.map Ev.e)).flatten):
  Calls Tryz.prog 47 #[.slice (some ⟨g,0,none⟩) bR.length c] w fun e w'=>∃ v ys,e= .returned (.tuple #[v,.int .i64 0])∧Qk (bR.map (List.map Ev.e)) (ys.map Ev.e)∧cO w.heap.size (fun _=>False) w' v ys∧Grow w w':=by
 have gp:=ae (fun W (hg:Grow w W)=>aGe (h.grow hg) (fun b hb=>cf (hN b hb) hg.size) (c:=c) hl2);have Htg:=ae (fun (W:World) (g' c':Nat) (hs:w.heap.size≤g') (hW:Grow w W) (h':gY N W g' bR)=>aFS (c:=c') h' (fun b hb=>by have:=hN b hb;have:=hW.size;exact ⟨by omega,by omega⟩) hlen (by omega) hval ho hf);have Hr:=ae (ag hlen (ag ho jh));have H:=ae h;obtain ⟨n,hn⟩:∃ n,n=bR.length:=⟨_,rfl⟩
 rw [←hn] at gp Htg hl2 ⊢;have Hn:=ae hn;clear h hN hlen hval ho jh hf hn;go_enter Tryz.func47,Tryz.ntmps47
 go_wp2_with fail
 go_loopw [8] (fun iv wr=>∃ i:Nat,iv= .int .i64 (i:Int)∧i≤n∧Grow w wr) (fun iv _=>n-(intOf iv).toNat)
 case atStart=>exact ⟨0,rfl,aY _,aV _⟩
 case round=>
  obtain ⟨i,rfl,hi,hg⟩:=hrel;by_cases hlt:i<n
  ·obtain ⟨xs,hx⟩:∃ xs,bR[i]?=some xs:=⟨_,dZ (by have:=Hn.out;omega)⟩
   have hm:=dB hx;have hl:=H.out.grow hg;obtain ⟨xa,xc,c0,hes⟩:=hl.get hx;have lg:=hl.lt;have hri:=Xu hes (by have h1:xs.length≤(bR.map List.length).sum:=Tp (aZ.2 ⟨_,hm,rfl⟩);have:=Hr.out.1;omega) (Hr.out.2.1 xs hm) (Hr.out.2.2 xs hm);have Hri:=ae hri;have Hg:=ae hg;have eB:(i:Int)<(n:Int):=by omega
   have bO:(0:Int)≤(i:Int):=by omega
   have fE:IntKind.i64.wrap ((i:Int)+1)=((i+1:Nat):Int):=by rw [aS _ (by omega)];omega
   clear hl hes hri hg hm hx
   go_wp2_with fail
   (with_reducible refine Hri.out.mono ?_);rintro e w2 ⟨rfl,hg2⟩;have fA:=ae hg2;clear hg2 c0 lg;go_wp2;go_roundw
   case rel=>exact ⟨i+1,rfl,hlt,Hg.out.trans fA.out⟩
   case measure=>simp [intOf];omega
  ·obtain rfl:i=n:=by omega
   have ape:=ae (gp.out wr hg);have Hg:=ae hg;clear hg
   go_wp2_with fail
   (with_reducible refine ape.out.mono ?_);rintro e w2 ⟨g',c',rfl,eR,hes,hg2⟩;have eZ:=Hg.out.trans hg2;have hB:w.heap.size≤g':=aM Hg.out.size eR;have apf:=ae (Htg.out w2 g' c' hB eZ hes);have Be:=ae (ag eZ hB);clear hes hg2 eZ eR ape
   go_wp2_with fail
   (with_reducible refine apf.out.mono ?_);rintro e w3 ⟨v,ys,rfl,hm,hrow,hgx⟩;obtain ⟨va,vc,rfl⟩:=hrow.slice;have fB:Grow w w3:=Be.out.1.grown hgx Be.out.1.size (fun k e=>by cases e;exact Be.out.2);have cJ:=ae (ag hm (ag (hrow.mono Be.out.1.size) fB));clear hm hrow hgx fB apf;go_wp2;refine bodyPost_ret (v:= .tuple #[.slice va ys.length vc,.int .i64 0]) ?_ rfl ?_
   ·simp [results,Tryz.results47,go_sem]
   ·exact ⟨_,ys,rfl,cJ.out⟩
end
end Go.Proofs.YtoolkdapflaeeaaGreatDoor
namespace Go.Proofs.YtoolkdapflaeeaaGreatDoor
open Go.RowKit Go.Gl Mn
theorem abc {a b:En} (h:fM a b):a.key.data.toList≤b.key.data.toList:=by
 rcases h with h|⟨h,_⟩
 ·exact List.le_of_lt h
 ·rw [h];exact List.le_refl _
def mW (ok:En→Bool):Option ByteArray→List En→List En
 |_,[]=> []
 |lst,e::l=>if lst≠some e.key∧ok e=true then e::mW ok (some e.key) l else mW ok (some e.key) l
theorem abd (ok:En→Bool):∀ (l:List En) (lst:Option ByteArray),(mW ok lst l).Sublist l
 | [],_=>List.Sublist.slnil
 |e::l,lst=>by
  unfold mW;split
  ·exact (abd ok l _).cons_cons e
  ·exact (abd ok l _).cons e
theorem abe {ok:En→Bool}:∀ {M:List En} {lst:Option ByteArray},cn M→(∀ k,lst=some k→∀ e∈M,k.data.toList≤e.key.data.toList)→∀ e,e∈mW ok lst M↔e∈M∧ok e=true∧lst≠some e.key∧∀ x∈M,x.key=e.key→x.seq≤e.seq
 | [],_,_,_,e=>by simp [mW]
 |y::t,lst,ho,hl,e=>by
  have eA:=tK.1 ho;have ih:=abe (ok:=ok) (lst:=some y.key) eA.2 (fun k hk x hx=>by cases hk;exact abc (eA.1 x hx)) e;have eU:e∈mW ok (some y.key) t↔e∈t∧ok e=true∧lst≠some e.key∧∀ x∈y::t,x.key=e.key→x.seq≤e.seq:=by
   rw [ih];constructor
   ·rintro ⟨h1,h2,h3,h4⟩
    refine ⟨h1,h2,fun hk=> ?_,fun x hx iH=> ?_⟩
    ·have h5:=hl _ hk y (dR ..)
     exact h3 (by rw [Bh (List.le_antisymm (abc (eA.1 e h1)) h5)])
    ·rcases bE.1 hx with rfl|hx
     ·exact absurd (by rw [iH]) h3
     ·exact h4 x hx iH
   ·rintro ⟨h1,h2,h3,h4⟩
    refine ⟨h1,h2,fun hk=> ?_,fun x hx=>h4 x (fk _ hx)⟩;have DJ:y.key=e.key:=bk hk;have h5:=h4 y (dR ..) DJ;rcases eA.1 e h1 with h6|⟨_,h6⟩
    ·rw [DJ] at h6;exact List.lt_irrefl _ h6
    ·omega
  have hy:e=y→(∀ x∈y::t,x.key=e.key→x.seq≤e.seq):=fun he x hx iH=>by
   subst he;rcases bE.1 hx with rfl|hx
   ·exact aw _
   ·rcases eA.1 x hx with h6|⟨_,h6⟩
    ·rw [iH] at h6;exact absurd h6 (List.lt_irrefl _)
    ·omega
  unfold mW;by_cases hc:lst≠some y.key∧ok y=true
  ·rw [if_pos hc,bE,eU,bE]
   constructor
   ·rintro (rfl|⟨h1,h2⟩)
    ·exact ⟨.inl rfl,hc.2,hc.1,hy rfl⟩
    ·exact ⟨.inr h1,h2⟩
   ·rintro ⟨h1|h1,h2⟩
    ·exact .inl h1
    ·exact .inr ⟨h1,h2⟩
  ·rw [if_neg hc,eU,bE]
   constructor
   ·rintro ⟨h1,h2⟩;exact ⟨.inr h1,h2⟩
   ·rintro ⟨h1|h1,h2⟩
    ·subst h1;exact absurd ⟨h2.2.1,h2.1⟩ hc
    ·exact ⟨h1,h2⟩
theorem aGh {ok:En→Bool} {M:List En} (ho:cn M):(mW ok none M).Pairwise ajN:=by
 have h1:cn (mW ok none M):=List.Pairwise.sublist (abd ok M none) ho;have hm:=abe (ok:=ok) (lst:=none) ho (fun k hk=>by cases hk);refine List.Pairwise.imp_of_mem (fun {a b} ha hb hab=> ?_) h1;rcases hab with h|⟨h,h2⟩
 ·exact h
 ·have:=((hm b).1 hb).2.2.2 a ((hm a).1 ha).1 h
  omega
theorem apg:∀ {p x y:List UInt8},p≤x→x≤y→p.isPrefixOf y=true→p.isPrefixOf x=true
 | [],_,_,_,_,_=>by simp
 |c::p,[],_,h,_,_=>absurd h (by simp)
 |c::p,d::x,[],_,h,_=>absurd h (by simp)
 |c::p,d::x,e::y,h1,h2,h3=>by
  rw [List.isPrefixOf_cons_cons,Bool.and_eq_true,beq_iff_eq] at h3;obtain ⟨rfl,h3⟩:=h3;rw [List.cons_le_cons_iff] at h1 h2;rw [List.isPrefixOf_cons_cons,Bool.and_eq_true,beq_iff_eq];rcases h1 with h1|⟨rfl,h1⟩
  ·rcases h2 with h2|⟨rfl,h2⟩
   ·exact absurd (UInt8.lt_trans h1 h2) (UInt8.lt_irrefl _)
   ·exact absurd h1 (UInt8.lt_irrefl _)
  ·rcases h2 with h2|⟨_,h2⟩
   ·exact absurd h2 (UInt8.lt_irrefl _)
   ·exact ⟨rfl,apg h1 h2 h3⟩
theorem aph:∀ {p x:List UInt8},p.isPrefixOf x=true→p≤x
 | [],_,_=>by simp
 |c::p,[],h=>by simp at h
 |c::p,d::x,h=>by
  rw [List.isPrefixOf_cons_cons,Bool.and_eq_true,beq_iff_eq] at h;rw [List.cons_le_cons_iff];exact .inr ⟨h.1,aph h.2⟩
def Cp (p:ByteArray) (e:En):Bool:=Lib.hasPrefix e.key.data.toList p.data.toList|| !(decide (p.data.toList<e.key.data.toList))
def oq (p:ByteArray) (m:ByteArray) (l:List En):List En:=(ej (spot m 18446744073709551615) l).takeWhile (Cp p)
theorem Tu (p m:ByteArray) (l:List En):(oq p m l).Sublist l:=(List.takeWhile_sublist _).trans (List.dropWhile_sublist _)
theorem api {α:Type} {f:α→Bool} {x:α}:∀ {l:List α},x∈l.takeWhile f→f x=true
 |a::l,h=>by
  rw [List.takeWhile_cons] at h
  split at h
  ·rename_i ha
   rcases bE.1 h with rfl|h
   ·exact ha
   ·exact api h
  ·cases h
theorem apj {f:En→Bool} {x:En}:∀ {l:List En},cn l→x∈l→(∀ y∈l,y=x∨fM y x→f y=true)→x∈l.takeWhile f
 | [],_,h,_=>by cases h
 |a::l,ho,h,hf=>by
  have eA:=tK.1 ho;have ha:f a=true:=hf a (dR ..) (by
   rcases bE.1 h with rfl|h
   ·exact .inl rfl
   ·exact .inr (eA.1 x h))
  rw [List.takeWhile_cons,if_pos ha];rcases bE.1 h with rfl|h
  ·exact dR ..
  ·exact fk _ (apj eA.2 h (fun y hy=>hf y (fk _ hy)))
theorem apk {p:ByteArray} (tq:p.data.toList≤m.data.toList) {l:List En} (ho:cn l) (hs:∀ e∈l,e.seq≤18446744073709551615) (e:En):e∈oq p m l↔e∈l∧m.data.toList≤e.key.data.toList∧Lib.hasPrefix e.key.data.toList p.data.toList=true:=by
 have DG:=tL (spot m 18446744073709551615) l;have kO:=KP (x:=spot m 18446744073709551615) (l:=l);have yU:=DF (x:=spot m 18446744073709551615) ho;have hoh:=(PS (x:=spot m 18446744073709551615) ho).2.1;have nG:e∈l↔e∈gD (spot m 18446744073709551615) l∨e∈ej (spot m 18446744073709551615) l:=by have h9:=cU (a:=e) (s:=gD (spot m 18446744073709551615) l) (t:=ej (spot m 18446744073709551615) l);rwa [DG] at h9
 have hhs:∀ x∈ej (spot m 18446744073709551615) l,x∈l:=fun x hx=>(List.dropWhile_sublist _).mem hx
 have iM:∀ x∈ej (spot m 18446744073709551615) l,m.data.toList≤x.key.data.toList:=fun x hx=>by
  have h1:=yU x hx;exact List.not_lt.1 (fun h2=>h1 (.inl h2))
 unfold oq;constructor
 ·intro h
  have h1:=(List.takeWhile_sublist _).mem h;have h2:=api h;have h3:=iM e h1;refine ⟨hhs e h1,h3,?_⟩;unfold Cp at h2;rw [Bool.or_eq_true] at h2;rcases h2 with h2|h2
  ·exact h2
  ·have h4:¬ p.data.toList<e.key.data.toList:=by simpa using h2
   have h5:=List.le_antisymm (List.le_trans tq h3) (List.not_lt.1 h4);unfold Lib.hasPrefix;rw [←h5];exact List.isPrefixOf_iff_prefix.2 (List.prefix_refl _)
 ·rintro ⟨h1,h2,h3⟩
  have hh:e∈ej (spot m 18446744073709551615) l:=by
   rcases nG.1 h1 with h4|h4
   ·have h5:=kO e h4
    rcases h5 with h5|⟨_,h5⟩
    ·exact absurd h5 (List.not_lt.2 h2)
    ·have:=hs e h1;simp only at h5;omega
   ·exact h4
  refine apj hoh hh (fun y hy Ek=> ?_);have h4:y.key.data.toList≤e.key.data.toList:=by
   rcases Ek with rfl|h
   ·exact List.le_refl _
   ·exact abc h
  unfold Cp;rw [Bool.or_eq_true];exact .inl (apg (List.le_trans tq (iM y hy)) h4 h3)
structure NL (L:List En) (p a:ByteArray) (R:List En):Prop where
 keys:R.Pairwise ajN
 mem:∀ e,e∈R↔fT e.key 18446744073709551615 L=some e∧e.gone=false∧a.data.toList<e.key.data.toList∧Lib.hasPrefix e.key.data.toList p.data.toList=true
def xS (p a:ByteArray) (e:En):Bool:=(!e.gone)&&decide (a.data.toList<e.key.data.toList)&&Lib.hasPrefix e.key.data.toList p.data.toList
theorem aGk {ls:List (List En)} {L M:List En} {p a:ByteArray} (hf:tN L) (hL:∀ e,e∈L↔∃ l∈ls,e∈l) (ho:∀ l∈ls,cn l) (hs:∀ e∈L,e.seq≤18446744073709551615) (hp:p.data.toList≤m.data.toList) (ha:a.data.toList≤m.data.toList) (hm:m=p∨m=a) (hM:Qk (ls.map (oq p m)) M):NL L p a (mW (xS p a) none M):=by
 refine ⟨aGh hM.1,fun e=> ?_⟩;have eU:∀ x,x∈M↔x∈L∧m.data.toList≤x.key.data.toList∧Lib.hasPrefix x.key.data.toList p.data.toList=true:=fun x=>by
  rw [hM.2,hL];constructor
  ·rintro ⟨c,hc,hx⟩
   obtain ⟨l,hl,rfl⟩:=aZ.1 hc;have h1:=(apk hp (ho l hl) (fun y hy=>hs y ((hL y).2 ⟨l,hl,hy⟩)) x).1 hx;exact ⟨⟨l,hl,h1.1⟩,h1.2⟩
  ·rintro ⟨⟨l,hl,hx⟩,h2⟩
   exact ⟨_,aZ.2 ⟨l,hl,rfl⟩,(apk hp (ho l hl) (fun y hy=>hs y ((hL y).2 ⟨l,hl,hy⟩)) x).2 ⟨hx,h2⟩⟩
 have ht:xS p a e=true↔e.gone=false∧a.data.toList<e.key.data.toList∧Lib.hasPrefix e.key.data.toList p.data.toList=true:=by
  unfold xS;rw [Bool.and_eq_true,Bool.and_eq_true,decide_eq_true_eq];cases e.gone<;>simp
 rw [abe hM.1 (fun k hk=>by cases hk),eU,ht];constructor
 ·rintro ⟨⟨h1,h2,h3⟩,h4,_,h5⟩
  refine ⟨Qc hf h1 ⟨rfl,hs e h1⟩ (fun x hx mO=> ?_),h4⟩;refine h5 x ((eU x).2 ⟨hx,?_,?_⟩) mO.1
  ·rw [mO.1];exact h2
  ·rw [mO.1];exact h3
 ·rintro ⟨h1,h2,h3,h4⟩
  obtain ⟨g1,g2,g3⟩:=KY h1;have jP:m.data.toList≤e.key.data.toList:=by
   rcases hm with rfl|rfl
   ·exact aph h4
   ·exact List.le_of_lt h3
  exact ⟨⟨g1,jP,h4⟩,⟨h2,h3,h4⟩,(fun h=>by cases h),fun x hx iH=>g3 x ((eU x).1 hx).1 ⟨iH,hs x ((eU x).1 hx).1⟩⟩
end Go.Proofs.YtoolkdapflaeeaaGreatDoor
namespace Go.Proofs.YtoolkdapflaeeaaGreatDoor
open Go.RowKit Go.Gl Go.aF Mn
def abf (N:Nat→Prop) (w:World) (l:List En) (e:Ending) (w':World) (gf:Nat):Prop:=
 ∃ (Bl:Nat) (ys:List Ev) (v:Value),e= .returned (.func (.func gf) #[] #[.pointer (some ⟨Bl,0,none⟩)])∧w.heap.size≤Bl∧w'.heap[Bl]?=some (.cells #[v] 57 (0,0))∧ys.map Ev.e=l∧Es N w' v ys∧Grow w w'
theorem aGl {l:List En} (h:qx N w tb l) (key:ByteArray):
  Calls Tryz.prog 105 #[.pointer (some ⟨tb,0,none⟩),.string key] w fun e w'=>abf N w (ej (spot key 18446744073709551615) l) e w' 155:=by
 have hpl:=fun W (hg:Grow w W)=>akN (h.kp (.bT hg)) key (up:=18446744073709551615)
 rw [akO];have nk:=YK (spot key 18446744073709551615) l;have apl:∀ W,Grow w W→Calls Tryz.prog 154 #[.pointer (some ⟨tb,0,none⟩),.string key,.int .u64 18446744073709551615] W fun e w'=>e= .returned (.int .i64 ((gD (spot key 18446744073709551615) l).length:Nat))∧Grow W w':=hpl
 clear hpl;generalize (gD (spot key 18446744073709551615) l).length=i at*;obtain ⟨v,fv,nb,ys,h1,h2,h3⟩:=h.cells;have dW:ys.length=l.length:=by rw [←h2,bF]
 obtain ⟨va,vc,rfl⟩:=h3.slice;have Jb:ys.length≤vc:=by obtain ⟨⟨_,_,he,hc,_⟩,_⟩:=h3;cases he;exact hc
 have hcut:=Ww h3 (i:=i) (j:=ys.length) (k:=vc) (by omega) (aw _) Jb (aw _);rw [List.take_of_length_le (by simp)] at hcut;obtain ⟨ad,had⟩:∃ ad,(if vc=i then va else va.map (fun x=>x.add (i*4)))=ad:=⟨_,rfl⟩
 rw [had] at hcut;have s0:w.cell? ⟨tb,0,none⟩=some (.slice va ys.length vc):=by simp [World.cell?,h1]
 have lt:=af h1;have aQ:=Grow.cells (w:=w);have i0:(0:Int)≤(i:Int):=by omega
 have i1:(i:Int)≤(ys.length:Int):=by omega
 have i2:(ys.length:Int)≤(vc:Int):=by omega
 have DX:=ae apl;have fB:∀ (W W':World) (Bl:Nat),Grow w W→w.heap.size≤Bl→W.heap[Bl]?=some (.cells #[.slice ad (ys.length-i) (vc-i)] 57 (0,0))→abf N w (l.drop i) (.returned (.func (.func 155) #[] #[.pointer (some ⟨Bl,0,none⟩)])) W 155:=fun W _ Bl hg hB hb=>
  ⟨Bl,ys.drop i,_,rfl,hB,hb,by rw [List.map_drop,h2],hcut.grow hg,hg⟩
 have cJ:=ae fB;clear h h1 h2 h3 apl hcut dW fB Jb;go_enter Tryz.func105,Tryz.ntmps105
 go_upto_region 1 with fail
 refine Xa (fun V=>Below w.heap.size w V) [(0,false),(1,false),(2,false),(3,false),(4,false),(5,false)] 6 8 [(7,false),(8,true),(9,true)] [(6,true),(7,false),(9,true)] (by kernel_rfl) (by kernel_rfl) (bK fun _ _ _ _ _ h=>h) (by ((repeat (first|exact bS _ _|assumption|refine cz ?_|refine cA ?_|refine cj ?_ ?_ _|refine cy ?_ ?_ _))<;>try (first|omega|(simp<;>omega)))) ?_;simp only [cm,nth]
 repeat ((first|(refine aA (v:= ?_) (by rfl) ?_ ?_;rotate_left;rintro W hW;go_simp;with_reducible rfl)|refine aB (by rfl) ?_);simp only [ai,List.set])
 have hgd:=az w;refine bj (Xb ?_ ?_)
 ·simp only [cm,nth]
  refine bp (by rfl) (by go_simp) (DX.out w.drew hgd) ?_;rintro e w2 ⟨rfl,hg2⟩;have jr:=hgd.trans hg2;refine ⟨_,rfl,jr,?_⟩
  try simp only [ai,List.set,aC]
  repeat ((first|(refine aA (v:= ?_) (by rfl) ?_ ?_;rotate_left;rintro W hW;go_simp;with_reducible rfl)|refine aB (by rfl) ?_);simp only [ai,List.set])
  have ah:=ar w2 (.cells #[.slice none 0 0] 57);have hn:=ax w2 (.cells #[.slice none 0 0] 57);refine fO (by rfl) (fun K hK=> ?_);go_simp;refine hK _ _ ⟨jr.trans ah,?_⟩;clear hK K
  try simp only [ai,List.set,aC]
  have ff:(w2.alloc (.cells #[.slice none 0 0] 57)).frozen? ⟨w2.heap.size,0,none⟩=false:=by unfold World.frozen?;rw [hn];rfl
  have fc:(w2.alloc (.cells #[.slice none 0 0] 57)).cell? ⟨w2.heap.size,0,none⟩=some (.slice none 0 0):=by unfold World.cell?;rw [hn];rfl
  have fl:=af hn;obtain ⟨w3,hw3⟩:∃ W,w2.alloc (.cells #[.slice none 0 0] 57)=W:=⟨_,rfl⟩
  rw [hw3] at ff fc fl hn ah ⊢;have cM:=Go.Gl.aK hn 0 (.slice ad (ys.length-i) (vc-i));have hle:w.heap.size≤w2.heap.size:=jr.size;have hG:Below w.heap.size w (w3.setCell ⟨w2.heap.size,0,none⟩ (.slice ad (ys.length-i) (vc-i))):=(jr.trans ah).setCell (p:=⟨w2.heap.size,0,none⟩) hle _;refine fO (by rfl) (fun K hK=> ?_);go_simp;refine hK _ _ ⟨hG,?_⟩;clear hK K
  try simp only [ai,List.set,aC]
  refine bj ?_;have dC:=ae (cJ.out _ (w3.setCell ⟨w2.heap.size,0,none⟩ (.slice ad (ys.length-i) (vc-i))) w2.heap.size hG hle cM);clear cM hG hn ah hw3 jr hg2 hgd;go_wp2;go_ret;exact dC.out
 ·simp only [cm,nth]
  have ah:=ar w.drew (.cells #[.slice none 0 0] 57);have hn:=ax w.drew (.cells #[.slice none 0 0] 57);have ug:=hgd.trans ah;refine fO (by rfl) (fun K hK=> ?_);go_simp;refine hK _ _ ⟨ug,?_⟩;clear hK K
  try simp only [ai,List.set,aC]
  obtain ⟨w3,hw3⟩:∃ W,(w.alloc (.cells #[.slice none 0 0] 57)).drew=W:=⟨_,rfl⟩
  replace hn:w3.heap[w.heap.size]?=some (.cells #[.slice none 0 0] 57 (0,0)):=by rw [←hw3];exact hn
  replace ug:Grow w w3:=by rw [←hw3];exact ug
  rw [hw3];refine bp (by rfl) (by go_simp) (DX.out w3 ug) ?_;rintro e w2 ⟨rfl,hg2⟩;have jr:=ug.trans hg2;refine ⟨_,rfl,jr,?_⟩
  try simp only [ai,List.set,aC]
  repeat ((first|(refine aA (v:= ?_) (by rfl) ?_ ?_;rotate_left;rintro W hW;go_simp;with_reducible rfl)|refine aB (by rfl) ?_);simp only [ai,List.set])
  have jg:=hg2.heap hn;have ff:w2.frozen? ⟨w.heap.size,0,none⟩=false:=by unfold World.frozen?;rw [jg];rfl
  have fc:w2.cell? ⟨w.heap.size,0,none⟩=some (.slice none 0 0):=by unfold World.cell?;rw [jg];rfl
  have fl:=af jg;have cM:=Go.Gl.aK jg 0 (.slice ad (ys.length-i) (vc-i));have hle:w.heap.size≤w.heap.size:=aw _;have hG:Below w.heap.size w (w2.setCell ⟨w.heap.size,0,none⟩ (.slice ad (ys.length-i) (vc-i))):=jr.setCell (p:=⟨w.heap.size,0,none⟩) hle _;refine fO (by rfl) (fun K hK=> ?_);go_simp;refine hK _ _ ⟨hG,?_⟩;clear hK K
  try simp only [ai,List.set,aC]
  refine bj ?_;have dC:=ae (cJ.out _ (w2.setCell ⟨w.heap.size,0,none⟩ (.slice ad (ys.length-i) (vc-i))) w.heap.size hG hle cM);clear cM hG hn jg ah hw3 jr hg2 hgd ug;go_wp2;go_ret;exact dC.out
theorem Tryz.aGm (v:Value) (w:World):(method 492 89 v "From").run Tryz.prog w= .ok (124,v) w:=by kernel_rfl
theorem Tryz.aGn (v:Value) (w:World):(method 492 143 v "From").run Tryz.prog w= .ok (105,v) w:=by kernel_rfl
theorem Es.under {xs:List Ev} (h:Es M w v xs):Es (fun b=>M b∧b<w.heap.size) w v xs:=by
 obtain ⟨⟨a,c,rfl,hl,hm,hn,h1⟩,h2⟩:=h;refine ⟨⟨a,c,rfl,hl,hm,hn,h1.imp id ?_⟩,fun x hx=> ?_⟩
 ·rintro ⟨b,o,e,hb,hlt,hr⟩
  exact ⟨b,o,e,⟨hb,hlt⟩,hlt,hr⟩
 ·obtain ⟨k1,k2⟩:=h2 x hx
  refine ⟨k1,?_⟩;obtain ⟨a',c',hv,_,_,_,k3⟩:=k1;rcases k3 with k3|⟨b,o,rfl,hb,_⟩
  ·exact .inl k3
  ·refine k2.imp id (fun k4 q hq=>⟨k4 q hq,?_⟩)
   rw [hv] at hq;cases hq;exact hb
def Tv (N:Nat→Prop) (w:World) (l:List En) (e:Ending) (w':World):Prop:=
 ∃ (gf Bl:Nat) (M:Nat→Prop),e= .returned (.func (.func gf) #[] #[.pointer (some ⟨Bl,0,none⟩)])∧(∀ args w,(callFunc gf args).run Tryz.prog w= .ok (.enter gf args) w)∧BF Tryz.prog gf #[.pointer (some ⟨Bl,0,none⟩)] (Ra w'.heap.size) M l w'∧(∀ b,M b→b<w'.heap.size)∧(∀ b,M b→N b∨w.heap.size≤b)∧Grow w w'
theorem aGo {l:List En} {e:Ending} (h:LG N w l e w' 180) (hlen:l.length≤1000000000) (hval:∀ x∈l,x.val.length≤1000000000000):Tv N w l e w':=by
 obtain ⟨Bl,ys,v,rfl,hB,hb,rfl,hrow,hg⟩:=h;have hes:=(hrow.es (M:=fun b=>N b∨w.heap.size≤b) (fun b hb=>hb)).under;exact ⟨_,Bl,_,rfl,enters_of Tryz.func180 (by kernel_rfl) rfl,(Xt hes (by rwa [bF] at hlen) (fun y hy=>hval y.e (aZ.2 ⟨y,hy,rfl⟩)) hb ⟨.inr hB,af hb⟩).1,fun b hb=>hb.2,fun b hb=>hb.1,hg⟩
theorem aGp {l:List En} {e:Ending} (h:abf N w l e w' 155) (hlen:l.length≤1000000000) (hval:∀ x∈l,x.val.length≤1000000000000):Tv N w l e w':=by
 obtain ⟨Bl,ys,v,rfl,hB,hb,rfl,hes,hg⟩:=h;have hes:=(hes.mono (M:=fun b=>N b∨w.heap.size≤b) (fun b hb=> .inl hb)).under;exact ⟨_,Bl,_,rfl,enters_of Tryz.func155 (by kernel_rfl) rfl,(Xt hes (by rwa [bF] at hlen) (fun y hy=>hval y.e (aZ.2 ⟨y,hy,rfl⟩)) hb ⟨.inr hB,af hb⟩).2,fun b hb=>hb.2,fun b hb=>hb.1,hg⟩
def NM (D:Nat):Deferred:={target:= .collected D,args:=#[]}
theorem apm {F:Fence} {n:Nat} {P:Program} {fn:Func} {tmps:Array Value} {R:Ending→World→Prop} {v:Value} (hres:∀ w:World,(results fn tmps).run P w= .ok v w):
  ∀ (Ds:List Nat) (w:World),Ds.Nodup→(∀ D∈Ds,w.heap[D]?=some (.deferred (some [])))→
   (∀ w':World,w'.os=w.os→w'.tape=w.tape→w'.output=w.output→w.heap.size≤w'.heap.size→(∀ b,b ∉ Ds→b<w.heap.size→w'.heap[b]?=w.heap[b]?)→R (.returned v) w')→LeavesInM F n P fn tmps R (Ds.map NM) .returning w
 | [],w,_,_,hR=>⟨v,hres w,hR w rfl rfl rfl (aw _) (fun _ _ _=>rfl)⟩
 |D::Ds,w,hn,hd,hR=>by
  have mE:=List.nodup_cons.1 hn;have hD:=hd D (dR ..);have hg:=grownBy_putObj' w D (.deferred none);refine ⟨by simp,.inl ⟨D,_,rfl,run_takeDeferred hD,apm hres Ds _ mE.2 (fun D' h'=> ?_) (fun w' h1 h2 h3 h4 h5=> ?_)⟩⟩
  ·have hne:D'≠D:=fun e=>mE.1 (e ▸ h')
   have:=hd D' (fk _ h');rw [hg.block D' (af this) (fun e=>hne (bk e))];exact this
  ·refine hR w' (h1.trans hg.os) (h2.trans hg.tape) (h3.trans hg.output) (aM hg.size h4) (fun b hb hlt=> ?_)
   have hb1:b≠D:=fun e=>hb (by rw [e];exact dR ..)
   rw [h5 b (fun h=>hb (fk _ h)) (cf hlt hg.size),hg.block b hlt (fun e=>hb1 (bk e))]
theorem abg (x y:ByteArray):Op.bytesLess x.toList y.toList=true↔x.data.toList<y.data.toList:=by
 have h:=OA x y;rw [jd,jd] at h;rw [←h,jd,jd];unfold ke;rw [jd,jd];cases Op.bytesLess x.data.toList y.data.toList
 ·simp
  split<;>omega
 ·simp
theorem apn (k p:ByteArray):(!(Op.bytesLess k.toList p.toList||k.toList==p.toList))=decide (p.data.toList<k.data.toList):=by
 have h1:=abg k p;have h2:(k.toList==p.toList)=true↔k.data.toList=p.data.toList:=by rw [jd,jd];simp
 by_cases hlt:p.data.toList<k.data.toList
 ·have e1:Op.bytesLess k.toList p.toList=false:=by
   cases h:Op.bytesLess k.toList p.toList with
   |false=>rfl
   |true=>exact absurd (List.lt_trans hlt (h1.1 h)) (List.lt_irrefl _)
  have e2:(k.toList==p.toList)=false:=by
   cases h:(k.toList==p.toList) with
   |false=>rfl
   |true=>rw [h2.1 h] at hlt;exact absurd hlt (List.lt_irrefl _)
  rw [e1,e2,decide_eq_true hlt];rfl
 ·rw [decide_eq_false hlt]
  by_cases he:k.data.toList=p.data.toList
  ·rw [h2.2 he];simp
  ·have e1:Op.bytesLess k.toList p.toList=true:=h1.2 (by
    by_cases h:k.data.toList<p.data.toList
    ·exact h
    ·exact absurd (List.le_antisymm (List.not_lt.1 hlt) (List.not_lt.1 h)) he)
   rw [e1];rfl
theorem aGq (p a:ByteArray):∃ m,(if Op.bytesLess p.toList a.toList then a else p)=m∧p.data.toList≤m.data.toList∧a.data.toList≤m.data.toList∧(m=p∨m=a):=by
 by_cases h:Op.bytesLess p.toList a.toList=true
 ·exact ⟨a,if_pos h,List.le_of_lt ((abg p a).1 h),List.le_refl _,.inr rfl⟩
 ·exact ⟨p,if_neg h,List.le_refl _,List.not_lt.1 (fun hl=>h ((abg p a).2 hl)),.inl rfl⟩
theorem apo {α:Type} {P:Nat→α→Prop}:∀ n,(∀ j,j<n→∃ y,P j y)→∃ l:List α,l.length=n∧∀ (j:Nat) y,l[j]?=some y→P j y
 |0,_=>⟨[],rfl,fun j y h=>by simp at h⟩
 |n+1,h=>by
  obtain ⟨l,h1,h2⟩:=apo n (fun j hj=>h j (by omega));obtain ⟨y,hy⟩:=h n (by omega);refine ⟨l++ [y],by simp [h1],fun j z hz=> ?_⟩;by_cases hj:j<l.length
  ·rw [sO hj] at hz;exact h2 j z hz
  ·have hl:=(dG.1 hz).1
   simp only [aJ,List.length_singleton] at hl;have Tw:j=l.length:=by omega
   rw [ur (by omega),Tw,Nat.sub_self,List.getElem?_cons_zero] at hz;cases hz;rw [Tw,h1];exact hy
theorem abh (p m:ByteArray):∀ ls:List (List En),((ls.map (oq p m)).map List.length).sum≤ls.flatten.length
 | []=>aw _
 |l::ls=>by
  have h1:=abh p m ls;have h2:=(Tu p m l).length_le;simp only [cg,List.sum_cons,List.flatten_cons,aJ];omega
theorem abi {p:ByteArray} {ls:List (List En)} {e:En} (h:e∈(ls.map (oq p m)).flatten):e∈ls.flatten:=by
 obtain ⟨c,hc,he⟩:=List.mem_flatten.1 h;obtain ⟨l,hl,rfl⟩:=aZ.1 hc;exact List.mem_flatten.2 ⟨l,hl,(Tu p m l).mem he⟩
section
attribute [local go_sem] Oper.semAt_some
theorem aGr (x y:ByteArray) (t:TypeId) (w:World):(Builtin.max_ #[9,9] t #[.string x,.string y]).run Tryz.prog w= .ok (.string (if Op.bytesLess x.toList y.toList then y else x)) w:=by
 cases h:Op.bytesLess x.toList y.toList<;>simp [Builtin.max_,Builtin.max2,Op.stringOp,asBool,h]
def aGs (N:Nat→Prop) (w:World) (l:List En) (u:Value):Prop:=
 ∀ (key:ByteArray) (W:World),Grow w W→
  (∃ b,u= .iface 89 (.pointer (some ⟨b,0,none⟩))∧Calls Tryz.prog 124 #[.pointer (some ⟨b,0,none⟩),.string key] W (Tv N W (ej (spot key 18446744073709551615) l)))∨
  (∃ b,u= .iface 143 (.pointer (some ⟨b,0,none⟩))∧Calls Tryz.prog 105 #[.pointer (some ⟨b,0,none⟩),.string key] W (Tv N W (ej (spot key 18446744073709551615) l)))
theorem aGt (h:Go.Gl.Row1 57 B w v xs) (hB:B≤w.heap.size) (hl:xs.length≤1000000) (x:Value) (hx:x.oneCell'=true):
  ∃ v' w',(Builtin.append_ #[116,116] 116 #[v,.slice (some ⟨w.heap.size,0,none⟩) 1 1]).run Tryz.prog (w.alloc (.cells #[x] 57))= .ok v' w'∧Go.Gl.Row1 57 B w' v' (xs++ [x])∧w.grownBy w' v.ownBlock:=by
 have eK:(w.alloc (.cells #[x] 57)).heap[w.heap.size]?=some (.cells #[x] 57 (0,0)):=ax _ _;have lH:Src Tryz.prog 1 116 (.slice (some ⟨w.heap.size,0,none⟩) 1 1) 1 [x] (w.alloc (.cells #[x] 57)):=
  Src.ofSlice _ Tryz.underlying116 ⟨w.heap.size,0,none⟩ 1 1 [x] rfl (fun j u hu=>World.news_of_block eK j u (by simpa using hu)) (fun u hu=>by rw [cY.1 hu];exact hx)
 obtain ⟨v',w',h1,h2,h3,_⟩:=yb (ty:=116) Tryz.underlying116 Tryz.apb rfl (h.grow (ar _ _)) lH (by simp;omega) (by unfold maxLen;omega) (by omega);obtain ⟨a,b,c,d,e⟩:=h3;exact ⟨v',w',h1,h2,⟨a,b,c,aM (by simp) d,fun k hk hn=>by rw [e k (by simp;omega) hn];exact heap_alloc_old _ _ hk⟩⟩
def ScI (w2:World) (p m:ByteArray) (ls:List (List En)) (lv iv:Value) (ds:List Deferred) (W:World):Prop:=
 ∃ (i:Nat) (vals:List Value) (Ds:List Nat),iv= .int .i64 (i:Int)∧i≤ls.length∧Go.Gl.Row1 57 w2.heap.size W lv vals∧vals.length=i∧
  (∀ (j:Nat) (u:Value) l,vals[j]?=some u→ls[j]?=some l→∃ ys,cO w2.heap.size (fun _=>False) W u ys∧ys.map Ev.e=oq p m l)∧Grow w2 W∧
  ds=Ds.map NM∧Ds.Nodup∧∀ D∈Ds,w2.heap.size≤D∧W.heap[D]?=some (.deferred (some []))
theorem apq {f:En→Bool}:∀ {l:List En},(∀ x∈l,f x=true)→l.takeWhile f=l
 | [],_=>rfl
 |a::l,h=>by rw [List.takeWhile_cons,if_pos (h a (dR ..)),apq (fun x hx=>h x (fk _ hx))]
theorem apr {f:En→Bool}:∀ {a:List En} {x:En} {r:List En},(∀ y∈a,f y=true)→f x=false→(a++x::r).takeWhile f=a
 | [],x,r,_,hx=>by rw [iq,List.takeWhile_cons,if_neg (by rw [hx];exact Bool.false_ne_true)]
 |a::l,x,r,h,hx=>by rw [gG,List.takeWhile_cons,if_pos (h a (dR ..)),apr (fun y hy=>h y (fk _ hy)) hx]
def Fm (lb:Nat) (w:World) (p:ByteArray) (pre:List En) (W:World):Prop:=
 ∃ (ys:List Ev) (rv:Value),ys.map Ev.e=pre∧(∀ x∈pre,Cp p x=true)∧W.heap[lb]?=some (.cells #[rv] 57 (0,0))∧cO w.heap.size (fun _=>False) W rv ys∧GX lb w W
theorem Fm.own {p:ByteArray}:OwnFrom w.heap.size (Fm lb w p):=by
 rintro pre W W' row ⟨ys,rv,h1,h2,h3,h4,h5⟩ hg hr;refine ⟨ys,rv,h1,h2,rk hg hr h3,h4.keep hg.size (fun b hb=>hb.elim) (fun b cur t f _ _ h=>rk hg hr h),hg.os.trans h5.os,hg.tape.trans h5.tape,hg.output.trans h5.output,aM h5.size hg.size,fun k hk hne=> ?_⟩;rw [hg.block k (cf hk h5.size) (fun e=>by have:=(hr k e.symm).1;omega),h5.block k hk hne]
def Tx (lb:Nat) (w:World) (p:ByteArray) (c:Code) (pre:List En) (W:World):Prop:=c= .exit 2∧∃ Jh x,pre=Jh++ [x]∧Cp p x=false∧Fm lb w p Jh W
theorem Tx.own {p:ByteArray} (c:Code):OwnFrom w.heap.size (Tx lb w p c):=fun pre W W' row h hg hr=>by
 obtain ⟨h1,Jh,x,h2,h3,h4⟩:=h;exact ⟨h1,Jh,x,h2,h3,Fm.own Jh W W' row h4 hg hr⟩
theorem aps {α:Type}:∀ (l m:List α),l.Pairwise (· ≠ ·)→(∀ x∈l,x∈m)→l.length≤m.length
 | [],_,_,_=>aY _
 |x::l,m,hp,hm=>by
  obtain ⟨s,t,rfl⟩:=sN (hm x (dR ..));have hp':=List.pairwise_cons.1 hp;have:=aps l (s++t) hp'.2 (fun y hy=>by
   rcases cU.1 (hm y (fk _ hy)) with h|h
   ·exact cU.2 (.inl h)
   ·rcases bE.1 h with h|h
    ·exact absurd h.symm (hp'.1 y hy)
    ·exact cU.2 (.inr h))
  simp only [aJ,dH] at this ⊢;omega
def Ty (w6:World) (p a:ByteArray) (ys:List Ev) (n:Nat) (ov kv sv iv:Value) (W:World):Prop:=
 ∃ (i:Nat) (zs:List Ev) (lst:Option ByteArray),iv= .int .i64 (i:Int)∧i≤ys.length∧zs.map Ev.e++mW (xS p a) lst ((ys.drop i).map Ev.e)=mW (xS p a) none (ys.map Ev.e)∧zs.length≤n∧zs.length≤i∧
  ((lst=none∧kv= .string ⟨#[]⟩∧sv= .bool false)∨∃ k,lst=some k∧kv= .string k∧sv= .bool true)∧cO w6.heap.size (fun b=>b<w6.heap.size) W ov zs∧(∀ z∈zs,z∈ys)∧Grow w6 W
theorem aGu {ls:List (List En)} {us:List Value} (p a:ByteArray) (most:Int)
  (lH:∀ W,Grow w W→Calls Tryz.prog 45 #[.pointer (some ⟨db,0,none⟩)] W fun e w'=>∃ v,e= .returned v∧Go.Gl.Row1 113 W.heap.size w' v us∧Grow W w')
  (hlen:us.length=ls.length) (hne:ls≠ []) (hl6:ls.length≤200000) (eY:∀ (i:Nat) l u,ls[i]?=some l→us[i]?=some u→aGs N w l u) (hN:∀ b,N b→b<w.heap.size)
  (ho:∀ l∈ls,cn l) (jh:∀ l∈ls,yZ l) (hf:tN ls.flatten) (hs:∀ e∈ls.flatten,e.seq≤18446744073709551615) (hval:∀ e∈ls.flatten,e.val.length≤1000000000000) (nd:ls.flatten.length≤1000000000):
  Calls Tryz.prog 18 #[.pointer (some ⟨db,0,none⟩),.string p,.string a,.int .i64 most] w fun e w'=>∃ v ys R,e= .returned v∧cO w.heap.size (fun _=>False) w' v ys∧NL ls.flatten p a R∧ys.map Ev.e=R.take most.toNat∧Grow w w':=by
 have ah:=ar w (.cells #[.string p] 9);have dJ:=ax w (.cells #[.string p] 9);have RU:=ae (lH _ ah);have oz:=ae eY;have Hl:=ae (ag ho (ag jh (ag hf (ag hs (ag hval nd)))));have cQ:=ae ah;have HN:=ae hN;clear lH eY ho jh hf hs hval nd ah hN;refine (callsIn_wide (n:=4)).1 (callsIn_of_wp_marks Tryz.func18 rfl trivial ?_ rfl);simp only [Tryz.ntmps18,List.size_toArray,dH,iK,Nat.reduceAdd,Nat.reduceSub,Array.replicate_succ,Array.replicate_zero,List.push_toArray,List.append_toArray,iq,gG];refine wpIn_wide.2 ?_
 go_upto_region 2 with fail
 generalize w.alloc (.cells #[.string p] 9)=w1 at*;obtain ⟨pb,tR⟩:∃ pb,pb=w.heap.size:=⟨_,rfl⟩
 rw [←tR] at dJ ⊢;have ze:=ae tR;clear tR
 go_wp2_with fail
 (with_reducible refine RU.out.mono ?_);rintro e w2 ⟨v,rfl,hrow,hg2⟩;rcases id hrow with ⟨_,h0⟩|⟨gs,cap,cur,rfl,hB,eT,hn,hc,hmx,eG⟩
 ·exfalso;rw [h0] at hlen;exact hne (iI hlen.symm)
 have hat:∀ (i:Nat) (u:Value),us[i]?=some u→∀ W:World,W.heap[gs]?=some (.cells cur 113 (0,0))→W.cell? ⟨gs,i,none⟩=some u:=fun i u hu W hW=>by
  have h1:=Go.Gl.Row1.cells hrow rfl hu;simp only [World.cell?,eT] at h1;simp only [World.cell?,hW];exact h1
 rw [hlen];have YM:=ae hat;have fA:=ae (ag eT (ag hg2 dJ));have lgs:=af eT;clear hrow hB eT hn hc hmx eG hat hg2 dJ;obtain ⟨m,hm,pF,hma,Nl⟩:=aGq p a;have hmx:∀ t W,(Builtin.max_ #[9,9] t #[.string p,.string a]).run Tryz.prog W= .ok (.string m) W:=fun t W=>by rw [aGr,hm]
 have Hm:=ae (ag pF (ag hma Nl));clear hm pF hma Nl;have bJ:Hid (ScI w2 p m ls (.slice none 0 0) (.int .i64 0) [] w2):=ae ⟨0,[],[],rfl,aY _,.inl ⟨rfl,rfl⟩,rfl,(fun j u l h=>by cases h),aV _,rfl,List.nodup_nil,(fun D h=>by cases h)⟩
 go_wp2_with fail
 refine wp_loop (fun a' W=>∃ (u9 u11 u12 u13 QQ u26 QR u28 Kq Kr Ks u32 u33 Pe VD VE VF VG Pf Pg Ph Pj Pk u44 u45 u46 u47 u48 u49 u50 u51 u52 u53 u54:Value) (ds:List Deferred),ScI w2 p m ls u9 QQ ds W∧a'=⟨#[.pointer (some ⟨db,0,none⟩),.string p,.string a,.int .i64 most,undef,.pointer (some ⟨pb,0,none⟩),undef,undef,.slice none 0 0,u9,undef,u11,u12,u13,undef,undef,undef,undef,undef,undef,undef,undef,.pointer (some ⟨db,0,none⟩),.slice (some ⟨gs,0,none⟩) ls.length cap,.int .i64 (ls.length:Int),QQ,u26,QR,u28,Kq,Kr,Ks,u32,u33,Pe,VD,VE,VF,VG,Pf,Pg,Ph,Pj,Pk,u44,u45,u46,u47,u48,u49,u50,u51,u52,u53,u54,undef,undef,undef,undef,undef,undef,undef,undef,undef,undef,undef,undef,undef,undef,undef,undef,undef,undef,undef,undef,undef,undef,undef,undef,undef,undef,undef,undef,undef,undef,undef,undef,undef,undef,undef,undef,undef,undef,undef,undef,undef,undef,undef,undef,undef,undef,undef,undef,undef,undef],ds⟩) (fun a' _=>ls.length-(intOf (a'.tmps.getD 25 undef)).toNat) ?_ ?_
 ·exact ⟨_,_,_,_,_,_,_,_,_,_,_,_,_,_,_,_,_,_,_,_,_,_,_,_,_,_,_,_,_,_,_,_,_,_,[],bJ.out,rfl⟩
 rintro _ wr ⟨u9,u11,u12,u13,QQ,u26,QR,u28,Kq,Kr,Ks,u32,u33,Pe,VD,VE,VF,VG,Pf,Pg,Ph,Pj,Pk,u44,u45,u46,u47,u48,u49,u50,u51,u52,u53,u54,ds,hrel,rfl⟩;clear bJ;obtain ⟨i,vals,Ds,rfl,hi,hrow,qu,hall,hgr,rfl,iB,sg⟩:=hrel;by_cases hlt:i<ls.length
 ·obtain ⟨l,hl⟩:∃ l,ls[i]?=some l:=⟨_,dZ hlt⟩
  obtain ⟨u,hu⟩:∃ u,us[i]?=some u:=⟨_,dZ (by omega)⟩
  have abk:=hgr.heap fA.out.1;have BZ:=YM.out i u hu wr abk;have abl:Grow w1 wr:=fA.out.2.1.trans hgr;have NN:=abl.heap fA.out.2.2;have eB:(i:Int)<(ls.length:Int):=by omega
  have bO:(0:Int)≤(i:Int):=by omega
  have fE:IntKind.i64.wrap ((i:Int)+1)=((i+1:Nat):Int):=by rw [aS _ (by omega)];omega
  have lgs:=af abk;have ah:=ar wr (.cells #[.slice none 0 0] 57);have dK:=ax wr (.cells #[.slice none 0 0] 57);have nT:(wr.alloc (.cells #[.slice none 0 0] 57)).cell? ⟨pb,0,none⟩=some (.string p):=by simp [World.cell?,ah.heap NN]
  have lpb:=af (ah.heap NN);have aX:=ae (ag hrow (ag qu (ag hall (ag hgr (ag iB (ag sg hl))))));obtain ⟨lv,hlv⟩:∃ lv,lv=u9:=⟨_,rfl⟩
  have MW:=oz.out i l u hl hu m (wr.alloc (.cells #[.slice none 0 0] 57)) (cQ.out.trans (abl.trans ah));clear hrow qu hall hgr iB sg hl hlv lv;have hst:Grow wr (wr.alloc (.cells #[.slice none 0 0] 57)):=ah
  go_upto_region 6 with fail
  go_cut [33] from 29 to 33 (fun fv wx=>∃ (gf Bl:Nat) (M:Nat→Prop),fv= .func (.func gf) #[] #[.pointer (some ⟨Bl,0,none⟩)]∧(∀ args w,(callFunc gf args).run Tryz.prog w= .ok (.enter gf args) w)∧BF Tryz.prog gf #[.pointer (some ⟨Bl,0,none⟩)] (Ra wx.heap.size) M (ej (spot m 18446744073709551615) l) wx∧(∀ b,M b→b<wx.heap.size)∧(∀ b,M b→N b∨(wr.alloc (.cells #[.slice none 0 0] 57)).heap.size≤b)∧Grow (wr.alloc (.cells #[.slice none 0 0] 57)) wx)
  case first=>
   rcases MW with ⟨b,rfl,fS⟩|⟨b,rfl,fS⟩
   have jP:=Tryz.aGm (.pointer (some ⟨b,0,none⟩)) (wr.alloc (.cells #[.slice none 0 0] 57));rotate_left;have jP:=Tryz.aGn (.pointer (some ⟨b,0,none⟩)) (wr.alloc (.cells #[.slice none 0 0] 57))
   all_goals
    have kh:=ae fS;clear fS
    go_wp2_with fail
    (with_reducible refine kh.out.mono ?_);rintro e w5 ⟨gf,Bl,M,rfl,hp9⟩;have Hp9:=ae hp9;clear jP hp9
    go_wp2_with fail
    go_meet;exact ⟨gf,Bl,M,rfl,Hp9.out⟩
  case rest=>
   obtain ⟨gf,Bl,M,rfl,heg,hseq,hM,hMN,br⟩:=hcut;generalize nR:wc=w5 at*;clear BZ abk nT MW hst nR
   go_wp2_with fail
   obtain ⟨lb,nZ⟩:∃ lb,lb=wr.heap.size:=⟨_,rfl⟩
   have apH:=br.heap dK;rw [←nZ] at apH ⊢;have z1:=ah.size;have z2:=br.size;have z3:wr.heap.size<(wr.alloc (.cells #[.slice none 0 0] 57)).heap.size:=af dK;have hMl:Hid (∀ b,M b→b<w5.heap.size∧b≠lb):=ae (fun b hb=>⟨hM b hb,fun e=>by
    have h1:=cQ.out.size;have h2:=abl.size;rcases hMN b hb with h|h
    ·have:=HN.out b h;omega
    ·omega⟩)
   have apJ:Hid (lb<w5.heap.size∧pb<wr.heap.size):=ae ⟨by omega,af NN⟩;have h0:Fm lb w5 p [] w5:=⟨[],.slice none 0 0,rfl,(fun x h=>by cases h),apH,⟨iL _ _ _ _,fun _ h=>(by cases h)⟩,GX.refl _ _⟩
   have Hlb:=ae nZ;have xQ:=ae br;have aMe:=(ah.trans br).heap NN;clear nZ;refine Xn (gf:=gf) (lb:=#[.pointer (some ⟨Bl,0,none⟩)]) rfl heg (R:=Ra w5.heap.size) (N:=M) (xs:=ej (spot m 18446744073709551615) l) hseq (Kp.refl _ _) hM (fun x v W h=>by obtain ⟨_,rfl,_⟩:=h;rfl) (fun x v=>alT x v)
    (Fm lb w5 p) (Tx lb w5 p) Fm.own (fun c=>Tx.own c) h0 ?round ?done ?stop
   case round=>
    rintro l1 pre x rest v W dp yh hW hI zh;obtain ⟨sv,rfl,Fo⟩:=zh;obtain ⟨xa,xc,rfl⟩:=Fo.slice;have Hgo:=ae dp;clear hI Fo dp;gi_wp2;refine ⟨ar _ _,fun W2 hs2 hc2 Ay BG=> ?_⟩;have iV:=hc2 _ _ _ _ (ax W (.cells #[.string x.key,.int .u64 x.seq,.bool x.gone,.slice xa x.val.length xc] 60));obtain ⟨zs,rv,e1,apL,gL,hrow,dM⟩:=Ay;obtain ⟨sv,lA,Fo⟩:=BG;obtain rfl:sv= .slice xa x.val.length xc:=by
     have h1:=congrArg (fun a:Array Value=>a[0]?) lA;simpa using h1.symm
    have hzl:zs.length≤1000000000:=by
     have h1:=congrArg List.length e1;have h2:=congrArg List.length Hgo.out;have h3:=Hl.out.2.2.2.2.2;have h4:l.length≤ls.flatten.length:=by rw [List.length_flatten];exact Tp (aZ.2 ⟨l,dB aX.out.2.2.2.2.2.2,rfl⟩)
     have h5:(ej (spot m 18446744073709551615) l).length≤l.length:=(List.dropWhile_sublist _).length_le;rw [bF] at h1;rw [aJ] at h2;omega
    have fH:mQ (fun _=>False) w5.heap.size W2 ⟨x,.slice xa x.val.length xc⟩:=⟨cI Fo,.inr (fun b hb=> .inr ⟨by have:=(Fo.lt hb).1;omega,by obtain ⟨cur,hc⟩:=Fo.block hb;exact ⟨cur,_,hc,rfl⟩⟩)⟩
    obtain ⟨g,cap,w4,hrun,hrow4,hg4⟩:=LC hrow fH (fun b hb=>hb.elim) (aM dM.size (aw _)) hzl;obtain ⟨ra,rc,rfl⟩:=hrow.slice;have b0:W2.cell? ⟨lb,0,none⟩=some (.slice ra zs.length rc):=by simp [World.cell?,gL]
    have FA:=af gL;obtain ⟨q0,q1,q2,q3⟩:=cS iV;have lq2:=af iV;have abn:W2.heap[pb]?=some (.cells #[.string p] 9 (0,0)):=dM.heap ((ah.trans br).heap NN) (fun e=>by have:=apJ.out.2;have:=Hlb.out;omega);have p0:W2.cell? ⟨pb,0,none⟩=some (.string p):=by simp [World.cell?,abn]
    have JD:=af abn;have zo:=JK x.key p W2;have pq:w4.heap[lb]?=some (.cells #[.slice ra zs.length rc] 57 (0,0)):=by
     rw [hg4.block _ FA (fun e=> ?_)]
     ·exact gL
     ·obtain ⟨_,cur,h1⟩:=sw hrow e.symm
      rw [gL] at h1;exact absurd (cE (bk h1)).2.1 (by decide)
    have c4:w4.cell? ⟨lb,0,none⟩=some (.slice ra zs.length rc):=by simp [World.cell?,pq]
    have f4:w4.frozen? ⟨lb,0,none⟩=false:=by simp [World.frozen?,pq]
    have l4:=af pq;have cW:=ae hrun;have Hb:=ae (ag e1 (ag dM (ag hrow (ag hrow4 (ag hg4 (ag pq gL))))));have apM:=ae apL;clear hrun hrow4 hg4 fH Fo lA hc2 hs2 iV abn hrow dM gL pq e1 apL;obtain ⟨hp,Fp⟩:∃ b,Lib.hasPrefix x.key.data.toList p.data.toList=b:=⟨_,rfl⟩
    have kQ:=apn x.key p;obtain ⟨b1,hb1⟩:∃ b,Op.bytesLess x.key.toList p.toList=b:=⟨_,rfl⟩
    obtain ⟨b2,hb2⟩:∃ b,(x.key.toList==p.toList)=b:=⟨_,rfl⟩
    rw [Fp] at zo;rw [hb1,hb2] at kQ;have Fq:=ae zo;have hgo:Hid (Cp p x=(hp||(b1||b2))):=ae (by unfold Cp;rw [Fp,←kQ];simp);clear zo Fp kQ;have Tz:(hp=false∧b1=false∧b2=false)∨(hp=true∨(hp=false∧b1=true)∨(hp=false∧b1=false∧b2=true)):=by cases hp<;>cases b1<;>cases b2<;>simp
    rcases Tz with ⟨rfl,rfl,rfl⟩|Tz
    ·gi_wp2_with (refine ⟨trivial,?_⟩;gi_at_call 46;refine (CallsIn.inRound l1 (callsIn_wide.2 Fq.out)).mono ?_;rintro e w6 ⟨rfl,rfl⟩)
     have hb:=Hb.out;exact ⟨KeepsFrom.refl _ _,rfl,pre,x,rfl,by rw [hgo.out];rfl,zs,_,hb.1,apM.out,hb.2.2.2.2.2.2,hb.2.2.1,hb.2.1⟩
    ·have aGy:Hid (Cp p x=true):=ae (by
      rw [hgo.out];rcases Tz with rfl|⟨rfl,rfl⟩|⟨rfl,rfl,rfl⟩<;>simp)
     clear hgo;rcases Tz with rfl|⟨rfl,rfl⟩|⟨rfl,rfl,rfl⟩
     all_goals
      gi_wp2_with (first|(refine ⟨trivial,?_⟩;gi_at_call 46;refine (CallsIn.inRound l1 (callsIn_wide.2 Fq.out)).mono ?_;rintro e w6 ⟨rfl,rfl⟩)|(gi_at_builtin;refine aid rfl _ _ _ rfl rfl rfl cW.out ?_))
      have hb:=Hb.out;have hs2:=hb.2.2.2.2.1;have Xs:(w4.setCell ⟨lb,0,none⟩ (.slice (some ⟨g,0,none⟩) (zs.length+1) cap)).heap[lb]?=some (.cells #[.slice (some ⟨g,0,none⟩) (zs.length+1) cap] 57 (0,0)):=Go.Gl.aK hb.2.2.2.2.2.1 0 _;have hown:∀ b,(Value.slice ra zs.length rc).ownBlock=some b→w5.heap.size≤b∧∃ cur,w6.heap[b]?=some (.cells cur 60 (0,0)):=fun b e=>sw hb.2.2.1 e
      have yz:∀ b,b≠lb→b<w6.heap.size→(Value.slice ra zs.length rc).ownBlock≠some b→(w4.setCell ⟨lb,0,none⟩ (.slice (some ⟨g,0,none⟩) (zs.length+1) cap)).heap[b]?=w6.heap[b]?:=fun b h1 h2 h3=>by
       rw [aP _ _ _ _ h1,hs2.block b h2 (fun e=>h3 e.symm)]
      have LF:w6.heap.size≤(w4.setCell ⟨lb,0,none⟩ (.slice (some ⟨g,0,none⟩) (zs.length+1) cap)).heap.size:=by simpa using hs2.size
      refine ⟨⟨LF,fun k o hk ho hc=> ?_⟩,⟨LF,fun b GS hlt=> ?_⟩,zs++ [⟨x,.slice xa x.val.length xc⟩],_,by rw [dD,hb.1];rfl,fun y hy=> ?_,Xs,?_,?_⟩
      ·rw [yz k (by have:=apJ.out.1;omega) (af ho) (fun e=> ?_)]
       ·exact ho
       ·obtain ⟨_,cur,h1⟩:=hown k e
        rw [ho] at h1;cases h1;cases hc
      ·exact yz b (hMl.out b GS).2 hlt (fun e=>by have:=(hown b e).1;have:=(hMl.out b GS).1;omega)
      ·rcases cU.1 hy with hy|hy
       ·exact apM.out y hy
       ·rw [cY.1 hy];exact aGy.out
      ·refine hb.2.2.2.1.keep (by simp) (fun b xF=>xF.elim) (fun b cur t f hB ht hcb=> ?_)
       rw [aP _ _ _ _ (fun e=> ?_)]
       ·exact hcb
       ·have e':b=lb:=e
        rw [e',hb.2.2.2.2.2.1] at hcb;have h9:=(cE (bk hcb)).2.1;rcases ht with rfl|rfl
        ·exact absurd h9 (by decide)
        ·exact absurd h9 (by decide)
      ·refine ⟨hs2.os.trans hb.2.1.os,hs2.tape.trans hb.2.1.tape,hs2.output.trans hb.2.1.output,by have:=hb.2.1.size;omega,fun k hk hne=> ?_⟩
       rw [yz k (fun e=>hne (by rw [e])) (cf hk hb.2.1.size) (fun e=>by have:=(hown k e).1;omega),hb.2.1.block k hk hne]
   case' done=>
    rintro D W hD ⟨ys,rv,e1,hgo,gL,hrow,hgx⟩ hK;have hcut:Hid (ys.map Ev.e=oq p m l):=ae (by
     rw [e1];unfold oq;exact (apq hgo).symm)
    clear hseq h0 heg hgo e1
   case' stop=>
    rintro D c pre x rest W hD dp ⟨rfl,Jh,x0,hpe,hx0,ys,rv,e1,hgo,gL,hrow,hgx⟩ hK;have hcut:Hid (ys.map Ev.e=oq p m l):=ae (by
     obtain ⟨rfl,pw⟩:=List.append_inj' hpe rfl;cases pw;rw [e1];unfold oq;rw [dp];exact (apr hgo hx0).symm)
    clear hseq h0 heg hgo e1 dp hpe hx0
   all_goals
    obtain ⟨ra,rc,rfl⟩:=hrow.slice;have b0:W.cell? ⟨lb,0,none⟩=some (.slice ra ys.length rc):=by simp [World.cell?,gL]
    have FA:=af gL;have z4:wr.heap.size≤W.heap.size:=by have:=hgx.size;omega
    obtain ⟨hr1,hr2,hr3,hr4,tX,Gn,AW⟩:=aX.out;have gQ:∀ b,b<wr.heap.size→W.heap[b]?=wr.heap[b]?:=fun b hb=>by
     rw [hgx.block b (by omega) (fun e=>by have e':b=lb:=bk e;have:=Hlb.out;omega),br.block b (by omega),ah.block b hb]
    have uV:Go.Gl.Row1 57 w2.heap.size W u9 vals:=hr1.keep (fun b hb=>gQ b (hr1.lt hb).2);obtain ⟨l9,c9,hu9⟩:=uV.slice;have hzw:w2.heap.size≤wr.heap.size:=hr4.size;obtain ⟨v',w',hrun,hrow',Ao⟩:=aGt uV (by omega) (by omega) (.slice ra ys.length rc) rfl;have ym:Grow wr W:=⟨hgx.os.trans (br.os.trans ah.os),hgx.tape.trans (br.tape.trans ah.tape),hgx.output.trans (br.output.trans ah.output),z4,gQ⟩
    have hrel:ScI w2 p m ls v' (.int .i64 ((i+1:Nat):Int)) (NM D::List.map NM Ds) w':=by
     have hap:∀ (b:Nat) (o:Obj),W.heap[b]?=some o→(∀ cur f,o≠ .cells cur 57 f)→w'.heap[b]?=some o:=fun b o ho hne=>by
      rw [Ao.block b (af ho) (fun e=> ?_)]
      ·exact ho
      ·obtain ⟨cur,hc⟩:=uV.block e.symm
       rw [ho] at hc;exact hne _ _ (bk hc)
     have yy:∀ (b:Nat) (cur:Array Value) (t:TypeId) (f:Nat×Nat),(t=5∨t=60)→W.heap[b]?=some (.cells cur t f)→w'.heap[b]?=some (.cells cur t f):=fun b cur t f ht hc=>hap b _ hc (fun cur' f' e=>by
      have h9:=(cE e).2.1;rcases ht with rfl|rfl
      ·exact absurd h9 (by decide)
      ·exact absurd h9 (by decide))
     refine ⟨i+1,vals++ [.slice ra ys.length rc],D::Ds,rfl,hlt,hrow',by simp [hr2],fun j u l' hj hl'=> ?_,?_,rfl,?_,fun D' hD'=> ?_⟩
     ·by_cases Tw:j<vals.length
      ·rw [sO Tw] at hj
       obtain ⟨ys2,k1,k2⟩:=hr3 j u l' hj hl';exact ⟨ys2,k1.keep (aM z4 Ao.size) (fun b hb=>hb.elim) (fun b cur t f _ ht hc=>yy b cur t f ht ((gQ b (af hc)).trans hc)),k2⟩
      ·have iu:j=vals.length:=by
        have:=(dG.1 hj).1;simp only [aJ,List.length_singleton] at this;omega
       subst iu;rw [ur (aw _),Nat.sub_self,List.getElem?_cons_zero] at hj;cases hj;rw [hr2,AW] at hl';cases hl';exact ⟨ys,(hrow.mono (by omega)).keep Ao.size (fun b hb=>hb.elim) (fun b cur t f _ ht hc=>yy b cur t f ht hc),hcut.out⟩
     ·exact (hr4.trans ym).grown Ao (by omega) (fun k e=>(uV.lt e).1)
     ·refine List.nodup_cons.2 ⟨fun hm=> ?_,tX⟩
      have h9:=af (Gn D hm).2;omega
     ·rcases bE.1 hD' with rfl|hD'
      ·exact ⟨by omega,hap _ _ hK (fun _ _ e=>by cases e)⟩
      ·obtain ⟨k1,k2⟩:=Gn D' hD'
       exact ⟨k1,hap _ _ ((gQ D' (af k2)).trans k2) (fun _ _ e=>by cases e)⟩
    have cW:=ae hrun;have aGB:=ae hrel;subst hu9;clear hrun hrel hr1 hr2 hr3 hr4 tX Gn AW uV gQ ym hrow' Ao
    go_wp2_with (at_builtin;refine fI rfl rfl rfl rfl cW.out ?_)
    refine ⟨⟨v',_,_,_,.int .i64 ((i+1:Nat):Int),_,_,_,_,_,_,_,_,_,_,_,_,_,_,_,_,_,_,_,_,_,_,_,_,_,_,_,_,_,_,aGB.out,rfl⟩,?_⟩;simp [intOf];omega
 ·obtain rfl:i=ls.length:=by omega
  have hl:=Hl.out;obtain ⟨bR,hx1,hx2⟩:=apo (P:=fun j ys=>∀ (u:Value) l,vals[j]?=some u→ls[j]?=some l→cO w2.heap.size (fun _=>False) wr u ys∧ys.map Ev.e=oq p m l) vals.length (fun j hj=>by
   obtain ⟨ys,k1,k2⟩:=hall j _ _ (dZ hj) (dZ (by omega));refine ⟨ys,fun u l h1 h2=> ?_⟩;rw [dZ hj] at h1;rw [dZ (by omega)] at h2;cases h1;cases h2;exact ⟨k1,k2⟩)
  have hmap:bR.map (List.map Ev.e)=ls.map (oq p m):=by
   apply List.ext_getElem?;intro j;rw [gZ,gZ];by_cases hj:j<ls.length
   ·rw [dZ hj,dZ (show j<bR.length by omega)]
    have:=(hx2 j _ (dZ (show j<bR.length by omega)) _ _ (dZ (by omega)) (dZ hj)).2;simp only [Option.map_some];rw [this]
   ·rw [List.getElem?_eq_none (by omega),List.getElem?_eq_none (by omega)];rfl
  have cK:∀ xs∈bR,∃ l∈ls,xs.map Ev.e=oq p m l:=fun xs dp=>by
   have h1:xs.map Ev.e∈ls.map (oq p m):=by rw [←hmap];exact aZ.2 ⟨xs,dp,rfl⟩
   obtain ⟨l,h2,h3⟩:=aZ.1 h1;exact ⟨l,h2,h3.symm⟩
  rcases id hrow with ⟨_,h0⟩|⟨gb,gc,aMg,rfl,tD,hgb,_⟩
  ·exfalso;rw [h0] at qu;exact hne (iI qu.symm)
  have hes:gY (fun b=>w2.heap.size≤b∧b<wr.heap.size) wr gb bR:=gY.ofRow hrow hx1.symm (fun j u xs hu dp=>by
   have h2:=dZ (show j<ls.length by have:=(dG.1 hu).1;omega);exact ((hx2 j xs dp u _ hu h2).1.es (M:=fun b=>w2.heap.size≤b) (fun b hb=>hb.elim (fun h=>h.elim) id)).under)
  have xR:=aGf (c:=gc) hes (fun b hb=>hb.2) (by
    have h1:=abh p m ls;have h2:(bR.map List.length)=((ls.map (oq p m)).map List.length):=by
     rw [←hmap,eX];exact iJ (fun l _=>by simp)
    rw [h2];have:=hl.2.2.2.2.2;omega) (by omega) (fun xs dp x hx=>by
    obtain ⟨l,h1,h2⟩:=cK xs dp;refine hl.2.2.2.2.1 x.e (abi (p:=p) (m:=m) (List.mem_flatten.2 ⟨_,aZ.2 ⟨l,h1,rfl⟩,?_⟩));rw [←h2];exact aZ.2 ⟨x,hx,rfl⟩) (fun xs dp=>by
    obtain ⟨l,h1,h2⟩:=cK xs dp;rw [h2];exact List.Pairwise.sublist (Tu p m l) (hl.1 l h1)) (fun xs dp=>by
    obtain ⟨l,h1,h2⟩:=cK xs dp;rw [h2];exact fun e he=>hl.2.1 l h1 e ((Tu p m l).mem he)) (by
    rw [hmap];exact fun x hx y hy=>hl.2.2.1 x (abi hx) y (abi hy))
  rw [hx1,hmap] at xR;have Hmg:=ae xR;have NP:=ae (ag iB (ag sg hgr));clear xR hes cK hmap hx1 hx2 hrow hall hgb tD iB sg hgr qu hl
  go_wp2_with fail
  (with_reducible refine Hmg.out.mono ?_);rintro e w6 ⟨v6,ys,rfl,hM,EY,cx⟩;obtain ⟨ra,rc,rfl⟩:=EY.slice;have H6:=ae (ag hM (ag EY cx));clear hM EY cx Hmg;obtain ⟨n,hn⟩:∃ n,n=most.toNat:=⟨_,rfl⟩
  have akc:max most 0=(n:Int):=by omega
  have Hn:=ae hn;have dW:Hid (ys.length≤1000000000):=ae (by
   have h1:=aps (ys.map Ev.e) (ls.map (oq p m)).flatten (H6.out.1.1.imp ayN) (fun x hx=>by
    obtain ⟨l,h2,h3⟩:=(H6.out.1.2 x).1 hx;exact List.mem_flatten.2 ⟨l,h2,h3⟩)
   have h2:=abh p m ls;have h3:=Hl.out.2.2.2.2.2;rw [List.length_flatten,bF] at h1;omega)
  have sL:Hid (Ty w6 p a ys n (.slice none 0 0) (.string ⟨#[]⟩) (.bool false) (.int .i64 0) w6):=ae ⟨0,[],none,rfl,aY _,by simp,aY _,aY _,.inl ⟨rfl,rfl,rfl⟩,⟨iL _ _ _ _,fun _ h=>(by cases h)⟩,(fun z h=>by cases h),aV _⟩;have fB:Hid (∀ (W:World) (zs:List Ev) (ov:Value) (tm:Array Value),(∀ W',(results Tryz.f18 tm).run Tryz.prog W'= .ok ov W')→cO w6.heap.size (fun b=>b<w6.heap.size) W ov zs→(∀ z∈zs,z∈ys)→Grow w6 W→zs.map Ev.e=(mW (xS p a) none (ys.map Ev.e)).take n→
    LeavesInM Fence.wide 4 Tryz.prog Tryz.f18 tm (fun e w'=>∃ v ys R,e= .returned v∧cO w.heap.size (fun _=>False) w' v ys∧NL ls.flatten p a R∧ys.map Ev.e=R.take most.toNat∧Grow w w') (Ds.map NM) .returning W):=ae (fun W zs ov tm hres hrow zS hg heq=>by
   have hwW:Grow wr W:=H6.out.2.2.trans hg;have hw2:Grow w w2:=cQ.out.trans fA.out.2.1;have hwr:=hw2.trans NP.out.2.2;have hdW:∀ D∈Ds,W.heap[D]?=some (.deferred (some [])):=fun D hD=>hwW.heap (NP.out.2.1 D hD).2
   refine apm hres Ds W NP.out.1 hdW (fun w' h1 h2 h3 h4 h5=> ?_);have ri:∀ (b:Nat) (cur:Array Value) (t:TypeId) (f:Nat×Nat),W.heap[b]?=some (.cells cur t f)→w'.heap[b]?=some (.cells cur t f):=fun b cur t f hc=>by
    rw [h5 b (fun hD=>by rw [hdW b hD] at hc;cases hc) (af hc)];exact hc
   have hrW:cO w.heap.size (fun _=>False) W ov zs:=⟨qK hrow.1 (by have:=hwr.size;have:=H6.out.2.2.size;omega),fun z hz=>by
    have h6:=(H6.out.2.1.2 z (zS z hz)).keep hg.size (fun b hb=>hb.elim) (fun b cur f _ hc=>hg.heap hc);exact ⟨h6.1,h6.2.imp id (fun h2 b hb=>(h2 b hb).imp id (fun h3=>⟨by have:=hwr.size;omega,h3.2⟩))⟩⟩
   have eZ:=hwr.trans hwW;refine ⟨ov,zs,_,rfl,hrW.keep h4 (fun b hb=>hb.elim) (fun b cur t f _ _ hc=>ri b cur t f hc),aGk Hl.out.2.2.1 (fun e=>List.mem_flatten) Hl.out.1 Hl.out.2.2.2.1 Hm.out.1 Hm.out.2.1 Hm.out.2.2 H6.out.1,by rw [←Hn.out];exact heq,h1.trans eZ.os,h2.trans eZ.tape,h3.trans eZ.output,aM eZ.size h4,fun k hk=> ?_⟩;rw [h5 k (fun hD=>by have:=(NP.out.2.1 k hD).1;have:=hw2.size;omega) (cf hk eZ.size),eZ.block k hk])
  clear hn
  go_wp2_with fail
  go_loopw [16,17,18,62] (fun ov kv sv iv W=>Ty w6 p a ys n ov kv sv iv W) (fun _ _ _ iv _=>ys.length-(intOf iv).toNat)
  case atStart=>exact sL.out
  case round=>
   clear sL;obtain ⟨j,zs,lst,rfl,hj,hT,hzn,hzj,abq,hrow,zS,rX⟩:=hrel;by_cases hlt:j<ys.length
   ·have Mh:Es (fun _=>True) w6 (.slice ra ys.length rc) ys:=H6.out.2.1.es (fun b _=>trivial)
    obtain ⟨x,b,o,c,xa,xc,hx,hv,hb,cN,mP,c0,c1,c2,c3⟩:=Mh.read rX hlt;cases hv;have eB:(j:Int)<(ys.length:Int):=by omega
    have bO:(0:Int)≤(j:Int):=by omega
    have fE:IntKind.i64.wrap ((j:Int)+1)=((j+1:Nat):Int):=by have:=dW.out;rw [aS _ (by omega)];omega
    obtain ⟨oa,oc,rfl⟩:=hrow.slice;by_cases aGD:n≤zs.length
    ·have hf1:(n:Int)≤(zs.length:Int):=by omega
     have hzs:zs.map Ev.e=(mW (xS p a) none (ys.map Ev.e)).take n:=by
      rw [←hT,List.take_append_of_le_length (by rw [bF];exact aGD),List.take_of_length_le (by rw [bF];exact hzn)]
     have pY:=ar wr (.cells #[.string x.e.key,.int .u64 x.e.seq,.bool x.e.gone,.slice xa x.e.val.length xc] 60);have bw:=ae (ag (hrow.grow pY (fun b hb=>cf hb rX.size)) (ag zS (ag (rX.trans pY) hzs)));clear hrow zS rX hzs hT abq mP cN hx pY
     go_wp2_with fail
     exact fB.out _ zs (.slice oa zs.length oc) _ (fun w=>by exact results_tmp (t:=8) rfl _ _ _) bw.out.1 bw.out.2.1 bw.out.2.2.1 bw.out.2.2.2
    ·obtain ⟨⟨xk,xs,xg,xd⟩,xv⟩:=x
     simp only at cN;subst cN;have pY:=ar wr (.cells #[.string xk,.int .u64 xs,.bool xg,.slice xa xd.length xc] 60);have nX:=ax wr (.cells #[.string xk,.int .u64 xs,.bool xg,.slice xa xd.length xc] 60);have Cq:=rX.trans pY;have EH:=hrow.grow pY (fun b hb=>cf hb rX.size);have mK:=dB hx;have hdr:(ys.drop j).map Ev.e=⟨xk,xs,xg,xd⟩::(ys.drop (j+1)).map Ev.e:=by
      rw [mh hlt];rw [dZ hlt] at hx;rw [bk hx];rfl
     rw [hdr] at hT
     go_upto_region 18 with fail
     clear c0 c1 c2 c3 hb;obtain ⟨qb,abr⟩:∃ qb,qb=wr.heap.size:=⟨_,rfl⟩
     rw [←abr] at nX ⊢;have aMj:=ae abr;clear abr;generalize wr.alloc (.cells #[.string xk,.int .u64 xs,.bool xg,.slice xa xd.length xc] 60)=wa at*;have abt:wa.heap[pb]?=some (.cells #[.string p] 9 (0,0)):=Cq.heap (H6.out.2.2.heap (NP.out.2.2.heap (fA.out.2.1.heap fA.out.2.2)));have Mf:mQ (fun b=>b<w6.heap.size) w6.heap.size wa ⟨⟨xk,xs,xg,xd⟩,.slice xa xd.length xc⟩:=by
      have h5:=H6.out.2.1.2 _ mK;have h6:=h5.keep Cq.size (fun b hb=>hb.elim) (fun b cur f _ hc=>Cq.heap hc);refine ⟨h6.1,h5.2.imp id (fun h2 b hb=> .inl ?_)⟩;rcases h2 b hb with h3|⟨_,cur,f,h4,_⟩
      ·exact h3.elim
      ·exact af h4
     have aMk:=dW.out;obtain ⟨g9,aGE,w8,hrun,lB,sF⟩:=LC EH Mf (fun b hb=>hb) Cq.size (by omega);have xN:Grow w6 w8:=Cq.grown sF Cq.size (fun k e=>(sw EH e).1);have zo:=JK xk p wa;have kQ:=apn xk a;obtain ⟨hp,Fp⟩:∃ b,Lib.hasPrefix xk.data.toList p.data.toList=b:=⟨_,rfl⟩
     obtain ⟨b1,hb1⟩:∃ b,Op.bytesLess xk.toList a.toList=b:=⟨_,rfl⟩
     obtain ⟨b2,hb2⟩:∃ b,(xk.toList==a.toList)=b:=⟨_,rfl⟩
     rw [Fp] at zo;rw [hb1,hb2] at kQ;have ib:xS p a ⟨xk,xs,xg,xd⟩=(!xg&& !(b1||b2)&&hp):=by unfold xS;rw [Fp,←kQ]
     have Cr:Hid (¬ (lst≠some xk∧(!xg&& !(b1||b2)&&hp)=true)→Ty w6 p a ys n (.slice oa zs.length oc) (.string xk) (.bool true) (.int .i64 ((j+1:Nat):Int)) wa):=ae (fun hno=>⟨j+1,zs,some xk,rfl,hlt,by rw [←hT,mW,if_neg (by rw [ib];exact hno)],hzn,by omega,.inr ⟨_,rfl,rfl,rfl⟩,EH,zS,Cq⟩);have Fs:Hid (lst≠some xk∧(!xg&& !(b1||b2)&&hp)=true→Ty w6 p a ys n (.slice (some ⟨g9,0,none⟩) (zs.length+1) aGE) (.string xk) (.bool true) (.int .i64 ((j+1:Nat):Int)) w8):=ae (fun aaV=>⟨j+1,zs++ [⟨⟨xk,xs,xg,xd⟩,.slice xa xd.length xc⟩],some xk,rfl,hlt,by rw [←hT,mW,if_pos (by rw [ib];exact aaV)];simp,by simp;omega,by simp;omega,.inr ⟨_,rfl,rfl,rfl⟩,lB,fun z hz=>by
      rcases cU.1 hz with hz|hz
      ·exact zS z hz
      ·rw [cY.1 hz];exact mK,xN⟩)
     have cW:=ae hrun;have Fq:=ae zo;obtain ⟨q0,q1,q2,q3⟩:=cS nX;have lq:=af nX;have p0:wa.cell? ⟨pb,0,none⟩=some (.string p):=by simp [World.cell?,abt]
     have lp:=af abt;have hf0:¬ (n:Int)≤(zs.length:Int):=by omega
     have Cs:(xg=false∧b1=false∧b2=false∧hp=true)∨(xg=true∨(xg=false∧b1=true)∨(xg=false∧b1=false∧b2=true)∨(xg=false∧b1=false∧b2=false∧hp=false)):=by cases xg<;>cases b1<;>cases b2<;>cases hp<;>simp
     clear pY Cq EH hdr hT Mf hrun lB sF xN zo kQ Fp ib hrow zS rX mP hx mK abt;have vr:∀ k:ByteArray,(xk.toList==k.toList)=true→k=xk:=fun k h=>by
      rw [jd,jd] at h;have h2:xk.data.toList=k.data.toList:=by simpa using h
      exact (Bh h2).symm
     rcases abq with ⟨rfl,rfl,rfl⟩|⟨k,rfl,rfl,rfl⟩
     ·rcases Cs with ⟨rfl,rfl,rfl,rfl⟩|Cs
      ·have aX:=ae (Fs.out ⟨by simp,rfl⟩)
       clear Cr Fs
       go_wp2_with (first|((with_reducible refine Fq.out.mono ?_);rintro e w7 ⟨rfl,hw⟩;have hw':=hw.symm;subst hw';clear hw)|(at_builtin;refine fI rfl rfl rfl rfl cW.out ?_))
       go_roundw
       case rel=>exact aX.out
       case measure=>simp [intOf];omega
      ·have aX:=ae (Cr.out (by rintro ⟨_,h⟩;rcases Cs with rfl|⟨rfl,rfl⟩|⟨rfl,rfl,rfl⟩|⟨rfl,rfl,rfl,rfl⟩<;>simp at h))
       clear Cr Fs;rcases Cs with rfl|⟨rfl,rfl⟩|⟨rfl,rfl,rfl⟩|⟨rfl,rfl,rfl,rfl⟩
       all_goals
        go_wp2_with ((with_reducible refine Fq.out.mono ?_);rintro e w7 ⟨rfl,hw⟩;have hw':=hw.symm;subst hw';clear hw)
        go_roundw
        case rel=>exact aX.out
        case measure=>simp [intOf];omega
     ·obtain ⟨kb,hkb⟩:∃ kb,(xk.toList==k.toList)=kb:=⟨_,rfl⟩
      cases kb
      ·have hlk:some k≠some xk:=fun h=>by cases bk h;simp at hkb
       rcases Cs with ⟨rfl,rfl,rfl,rfl⟩|Cs
       ·have aX:=ae (Fs.out ⟨hlk,rfl⟩)
        clear Cr Fs
        go_wp2_with (first|((with_reducible refine Fq.out.mono ?_);rintro e w7 ⟨rfl,hw⟩;have hw':=hw.symm;subst hw';clear hw)|(at_builtin;refine fI rfl rfl rfl rfl cW.out ?_))
        go_roundw
        case rel=>exact aX.out
        case measure=>simp [intOf];omega
       ·have aX:=ae (Cr.out (by rintro ⟨_,h⟩;rcases Cs with rfl|⟨rfl,rfl⟩|⟨rfl,rfl,rfl⟩|⟨rfl,rfl,rfl,rfl⟩<;>simp at h))
        clear Cr Fs;rcases Cs with rfl|⟨rfl,rfl⟩|⟨rfl,rfl,rfl⟩|⟨rfl,rfl,rfl,rfl⟩
        all_goals
         go_wp2_with ((with_reducible refine Fq.out.mono ?_);rintro e w7 ⟨rfl,hw⟩;have hw':=hw.symm;subst hw';clear hw)
         go_roundw
         case rel=>exact aX.out
         case measure=>simp [intOf];omega
      ·obtain rfl:=vr k hkb
       have aX:=ae (Cr.out (fun h=>h.1 rfl));clear Cr Fs
       go_wp2_with fail
       go_roundw
       case rel=>exact aX.out
       case measure=>simp [intOf];omega
   ·obtain rfl:j=ys.length:=by omega
    rw [List.drop_length,List.map_nil,mW,List.append_nil] at hT;have hzs:zs.map Ev.e=(mW (xS p a) none (ys.map Ev.e)).take n:=by
     rw [←hT,List.take_of_length_le (by rw [bF];exact hzn)]
    obtain ⟨oa,oc,rfl⟩:=hrow.slice;have bw:=ae (ag hrow (ag zS (ag rX hzs)));clear hrow zS rX hzs hT abq
    go_wp2_with fail
    exact fB.out _ zs (.slice oa zs.length oc) _ (fun w=>by exact results_tmp (t:=8) rfl _ _ _) bw.out.1 bw.out.2.1 bw.out.2.2.1 bw.out.2.2.2
end
section
variable {Z B Nn A C i:Nat} {w:World} {t:Tr} {f:Lk} {T K:Nat} {s:eP}
theorem aGF (h:eJ Z B Nn A C i w t f T K s):s.V.tabs.length≤A:=by
 have h1:s.V.tabs.length≤(s.V.tabs.map fun x=>(s.ay x.file).length).sum:=by
  have hp:∀ l:List Tb,(∀ x∈l,s.ay x.file≠ [])→l.length≤(l.map fun x=>(s.ay x.file).length).sum:=by
   intro l
   induction l with
   |nil=>intro _;exact aw _
   |cons x l ih=>
    intro hl;have h2:=List.length_pos_iff.2 (hl x (dR ..));have h3:=ih (fun y hy=>hl y (fk _ hy));simp only [dH,cg,List.sum_cons];omega
  exact hp _ (fun x hx=>(h.gM.ay x hx).1)
 have:=h.lim.pB;omega
theorem apR (x:En) (l:List En):(ej x l).length≤l.length:=by
 unfold ej
 first
 |exact List.length_filter_le _ _
 |exact (List.dropWhile_sublist _).length_le
theorem apT {x e:En} {l:List En} (h:e∈ej x l):e∈l:=by
 unfold ej at h
 first
 |exact (List.mem_filter.1 h).1
 |exact (List.dropWhile_sublist _).mem h
theorem aGG (h:eJ Z B Nn A C i w t f T K s) (hA:A≤100000) (p a:ByteArray) (most:Int):
  Calls Tryz.prog 18 #[.pointer (some ⟨t.db,0,none⟩),.string p,.string a,.int .i64 most] w fun e w'=>∃ v ys R,e= .returned v∧cO w.heap.size (fun _=>False) w' v ys∧NL (eu s) p a R∧ys.map Ev.e=R.take most.toNat∧Grow w w':=by
 obtain ⟨aU,hm⟩:=h.tree.mem;have hV:=h.V;have hlen:=aGF h;have hown:=h.tree.own;have cM:=h.tree.set;rw [hV] at hown cM;have hle:=h.lim.pB;have ed:(eu s).length≤A:=by
  unfold eu;rw [aJ,List.length_flatten,eX];exact hle
 have eU:∀ x∈s.V.tabs,(s.ay x.file).length≤A:=fun x hx=>by
  have h1:(s.ay x.file).length≤(s.V.tabs.map fun x=>(s.ay x.file).length).sum:=My (aZ.2 ⟨x,hx,rfl⟩);omega
 have iR:∀ l∈(aN s.LL::s.V.tabs.map fun x=>s.ay x.file),qz l:=fun l hl=>by
  rcases bE.1 hl with rfl|hl
  ·exact h.Cg
  ·obtain ⟨x,hx,rfl⟩:=aZ.1 hl
   exact (h.gM.ay x hx).2
 have hall:∀ e∈(aN s.LL::s.V.tabs.map fun x=>s.ay x.file).flatten,BN e:=fun e he=>by
  obtain ⟨l,h1,h2⟩:=List.mem_flatten.1 he;exact (iR l h1).ok e h2
 have lH:=fun (W:World) (hg:Grow w W)=>akv (h.tree.cell.grow hg) (cM.grow hg) (eM hown hg) (by omega) (h.tree.tabs.grow hg) (tbs:=s.V.tabs.map fun x=>((t.ld x.file).map Prod.fst).getD 0) (by rw [bF]) (fun i x b hx hb=>by
   rw [gZ,hx] at hb;obtain ⟨b',hb'⟩:=h.ld x (dB hx);rw [Option.map_some,hb'] at hb;cases hb;exact (h.tree.load _ _ _ hb').1)
 have cK:=h.mem;have hr:=aGu (N:=t.N) (ls:=aN s.LL::s.V.tabs.map fun x=>s.ay x.file) p a most lH (by simp [nK]) (by simp) (by simp only [dH,bF];omega) (fun i l u hl hu key W hg=>by
   cases i with
   |zero=>
    left;simp only [List.getElem?_cons_zero,Option.some.injEq] at hl;simp only [nK,List.getElem?_cons_zero,Option.some.injEq] at hu;subst hl;refine ⟨_,hu.symm,(ain (hm.grow hg) (fun b hb=>cf (h.tree.apart b hb).1 hg.size) (by have:=congrArg List.length cK;rw [bF] at this;omega) key).mono (fun e w' hf=> ?_)⟩;rw [cK] at hf;exact aGo hf (by have:=apR (spot key 18446744073709551615) (aN s.LL);show (ej (spot key 18446744073709551615) (aN s.LL)).length≤_;omega) (fun x hx=>by have:=(h.Cg.ok x (apT hx)).val;omega)
   |succ i=>
    right;simp only [List.getElem?_cons_succ,gZ] at hl;simp only [nK,List.getElem?_cons_succ,gZ] at hu;cases hx:s.V.tabs[i]? with
    |none=>rw [hx] at hl;cases hl
    |some x=>
     rw [hx] at hl hu;obtain ⟨b',hb'⟩:=h.ld x (dB hx);simp only [Option.map_some,Option.some.injEq,hb',Option.getD_some] at hl hu;subst hl;refine ⟨b',hu.symm,(aGl ((h.tree.load _ _ _ hb').2.kp (.bT hg)) key).mono (fun e w' hf=> ?_)⟩;exact aGp hf (by have:=apR (spot key 18446744073709551615) (s.ay x.file);have:=eU x (dB hx);omega) (fun y hy=>by have:=((h.gM.ay x (dB hx)).2.ok y (apT hy)).val;omega)) (fun b hb=>(h.tree.apart b hb).1)
  (fun l hl=>(iR l hl).ord) (fun l hl=>(iR l hl).gone) (by rw [List.flatten_cons];exact h.xI) (fun e he=>by have:=(hall e he).seq;omega) (fun e he=>by have:=(hall e he).val;omega) (by rw [List.flatten_cons];show (eu s).length≤_;omega)
 rw [List.flatten_cons] at hr;exact hr
theorem aGH {L:List En} {p a:ByteArray} {R:List En} (h:NL L p a R) (hL:∀ x,x ∉ L):R= []:=
 List.eq_nil_iff_forall_not_mem.2 fun x hx=>hL x (KY ((h.mem x).1 hx).1).1
end
section
def jc (B Z Nn A C i:Nat) (w:World) (db:Nat) (g:Int→Option Value) (W:World):Prop:=
 ∃ (t:Tr) (f:Lk) (T K:Nat) (s:eP),eJ Z B Nn A C i W t f T K s∧t.db=db∧t.hh=g∧t.seq=0∧(∀ x,x ∉ eu s)∧s.V.tabs.length≤i∧Below w.heap.size w W∧w.heap.size≤B
section
variable {B Z Nn A C i:Nat} {w W:World} {db:Nat} {g:Int→Option Value}
theorem jc.grow (h:jc B Z Nn A C i w db g W) (hg:Grow W W'):jc B Z Nn A C i w db g W':=by
 obtain ⟨t,f,T,K,s,h1,h2,h3,h4,h5,h6,h7,h8⟩:=h;exact ⟨t,f,T,K,s,h1.grow hg,h2,h3,h4,h5,h6,Below.trans h7 (hg.mono h7.size),h8⟩
theorem jc.below (h:jc B Z Nn A C i w db g W):Grow w W:=by
 obtain ⟨t,f,T,K,s,h1,h2,h3,h4,h5,h6,h7,h8⟩:=h;exact h7
theorem jc.turn {t t':Tr} {f f':Lk} {s s':eP} (h1:eJ Z B Nn A C i W t f T K s) (h2:t.db=db) (h7:Below w.heap.size w W) (h8:w.heap.size≤B) (hs:fD W t W' t') (k1:eJ Z B Nn A' C' i' W' t' f' T' K' s') (k3:t'.hh=g) (k4:t'.seq=0) (k5:∀ x,x ∉ eu s') (k6:s'.V.tabs.length≤i'):jc B Z Nn A' C' i' w db g W':=
 ⟨t',f',T',K',s',k1,hs.db.trans h2,k3,k4,k5,k6,Below.trans h7 ((dm.below h1.tree hs).mono h8),h8⟩
theorem jc.hold (h:jc B Z Nn A C i w db g W) {n:Nat} (hn:BU g 0 n) (RN:n<1000):
  Calls Tryz.prog 26 #[.pointer (some ⟨db,0,none⟩)] W fun e W'=>e= .returned (.int .u64 0)∧jc B Z Nn A C i w db (lX g 0 (.int .i64 ((n+1:Nat):Int))) W':=by
 obtain ⟨t,f,T,K,s,h1,h2,rfl,h4,h5,h6,h7,h8⟩:=h;have hc:=aCy h1.tree.cell h1.tree.held (n:=n) (by rw [h4];exact hn) (by omega);rw [h2,h4] at hc;refine hc.mono ?_;rintro e W' ⟨rfl,hm,hg⟩;obtain ⟨q1,q2⟩:=h1.tree.js hm hg;exact ⟨rfl,jc.turn h1 h2 h7 h8 q2 {h1 with tree:=q1} rfl h4 h5 h6⟩
theorem jc.rel (h:jc B Z Nn A C i w db g W) {k n:Nat} (hn:BU g k n) (RN:n≤1):
  Calls Tryz.prog 25 #[.pointer (some ⟨db,0,none⟩),.int .u64 (k:Int)] W fun e W'=>(n=0∧e= .returned (.int .i64 4)∧jc B Z Nn A C i w db g W')∨(n=1∧e= .returned (.int .i64 0)∧jc B Z Nn A C i w db (Mc (lX g (k:Int) (.int .i64 0)) (k:Int)) W'):=by
 obtain ⟨t,f,T,K,s,h1,h2,rfl,h4,h5,h6,h7,h8⟩:=h;have hc:=aCA h1.tree.cell h1.tree.held (s:=k) hn (by omega);rw [h2] at hc;refine hc.mono ?_;rintro e W' (⟨rfl,rfl,rfl⟩|⟨rfl,rfl,hm,hg⟩|⟨h9,_⟩)
 ·exact .inl ⟨rfl,rfl,t,f,T,K,s,h1,h2,rfl,h4,h5,h6,h7,h8⟩
 ·obtain ⟨q1,q2⟩:=h1.tree.js hm hg
  exact .inr ⟨rfl,rfl,jc.turn h1 h2 h7 h8 q2 {h1 with tree:=q1} rfl h4 h5 h6⟩
 ·omega
theorem jc.aGI (h:jc B Z Nn A C i w db g W):Calls Tryz.prog 27 #[.pointer (some ⟨db,0,none⟩)] W fun e W'=>e= .returned (.int .u64 0)∧W'=W:=by
 obtain ⟨t,f,T,K,s,h1,h2,rfl,h4,h5,h6,h7,h8⟩:=h;have hc:=aom h1;rw [h2,h4] at hc;exact hc
theorem jc.scan (h:jc B Z Nn A C i w db g W) (hA:A≤100000) (p a:ByteArray) (most:Int):
  Calls Tryz.prog 18 #[.pointer (some ⟨db,0,none⟩),.string p,.string a,.int .i64 most] W fun e W'=>∃ v c,e= .returned (.slice v 0 c)∧Grow w W':=by
 obtain ⟨t,f,T,K,s,h1,h2,rfl,h4,h5,h6,h7,h8⟩:=h;have hc:=aGG h1 hA p a most;rw [h2] at hc;refine hc.mono ?_;rintro e W' ⟨v,ys,R,rfl,hr,iR,bQ,hg⟩;have hR:=aGH iR h5;subst hR;have hy:ys= []:=by simpa using bQ
 subst hy;obtain ⟨va,vc,rfl⟩:=hr.slice;exact ⟨va,vc,rfl,Below.trans h7 (hg.mono h7.size)⟩
theorem jc.apply (h:jc B Z Nn A C i w db g W) (hM:∀ b,M b→b<w.heap.size∨∃ arr,W.heap[b]?=some (.cells arr 51 (0,0))) {ys:List Wv} (hW:Ws M W v ys) {ws:List Wr} (tQ:ws=(ys.map (·.x)).map kW) (hne:ws≠ []) (hl:mU ws)
  (dW:ys.length≤60000) (sD:bA ws≤800000) (hA:A+ws.length≤100000) (hC:C+16*ws.length+bA ws≤1000000) (hi:i+4≤Nn) (zG:i≤4000):
  Calls Tryz.prog 14 #[.pointer (some ⟨db,0,none⟩),v] W fun e W'=>e= .returned (.tuple #[.int .u64 0,.int .i64 3])∧jc B Z Nn (A+ws.length) (C+16*ws.length+bA ws) (i+2) w db g W':=by
 obtain ⟨t,f,T,K,s,h1,h2,rfl,h4,h5,h6,h7,h8⟩:=h;have BL:∀ b,M b→b<W.heap.size∧¬ FT t b:=fun b hb=>by
  rcases hM b hb with h9|⟨arr,h9⟩
  ·exact ⟨cf h9 h7.size,fun hf=>by have:=h1.tree.base b hf;omega⟩
  ·exact ⟨af h9,h1.tree.off h9 (by decide)⟩
 have hc:=ZM h1 BL hW tQ dW (by omega) hA hC hi (by omega) (by omega);rw [h2] at hc;refine hc.mono ?_;rintro e W' ⟨c,n,t',f',T',K',s',rfl,hs,hT,hh,hn,ib,vd⟩;rcases vd with ⟨h9,hq,ha,_⟩|⟨_,h9,_⟩
 ·rcases h9 with ⟨h9,_⟩|⟨_,_,rfl,rfl⟩|⟨h9,_⟩
  ·exact absurd h9 hne
  ·refine ⟨rfl,jc.turn h1 h2 h7 h8 hs hT hh (hq.trans h4) (fun x hx=>h5 x ((ha x).1 hx)) ?_⟩
   omega
  ·exact absurd hl h9
 ·exact absurd hl h9
end
end
section
variable {Z Nn:Nat} {w:World}
end
section
variable {Nn:Nat} {w:World}
theorem aGJ (w:World) (a:Int) (x y:Option Addr) (m n c d:Nat) (b:Int):(Instr.buildSlice 32 1 #[(0,.agg #[.int .i64 a,.slice x m c,.slice y n d,.int .i64 b])]).run Tryz.prog w= .ok (.slice (some ⟨w.heap.size,0,none⟩) 1 1) (w.alloc (.cells #[.int .i64 a,.slice x m c,.slice y n d,.int .i64 b] 31)):=by kernel_rfl
theorem aGK {a:Av} (h:W.heap[qb]?=some (.cells #[.int .i64 a.op,a.wv,a.pv,.int .i64 a.n] 31 (0,0))) (hq:N qb) (hw:Ws N W a.wv a.ys) (hp:Iw N W a.pv a.ks):NJ N W (.slice (some ⟨qb,0,none⟩) 1 1) [a]:=by
 have key:∀ (j:Nat) (v:Value),(#[Value.int .i64 a.op,a.wv,a.pv,.int .i64 a.n]:Array Value)[j]?=some v→W.cell? ⟨qb,j,none⟩=some v:=fun j v h'=>by
  simp only [World.cell?,h];exact h'
 refine ⟨⟨_,1,rfl,.inr ⟨qb,0,rfl,hq,af h,fun i x hx c u hu=> ?_⟩⟩,fun x hx=>by rw [cY.1 hx];exact ⟨hw,hp⟩⟩
 match i,hx with
 |0,hx=>
  cases hx
  match c,hu with
  |0,hu=>cases hu;exact key 0 _ rfl
  |1,hu=>cases hu;exact key 1 _ rfl
  |2,hu=>cases hu;exact key 2 _ rfl
  |3,hu=>cases hu;exact key 3 _ rfl
  |c+4,hu=>simp [aaQ] at hu
 |i+1,hx=>simp at hx
theorem aGL {ys:List Wv} {wv:Value} (h:zP [⟨0,wv,pv,0,ys,[]⟩]):ys.length≤8192∧bA (ys.map (·.x))≤8192∧ys.length+bA (ys.map (·.x))≤8192∧∀ y∈ys,y.x.key.size≤60000:=by
 have h1:=h.2.1;simp only [cg,List.map_nil,List.sum_cons,List.sum_nil,rz,iK] at h1;exact ⟨by omega,by omega,by omega,h.2.2 _ (List.mem_singleton_self _)⟩
end
theorem aGM {o:Od} {drv:Value} (sH:¬ qy o):
  Calls Tryz.prog 23 #[dv,xC o drv] w fun e w'=>e= .returned (.tuple #[.pointer none,.iface 38 (.int .i64 1)])∧Grow w w':=by
 have ah:=ar w (.cells #[.int .i64 o.mem,.int .i64 o.block,.int .i64 o.zero,.int .i64 o.base,.int .i64 o.table,drv] 26);have il:=ax w (.cells #[.int .i64 o.mem,.int .i64 o.block,.int .i64 o.zero,.int .i64 o.base,.int .i64 o.table,drv] 26);have Fb:=fun W=>YQ o drv W
 rw [if_neg sH] at Fb;have SL:=ae Fb;clear Fb sH;go_enter Tryz.func23,Tryz.ntmps23
 go_upto_region 1 with fail
 generalize w.alloc (.cells #[.int .i64 o.mem,.int .i64 o.block,.int .i64 o.zero,.int .i64 o.base,.int .i64 o.table,drv] 26)=w1 at*;obtain ⟨xb,zJ⟩:∃ xb,xb=w.heap.size:=⟨_,rfl⟩
 rw [←zJ] at il ⊢;clear zJ;obtain ⟨⟨x0,x1,x2,x3,x4,x5⟩,lx⟩:=xD il;have eC:=ae ah;clear il ah
 go_wp2_with fail
 (with_reducible refine (SL.out _).mono ?_);rintro e w2 ⟨rfl,hg2⟩;have fA:=ae hg2;clear hg2 x0 x1 x2 x3 x4 x5 lx
 go_wp2_with fail
 refine ⟨rfl,_,results_tmp2 rfl _ _ _,rfl,eC.out.trans fA.out⟩
section
variable {Nn:Nat} {w:World}
theorem aGN (hN:dn Nn w.heap.size w) (hNn:100≤Nn) {o:Od} {drv:Value} {ys:List Wv} (hdr:Iw N w drv ds) (hW:Ws N w v ys) (hNs:∀ b,N b→b<w.heap.size) (bQ:ys.length+bA (ys.map (·.x))≤1000000000000) (seq:Nat):
  Calls Tryz.prog 5 #[xC o drv,v,.int .u64 (seq:Int)] w fun e w'=>e= .returned (.bool true)∧Grow w w':=by
 have ah:=ar w (.cells #[.int .i64 o.mem,.int .i64 o.block,.int .i64 o.zero,.int .i64 o.base,.int .i64 o.table,drv] 26);have il:=ax w (.cells #[.int .i64 o.mem,.int .i64 o.block,.int .i64 o.zero,.int .i64 o.base,.int .i64 o.table,drv] 26);have tz:=ae hdr;have HW:=ae hW;have HN:=ae hN;have Hb:=ae (ag hNn (ag hNs bQ));obtain ⟨va,vc,rfl⟩:=hW.slice;obtain ⟨da,dc,rfl,ic,_⟩:=id hdr;have YL:=ae ic;clear hdr hW hN hNn hNs bQ ic;go_enter Tryz.func5,Tryz.ntmps5
 go_upto_region 1 with fail
 generalize w.alloc (.cells #[.int .i64 o.mem,.int .i64 o.block,.int .i64 o.zero,.int .i64 o.base,.int .i64 o.table,.slice da ds.length dc] 26)=w1 at*;obtain ⟨xb,zJ⟩:∃ xb,xb=w.heap.size:=⟨_,rfl⟩
 rw [←zJ] at il ⊢;have yY:=ae il;have cQ:=ae ah;have Hk:=ae (aFz w1);clear zJ il ah
 go_wp2_with fail
 (with_reducible refine Hk.out.mono ?_);rintro e w2 ⟨rfl,hg2⟩;have hb1:=aGJ;have dJ:=ax w2 (.cells #[.int .i64 0,.slice va ys.length vc,.slice none 0 0,.int .i64 0] 31);have hg3:=ar w2 (.cells #[.int .i64 0,.slice va ys.length vc,.slice none 0 0,.int .i64 0] 31);have zA:=(cQ.out.trans hg2).trans hg3;have apW:=aGK (N:=fun b=>N b∨b=w2.heap.size) (a:=⟨0,.slice va ys.length vc,.slice none 0 0,0,ys,[]⟩) dJ (.inr rfl) ((HW.out.grow zA).mono (fun b hb=> .inl hb)) ⟨none,0,rfl,aY _,.inl rfl⟩;have hfw:=aFG apW (by have:=Hb.out.2.2;simp only [cg,List.map_nil,List.sum_cons,List.sum_nil,rz,iK];omega) (by simp);have Hfw:=ae hfw;have hx3:=(hg2.trans hg3).heap yY.out;have Nq:=ae hx3;have aGO:=ae zA;clear dJ hg3 zA apW hfw hx3 hg2 Hk
 go_wp2_with fail
 (with_reducible refine Hfw.out.mono ?_);rintro e w4 ⟨rfl,hg4⟩;have qf:=hg4.heap Nq.out;obtain ⟨⟨x0,x1,x2,x3,x4,x5⟩,lx⟩:=xD qf;have EE:=ae (aGO.out.trans hg4);have Hx4:=ae qf;clear qf hg4 Hfw hb1;by_cases Aq:zP [⟨0,.slice va ys.length vc,.slice none 0 0,0,ys,[]⟩];rotate_left
 ·rw [decide_eq_false Aq]
  clear Aq;go_wp2;go_ret;exact ⟨rfl,EE.out⟩
 rw [decide_eq_true Aq];have Ga:=ae (aGL Aq);clear Aq;by_cases hdn:ds.length≤1000;rotate_left
 ·have e1:(1000:Int)<(ds.length:Int):=by omega
  clear hdn;go_wp2;go_ret;exact ⟨rfl,EE.out⟩
 have e1:¬ (1000:Int)<(ds.length:Int):=by omega
 have fP:Calls Tryz.prog 20 #[.int .i64 1048576] w4 _:=alE 1048576 w4 (by decide) (by decide);have kr:=ae fP;clear fP hdn
 go_wp2_with fail
 (with_reducible refine kr.out.mono ?_);rintro e w5 ⟨rfl,⟨F,hd⟩,br⟩;have wK:=br.heap Hx4.out;clear x0 x1 x2 x3 x4 x5 lx;obtain ⟨⟨x0,x1,x2,x3,x4,x5⟩,lx⟩:=xD wK;obtain ⟨p,hp⟩:∃ p,p=w4.heap.size+1:=⟨_,rfl⟩
 obtain ⟨r,hr⟩:∃ r,r=w4.heap.size:=⟨_,rfl⟩
 rw [←hp,←hr] at hd;rw [←hp];have Hd:=ae hd;have Hx5:=ae wK;have xQ:=ae (EE.out.trans br);have Hr:=ae (show w.heap.size≤r by have:=EE.out.size;omega);clear hd wK br hp hr kr e1;have jH:=fun W=>akW o W
 have Hck:=ae jH;clear jH
 go_upto_region 8 with fail
 go_cut [9] from 35 to 58 (fun bv wx=>bv= .bool (decide (qy o))∧Grow w5 wx)
 case first=>
  by_cases h4:1≤o.mem∧o.mem≤67108864∧1≤o.block∧o.block≤67108864
  ·obtain ⟨d,hd⟩:∃ d:Int,d=if vG o then 0 else 1:=⟨_,rfl⟩
   rw [←hd] at Hck;have dX:(d==0)=decide (qy o):=by
    rw [hd];by_cases hs:vG o
    ·rw [if_pos hs,decide_eq_true (show qy o from ⟨h4,hs⟩)];rfl
    ·rw [if_neg hs,decide_eq_false (fun h:qy o=>hs h.2)];rfl
   have Hbb:=ae dX;obtain ⟨a1,a2,a3,a4⟩:=h4;clear hd dX
   go_wp2_with fail
   (with_reducible refine (Hck.out _).mono ?_);rintro e w6 ⟨rfl,hg⟩
   go_wp2_with fail
   go_meet;exact ⟨by rw [←Hbb.out],hg⟩
  ·have hno:decide (qy o)=false:=decide_eq_false (fun h=>h4 h.1)
   have Hno:=ae hno;clear hno
   go_wp2_with fail
   all_goals first
    |(exfalso;omega)
    |(go_meet;exact ⟨by rw [Hno.out],aV _⟩)
 case rest=>
 obtain ⟨rfl,cx⟩:=hcut;generalize wc=w6 at*;have yB:=cx.heap Hx5.out;clear x0 x1 x2 x3 x4 x5 lx Hck;obtain ⟨⟨x0,x1,x2,x3,x4,x5⟩,lx⟩:=xD yB;have hlc:=YQ o (.slice da ds.length dc) w6;have Hx6:=ae yB;have vQ:=ae cx;clear yB cx;by_cases iR:qy o;rotate_left
 ·rw [if_neg iR] at hlc
  rw [decide_eq_false iR];have Dt:=fun W=>aGM (w:=W) (dv:= .pointer (some ⟨p,0,none⟩)) (drv:= .slice da ds.length dc) iR
  have NQ:=ae hlc;have aqa:=ae Dt;clear hlc Dt iR
  go_wp2_with fail
  (with_reducible refine NQ.out.mono ?_);rintro e w7 ⟨rfl,cG⟩;have uU:=cG.heap Hx6.out;clear x0 x1 x2 x3 x4 x5 lx;obtain ⟨⟨x0,x1,x2,x3,x4,x5⟩,lx⟩:=xD uU;have MA:=ae cG;clear uU cG NQ
  go_wp2_with fail
  (with_reducible refine (aqa.out _).mono ?_);rintro e w8 ⟨rfl,di⟩;have AD:=ae (((xQ.out.trans vQ.out).trans MA.out).trans di);clear x0 x1 x2 x3 x4 x5 lx di aqa
  go_wp2_with fail
  (with_reducible refine (akZ 1 1 _).mono ?_);rintro e w9 ⟨rfl,rfl⟩;go_wp2;go_ret;exact ⟨rfl,AD.out⟩
 rw [if_pos iR] at hlc;rw [decide_eq_true iR];have Rj:=ae iR;have NQ:=ae hlc;clear hlc iR
 go_wp2_with fail
 (with_reducible refine NQ.out.mono ?_);rintro e w7 ⟨rfl,cG⟩;have uU:=cG.heap Hx6.out;clear x0 x1 x2 x3 x4 x5 lx;obtain ⟨⟨x0,x1,x2,x3,x4,x5⟩,lx⟩:=xD uU;have om:=vQ.out.trans cG;have hop:Calls Tryz.prog 23 #[.pointer (some ⟨p,0,none⟩),xC o (.slice da ds.length dc)] w7 (amV 1048576 r Nn 0 0 1 w7 p r o ds Cl (0+6)):=by
  have hb:=Hb.out;have hr:=Hr.out;refine aaf (N0:=N) (Hd.out.grow om) (HN.out.up hr (fun b hb'=>(xQ.out.trans om).block b hb')) (fun W' hr'=>tz.out.kp ⟨by have:=(xQ.out.trans om).size;have:=hr'.hold.size;omega,fun b hb' hl=> ?_⟩) Rj.out
   (fun W' eR=>amT _ ((Hd.out.grow om).grow eR) (HN.out.up hr (fun b hb'=>((xQ.out.trans om).trans eR).block b hb')) (by omega) (by omega) (by omega)) (by omega) (by omega) (by omega) (by omega) (by decide)
  have h1:=hb.2.1 b hb';rw [hr'.below.block b (by omega)];exact (xQ.out.trans om).block b h1
 have Hop:=ae hop;have EG:=ae (xQ.out.trans om);clear hop om uU cG NQ Rj
 go_wp2_with fail
 (with_reducible refine Hop.out.mono ?_);rintro e w8 ⟨t,f,T,K,s,rfl,h1,_,_,_,_,hV,hall,eD,zM,_,_,_,_,ng,_⟩;have hE:jc r 1048576 Nn 0 0 2 w t.db (fun _=>none) w8:=by
  refine ⟨t,f,T,K,s,h1,rfl,zM,eD.trans rfl,fun x hx=> ?_,by rw [hV];exact aY _,Below.trans EG.out (ng.below.mono Hr.out),Hr.out⟩;have h9:=(hall x).1 hx;rw [show eu Cl= [] from rfl] at h9;cases h9
 obtain ⟨db,pT⟩:∃ db,db=t.db:=⟨_,rfl⟩
 rw [←pT] at hE ⊢;have HE:=ae hE;have HR:=ae (hE.rel (k:=seq) (n:=0) rfl (by decide));clear h1 hV hall eD zM ng hE pT x0 x1 x2 x3 x4 x5 lx Hop
 go_wp2_with fail
 (with_reducible refine HR.out.mono ?_);rintro e w9 (⟨_,rfl,hE⟩|⟨h9,_⟩);rotate_left
 ·cases h9
 have HH:=ae (hE.hold (n:=0) rfl (by decide));clear hE HR HE
 go_wp2_with fail
 (with_reducible refine HH.out.mono ?_);rintro e wa ⟨rfl,hE⟩;obtain ⟨Kk,wb,hKs,GL,hcv,hgb⟩:=aBg 65536 (by decide) wa;have aGS:(Instr.makeSlice 49 (.int .i64 65536) (.int .i64 65536)).run Tryz.prog wa= .ok (.slice (some ⟨wa.heap.size,0,none⟩) 65536 65536) wb:=GL;have HE:=ae (hE.grow hgb);have HKs:=ae hKs;clear hE GL hgb hKs HH
 go_upto_region 18 with fail
 have hzb:=ax wb (.cells #[.string Kk,.bool false,.slice none 0 0] 51);have HE0:=ae (HE.out.grow (ar wb (.cells #[.string Kk,.bool false,.slice none 0 0] 51)));generalize wb.alloc (.cells #[.string Kk,.bool false,.slice none 0 0] 51)=w0 at*;obtain ⟨zb,aqf⟩:∃ zb,zb=wb.heap.size:=⟨_,rfl⟩
 rw [←aqf] at hzb ⊢;have Hzb:=ae hzb;clear hzb aqf aGS hcv HE;obtain ⟨ws,tQ⟩:∃ ws,ws=((ys++ [(⟨⟨Kk,false,[]⟩,.slice none 0 0⟩:Wv)]).map (·.x)).map kW:=⟨_,rfl⟩
 have vP:=ae tQ;clear tQ;have HW0:Hid (Ws N w0 (.slice va ys.length vc) ys):=ae (HW.out.grow HE0.out.below);have hAp:∀ (V:World) (v6:Value),Grow w0 V→V.ownsRow w0.heap.size 51 3 v6 (ys.length+1) ((ys++ [(⟨⟨Kk,false,[]⟩,.slice none 0 0⟩:Wv)]).flatMap gW)→Calls Tryz.prog 14 #[.pointer (some ⟨db,0,none⟩),v6] V fun e W'=>e= .returned (.tuple #[.int .u64 0,.int .i64 3])∧jc r 1048576 Nn (0+ws.length) (0+16*ws.length+bA ws) (2+2) w db (lX (fun _=>none) 0 (.int .i64 ((0+1:Nat):Int))) W':=fun V v6 sM hown=>by
  have NR:ws.length=ys.length+1:=by rw [vP.out];simp
  have hfw:=Ga.out;have jy:bA ws≤8192+65536:=by
   rw [vP.out];refine aM (amD _) ?_;rw [dD,HZ];have h1:bA [(⟨Kk,false,[]⟩:Wr)]=Kk.size:=by simp [bA]
   have h2:=HKs.out;simp only [cg,List.map_nil];omega
  have eU:∀ y∈ys++ [(⟨⟨Kk,false,[]⟩,.slice none 0 0⟩:Wv)],pz N V y:=fun y hy=>by
   rcases cU.1 hy with h1|h1
   ·exact (HW0.out.grow sM).2 y h1
   ·rw [cY.1 h1];exact KT _ _
  have hWs:Ws (fun b=>N b∨∃ arr,V.heap[b]?=some (.cells arr 51 (0,0))) V v6 (ys++ [(⟨⟨Kk,false,[]⟩,.slice none 0 0⟩:Wv)]):=by
   refine Rb.es (B:=w0.heap.size) ⟨by rw [aJ];exact hown,fun y hy=>Bw.mono (eU y hy) (fun b hb=> .inl hb)⟩ (fun g hg=> ?_);rcases hown.2 with ⟨h9,_⟩|⟨g',_,cur,h9,_,h8,_⟩
   ·rw [h9] at hg;cases hg
   ·rw [h9] at hg;cases hg;exact .inr ⟨cur,h8⟩
  refine (HE0.out.grow sM).apply (fun b hb=>hb.imp (Hb.out.2.1 b) id) hWs vP.out (fun e=>by rw [e] at NR;simp at NR) (.inr ⟨⟨Kk,false,[]⟩,?_,?_⟩) (by rw [aJ,List.length_singleton];omega) (by omega) (by omega) (by omega) (by have:=Hb.out.1;omega) (by omega)
  ·rw [vP.out];simp [kW]
  ·have h2:=HKs.out
   dsimp only;omega
 have HAp:=ae hAp;clear hAp;refine uB (fun a0 ha0=> ?_);have F1:a0.tmps[1]?=some (.slice va ys.length vc):=by rw [ha0];rfl
 have F10:a0.tmps[10]?=some (.pointer (some ⟨db,0,none⟩)):=by rw [ha0];rfl
 have F13:a0.tmps[13]?=some (.pointer (some ⟨zb,0,none⟩)):=by rw [ha0];rfl
 have hsz:a0.tmps.size=134:=by rw [ha0];rfl
 have lS:=ae ha0;clear ha0;have hb0:=aBe;have hb1:=aBf;refine uD (SEr db (.slice va ys.length vc) (.agg #[.string Kk,.bool false,.slice none 0 0])) (tZ w0 ys ⟨⟨Kk,false,[]⟩,.slice none 0 0⟩ (jc r 1048576 Nn (0+ws.length) (0+16*ws.length+bA ws) (2+2) w db (lX (fun _=>none) 0 (.int .i64 ((0+1:Nat):Int))))) (fun _ _=>True) [97,98,99,100,101,102,103,104,96,105,106,14,15] (by kernel_rfl) (by kernel_rfl) (by rw [hsz];rfl) (fun j v W W' _ h=>h)
  ⟨fun _=>az w0,(fun h=>by cases h),(fun h=>by cases h),(fun h=>by cases h),(fun h=>by cases h),(fun h=>by cases h)⟩ ?_ (fun a1 W2 hf=> ?_)
 rotate_left
 ·have TA:=hf.world.r7 rfl
  have e:=hf.alike.fill;rw [lS.out] at e;obtain ⟨v11,CD,FB⟩:=hf.slot 11 14 rfl rfl;obtain ⟨v12,s12,q12⟩:=hf.slot 12 15 rfl rfl;have aGW:v11= .int .u64 0:=FB;have aGX:v12= .int .i64 3:=q12;subst aGW aGX;simp only [List.foldl_cons,List.foldl_nil,Act.put,mf,List.set_cons_zero,kz] at e;have h14:a1.tmps.getD 14 undef= .int .u64 0:=by rw [eQ,CD];rfl
  have Oh:a1.tmps.getD 15 undef= .int .i64 3:=by rw [eQ,s12];rfl
  obtain ⟨u97,h97⟩:∃ u,a1.tmps.getD 97 undef=u:=⟨_,rfl⟩
  obtain ⟨u98,h98⟩:∃ u,a1.tmps.getD 98 undef=u:=⟨_,rfl⟩
  obtain ⟨u99,h99⟩:∃ u,a1.tmps.getD 99 undef=u:=⟨_,rfl⟩
  obtain ⟨aMo,aqp⟩:∃ u,a1.tmps.getD 100 undef=u:=⟨_,rfl⟩
  obtain ⟨aMp,aqq⟩:∃ u,a1.tmps.getD 101 undef=u:=⟨_,rfl⟩
  obtain ⟨aMq,aqr⟩:∃ u,a1.tmps.getD 102 undef=u:=⟨_,rfl⟩
  obtain ⟨aMr,aqs⟩:∃ u,a1.tmps.getD 103 undef=u:=⟨_,rfl⟩
  obtain ⟨aMs,aqt⟩:∃ u,a1.tmps.getD 104 undef=u:=⟨_,rfl⟩
  obtain ⟨u96,h96⟩:∃ u,a1.tmps.getD 96 undef=u:=⟨_,rfl⟩
  obtain ⟨aMu,aqv⟩:∃ u,a1.tmps.getD 105 undef=u:=⟨_,rfl⟩
  obtain ⟨aMv,aqw⟩:∃ u,a1.tmps.getD 106 undef=u:=⟨_,rfl⟩
  rw [h97,h98,h99,aqp,aqq,aqr,aqs,aqt,h96,aqv,aqw,h14,Oh] at e;clear h97 h98 h99 aqp aqq aqr aqs aqt h96 aqv aqw h14 Oh CD s12 FB q12 hf;rw [e];clear e lS F1 F10 F13 hsz hb0 hb1;have HE2:=ae TA;have jA:=ae TA.aGI;have hr2:Calls Tryz.prog 25 #[.pointer (some ⟨db,0,none⟩),.int .u64 0] W2 _:=TA.rel (k:=0) (n:=1) (by unfold BU lX;simp) (by decide);have HR2:=ae hr2;clear TA hr2
  go_wp2_with fail
  (with_reducible refine jA.out.mono ?_);rintro e w3 ⟨rfl,rfl⟩;clear jA
  go_wp2_with fail
  (with_reducible refine HR2.out.mono ?_);rintro e w4 (⟨h9,_⟩|⟨_,rfl,hE4⟩)
  ·cases h9
  have hr4:Calls Tryz.prog 25 #[.pointer (some ⟨db,0,none⟩),.int .u64 0] w4 _:=hE4.rel (k:=0) (n:=0) (by unfold BU Mc;simp) (by decide);have HR4:=ae hr4;clear hE4 hr4 HR2
  go_wp2_with fail
  (with_reducible refine HR4.out.mono ?_);rintro e w5 (⟨_,rfl,hE5⟩|⟨h9,_⟩);rotate_left
  ·cases h9
  have NR:ws.length=ys.length+1:=by rw [vP.out];simp
  have Hsc:=ae (hE5.scan (by have:=Ga.out.1;omega) ⟨#[]⟩ ⟨#[]⟩ 10);clear hE5 HR4 NR
  go_wp2_with fail
  (with_reducible refine Hsc.out.mono ?_);rintro e w6 ⟨sv,sc,rfl,cx⟩;have aGY:=ae cx;clear cx Hsc;go_wp2;go_ret;exact ⟨rfl,aGY.out⟩
 refine ⟨?_,?_,?_,?_,?_,?_,?_,?_,?_,?_,?_,?_,?_,True.intro⟩
 ·intro listed a V hf ak aj
  have hs1:=hf.sz hsz;have hT:=hf.world;have G10:=hf.got (by decide) F10 (by rw [hs1];decide);refine aR rfl (by rfl) (fun K' hK'=> ?_);go_simp;exact hK' _ _ ⟨_,rfl,(fun _ _=>rfl),True.intro,tZ.next hT (by decide) (by decide)⟩
 ·intro listed a V hf ak aj
  have hs1:=hf.sz hsz;have hT:=hf.world;have xU:listed.getD 1 false=false:=by
   rw [eQ] at ak ⊢;cases hx:listed[1]? with
   |none=>rw [hx] at ak;cases ak
   |some b=>rw [hx] at ak;exact ak
  have hlen:1<listed.size:=by rw [hf.size];decide
  have nJ:=dI hf.closed (n:=13) (e:=3) (i:=1) (by kernel_rfl) ak;have oV:=dI hf.closed (n:=13) (e:=6) (i:=1) (by kernel_rfl) ak;have ku:=dI hf.closed (n:=13) (e:=7) (i:=1) (by kernel_rfl) ak;refine aR rfl (by rfl) (fun K' hK'=> ?_);go_simp;have ah:=ar V (.cells #[] 51);have abv:w0.heap.size≤V.heap.size:=(hT.gr ku).size;refine hK' _ _ ⟨_,rfl,(fun _ _=>True.intro),True.intro,(fun _=>(hT.gr ku).trans ah),(fun _ _ _=>⟨V.heap.size,pK (by rw [hs1];decide),⟨rfl,.inr ⟨V.heap.size,0,#[],rfl,abv,ax _ _,aw _,aY _,rfl,rfl⟩⟩⟩),(fun h=>by rw [getD_set_ne false (by decide),nJ] at h;cases h),(fun h5 _=> ?_),(fun h=>by rw [getD_set_ne false (by decide),oV] at h;cases h),(fun h=>by rw [getD_set_ne false (by decide),ku] at h;cases h)⟩;rw [getD_set_ne false (by decide)] at h5;obtain ⟨q,q1,q2,q3,_⟩:=hT.r5 h5 oV;refine ⟨q,gi (by decide) q1,q2,ah.heap q3,fun _ _ h9=> ?_⟩;have NS:(a.put (some 98) (.slice (some ⟨V.heap.size,0,none⟩) 0 0)).tmps[98]?=some (.slice (some ⟨q,0,none⟩) 0 0):=h9;rw [pK (by rw [hs1];decide)] at NS;cases NS;exact absurd (af q3) (Nat.lt_irrefl _)
 ·intro listed a V hf ak aj
  have hs1:=hf.sz hsz;have hT:=hf.world;have G1:=hf.got (by decide) F1 (by rw [hs1];decide);refine aR rfl (by rfl) (fun K' hK'=> ?_);go_simp;exact hK' _ _ ⟨_,rfl,(fun _ _=>rfl),True.intro,tZ.next hT (by decide) (by decide)⟩
 ·intro listed a V hf ak aj
  have hs1:=hf.sz hsz;have hT:=hf.world;have xU:listed.getD 3 false=false:=by
   rw [eQ] at ak ⊢;cases hx:listed[3]? with
   |none=>rw [hx] at ak;cases ak
   |some b=>rw [hx] at ak;exact ak
  have hlen:3<listed.size:=by rw [hf.size];decide
  have oV:=dI hf.closed (n:=13) (e:=6) (i:=3) (by kernel_rfl) ak;have ku:=dI hf.closed (n:=13) (e:=7) (i:=3) (by kernel_rfl) ak;obtain ⟨g,s98,hown⟩:=hT.r1 (aH aj 1 (by kernel_rfl)) xU oV;obtain ⟨v2,s2,q2⟩:=hf.slot 2 99 rfl (aH aj 2 (by kernel_rfl));have q2':v2=_:=q2;subst q2';have sM:=hT.gr ku;obtain ⟨v',V',hrun,hown',hgr⟩:=ajp hown (HW0.out.grow sM) sM.size (by have:=Ga.out.1;omega);refine xZ rfl (by rfl) (Cu rfl (by show a.tmps.getD 98 undef=_;rw [eQ,s98];rfl) (by show a.tmps.getD 99 undef=_;rw [eQ,s2];rfl) hrun) ?_;have tD:w0.heap.size≤g:=by rcases hown.2 with ⟨h9,_⟩|⟨g',_,_,h9,h8,_⟩<;>cases h9;exact h8
  have abw:Grow w0 V':=sM.grown hgr sM.size (fun k hk=>by cases hk;exact tD);rw [Nat.zero_add,iq] at hown';refine ⟨_,rfl,(fun _ _=>True.intro),True.intro,(fun _=>abw),(fun _ h _=>by rw [jQ hlen] at h;cases h),(fun _ _=>⟨v',pK (by rw [hs1];decide),hown'⟩),(fun h5 _=> ?_),(fun h=>by rw [getD_set_ne false (by decide),oV] at h;cases h),(fun h=>by rw [getD_set_ne false (by decide),ku] at h;cases h)⟩;rw [getD_set_ne false (by decide)] at h5;obtain ⟨q,q1,q2,q3,q4⟩:=hT.r5 h5 oV;have hne:=q4 (aH aj 1 (by kernel_rfl)) xU;exact ⟨q,gi (by decide) q1,q2,(hgr.block q (af q3) (fun e=>hne (by cases e;exact s98))).trans q3,fun _ h=>by rw [jQ hlen] at h;cases h⟩
 ·intro listed a V hf ak aj
  have hs1:=hf.sz hsz;have hT:=hf.world;have ku:=dI hf.closed (n:=13) (e:=7) (i:=4) (by kernel_rfl) ak;have G13:=hf.got (by decide) F13 (by rw [hs1];decide);have hz:=(hT.gr ku).heap Hzb.out;have z6:V.cell? ⟨zb,0,none⟩=some (.string Kk)∧V.cell? ⟨zb,1,none⟩=some (.bool false)∧V.cell? ⟨zb,2,none⟩=some (.slice none 0 0):=by
   refine ⟨?_,?_,?_⟩<;>simp [World.cell?,hz]
  obtain ⟨z0,z1,z2⟩:=z6;have lz:=af hz;refine aR rfl (by rfl) (fun K' hK'=> ?_);go_simp;exact hK' _ _ ⟨_,rfl,(fun _ _=>rfl),True.intro,tZ.next hT (by decide) (by decide)⟩
 ·intro listed a V hf ak aj
  have hs1:=hf.sz hsz;have hT:=hf.world;have xU:listed.getD 5 false=false:=by
   rw [eQ] at ak ⊢;cases hx:listed[5]? with
   |none=>rw [hx] at ak;cases ak
   |some b=>rw [hx] at ak;exact ak
  have hlen:5<listed.size:=by rw [hf.size];decide
  have oV:=dI hf.closed (n:=13) (e:=6) (i:=5) (by kernel_rfl) ak;have ku:=dI hf.closed (n:=13) (e:=7) (i:=5) (by kernel_rfl) ak;have aMw:=aO (hf.sv 4 101 rfl (aH aj 4 (by kernel_rfl)) fun _ _ h=>h) (by rw [hs1];decide);refine aR rfl (by rfl) (fun K' hK'=> ?_);go_simp;have ah:=ar V (.cells #[.string Kk,.bool false,.slice none 0 0] 51);have abv:w0.heap.size≤V.heap.size:=(hT.gr ku).size;refine hK' _ _ ⟨_,rfl,(fun _ _=>True.intro),True.intro,(fun _=>(hT.gr ku).trans ah),(fun h1 h3 _=> ?_),(fun h3 _=> ?_),(fun _ _=>⟨V.heap.size,pK (by rw [hs1];decide),abv,ax _ _,fun h1 h3 h9=> ?_⟩),(fun h=>by rw [getD_set_ne false (by decide),oV] at h;cases h),(fun h=>by rw [getD_set_ne false (by decide),ku] at h;cases h)⟩
  ·rw [getD_set_ne false (by decide)] at h1 h3
   obtain ⟨g,q1,q2⟩:=hT.r1 h1 h3 oV;exact ⟨g,gi (by decide) q1,eM q2 ah⟩
  ·rw [getD_set_ne false (by decide)] at h3
   obtain ⟨g,q1,q2⟩:=hT.r3 h3 oV;exact ⟨g,gi (by decide) q1,eM q2 ah⟩
  ·rw [getD_set_ne false (by decide)] at h1 h3
   obtain ⟨g,q1,q2⟩:=hT.r1 h1 h3 oV;have NS:(a.put (some 102) (.slice (some ⟨V.heap.size,0,none⟩) 1 1)).tmps[98]?=some (.slice (some ⟨V.heap.size,0,none⟩) 0 0):=h9;rw [gi (by decide) q1] at NS;cases NS;rcases q2.2 with ⟨h8,_⟩|⟨g',_,_,h8,_,h7,_⟩<;>cases h8
   exact absurd (af h7) (Nat.lt_irrefl _)
 ·intro listed a V hf ak aj
  have hs1:=hf.sz hsz;have hT:=hf.world;have xU:listed.getD 6 false=false:=by
   rw [eQ] at ak ⊢;cases hx:listed[6]? with
   |none=>rw [hx] at ak;cases ak
   |some b=>rw [hx] at ak;exact ak
  have hlen:6<listed.size:=by rw [hf.size];decide
  have ku:=dI hf.closed (n:=13) (e:=7) (i:=6) (by kernel_rfl) ak;obtain ⟨v3,s3,hown⟩:=hT.r3 (aH aj 3 (by kernel_rfl)) xU;obtain ⟨q,s5,q2,q3,_⟩:=hT.r5 (aH aj 5 (by kernel_rfl)) xU;have sM:=hT.gr ku;have hz1:Ws (fun b=>b=q) V (.slice (some ⟨q,0,none⟩) 1 1) [⟨⟨Kk,false,[]⟩,.slice none 0 0⟩]:=aBh q3 rfl (KT _ _);obtain ⟨v',V',hrun,hown',hgr⟩:=ajp hown hz1 sM.size (by have:=Ga.out.1;simp;omega);refine xZ rfl (by rfl) (Cu rfl (by show a.tmps.getD 100 undef=_;rw [eQ,s3];rfl) (by show a.tmps.getD 102 undef=_;rw [eQ,s5];rfl) hrun) ?_;have abw:Grow w0 V':=sM.grown hgr sM.size (fun k hk=>by
   rcases hown.2 with ⟨h9,_⟩|⟨g',_,_,h9,h8,_⟩
   ·rw [h9] at hk;cases hk
   ·rw [h9] at hk;cases hk;exact h8)
  rw [←List.flatMap_append] at hown';exact ⟨_,rfl,(fun _ _=>True.intro),True.intro,(fun _=>abw),(fun _ _ h=>by rw [jQ hlen] at h;cases h),(fun _ h=>by rw [jQ hlen] at h;cases h),(fun _ h=>by rw [jQ hlen] at h;cases h),(fun _ _=>⟨v',pK (by rw [hs1];decide),hown'⟩),(fun h=>by rw [getD_set_ne false (by decide),ku] at h;cases h)⟩
 ·intro listed a V hf ak aj
  have hs1:=hf.sz hsz;have hT:=hf.world;have xU:listed.getD 7 false=false:=by
   rw [eQ] at ak ⊢;cases hx:listed[7]? with
   |none=>rw [hx] at ak;cases ak
   |some b=>rw [hx] at ak;exact ak
  have hlen:7<listed.size:=by rw [hf.size];decide
  have G97:=aO (hf.sv 0 97 rfl (aH aj 0 (by kernel_rfl)) fun _ _ h=>h) (by rw [hs1];decide);obtain ⟨v6,s6,hown⟩:=hT.r6 (aH aj 6 (by kernel_rfl)) xU;have aMy:=aO s6 (by rw [hs1];decide);have sM:=hT.gr xU;have NR:ws.length=ys.length+1:=by rw [vP.out];simp
  have hap:=HAp.out V v6 sM hown;refine jE rfl (by rfl) (by go_simp) hap ?_;rintro e V' ⟨rfl,hE'⟩;exact ⟨_,rfl,_,rfl,(fun _ _=>rfl),True.intro,(fun h=>by rw [jQ hlen] at h;cases h),(fun h1 h3 h6=>by rw [getD_set_ne false (by decide)] at h6;rw [aH aj 6 (by kernel_rfl)] at h6;cases h6),(fun h3 h6=>by rw [getD_set_ne false (by decide)] at h6;rw [aH aj 6 (by kernel_rfl)] at h6;cases h6),(fun h3 h6=>by rw [getD_set_ne false (by decide)] at h6;rw [aH aj 6 (by kernel_rfl)] at h6;cases h6),(fun _ h=>by rw [jQ hlen] at h;cases h),(fun _=>hE')⟩
 ·intro listed a V hf ak aj
  have hs1:=hf.sz hsz;have hT:=hf.world;have aMz:=aO (hf.sv 7 104 rfl (aH aj 7 (by kernel_rfl)) fun _ _ h=>h) (by rw [hs1];decide);refine aR rfl (by rfl) (fun K' hK'=> ?_);go_simp;exact hK' _ _ ⟨_,rfl,(fun _ _=>rfl),True.intro,tZ.next hT (by decide) (by decide)⟩
 ·intro listed a V hf ak aj
  have hs1:=hf.sz hsz;have hT:=hf.world;have G96:=aO (hf.sv 8 96 rfl (aH aj 8 (by kernel_rfl)) fun _ _ h=>h) (by rw [hs1];decide);refine aR rfl (by rfl) (fun K' hK'=> ?_);go_simp;exact hK' _ _ ⟨_,rfl,(fun _ _=>rfl),True.intro,tZ.next hT (by decide) (by decide)⟩
 ·intro listed a V hf ak aj
  have hs1:=hf.sz hsz;have hT:=hf.world;have G96:=aO (hf.sv 8 96 rfl (aH aj 8 (by kernel_rfl)) fun _ _ h=>h) (by rw [hs1];decide);refine aR rfl (by rfl) (fun K' hK'=> ?_);go_simp;exact hK' _ _ ⟨_,rfl,(fun _ _=>rfl),True.intro,tZ.next hT (by decide) (by decide)⟩
 ·intro listed a V hf ak aj
  have hs1:=hf.sz hsz;have hT:=hf.world;have aMA:=aO (hf.sv 9 105 rfl (aH aj 9 (by kernel_rfl)) fun _ _ h=>h) (by rw [hs1];decide);refine aR rfl (by rfl) (fun K' hK'=> ?_);go_simp;exact hK' _ _ ⟨_,rfl,(fun _ _=>rfl),True.intro,tZ.next hT (by decide) (by decide)⟩
 ·intro listed a V hf ak aj
  have hs1:=hf.sz hsz;have hT:=hf.world;have aMB:=aO (hf.sv 10 106 rfl (aH aj 10 (by kernel_rfl)) fun _ _ h=>h) (by rw [hs1];decide);refine aR rfl (by rfl) (fun K' hK'=> ?_);go_simp;exact hK' _ _ ⟨_,rfl,(fun _ _=>rfl),True.intro,tZ.next hT (by decide) (by decide)⟩
end
end Go.Proofs.YtoolkdapflaeeaaGreatDoor
namespace Go.Proofs.YtoolkdapflaeeaaGreatDoor
open Go.ChangeShapes Go.WideShapes Go.ChangeAt Go.RowKit Go.Gl Go.aF Mn
section
theorem abx {w:World} {a:Addr} (h:w.cell? a=some v):a.spot=none:=by
 unfold World.cell? at h
 split at h
 ·cases hs:a.spot with
  |none=>rfl
  |some s=>simp [hs] at h
 ·cases h
section
variable {H:Type} {enc:TypeId×Value→H} {w:World} {base:Nat} {spare:Nat→Bool} {held:Bool}
theorem aqD {a:Addr} {cs:List Value} (h:w.cells? base a 3=some cs):∃ v0 v1 v2,cs= [v0,v1,v2]∧w.cell? a=some v0∧w.cell? (a.add 1)=some v1∧w.cell? (a.add 2)=some v2:=by
 unfold World.cells? at h
 split at h
 ·have e:List.range 3= [0,1,2]:=rfl
  rw [e] at h;simp only [List.mapM_cons,List.mapM_nil,Option.bind_eq_bind,Option.bind_eq_some_iff,Option.pure_def,Option.some.injEq] at h;obtain ⟨v0,h0,_,⟨v1,h1,_,⟨v2,h2,_,rfl,rfl⟩,rfl⟩,rfl⟩:=h;exact ⟨v0,v1,v2,rfl,by simpa [Addr.add] using h0,h1,h2⟩
 ·cases h
theorem aHc (d:DataW H):1≤Rows.uptoBulk d:=by
 cases d with
 |lit l=>cases l<;>simp [Rows.uptoBulk]
 |nil=>simp [Rows.uptoBulk]
 |ptr d=>simp [Rows.uptoBulk]
 |slice elems spare=>simp [Rows.uptoBulk]
 |agg parts=>simp [Rows.uptoBulk]
 |iface t d=>simp [Rows.uptoBulk]
 |map entries=>simp [Rows.uptoBulk]
 |held h=>simp [Rows.uptoBulk]
theorem aqE:∀ l:List (DataW H),l.length≤Rows.uptoBulkAll l
 | []=>aY _
 |x::r=>by have:=aHc x;have:=aqE r;simp only [Rows.uptoBulkAll,dH];omega
theorem aqF (D:Nat→DataW H) (g:Nat→Nat):∀ I:List Nat,(∀ i∈I,g i≤Rows.uptoBulk (D i))→(I.map g).sum≤Rows.uptoBulkAll (I.map D)
 | [],_=>aY _
 |i::I,h=>by
  have h1:=h i (dR ..);have h2:=aqF D g I (fun j hj=>h j (fk _ hj));simp only [cg,List.sum_cons,Rows.uptoBulkAll];omega
theorem aby {a:Option Addr} {l:Nat} {x:DataW H×List MemPlace} (ht:Tryz.prog.underlying t=some (.slice e)) (h:DataW.trod enc Tryz.prog w base spare held fuel t [.slice a l c]=some x):l≤Rows.uptoBulk x.1:=by
 rcases Go.Deep.open_slice ht h with ⟨hcs,_⟩|⟨a',len,cap,m,n,D,Pl,hcs,_,hl,hm,kA,hx,wF⟩
 ·simp only [List.cons.injEq,and_true] at hcs
  cases hcs;exact aY _
 ·simp only [List.cons.injEq,and_true] at hcs
  cases hcs;rw [hx];have h1:=aqE ((List.range l).map D);simp only [bF,List.length_range] at h1;simp only [Rows.uptoBulk];omega
theorem aHd {x:DataW H×List MemPlace} (h:DataW.trod enc Tryz.prog w base spare held fuel 49 [v]=some x):∃ l:List UInt8,Bv w v l∧l.length≤Rows.uptoBulk x.1:=by
 have h':=h;rcases open_ints Tryz.underlying49 Tryz.underlying5 (by kernel_rfl) h with ⟨hcs,_⟩|⟨a,l,c,zs,hcs,_,hl,hm,hz,_,hcell,NI⟩
 ·simp only [List.cons.injEq,and_true] at hcs
  exact ⟨[],⟨none,0,by rw [hcs];rfl,aw _,aY _,fun _=>rfl,.inl rfl⟩,aY _⟩
 ·simp only [List.cons.injEq,and_true] at hcs
  subst hcs;have iU:=aby Tryz.underlying49 h';have hzl:l≤zs.length:=by rw [hz];split<;>omega
  by_cases hl0:l=0
  ·subst hl0
   exact ⟨[],⟨some a,c,rfl,hl,hm,fun h=>(by cases h),.inl rfl⟩,aY _⟩
  ·have h0:=hcell 0 (by omega)
   have hsp:=abx h0;obtain ⟨b,o,sp⟩:=a;simp only [Addr.add,if_true] at hsp;subst hsp;have hlt:=World.block_lt_of_cell? w _ h0;rw [Addr.add_lit] at hlt;have e:((zs.take l).map fun n=>UInt8.ofNat n.toNat).length=l:=by simp;omega
   have hcs:∀ (j:Nat) (k:UInt8),((zs.take l).map fun n=>UInt8.ofNat n.toNat)[j]?=some k→w.cell? ⟨b,o+j,none⟩=some (.int .u8 k.toNat):=fun j k hk=>by
    simp only [gZ,Option.map_eq_some_iff] at hk;obtain ⟨n,hn,rfl⟩:=hk;rw [List.getElem?_take] at hn
    split at hn
    ·have h1:=hcell j (by omega)
     rw [Addr.add_lit] at h1;rw [h1];have h2:zs.getD j 0=n:=by simp [List.getD,hn]
     rw [h2];have h3:=NI n (dB hn);simp only [Lit.wf,Bool.and_eq_true,decide_eq_true_eq] at h3;have h4:(0:Int)≤n∧n≤255:=h3;congr 2;rw [UInt8.toNat_ofNat_of_lt' (by simp [UInt8.size];omega)];omega
    ·cases hn
   exact ⟨(zs.take l).map fun n=>UInt8.ofNat n.toNat,⟨some ⟨b,o,none⟩,c,by rw [e],by rw [e];exact hl,hm,fun h=>(by cases h),.inr ⟨b,o,rfl,hlt,hcs⟩⟩,by rw [e];exact iU⟩
theorem aHe {x:DataW H×List MemPlace} (h:DataW.trod enc Tryz.prog w base spare held fuel 24 [v]=some x) (hb:Rows.uptoBulk x.1≤1048576):∃ ks,Iw (fun b=>b<w.heap.size) w v ks:=by
 have h':=h;rcases open_ints Tryz.underlying24 Tryz.underlying3 (by kernel_rfl) h with ⟨hcs,_⟩|⟨a,l,c,zs,hcs,_,hl,hm,hz,_,hcell,NI⟩
 ·simp only [List.cons.injEq,and_true] at hcs
  exact ⟨[],none,0,by rw [hcs];rfl,aY _,.inl rfl⟩
 ·simp only [List.cons.injEq,and_true] at hcs
  subst hcs;have iU:=aby Tryz.underlying24 h';have hzl:l≤zs.length:=by rw [hz];split<;>omega
  by_cases hl0:l=0
  ·subst hl0
   exact ⟨[],some a,c,rfl,aY _,.inl rfl⟩
  ·have h0:=hcell 0 (by omega)
   have hsp:=abx h0;obtain ⟨b,o,sp⟩:=a;simp only [Addr.add,if_true] at hsp;subst hsp;have hlt:=World.block_lt_of_cell? w _ h0;rw [Addr.add_lit] at hlt;have e:(zs.take l).length=l:=by simp;omega
   refine ⟨zs.take l,some ⟨b,o,none⟩,c,by rw [e],by rw [e];omega,.inr ⟨b,o,rfl,hlt,hlt,fun j k hk=> ?_⟩⟩;rw [List.getElem?_take] at hk
   split at hk
   ·have h1:=hcell j (by omega)
    rw [Addr.add_lit] at h1;rw [h1];simp [List.getD,hk]
   ·cases hk
theorem aHf (hsz:cs.size=6) {x:DataW H×List MemPlace} (h:DataW.trod enc Tryz.prog w base spare held fuel 26 (Value.agg cs).cells.toList=some x) (hb:Rows.uptoBulk x.1≤1048576):∃ o dv ds,Value.agg cs=xC o dv∧Iw (fun b=>b<w.heap.size) w dv ds:=by
 obtain ⟨l⟩:=cs
 match l,hsz with
 | [v0,v1,v2,v3,v4,v5],_=>
 obtain ⟨xs,m,_,hx,hl,hlen,hf⟩:=DataW.trod_struct Tryz.underlying26 h;have k3:Tryz.prog.cellsOf 3=1:=by kernel_rfl
 have kI:Tryz.prog.cellsOf 24=1:=by kernel_rfl
 have kS:Tryz.prog.cellsOf 23=3:=by kernel_rfl
 match xs,hlen with
 | [y0,y1,y2,y3],_=>
  have f0:DataW.trod enc Tryz.prog w base spare held m 3 [v0]=some y0:=by have h7:=hf 0 _ rfl;simpa [Value.cells,k3] using h7
  have f1:DataW.trod enc Tryz.prog w base spare held m 3 [v1]=some y1:=by have h7:=hf 1 _ rfl;simpa [Value.cells,k3] using h7
  have f2:DataW.trod enc Tryz.prog w base spare held m 23 [v2,v3,v4]=some y2:=by have h7:=hf 2 _ rfl;simpa [Value.cells,kS] using h7
  have f5:DataW.trod enc Tryz.prog w base spare held m 24 [v5]=some y3:=by have h7:=hf 3 _ rfl;simpa [Value.cells,kI] using h7
  obtain ⟨zs,m2,_,hz,hzl,aHg,hg⟩:=DataW.trod_struct Tryz.underlying23 f2
  match zs,aHg with
  | [z0,z1,z2],_=>
   have g0:DataW.trod enc Tryz.prog w base spare held m2 3 [v2]=some z0:=by have h7:=hg 0 _ rfl;simpa [k3] using h7
   have g1:DataW.trod enc Tryz.prog w base spare held m2 3 [v3]=some z1:=by have h7:=hg 1 _ rfl;simpa [k3] using h7
   have g2:DataW.trod enc Tryz.prog w base spare held m2 3 [v4]=some z2:=by have h7:=hg 2 _ rfl;simpa [k3] using h7
   obtain ⟨n0,e0,_⟩:=DataW.trod_int Tryz.underlying3 f0;obtain ⟨n1,e1,_⟩:=DataW.trod_int Tryz.underlying3 f1;obtain ⟨n2,e2,_⟩:=DataW.trod_int Tryz.underlying3 g0;obtain ⟨n3,e3,_⟩:=DataW.trod_int Tryz.underlying3 g1;obtain ⟨n4,e4,_⟩:=DataW.trod_int Tryz.underlying3 g2;simp only [List.cons.injEq,and_true] at e0 e1 e2 e3 e4;subst e0 e1 e2 e3 e4;obtain ⟨ds,sg⟩:=aHe f5 (by
    rw [hx] at hb;simp only [Rows.uptoBulk,Rows.uptoBulkAll,cg,List.map_nil] at hb;omega)
   exact ⟨⟨n0,n1,n2,n3,n4⟩,v5,ds,rfl,sg⟩
theorem aHh {b o:Nat} {cs:List Value} {x:DataW H×List MemPlace} (hc:w.cells? base ⟨b,o,none⟩ 3=some cs) (h:DataW.trod enc Tryz.prog w base spare held n 51 cs=some x):∃ y:Wv,(∀ (c:Nat) (u:Value),(gW y)[c]?=some u→w.cell? ⟨b,o+c,none⟩=some u)∧pz (fun b=>b<w.heap.size) w y∧y.x.key.size+y.x.val.length≤Rows.uptoBulk x.1:=by
 obtain ⟨xs,m,_,hx,hl,hlen,hf⟩:=DataW.trod_struct Tryz.underlying51 h;obtain ⟨v0,v1,v2,rfl,c0,c1,c2⟩:=aqD hc;rw [Addr.add_lit] at c1 c2;have k9:Tryz.prog.cellsOf 9=1:=by kernel_rfl
 have k4:Tryz.prog.cellsOf 4=1:=by kernel_rfl
 have kB:Tryz.prog.cellsOf 49=1:=by kernel_rfl
 match xs,hlen with
 | [y0,y1,y2],_=>
  have f0:DataW.trod enc Tryz.prog w base spare held m 9 [v0]=some y0:=by have h7:=hf 0 _ rfl;simpa [k9] using h7
  have f1:DataW.trod enc Tryz.prog w base spare held m 4 [v1]=some y1:=by have h7:=hf 1 _ rfl;simpa [k9,k4] using h7
  have f2:DataW.trod enc Tryz.prog w base spare held m 49 [v2]=some y2:=by have h7:=hf 2 _ rfl;simpa [k9,k4,kB] using h7
  obtain ⟨s0,e0,q0,_⟩:=DataW.trod_string Tryz.underlying9 f0;obtain ⟨t1,e1,_⟩:=DataW.trod_bool Tryz.underlying4 f1;simp only [List.cons.injEq,and_true] at e0 e1;subst e0 e1;obtain ⟨l,hl,nZ⟩:=aHd f2;refine ⟨⟨⟨s0,t1,l⟩,v2⟩,fun c u hu=> ?_,⟨hl,?_⟩,?_⟩
  ·match c,hu with
   |0,hu=>cases hu;exact c0
   |1,hu=>cases hu;exact c1
   |2,hu=>cases hu;exact c2
   |c+3,hu=>simp [gW] at hu
  ·obtain ⟨a,c,rfl,_,_,_,h⟩:=hl
   rcases h with h|⟨b',o',rfl,hb,_⟩
   ·exact .inl h
   ·exact .inr fun b hb'=>by cases hb';exact hb
  ·rw [hx,q0]
   have z0:s0.data.toList.length=s0.size:=by rw [gO];rfl
   simp only [Rows.uptoBulk,Rows.uptoBulkAll,cg,List.map_nil,z0];omega
theorem aHi {x:DataW H×List MemPlace} (h:DataW.trod enc Tryz.prog w base spare held fuel 27 [v]=some x):∃ ys,Ws (fun b=>b<w.heap.size) w v ys∧ys.length≤Rows.uptoBulk x.1∧bA (ys.map (·.x))≤Rows.uptoBulk x.1:=by
 have h':=h;have k3:Tryz.prog.cellsOf 51=3:=by kernel_rfl
 rcases Go.Deep.open_slice Tryz.underlying27 h with ⟨hcs,_⟩|⟨a,len,cap,m,n,D,Pl,hcs,_,hl,hm,kA,hx,wF⟩
 ·simp only [List.cons.injEq,and_true] at hcs
  exact ⟨[],⟨⟨none,0,by rw [hcs];rfl,aw _,aY _,fun _=>rfl,.inl rfl⟩,by simp⟩,aY _,aY _⟩
 ·simp only [List.cons.injEq,and_true] at hcs
  subst hcs;have iU:=aby Tryz.underlying27 h';rw [k3] at wF;have uR:len≤m:=by rw [kA];split<;>omega
  by_cases hl0:len=0
  ·subst hl0
   exact ⟨[],⟨⟨some a,cap,rfl,aY _,hm,fun h=>(by cases h),.inl rfl⟩,by simp⟩,aY _,aY _⟩
  ·obtain ⟨cs0,hc0,_⟩:=wF 0 (by omega)
   obtain ⟨b,o,sp⟩:=a;obtain ⟨v0,_,_,_,hz0,_⟩:=aqD hc0;have hz:w.cell? ⟨b,o,sp⟩=some v0:=by simpa [Addr.add] using hz0
   have hsp:=abx hz;simp only at hsp;subst hsp;have hlt:=World.block_lt_of_cell? w _ hz;have hall:∀ i,i<len→∃ y:Wv,(∀ (c:Nat) (u:Value),(gW y)[c]?=some u→w.cell? ⟨b,o+i*3+c,none⟩=some u)∧pz (fun b=>b<w.heap.size) w y∧y.x.key.size+y.x.val.length≤Rows.uptoBulk (D i):=fun i hi=>by
    obtain ⟨cs',h1,h2⟩:=wF i (by omega);rw [Addr.add_lit] at h1;exact aHh h1 h2
   have:Inhabited Wv:=⟨⟨⟨⟨#[]⟩,false,[]⟩,.slice none 0 0⟩⟩
   obtain ⟨f,hf⟩:=Go.Deep.choose_lt hall;refine ⟨(List.range len).map f,⟨⟨some ⟨b,o,none⟩,cap,by simp,by simpa using hl,hm,fun h=>(by cases h),.inr ⟨b,o,rfl,hlt,hlt,fun i y hy=> ?_⟩⟩,fun y hy=> ?_⟩,by simpa using iU,?_⟩
   ·simp only [gZ,Option.map_eq_some_iff] at hy
    obtain ⟨j,hj,rfl⟩:=hy;have ml:i<len:=by have:=(dG.1 hj).1;simpa using this
    rw [List.getElem?_range ml] at hj;cases hj;exact (hf i ml).1
   ·obtain ⟨i,hi,rfl⟩:=aZ.1 hy
    exact (hf i (by simpa using hi)).2.1
   ·have h1:=aqF D (fun i=>(f i).x.key.size+(f i).x.val.length) (List.range len) (fun i hi=>(hf i (by simpa using hi)).2.2)
    rw [hx];have h2:bA (((List.range len).map f).map (·.x))=((List.range len).map fun i=>(f i).x.key.size+(f i).x.val.length).sum:=by unfold bA;rw [eX,eX];rfl
    rw [h2];simp only [Rows.uptoBulk];omega
end
end
end Go.Proofs.YtoolkdapflaeeaaGreatDoor
