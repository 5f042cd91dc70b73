/- Helpers. -/
import Derived.Deep.CondSized
import Derived.Test.YtoolkdapflaeeaaGreatDoorW0D
import Derived.Test.YtoolkdapflaeeaaGreatDoorW01
set_option maxRecDepth 100000
set_option maxHeartbeats 16000000
namespace Go.Proofs.YtoolkdapflaeeaaGreatDoor
open Go.RowKit Go.Gl Go.aH Mn
theorem UO (w:World) (k:ByteArray) (s:Int) (g:Bool) (a:Option Addr) (n c:Nat) (hk:k.size≤1000000000000) (hn:n≤1000000000000):
  Calls Tryz.prog 130 #[.agg #[.string k,.int .u64 s,.bool g,.slice a n c]] w fun e w'=>e= .returned (.int .i64 ((k.size+n+16:Nat):Int))∧Grow w w':=by
 have h1:IntKind.i64.wrap ((k.size:Int)+(n:Int))=((k.size+n:Nat):Int):=by rw [aR _ (by omega)];omega
 have h2:IntKind.i64.wrap (((k.size+n:Nat):Int)+16)=((k.size+n+16:Nat):Int):=by rw [aR _ (by omega)];omega
 generalize k.size+n=m1 at*;generalize m1+16=m2 at*;go_enter Tryz.func130,Tryz.ntmps130;go_wp2;go_ret;exact ⟨rfl,Grow.alloc _ _⟩
theorem aeA {N:Nat→Prop} {w:World} {x:Ev} (h:kG N w x) (hl:x.e.val.length≤1000000000000):∀ f,f=181∨f=156∨f=134→Calls Tryz.prog f #[.agg (bQ x)] w fun e w'=>∃ v,e= .returned (.agg (bQ ⟨x.e,v⟩))∧aG w.heap.size w' v x.e.val∧Grow w w':=by
 obtain ⟨⟨xk,xs,xg,xd⟩,xv⟩:=x;obtain ⟨xa,xc,hv⟩:=h.slice;have h':=h.1;simp only at hv h' hl;subst hv;have aeB:=Grow.alloc w (.cells (bQ ⟨⟨xk,xs,xg,xd⟩,.slice xa xd.length xc⟩) 60);have CC:=Grow.alloc (w.alloc (.cells (bQ ⟨⟨xk,xs,xg,xd⟩,.slice xa xd.length xc⟩) 60)) (.cells #[.string ⟨#[]⟩,.int .u64 0,.bool false,.slice none 0 0] 60);obtain ⟨w2,hw2⟩:∃ w2,(w.alloc (.cells (bQ ⟨⟨xk,xs,xg,xd⟩,.slice xa xd.length xc⟩) 60)).alloc (.cells #[.string ⟨#[]⟩,.int .u64 0,.bool false,.slice none 0 0] 60)=w2:=⟨_,rfl⟩
 have hg:=aeB.trans CC;have hb0:=CC.heap (aw w (.cells (bQ ⟨⟨xk,xs,xg,xd⟩,.slice xa xd.length xc⟩) 60));have hb1:=aw (w.alloc (.cells (bQ ⟨⟨xk,xs,xg,xd⟩,.slice xa xd.length xc⟩) 60)) (.cells #[.string ⟨#[]⟩,.int .u64 0,.bool false,.slice none 0 0] 60);rw [World.size_alloc] at hb1;rw [hw2] at hg hb0 hb1;have fL:=ae (uJ (h'.grow hg) (by omega));have Hg:=ae hg;have Hb:=ae (ah hb0 hb1);obtain ⟨c0,c1,c2,c3⟩:=cK hb0;have l0:=af hb0;clear h h' aeB CC hg hb0 hb1;rintro f (rfl|rfl|rfl);go_enter Tryz.func181,Tryz.ntmps181;rotate_left;go_enter Tryz.func156,Tryz.ntmps156;rotate_left;go_enter Tryz.func134,Tryz.ntmps134
 all_goals
  go_wp2_with fail
  (with_reducible refine fL.out.mono ?_);rintro e w3 ⟨v,rfl,ho,hg3⟩;obtain ⟨va,vc,rfl⟩:=Go.Gl.Row1.slice ho;rw [iL];have hb3:=hg3.heap Hb.out.1;have hb4:=hg3.heap Hb.out.2;have h5:=Go.Gl.aI hb3 3 (.slice va xd.length vc);have h6:(w3.setCell ⟨w.heap.size,3,none⟩ (.slice va xd.length vc)).heap[w.heap.size+1]?=some (.cells #[.string ⟨#[]⟩,.int .u64 0,.bool false,.slice none 0 0] 60 (0,0)):=(aK _ _ _ _ (by simp)).trans hb4;have fE:aG w.heap.size (w3.setCell ⟨w.heap.size,3,none⟩ (.slice va xd.length vc)) (.slice va xd.length vc) xd:=by
   have fJ:aG w2.heap.size w3 (.slice va xd.length vc) xd:=by rw [iL] at ho;exact ho
   refine (fJ.mono Hg.out.size).keep (fun g hgb=> ?_);have h9:=(fJ.lt hgb).1;have h8:=l0;exact aK _ _ _ _ (fun e=>by have e':g=w.heap.size:=e;omega)
  have nz:Grow w (w3.setCell ⟨w.heap.size,3,none⟩ (.slice va xd.length vc)):=(Hg.out.trans hg3).setCell (p:=⟨w.heap.size,3,none⟩) (ay _) _;obtain ⟨c30,c31,c32,c33⟩:=cK hb3;have f3:w3.frozen? ⟨w.heap.size,3,none⟩=false:=by simp [World.frozen?,hb3]
  have l3:=af hb3;obtain ⟨w5,oq⟩:∃ w5,w3.setCell ⟨w.heap.size,3,none⟩ (.slice va xd.length vc)=w5:=⟨_,rfl⟩
  rw [oq] at h5 h6 fE nz;obtain ⟨d0,d1,d2,d3⟩:=cK (show w5.heap[w.heap.size]?=some (.cells #[.string xk,.int .u64 xs,.bool xg,.slice va xd.length vc] 60 (0,0)) from h5);obtain ⟨e0,e1,e2,e3⟩:=cK h6;have f5:∀ i,w5.frozen? ⟨w.heap.size+1,i,none⟩=false:=fun i=>by simp [World.frozen?,h6]
  have l5:=af h5;have l6:=af h6;have h7:=Go.Gl.aI h6 0 (.string xk);have h8:=Go.Gl.aI h7 1 (.int .u64 xs);have h9:=Go.Gl.aI h8 2 (.bool xg);have hA:=Go.Gl.aI h9 3 (.slice va xd.length vc);obtain ⟨q0,q1,q2,q3⟩:=cK (show ((((w5.setCell ⟨w.heap.size+1,0,none⟩ (.string xk)).setCell ⟨w.heap.size+1,1,none⟩ (.int .u64 xs)).setCell ⟨w.heap.size+1,2,none⟩ (.bool xg)).setCell ⟨w.heap.size+1,3,none⟩ (.slice va xd.length vc)).heap[w.heap.size+1]?=some (.cells #[.string xk,.int .u64 xs,.bool xg,.slice va xd.length vc] 60 (0,0)) from hA);have gJ:aG w.heap.size ((((w5.setCell ⟨w.heap.size+1,0,none⟩ (.string xk)).setCell ⟨w.heap.size+1,1,none⟩ (.int .u64 xs)).setCell ⟨w.heap.size+1,2,none⟩ (.bool xg)).setCell ⟨w.heap.size+1,3,none⟩ (.slice va xd.length vc)) (.slice va xd.length vc) xd:=by
   refine fE.keep (fun g hgb=> ?_);have hne:g≠w.heap.size+1:=fun e=>by
    obtain ⟨cur,hc⟩:=fE.block hgb;rw [e,h6] at hc;exact absurd (cA (bB hc)).2.1 (by decide)
   exact (aK _ _ _ _ hne).trans ((aK _ _ _ _ hne).trans ((aK _ _ _ _ hne).trans (aK _ _ _ _ hne)))
  have iP:Grow w ((((w5.setCell ⟨w.heap.size+1,0,none⟩ (.string xk)).setCell ⟨w.heap.size+1,1,none⟩ (.int .u64 xs)).setCell ⟨w.heap.size+1,2,none⟩ (.bool xg)).setCell ⟨w.heap.size+1,3,none⟩ (.slice va xd.length vc)):=by
   have e0:w.heap.size≤w.heap.size+1:=by omega
   exact (((nz.setCell (p:=⟨w.heap.size+1,0,none⟩) e0 _).setCell (p:=⟨w.heap.size+1,1,none⟩) e0 _).setCell (p:=⟨w.heap.size+1,2,none⟩) e0 _).setCell (p:=⟨w.heap.size+1,3,none⟩) e0 _
  have bG:=ae (ah gJ iP);clear h5 h6 h7 h8 h9 hA gJ iP fE nz hb3 hb4 ho hg3 Hb fL Hg;go_wp2;refine bodyPost_ret (v:= .agg #[.string xk,.int .u64 xs,.bool xg,.slice va xd.length vc]) (by first|simp [results,Tryz.results181,go_sem,q0,q1,q2,q3]|simp [results,Tryz.results156,go_sem,q0,q1,q2,q3]|simp [results,Tryz.results134,go_sem,q0,q1,q2,q3]) rfl ⟨_,rfl,bG.out.1,bG.out.2⟩
theorem aeC {N:Nat→Prop} {w:World} {x:Ev} (h:kG N w x) (hl:x.e.val.length≤1000000000000):Calls Tryz.prog 181 #[.agg (bQ x)] w fun e w'=>∃ v,e= .returned (.agg (bQ ⟨x.e,v⟩))∧aG w.heap.size w' v x.e.val∧Grow w w':=aeA h hl _ (.inl rfl)
theorem aeD {N:Nat→Prop} {w:World} {x:Ev} (h:kG N w x) (hl:x.e.val.length≤1000000000000):Calls Tryz.prog 156 #[.agg (bQ x)] w fun e w'=>∃ v,e= .returned (.agg (bQ ⟨x.e,v⟩))∧aG w.heap.size w' v x.e.val∧Grow w w':=aeA h hl _ (.inr (.inl rfl))
end Go.Proofs.YtoolkdapflaeeaaGreatDoor
