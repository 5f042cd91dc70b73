/- What is proved: LsmErrors returns true for all options, rows of writes and numbers, and its arguments read behind the call as they did before; the conditions are the statement's own (what came in is of bulk at most 1048576; the listed package variables hold what the program's text lays). -/
import Derived.Test.YtoolkdapflaeeaaGreatDoorCards
import Derived.Test.YtoolkdapflaeeaaGreatDoorTie
import Derived.WalkKit
import Derived.ProofKit
import Derived.OpenShut
import Derived.Deep.DeepHandedRow
import Derived.SevenTiedAt
import Derived.Lay
import Derived.Test.YtoolkdapflaeeaaGreatDoorW0G
set_option maxRecDepth 100000
set_option maxHeartbeats 16000000
set_option linter.unusedSimpArgs false
namespace Go.Proofs.YtoolkdapflaeeaaGreatDoor.lsmErrors
open Go.ChangeShapes Go.WideShapes Go.ChangeAt Go.RowKit Go.Gl Go.aF Mn
theorem own:ownKnob Tryz.prog.godebug=none:=by kernel_rfl
theorem laidOut:laidOutB Tryz.prog=true:=by kernel_rfl
theorem abz {H:Type} {d:DataW H}:∀ {l:List (DataW H)} {m:Nat},d∈l→Rows.uptoBulkAll l≤m→Rows.uptoBulk d≤m
 |x::r,m,hd,h=>by
  rw [Rows.uptoBulkAll] at h;rcases bE.1 hd with rfl|hd
  ·omega
  ·have:=abz hd (m:=m) (by omega);omega
theorem aHj {n:Int} (h:(Lit.int .u64 n).wf=true):∃ m:Nat,n=m:=by
 simp only [Lit.wf,Bool.and_eq_true,decide_eq_true_eq] at h;exact ⟨n.toNat,by have h1:=h.1;rw [show IntKind.min .u64=0 from rfl] at h1;omega⟩
theorem contract (H:Type) (enc:TypeId×Value→H) (W:World) (base:Nat) (args:Array Value) (ds gs:List (DataW H)) (before:List MemPlace)
  (hval:∀ (j:Nat) t v,Tryz.f5.params[j]?=some t→args[j]?=some v→Value.okWide Tryz.prog W .any base t v)
  (hW:DataW.Whole enc Tryz.prog Tryz.f5.params.toList Rows.lsmErrorsSpec.vars false W args.toList ds gs before) (hk:Rows.uptoBulkAll (ds++gs)≤1048576):
  Calls Tryz.prog 5 args W fun e W'=>∃ v,e= .returned v∧Rows.lsmErrorsSpec.post enc Tryz.prog Tryz.f5 false true false false W args v W':=by
 have hW':=hW;obtain ⟨p,q,hA0,hV,rfl,Tt,iB⟩:=hW;have hA:DataW.TrodAll enc Tryz.prog W 0 (fun _=>true) true Tryz.f5.params.toList args.toList ds p:=hA0;rw [Tryz.params5] at hA hval;obtain ⟨v0,vs0,d0,ds0,p0,q0,aME,rfl,rfl,h0,r0⟩:=trodAll_cons hA;obtain ⟨v1,vs1,d1,ds1,p1,q1,rfl,rfl,rfl,h1,r1⟩:=trodAll_cons r0;obtain ⟨v2,vs2,d2,ds2,p2,q2,rfl,rfl,rfl,h2,r2⟩:=trodAll_cons r1;obtain ⟨rfl,rfl,rfl⟩:=trodAll_nil r2;obtain rfl:args=#[v0,v1,v2]:=by cases args;simp_all
 obtain ⟨rfl,rfl⟩:=trodVars_none hV;obtain ⟨c0,rfl,hs0⟩:=okWide_struct Tryz.underlying26 (hval 0 26 v0 rfl rfl);obtain ⟨a1,Qs,vp,rfl⟩:=okWide_slice Tryz.underlying27 (hval 1 27 v1 rfl rfl);obtain ⟨z2,rfl⟩:=okWide_int Tryz.underlying37 (hval 2 37 v2 rfl rfl);have k0:=h0;have Yt:∀ x∈p0,x.block<W.heap.size:=by obtain ⟨m,hm⟩:=k0;exact DataW.trod_lt m _ _ _ hm
 have k1:=h1;have WM:∀ x∈p1,x.block<W.heap.size:=by obtain ⟨m,hm⟩:=k1;exact DataW.trod_lt m _ _ _ hm
 have k2:=h2;have Cx:∀ x∈p2,x.block<W.heap.size:=by obtain ⟨m,hm⟩:=k2;exact DataW.trod_lt m _ _ _ hm
 obtain ⟨o0,dv0,dr0,ho0,hd0⟩:∃ o dv dr,Value.agg c0=xC o dv∧Iw (fun b=>b<W.heap.size) W dv dr:=by obtain ⟨fuel,hf⟩:=h0;exact aHf (hs0.trans (by kernel_rfl)) hf (abz (d:=d0) (by simp) hk)
 obtain ⟨x1,cp⟩:∃ ys,Ws (fun b=>b<W.heap.size) W (.slice a1 Qs vp) ys∧ys.length≤Rows.uptoBulk d1∧bA (ys.map (·.x))≤Rows.uptoBulk d1:=by obtain ⟨fuel,hf⟩:=h1;exact aHi hf
 obtain ⟨x2,rfl⟩:∃ m:Nat,z2=m:=by obtain ⟨fuel,hf⟩:=h2;obtain ⟨n,e,_,g⟩:=DataW.trod_int Tryz.underlying37 hf;injection e with e _;injection e with _ e;rw [e];exact aHj g
 clear hA0;have walk:Calls Tryz.prog 5 #[.agg c0,.slice a1 Qs vp,.int .u64 (x2:Int)] W fun e w'=>e= .returned (.bool true)∧Grow W w':=by
  rw [ho0];exact aGN (Nn:=100) (Uu _ _) (aw _) hd0 cp.1 (fun b hb=>hb) (by have:=cp.2.1;have:=cp.2.2;have:=abz (d:=d1) (by simp) hk;omega) x2
 refine (walk).mono fun e W' ⟨he,TB⟩=> ?_
 subst he;exact ⟨_,rfl,_,_,_,[],_,[],hW',trodAll_mk1 (shut_bool Tryz.underlying4 _),(trodAll_cons_mk (Below.trod laidOut (by kernel_rfl) (of_decide_eq_true (by kernel_rfl)) k0 TB Yt) (trodAll_cons_mk (Below.trod laidOut (by kernel_rfl) (of_decide_eq_true (by kernel_rfl)) k1 TB WM) (trodAll_cons_mk (Below.trod laidOut (by kernel_rfl) (of_decide_eq_true (by kernel_rfl)) k2 TB Cx) trodAll_mk0))),rfl,TB.frame _,fun h=>by cases h⟩
noncomputable def abA (os:Os):World:=World.laidAll Tryz.prog os Rows.lsmErrorsUptoRow.laid
theorem aHn (os:Os):laidMet Tryz.prog Rows.lsmErrorsUptoRow.laid ((abA os).forCall (fun _ _=>0) ⟨#[],#[.agg #[.int .i64 0,.int .i64 0,.int .i64 0,.int .i64 0,.int .i64 0,.slice none 0 0],.slice none 0 0,.int .u64 0],[]⟩).memory:=
 laidMet_laidAll _ (by kernel_rfl) (by kernel_rfl)
theorem reads (os:Os) {H:Type} (enc:TypeId×Value→H):∃ places,DataW.whole enc Tryz.prog ((abA os).forCall (fun _ _=>0) ⟨#[],#[.agg #[.int .i64 0,.int .i64 0,.int .i64 0,.int .i64 0,.int .i64 0,.slice none 0 0],.slice none 0 0,.int .u64 0],[]⟩).memory Tryz.f5.params.toList Rows.lsmErrorsSpec.vars false #[(.agg #[.int .i64 0,.int .i64 0,.int .i64 0,.int .i64 0,.int .i64 0,.slice none 0 0]:Value),.slice none 0 0,.int .u64 0].toList 8=some ([.agg [.lit (.int .i64 0),.lit (.int .i64 0),.agg [.lit (.int .i64 0),.lit (.int .i64 0),.lit (.int .i64 0)],.nil],.nil,.lit (.int .u64 0)],[],places):=
 ⟨[],by kernel_rfl⟩
theorem lifted (os:Os) (started:os.Started) (H:Type) (enc:TypeId×Value→H) (F:Stop.Interp):
  ReturnsInHanded {} Tryz.checked os 5 .any ((Rows.OpenSpec.upto Rows.lsmErrorsSpec).preRow enc Tryz.prog Tryz.f5 Rows.lsmErrorsUptoRow.domain false Rows.lsmErrorsUptoRow.laid) (((Rows.OpenSpec.upto Rows.lsmErrorsSpec).at F).post enc Tryz.prog Tryz.f5 false true false false):=by
 obtain ⟨places,hx⟩:=reads os enc;refine returnsInHanded_of_row (C:=Tryz.checked) (s:=Rows.OpenSpec.upto Rows.lsmErrorsSpec) own started (by kernel_rfl) Tryz.func5
  (witness_row_at (enc:=enc) (C:=Tryz.checked) false (abA os) #[.agg #[.int .i64 0,.int .i64 0,.int .i64 0,.int .i64 0,.int .i64 0,.slice none 0 0],.slice none 0 0,.int .u64 0] (World.laidAll_os _ _ _) (by kernel_rfl) (by kernel_rfl) (by kernel_rfl)
   (OpenSpec.preRow_of_cond 8 hx (by kernel_rfl) (fun k hk=>by cases hk;kernel_rfl) (by kernel_rfl) (aHn os))) ?_
 intro W base args ds gs before hval hW _ aHo _ _ _ _;exact contract H enc W base args ds gs before hval hW (of_decide_eq_true (aHo _ rfl))
section
theorem aHp:(Rows.lsmErrorsUptoRow.inPlace==Tryz.pinned.checked.prog.inPlace 5)=true:=by kernel_rfl
theorem aHq:(Rows.lsmErrorsUptoRow.unfollowed==Tryz.pinned.checked.prog.unfollowed 5)=true:=by kernel_rfl
theorem aHr:(Rows.lsmErrorsUptoRow.recurses==Tryz.pinned.checked.prog.recurses 5)=true:=by kernel_rfl
theorem aHs:(Rows.lsmErrorsUptoRow.named==Tryz.pinned.checked.prog.varsNamed 5)=true:=by kernel_rfl
theorem closed:joinedFacts Tryz.pinned.checked.prog 5 Tryz.f5 (Rows.OpenSpec.upto Rows.lsmErrorsSpec).bare Rows.lsmErrorsUptoRow=true:=by
 unfold joinedFacts;rw [aHp,aHq,aHr,aHs];kernel_rfl
theorem aHt:Rows.LsmErrorsUptoSaid:=
 OpenClaim.holds_of_cond 5 Tryz.f5 rfl rfl rfl rfl rfl rfl rfl ⟨rfl,rfl,rfl,rfl,rfl⟩ rfl rfl rfl rfl rfl (by kernel_rfl) Tryz.func5 closed
  (of_decide_eq_true (by kernel_rfl)) (by unfold Func.isWrapper;first|(rw [if_pos (by decide+kernel)];kernel_rfl)|(rw [if_neg (by decide+kernel)];exact ⟨rfl,rfl⟩))
  (fun os started H enc _ F=>by rw [OpenClaim.pre_eq_preRow];exact lifted os started H enc F)
theorem plain (f:FuncId) (fn:Func) (hf:Tryz.pinned.checked.prog.funcNamed "glacier/glacierlaw10.LsmErrors"=some f) (hfn:Tryz.pinned.checked.prog.funcs[f]?=some fn):
  true=Tryz.pinned.checked.prog.looks []∧∀ (j:Nat) t,fn.params[j]?=some t→Tryz.pinned.checked.prog.wantsStandIn t=false:=by
 obtain rfl:f=5:=bk ((show Tryz.prog.funcNamed "glacier/glacierlaw10.LsmErrors"=some 5 by kernel_rfl).symm.trans hf)|>.symm;obtain rfl:fn=Tryz.f5:=(bk (Tryz.func5.symm.trans hfn)).symm;refine ⟨by kernel_rfl,fun j t ht=> ?_⟩;rw [Tryz.params5] at ht;have hm:t∈ [26,27,37]:=by simpa using Array.mem_of_getElem? ht
 have hall:([26,27,37].all fun u=> !Tryz.prog.wantsStandIn u)=true:=by kernel_rfl
 exact (show Tryz.prog.wantsStandIn t=false by simpa using List.all_eq_true.1 hall t hm)
theorem proved:Rows.LsmErrorsUptoCardSaid:=
 Claim7.holds_tied_plain_at .later [] _ _ _ _ aHt (fun _ h=>by cases h) (by kernel_rfl) (fun _ h=>by cases h) lsmErrorsUpto_row_tie rfl ⟨rfl,rfl⟩ (by kernel_rfl) rfl plain (by kernel_rfl)
#print axioms proved
end
end Go.Proofs.YtoolkdapflaeeaaGreatDoor.lsmErrors
