/-
 The law BallsShape is true of every input: the row.
-/
import Derived.Test.YtokkfpalbpnpeaaKf
namespace Go.Proofs.Ytokkfpalbpnpeaa
open Go.ChangeShapes Go.WideShapes Go.ChangeAt Go.RowKit
set_option linter.unusedVariables false

set_option maxRecDepth 100000 in
theorem ballsShape_lifted(os:Os)(started:os.Started)(H:Type)(enc:TypeId×Value→H):
  ReturnsInHanded {} Try.checked os 3 .any (Rows.ballsShapeSpec.pre6 enc Try.prog Try.f3 Rows.ballsShapeRow.domain false) (Rows.ballsShapeSpec.post enc Try.prog Try.f3 false true false false):=by
 refine returnsInHanded_of_change_sized (C:=Try.checked) qox started (by kernel_rfl) Try.func3
  (ChangeSpec.witness6 (enc:=enc) (C:=Try.checked) false ⟨#[],#[.string ⟨#[]⟩,.string ⟨#[]⟩,.agg #[.int .i64 0,.int .i64 0,.string ⟨#[]⟩,.slice none 0 0]],[]⟩ 8 (by kernel_rfl) (by kernel_rfl) (by kernel_rfl) (by kernel_rfl)) ?_
 intro W base args ds gs before hval0 hW hcnd hsz _
 have hval:∀(j:Nat)t v,Try.f3.params[j]? =some t→args[j]? =some v→Value.okWide Try.prog W .any base t v:=hval0
 have hW':=hW
 obtain⟨p,q,hA0,hV,rfl,hfz,hnd⟩:=hW
 have hA:DataW.TrodAll enc Try.prog W 0 (fun _=>true) true Try.f3.params.toList args.toList ds p:=hA0
 have hsz':=List.all_eq_true.1 hsz
 rw[Try.params3] at hA hval
 obtain⟨v0,vs0,d0,ds0,p0,q0,hargs,rfl,rfl,h0,r0⟩:=trodAll_cons hA
 obtain⟨v1,vs1,d1,ds1,p1,q1,rfl,rfl,rfl,h1,r1⟩:=trodAll_cons r0
 obtain⟨v2,vs2,d2,ds2,p2,q2,rfl,rfl,rfl,h2,r2⟩:=trodAll_cons r1
 obtain⟨rfl,rfl,rfl⟩:=trodAll_nil r2
 obtain rfl:args= #[v0,v1,v2]:=by cases args;simp_all
 obtain⟨rfl,rfl⟩:=trodVars_none hV
 have l0:q4h 9 d0:=fun n hn=>by
  have:=hsz' n (DataW.weights_mem_each (j:=0) (t:=9) (d:=d0) rfl rfl n hn)
  simpa using this
 obtain⟨x0,cs0,hp0,hr0⟩:=qm4 (T:=9) rfl rfl (hval 0 9 v0 rfl rfl) h0 l0
 have l1:q4h 9 d1:=fun n hn=>by
  have:=hsz' n (DataW.weights_mem_each (j:=1) (t:=9) (d:=d1) rfl rfl n hn)
  simpa using this
 obtain⟨x1,cs1,hp1,hr1⟩:=qm4 (T:=9) rfl rfl (hval 1 9 v1 rfl rfl) h1 l1
 have l2:q4h 24 d2:=fun n hn=>by
  have:=hsz' n (DataW.weights_mem_each (j:=2) (t:=24) (d:=d2) rfl rfl n hn)
  simpa using this
 obtain⟨x2,cs2,hp2,hr2⟩:=qm4 (T:=24) rfl rfl (hval 2 24 v2 rfl rfl) h2 l2
 clear hA0 hval0
 simp only[List.append_nil] at hW'
 have mono:∀b,b<W.heap.size→b<W.heap.size→FFD (Bk.all fun _=>True) (fun _=>none) [] b:=fun b _ _=>.inl ⟨trivial,fun x h=>by cases h⟩
 have hcall:=qoy qek rfl rfl (W:=W) (vs:=[v0,v1,v2]) (ds:=[x0,x1,x2]) ⟨_,_,_,_,rfl,rfl,⟨_,hp0,hr0.mono mono⟩,⟨_,_,_,_,rfl,rfl,⟨_,hp1,hr1.mono mono⟩,⟨_,_,_,_,rfl,rfl,⟨_,hp2,hr2.mono mono⟩,⟨rfl,rfl⟩⟩⟩⟩ rfl
 refine Calls.mono hcall fun e W'⟨he,hb⟩=>?_
 subst he
 have hbel:=hb.below
 have hst0:DataW.Trod enc Try.prog W' 0 (fun b=>decide (b<W.heap.size)) true 9 v0 d0 p0:=
  WideElems.Trod_stays q8v (by kernel_rfl) (of_decide_eq_true (by kernel_rfl)) h0 (fun x hx=>hbel.same (hW'.lt x (by simp[hx]))) (fun x hx=>by simpa using hW'.lt x (by simp[hx]))
 have hst1:DataW.Trod enc Try.prog W' 0 (fun b=>decide (b<W.heap.size)) true 9 v1 d1 p1:=
  WideElems.Trod_stays q8v (by kernel_rfl) (of_decide_eq_true (by kernel_rfl)) h1 (fun x hx=>hbel.same (hW'.lt x (by simp[hx]))) (fun x hx=>by simpa using hW'.lt x (by simp[hx]))
 have hst2:DataW.Trod enc Try.prog W' 0 (fun b=>decide (b<W.heap.size)) true 24 v2 d2 p2:=
  WideElems.Trod_stays q8v (by kernel_rfl) (of_decide_eq_true (by kernel_rfl)) h2 (fun x hx=>hbel.same (hW'.lt x (by simp[hx]))) (fun x hx=>by simpa using hW'.lt x (by simp[hx]))
 refine⟨_,rfl,?_⟩
 refine⟨[d0,d1,d2],[],p0++(p1++(p2)),[],p0++(p1++(p2)),[],by simpa using hW',trodAll_cons_mk (shut_bool Try.underlying4 _) trodAll_mk0,?_,rfl,?_,fun h=>by cases h⟩
 ·have h1:=trodAll_cons_mk hst0 (trodAll_cons_mk hst1 (trodAll_cons_mk hst2 trodAll_mk0))
  rw[List.append_nil] at h1
  exact h1
 ·exact World.keptBut_mono (fun p hp=>⟨hp,.inr (.inl hp)⟩) (hbel.frame _)

theorem ballsShape_proved:Rows.BallsShapeSaid:=
 OpenClaim.holds_of_wide 3 Try.f3 rfl rfl rfl rfl rfl rfl rfl ⟨rfl,rfl,rfl,rfl,rfl⟩ rfl rfl rfl rfl rfl (by kernel_rfl) Try.func3 (by kernel_rfl)
  (of_decide_eq_true (by kernel_rfl)) (by unfold Func.isWrapper;first|(rw[if_pos (by decide+kernel)];kernel_rfl)|(rw[if_neg (by decide+kernel)];exact⟨rfl,rfl⟩))
  (fun os started H enc _=>ballsShape_lifted os started H enc)

end Go.Proofs.Ytokkfpalbpnpeaa
