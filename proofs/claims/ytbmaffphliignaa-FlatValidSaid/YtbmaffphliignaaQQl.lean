/-
 The law FlatValid is true of every input: the row.
-/
import Derived.Test.YtbmaffphliignaaLg
namespace Go.Proofs.Ytbmaffphliignaa
open Go.ChangeShapes Go.WideShapes Go.ChangeAt Go.RowKit
set_option linter.unusedVariables false

set_option maxRecDepth 100000 in
theorem flatValid_lifted(os:Os)(started:os.Started)(H:Type)(enc:TypeId×Value→H):
  ReturnsInHanded {} Try.checked os 5 .any (Rows.flatValidSpec.pre6 enc Try.prog Try.f5 Rows.flatValidRow.domain false) (Rows.flatValidSpec.post enc Try.prog Try.f5 false true false false):=by
 refine returnsInHanded_of_change_sized (C:=Try.checked) z06 started (by kernel_rfl) Try.func5
  (ChangeSpec.witness6 (enc:=enc) (C:=Try.checked) false ⟨#[],#[.agg #[.string ⟨#[]⟩,.int .i64 0,.int .i64 0,.slice none 0 0,.slice none 0 0],.agg #[.string ⟨#[]⟩,.int .i64 0,.int .i64 0,.slice none 0 0,.slice none 0 0]],[]⟩ 8 (by kernel_rfl) (by kernel_rfl) (by kernel_rfl) (by kernel_rfl)) ?_
 intro W base args ds gs before hval0 hW hcnd hsz _
 have hval:∀(j:Nat)t v,Try.f5.params[j]? =some t→args[j]? =some v→Value.okWide Try.prog W .any base t v:=hval0
 have hW':=hW
 obtain⟨p,q,hA0,hV,rfl,hfz,hnd⟩:=hW
 have hA:DataW.TrodAll enc Try.prog W 0 (fun _=>true) true Try.f5.params.toList args.toList ds p:=hA0
 have hsz':=List.all_eq_true.1 hsz
 rw[Try.params5] at hA hval
 obtain⟨v0,vs0,d0,ds0,p0,q0,hargs,rfl,rfl,h0,r0⟩:=trodAll_cons hA
 obtain⟨v1,vs1,d1,ds1,p1,q1,rfl,rfl,rfl,h1,r1⟩:=trodAll_cons r0
 obtain⟨rfl,rfl,rfl⟩:=trodAll_nil r1
 obtain rfl:args= #[v0,v1]:=by cases args;simp_all
 obtain⟨rfl,rfl⟩:=trodVars_none hV
 have l0:qbc 38 d0:=fun n hn=>by
  have:=hsz' n (DataW.weights_mem_each (j:=0) (t:=38) (d:=d0) rfl rfl n hn)
  simpa using this
 obtain⟨x0,cs0,hp0,hr0⟩:=z1c (T:=38) rfl rfl (hval 0 38 v0 rfl rfl) h0 l0
 have l1:qbc 38 d1:=fun n hn=>by
  have:=hsz' n (DataW.weights_mem_each (j:=1) (t:=38) (d:=d1) rfl rfl n hn)
  simpa using this
 obtain⟨x1,cs1,hp1,hr1⟩:=z1c (T:=38) rfl rfl (hval 1 38 v1 rfl rfl) h1 l1
 clear hA0 hval0
 simp only[List.append_nil] at hW'
 have mono:∀b,b<W.heap.size→b<W.heap.size→FFD (fun _=>True) (fun _=>none) [] b:=fun b _ _=>.inl ⟨trivial,fun x h=>by cases h⟩
 have hcall:=z0i qoh rfl rfl (W:=W) (vs:=[v0,v1]) (ds:=[x0,x1]) ⟨_,_,_,_,rfl,rfl,⟨_,hp0,hr0.mono mono⟩,⟨_,_,_,_,rfl,rfl,⟨_,hp1,hr1.mono mono⟩,⟨rfl,rfl⟩⟩⟩ rfl
 refine Calls.mono hcall fun e W'⟨he,hb⟩=>?_
 subst he
 have hbel:=hb.below
 have hst0:DataW.Trod enc Try.prog W' 0 (fun b=>decide (b<W.heap.size)) true 38 v0 d0 p0:=
  WideElems.Trod_stays qpg (by kernel_rfl) (of_decide_eq_true (by kernel_rfl)) h0 (fun x hx=>hbel.same (hW'.lt x (by simp[hx]))) (fun x hx=>by simpa using hW'.lt x (by simp[hx]))
 have hst1:DataW.Trod enc Try.prog W' 0 (fun b=>decide (b<W.heap.size)) true 38 v1 d1 p1:=
  WideElems.Trod_stays qpg (by kernel_rfl) (of_decide_eq_true (by kernel_rfl)) h1 (fun x hx=>hbel.same (hW'.lt x (by simp[hx]))) (fun x hx=>by simpa using hW'.lt x (by simp[hx]))
 refine⟨_,rfl,?_⟩
 refine⟨[d0,d1],[],p0++(p1),[],p0++(p1),[],by simpa using hW',trodAll_cons_mk (shut_bool Try.underlying4 _) trodAll_mk0,?_,rfl,?_,fun h=>by cases h⟩
 ·have h1:=trodAll_cons_mk hst0 (trodAll_cons_mk hst1 trodAll_mk0)
  rw[List.append_nil] at h1
  exact h1
 ·exact World.keptBut_mono (fun p hp=>⟨hp,.inr (.inl hp)⟩) (hbel.frame _)

theorem flatValid_proved:Rows.FlatValidSaid:=
 OpenClaim.holds_of_wide 5 Try.f5 rfl rfl rfl rfl rfl rfl rfl ⟨rfl,rfl,rfl,rfl,rfl⟩ rfl rfl rfl rfl rfl (by kernel_rfl) Try.func5 (by kernel_rfl)
  (of_decide_eq_true (by kernel_rfl)) (by unfold Func.isWrapper;first|(rw[if_pos (by decide+kernel)];kernel_rfl)|(rw[if_neg (by decide+kernel)];exact⟨rfl,rfl⟩))
  (fun os started H enc _=>flatValid_lifted os started H enc)

end Go.Proofs.Ytbmaffphliignaa
