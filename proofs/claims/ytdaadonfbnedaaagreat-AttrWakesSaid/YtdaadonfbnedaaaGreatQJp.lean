/-
 The law AttrWakes is true of every input: the row.
-/
import Derived.Test.YtdaadonfbnedaaaGreatKj
namespace Go.Proofs.YtdaadonfbnedaaaGreat
open Go.ChangeShapes Go.WideShapes Go.ChangeAt Go.RowKit
set_option linter.unusedVariables false

set_option maxRecDepth 100000 in
theorem attrWakes_lifted(os:Os)(started:os.Started)(H:Type)(enc:TypeId×Value→H):
  ReturnsInHanded {} Tryz.checked os 6 .any (Rows.attrWakesSpec.pre6 enc Tryz.prog Tryz.f6 Rows.attrWakesRow.domain false) (Rows.attrWakesSpec.post enc Tryz.prog Tryz.f6 false true false false):=by
 refine returnsInHanded_of_change_sized (C:=Tryz.checked) zee started (by kernel_rfl) Tryz.func6
  (ChangeSpec.witness6 (enc:=enc) (C:=Tryz.checked) false ⟨#[],#[.agg #[.slice none 0 0,.slice none 0 0,.slice none 0 0,.slice none 0 0,.int .i64 0,.int .i64 0]],[]⟩ 8 (by kernel_rfl) (by kernel_rfl) (by kernel_rfl) (by kernel_rfl)) ?_
 intro W base args ds gs before hval0 hW hcnd hsz _
 have hval:∀(j:Nat)t v,Tryz.f6.params[j]? =some t→args[j]? =some v→Value.okWide Tryz.prog W .any base t v:=hval0
 have hW':=hW
 obtain⟨p,q,hA0,hV,rfl,hfz,hnd⟩:=hW
 have hA:DataW.TrodAll enc Tryz.prog W 0 (fun _=>true) true Tryz.f6.params.toList args.toList ds p:=hA0
 have hsz':=List.all_eq_true.1 hsz
 rw[Tryz.params6] at hA hval
 obtain⟨v0,vs0,d0,ds0,p0,q0,hargs,rfl,rfl,h0,r0⟩:=trodAll_cons hA
 obtain⟨rfl,rfl,rfl⟩:=trodAll_nil r0
 obtain rfl:args= #[v0]:=by cases args;simp_all
 obtain⟨rfl,rfl⟩:=trodVars_none hV
 have l0:qib 27 d0:=fun n hn=>by
  have:=hsz' n (DataW.weights_mem_each (j:=0) (t:=27) (d:=d0) rfl rfl n hn)
  simpa using this
 obtain⟨x0,cs0,hp0,hr0⟩:=zsx (T:=27) rfl rfl (hval 0 27 v0 rfl rfl) h0 l0
 clear hA0 hval0
 simp only[List.append_nil] at hW'
 have mono:∀b,b<W.heap.size→b<W.heap.size→FFD (fun _=>True) (fun _=>none) [] b:=fun b _ _=>.inl ⟨trivial,fun x h=>by cases h⟩
 have hcall:=zdk qxt rfl rfl (W:=W) (vs:=[v0]) (ds:=[x0]) ⟨_,_,_,_,rfl,rfl,⟨_,hp0,hr0.mono mono⟩,⟨rfl,rfl⟩⟩ rfl
 refine Calls.mono hcall fun e W'⟨he,hb⟩=>?_
 subst he
 have hbel:=hb.below
 have hst0:DataW.Trod enc Tryz.prog W' 0 (fun b=>decide (b<W.heap.size)) true 27 v0 d0 p0:=
  WideElems.Trod_stays zeu (by kernel_rfl) (of_decide_eq_true (by kernel_rfl)) h0 (fun x hx=>hbel.same (hW'.lt x (by simp[hx]))) (fun x hx=>by simpa using hW'.lt x (by simp[hx]))
 refine⟨_,rfl,?_⟩
 refine⟨[d0],[],p0,[],p0,[],by simpa using hW',trodAll_cons_mk (shut_bool Tryz.underlying4 _) trodAll_mk0,?_,rfl,?_,fun h=>by cases h⟩
 ·have h1:=trodAll_cons_mk hst0 trodAll_mk0
  rw[List.append_nil] at h1
  exact h1
 ·exact World.keptBut_mono (fun p hp=>⟨hp,.inr (.inl hp)⟩) (hbel.frame _)

theorem attrWakes_proved:Rows.AttrWakesSaid:=
 OpenClaim.holds_of_wide 6 Tryz.f6 rfl rfl rfl rfl rfl rfl rfl ⟨rfl,rfl,rfl,rfl,rfl⟩ rfl rfl rfl rfl rfl (by kernel_rfl) Tryz.func6 (by kernel_rfl)
  (of_decide_eq_true (by kernel_rfl)) (by unfold Func.isWrapper;first|(rw[if_pos (by decide+kernel)];kernel_rfl)|(rw[if_neg (by decide+kernel)];exact⟨rfl,rfl⟩))
  (fun os started H enc _=>attrWakes_lifted os started H enc)

end Go.Proofs.YtdaadonfbnedaaaGreat
