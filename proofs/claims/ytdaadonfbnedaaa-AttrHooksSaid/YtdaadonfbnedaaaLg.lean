/-
 Lemmas of the walk and plain laws, put together. No condition.
-/
import Derived.Test.YtdaadonfbnedaaaLf
namespace Go.Proofs.Ytdaadonfbnedaaa
open Go.RowKit
set_option linter.unusedVariables false
set_option linter.unusedSimpArgs false
set_option maxRecDepth 100000
open _root_.List renaming eq_nil_of_length_eq_zero→uA,length_take→uC,getElem?_append_right→uE,drop_eq_nil_of_le→uG,length_append→uH,length_drop→uI,take_of_length_le→uK,take_append_drop→uM,getElem?_append_left→uN,mem_cons_of_mem→uP,mem_cons_self→uR,drop_drop→uT,length_cons→uU,cons_append→uV,length_nil→uW,eq_nil_or_concat→uX,concat_eq_append→uY,drop_left→uZ,append_nil→kD,getElem?_cons_zero→kE,append_assoc→kG,getElem?_toArray→kH,pairwise_append→kI,pairwise_cons→kJ,mem_cons→kK,nil_append→kN,getD_cons_zero→kQ,getD_cons_succ→kR,all_eq_true→kT,take_append_of_le_length→kU,take_left→kZ,drop_eq_getElem_cons→vB,getElem?_take_of_lt→vE,getElem?_cons_succ→vF,mem_of_mem_head?→vH,mem_iff_getElem?→vI,foldl_append→vL,take_length→vM,set_append→vO,mem_append→vP
open _root_.Go.Proofs.Try renaming prog→uB
open _root_.And renaming intro→uD
open _root_.Bool renaming and_eq_false_iff→uF,not_eq_true'→kA,not_eq_false'→kS
open _root_.Int renaming eq_ofNat_of_zero_le→uJ,toNat_natCast→uO,le_refl→vJ
open _root_.Option renaming ite_none_right_eq_some→uL,isNone_iff_eq_none→kX
open _root_.Option.some renaming injEq→uQ
open _root_.Nat renaming le_refl→kB,add_mul→kC,add_sub_cancel_left→kF,mul_assoc→kL,mul_comm→kM,zero_le→kV,blt_eq→vA,le_trans→vG,add_sub_cancel→vK,beq_refl→vQ,beq→vR
open _root_.List.cons renaming injEq→kO
open _root_.Array renaming getElem?_setIfInBounds_self_of_lt→kP,getD_eq_getD_getElem?→kW,getElem?_append_left→kY,size_setIfInBounds→vC,replicate→vN
variable{c:Cx}{σ:St}{p:qj}{a:Act}
theorem qyy{w:World}{k:Nat}(h:z7i k σ=true)(hf:SF c σ p w a):∃g,p (k * 16)=some g∧c.At k g:=by
 unfold z7i at h;obtain⟨e,-,he⟩:=List.any_eq_true.1 h;split at he
 ·rename_i x hx;obtain⟨v,-,hp⟩:=hf.t e.1 x hx;exact AV.has_ok x he hp
 ·cases he
theorem qzv{o:Oper}{t te:Nat}{y x1:Operand}(h:z31 o=some (t,y,x1,te)):o.dst=some t∧o.guard=none∧∃tys,o.op=.call {callee:=.value y,args:= #[x1,.tmp te],argTypes:=tys}:=by
 unfold z31 at h;split at h
 ·rename_i y' x1' te' tys t' ho hd hg;simp only[gnS] at h;obtain⟨rfl,rfl,rfl,rfl⟩:=h;exact⟨hd,hg,tys,ho⟩
 ·cases h
variable{ct:Ct}{tbl:Tbl}
theorem z50(ann:Ann)(fn:Func)(j:Nat)(cd:Code)(htb:q0v tbl)(hkj:∀l,(qf tbl j) l=q5c l)(hf:uB.funcs[ct.f]? =some fn)(hb:fn.body=some cd)(hsz:ct.ar.length≤fn.ntmps)(hnp:q9v tbl=true)
  {ds outs:List D}(h:(z9i uB tbl ann ct fn j cd).go (qf tbl) (fun o=>o=outs) ds fun _ _=>False)(hfm0:FlF ct tbl ds:=by exact FlF.none rfl):FAt ct ds outs:=by
 intro A F p w vs us hfl hfo hpre hvl hargs;obtain⟨hwf,hdl,-⟩:=hargs.wf;rw[all_map] at hwf hdl;have hfm:=hfm0 F hfl;obtain⟨hb0,hsf⟩:=qy1 (tbl:=tbl) (fn:=fn) hsz hfo hpre hvl hargs;refine calls_of_wp_defers hf hb ?_;generalize hR:(fun(e:Ending)(w':World)=>(∃T,ct.pn=some T∧outs=[.u]∧e=.panicked (qao T)∧But (pinned p) w w')∨∃rs p',e=.returned (qiy rs)∧Bs A F w (pinned p) p' w'∧qbj A p' w' ct.rs ct.ar.length rs (outs.take ct.rs.length)∧q49 (vs++us) A p p' w' ct.all (outs.drop ct.rs.length))=R;have hfin:∀{c:Cx}{σ':St}{l':List D}{p':qj}{w':World}{a':Act}{n':Nat}{B':Nat→List D→Prop},c.A=A→c.F=F→c.At=(fun k g=>(k<ct.ar.length∨VB≤k)→p (k * 16)=some g)→(∀i,i<VB→c.snap i=(vs++us).getD i undef)→Bs c.A c.F w (pinned p) p' w'→SF (c.at (qf tbl) l') σ' p' w' a'→(qdx ct fn.results.toList n' .ret σ').go (qf tbl) (fun o=>o=outs) l' B'→Leaves uB fn a'.tmps R [] .returning w':=by
  intro c σ' l' p' w' a' n' B' h1 hF h2 h3 hb' hf' hgo';simp only[qdx] at hgo';split at hgo'
  ·rename_i xs hx;obtain⟨rs,p2,e1,e2,e3,e4⟩:=zbu h1 h2 h3 hargs hvl hb' hf' hx;have ho:X.evs (evl (qf tbl) l') xs=outs:=hgo';refine⟨_,e1,?_⟩;rw[hF] at e2;rw[←hR];exact .inr ⟨rs,p2,rfl,e2,by rw[←ho];exact e3,by rw[←ho];exact e4⟩
  ·exact hgo'.elim
 unfold z9i at h;split at h
 ·rename_i xs id ops post hcut;refine z2j hcut (zbe (c:=cxA tbl ct A F p vs us ds) (S0:=pinned p) (w0:=w) (d:=[]) (z:=fn.ntmps) htb hfm hnp xs h hdl hb0 hsf rfl (by simp;omega) fun n' r σ' l' B' p' w' a' hl' hgo' hb' hf' hd' hz'=>?_);cases r with
  |exit i=>exact hgo'.elim
  |ret=>
   show Leaves uB fn a'.tmps R a'.defers .returning w'
   rw[hd'];exact hfin (c:=cxA tbl ct A F p vs us ds) rfl rfl rfl (fun _ _=>rfl) hb' hf' hgo'
  | normal =>
   show(Code.seq (.region id ops.toArray false) post).wp uB _ a' w'
   rcases ops with _|⟨o1,_|⟨ck,_|⟨df,_|⟨x,l⟩⟩⟩⟩
   ·exact(show False from hgo').elim
   ·exact(show False from hgo').elim
   ·exact(show False from hgo').elim
   ·simp only[zue] at hgo';split at hgo'
    ·rename_i t t' y x1 te hdt hck;split at hgo'
     ·rename_i hok;simp only[gnB,kX,kA] at hok;obtain⟨htt,hg1,hd1,hd2,htte⟩:=hok;obtain rfl:=gnN htt;have htte:t≠te:=fun e=>by rw[e,vQ] at htte;cases htte
      obtain⟨hck1,hck2,tys,hck3⟩:=qzv hck;have htz:t<fn.ntmps:=by
       unfold q9o at hd2;rw[hck1] at hd2;simp only[gnB,vA] at hd2;exact hd2.1
      split at hgo'
      ·rename_i N σ1 hst;split at hgo'
       ·rename_i f ks ty ke σ2 hy hx1 hhold;split at hgo'
        ·rename_i es hes;split at hgo'
         ·rename_i hok2;simp only[gnB,vA] at hok2;obtain⟨hff,hty,het,hks,hup⟩:=hok2;obtain rfl:=gnN hff;have het:=(Ty.beq_iff _ _).1 het;obtain⟨hN,hgo2⟩:=qtg hgo';refine wp_seq (wp_region ?_);have hw0:Region.wanted o1 (yielded ([o1,ck,df].toArray) a'.tmps)=true:=by simp[Region.wanted,hg1]
          have hstep:=qsa (c:=(cxA tbl ct A F p vs us ds).at (qf tbl) l') (ops:=[o1,ck,df].toArray) (ds:=dsts [o1,ck,df]) (Q:=Exit.then (post.wp uB (bodyPostD uB fn R)) (bodyPostD uB fn R)) (K:=wpOps uB [o1,ck,df].toArray (Exit.then (post.wp uB (bodyPostD uB fn R)) (bodyPostD uB fn R)) [1,2]) htb ⟨rfl,hfm⟩ rfl hb' hf' hd' hz' hd1 hst hN (q5t hnp) fun a1 w1 hpost=>?_
          ·rw[if_pos hw0] at hstep
           show wpOps uB [o1,ck,df].toArray _ [0,1,2] a' w'
           simp only[wpOps,kH,kE];rw[if_pos hw0];exact .inl hstep.2
          ·obtain⟨p1,hb1,hf1,hda1,hz1⟩:=hpost;obtain⟨vy,hvy,hvs⟩:=qo hf1 rfl hy;have hvs:vy=[]:=hvs;subst hvs;obtain⟨gs,hgs,hvx,hat⟩:=qo hf1 rfl hx1;obtain⟨hf2,ge,hge,hve⟩:=z6t hhold hf1;obtain⟨gs',cs,T,hgs',hh,hT,hcon⟩:=hf1.m ks _ hes;rw[hgs] at hgs';injection hgs' with hgs';subst hgs';rw[het] at hcon;obtain⟨r0,r1,r2,r3,A0,A1,A2,A3,k0,k1,k2,k3,x4,x5,eD,ecs,-,q4,-⟩:=qjw hcon;have ecs:cs= #[.slice A0 r0.length k0,.slice A1 r1.length k1,.slice A2 r2.length k2,.slice A3 r3.length k3,.int .i64 x4,.int .i64 x5]:=by
            obtain⟨cs⟩:=cs;have ecs:cs=_:=ecs;rw[ecs]
           subst ecs;generalize hcx:({cxA tbl ct A F p vs us ds with snap:=fun q=>if q=VB+te then a1.eval (.tmp te) else(cxA tbl ct A F p vs us ds).snap q}:Cx)=cx;have hcA:cx.A=A:=by rw[←hcx];rfl
           have hcF:cx.F=F:=by rw[←hcx];rfl
           have hcAt:cx.At=(fun k g=>(k<ct.ar.length∨VB≤k)→p (k * 16)=some g):=by rw[←hcx];rfl
           have hcs:∀i,i<VB→cx.snap i=(vs++us).getD i undef:=fun i hi=>by
            rw[←hcx]
            show(if i=VB+te then _ else _)=_
            rw[if_neg (by omega)];rfl
           have hct:cx.snap (VB+te)=.pointer (some ⟨ge,0,none⟩):=by
            rw[←hcx,←hve]
            show(if VB+te=VB+te then _ else _)=_
            rw[if_pos rfl]
           have hlo:cx.lo=ct.ar.length:=by rw[←hcx];rfl
           have hf3:SF (cx.at (qf tbl) l') σ2 p1 w1 a1:=by rw[←hcx];exact hf2
           have hb3:Bs cx.A cx.F w (pinned p) p1 w1:=by rw[hcA,hcF];exact hb1
           have hpg:p (ks * 16)=some gs:=hat (.inl hks);clear hcx
           -- the call of keep
           have hgl:=qt hh;obtain⟨w2,hw2⟩:∃w2,w2=((w1.alloc (.cells #[.pointer (some ⟨gs,0,none⟩)] 37)).alloc (.cells #[.pointer (some ⟨ge,0,none⟩)] 83)).alloc (.cells #[.slice A0 r0.length k0,.slice A1 r1.length k1,.slice A2 r2.length k2,.slice A3 r3.length k3,.int .i64 x4,.int .i64 x5] 27):=⟨_,rfl⟩;have hs2:w2.heap.size=w1.heap.size+3:=by rw[hw2];simp
           have hst1:=q4u (A:=cx.A) hb3.bd (.cells #[.pointer (some ⟨gs,0,none⟩)] 37);have hbs1:=qaa hb3 (.cells #[.pointer (some ⟨gs,0,none⟩)] 37);have hst2:=q4u (A:=cx.A) hbs1.bd (.cells #[.pointer (some ⟨ge,0,none⟩)] 83);have hbs2:=qaa hbs1 (.cells #[.pointer (some ⟨ge,0,none⟩)] 83);have hst3:=q4u (A:=cx.A) hbs2.bd (.cells #[.slice A0 r0.length k0,.slice A1 r1.length k1,.slice A2 r2.length k2,.slice A3 r3.length k3,.int .i64 x4,.int .i64 x5] 27);have hbs3:=qaa hbs2 (.cells #[.slice A0 r0.length k0,.slice A1 r1.length k1,.slice A2 r2.length k2,.slice A3 r3.length k3,.int .i64 x4,.int .i64 x5] 27);have hfk:=SF.same (c:=cx.at (qf tbl) l') hst3 (SF.same (c:=cx.at (qf tbl) l') hst2 (SF.same (c:=cx.at (qf tbl) l') hst1 hf3));have hh2:w2.heap[w1.heap.size]? =some (.cells #[.pointer (some ⟨gs,0,none⟩)] 37 (0,0)):=by
            rw[hw2];exact q2t (q2t (q0h rfl))
           have hh3:w2.heap[w1.heap.size+1]? =some (.cells #[.pointer (some ⟨ge,0,none⟩)] 83 (0,0)):=by
            rw[hw2];exact q2t (q0h (by simp))
           have hh5:w2.heap[w1.heap.size+2]? =some (.cells #[.slice A0 r0.length k0,.slice A1 r1.length k1,.slice A2 r2.length k2,.slice A3 r3.length k3,.int .i64 x4,.int .i64 x5] 27 (0,0)):=by
            rw[hw2];exact q0h (by simp)
           rw[←hw2] at hbs3 hfk;obtain⟨V,hV⟩:∃V,V=Value.func (.func 63) #[] #[.pointer (some ⟨w1.heap.size+1,0,none⟩),.pointer (some ⟨w1.heap.size,0,none⟩),.pointer (some ⟨w1.heap.size+2,0,none⟩)]:=⟨_,rfl⟩;have hfp:SF (cx.at (qf tbl) l') ⟨q08 σ2.t t .any,σ2.m⟩ p1 w2 (a1.put (some t) V):=hfk.put (t:=t) (by rw[hz1];exact htz) trivial;have hmain:post.wp uB (bodyPostD uB fn R) {a1.put (some t) V with defers:={target:=.fn (.func 63) #[.pointer (some ⟨w1.heap.size+1,0,none⟩),.pointer (some ⟨w1.heap.size,0,none⟩),.pointer (some ⟨w1.heap.size+2,0,none⟩)],args:= #[]}::(a1.put (some t) V).defers} w2:=by
            refine(wpIn_wide (n:=0)).1 ?_;refine qod none 0 (c:=cx) (S0:=pinned p1) (w0:=w2) (d:=[{target:=.fn (.func 63) #[.pointer (some ⟨w1.heap.size+1,0,none⟩),.pointer (some ⟨w1.heap.size,0,none⟩),.pointer (some ⟨w1.heap.size+2,0,none⟩)],args:= #[]}]) (z:=fn.ntmps) htb (by rw[hcF];exact hfm) post (by rw[hlo];exact hgo2) hl' hbs3.anew (SF.mk (fun t x hx=>hfp.t t x hx) (fun k e he=>hfp.m k e he)) (by show _::a1.defers=_;rw[hda1]) (by simp only[Act.put,vC];exact hz1) (q5t hnp) (qkg hnp) fun n2 r σ3 l2 B2 p2 w3 a3 hl2 hpre2 _ hgo3 hb4 hf4 hd4 hz4=>?_;have hend:(qio ct fn j ks te es.x n2 .ret σ3).go (qf tbl) (fun o=>o=outs) l2 B2→Leaves uB fn a3.tmps R a3.defers .returning w3:=fun hgo3=>by
             simp only[qio] at hgo3;split at hgo3
             ·rename_i ke' σ4 hfree;split at hgo3
              ·rename_i es' ee' hes' hee';split at hgo3
               ·rename_i hok3;simp only[gnB] at hok3;have h31:=hok3.1;have h32:=hok3.2.1;have h33:zs (es'.own.map (·.2)++es'.dep) (ks * 16)=false:=by simpa using hok3.2.2.1
                have h34:=hok3.2.2.2;obtain⟨⟨hsay,-⟩,hgo4⟩:=hgo3;obtain⟨hf5,ge',hge',hsn⟩:=z6u hfree hf4;have hsn:cx.snap (VB+te)=.pointer (some ⟨ge',0,none⟩):=hsn;rw[hct] at hsn;injection hsn with hsn;injection hsn with hsn;injection hsn with hsn;subst hsn;obtain⟨g3,hg3,hat3⟩:=qyy h34 hf5;have hat3:cx.At ks g3:=hat3;rw[hcAt] at hat3;have hat3:=hat3 (.inl hks);rw[hpg] at hat3;injection hat3 with hat3;subst hat3;have fr:∀b,w1.heap.size≤b→q7h p1 b:=fun b hb x hx=>by
                 have:=hb3.bd x b hx;omega
                have k2:=(hb4.stays (b:=w1.heap.size) (by omega) (fr _ (by omega))).1.trans hh2;have k3:=(hb4.stays (b:=w1.heap.size+1) (by omega) (fr _ (by omega))).1.trans hh3;have k5:=(hb4.stays (b:=w1.heap.size+2) (by omega) (fr _ (by omega))).1.trans hh5;have ew:es.x.ev (evl (qf tbl) l2)=.a [.r r0,.r r1,.r r2,.r r3,.i x4,.i x5]:=by
                 refine Eq.trans (X.ev_upto (n:=n') (e:=evl (qf tbl) l2) (e':=evl (qf tbl) l') (fun k hk=>?_) rfl es.x hup) eD
                 show l2.getD k .u=l'.getD k .u
                 rw[←hpre2,gnG,gnG,vE hk]
                have hcal:=z3y (nn:=0) (c:=cx) (w0:=w2) (S0:=pinned p1) (u:=.returning) hkj hb4 hf5 hes' hee' ((Ty.beq_iff _ _).1 h31) ((Ty.beq_iff _ _).1 h32) h33 hg3 hge' hsay k3 k2 k5 (by rw[ew];exact⟨rfl,rfl,rfl,rfl⟩) q4 ⟨by omega,by omega,by omega⟩;rw[hd4];refine leaves_cons (by simp) (f:=63) (args:= #[.pointer (some ⟨w1.heap.size+1,0,none⟩),.pointer (some ⟨w1.heap.size,0,none⟩),.pointer (some ⟨w1.heap.size+2,0,none⟩)]) (by simp[invoke,qfu]) (z0r (n:=0) (hcal.mono ?_));rintro e' u' w4⟨rfl,rfl,hb5,hf6⟩;exact hfin (c:=cx) hcA hcF hcAt hcs (hbs3.comp hb5) hf6 hgo4
               ·exact(show False from hgo3).elim
              ·exact(show False from hgo3).elim
             ·exact(show False from hgo3).elim
            cases r with
            |exit i=>exact(show False from hgo3).elim
            |ret=>exact hend hgo3
            |normal=>exact hend hgo3
           have hevt:(a1.put (some t) V).eval (.tmp t)=V:=by
            show(a1.tmps.setIfInBounds t V).getD t undef=V
            rw[kW,kP (by omega)];rfl
           obtain⟨hgd,hdw⟩:=za7 (a:=a1.put (some t) V) (w:=w2) (K:=wpOps uB [o1,ck,df].toArray (Exit.then (post.wp uB (bodyPostD uB fn R)) (bodyPostD uB fn R)) []) (Q:=Exit.then (post.wp uB (bodyPostD uB fn R)) (bodyPostD uB fn R)) hdt (hevt.trans hV) hmain;have hw1:Region.wanted ck (yielded ([o1,ck,df].toArray) a1.tmps)=true:=by simp[Region.wanted,hck2]
           have hw2':Region.wanted df (yielded ([o1,ck,df].toArray) (a1.put (some t) V).tmps)=true:=by simp[Region.wanted,hgd]
           show wpOps uB [o1,ck,df].toArray _ [1,2] a1 w1
           simp only[wpOps,kH,vF,kE];rw[if_pos hw1];refine .inl ?_;have hrun:(execOp a1.eval ck).run uB w1=.ok (.enter 39 #[.pointer (some ⟨gs,0,none⟩),.pointer (some ⟨ge,0,none⟩)]) w1:=by
            have hen:=qu1 #[.pointer (some ⟨gs,0,none⟩),.pointer (some ⟨ge,0,none⟩)] w1;have hvx:a1.eval x1=.pointer (some ⟨gs,0,none⟩):=hvx;generalize a1.eval=r at *;simp[execOp,hck3,resolve,Deferred.ofValue,hvy,hvx,hve,invoke,hen]
           unfold Oper.wp;rw[hrun]
           show Calls uB 39 _ w1 _
           refine(z6y w1 gs ge T hh).mono ?_;rintro e w2'⟨rfl,rfl⟩
           show(if Region.wanted df (yielded ([o1,ck,df].toArray) (a1.put ck.dst _).tmps)=true then _ else _)
           rw[hck1,←hV,←hw2,if_pos hw2'];exact .inl hdw
         ·exact hgo'.elim
        ·exact hgo'.elim
       ·exact hgo'.elim
      ·exact hgo'.elim
     ·exact hgo'.elim
    ·exact hgo'.elim
   ·exact(show False from hgo').elim
 ·exact h.elim
variable{R:List D→Prop}
theorem zcy{rs:List ResultVar}{n:Nat}{r:ResD}{S:Nat→List D→Option (List D)}{R':List D→Prop}{l:List D}{B B':Nat→List D→Prop}(h:(qdx ct rs n r σ).go S R l B)(hR:∀o,R o→R' o):(qdx ct rs n r σ).go S R' l B':=by
 cases r with
 |exit i=>exact h.elim
 |normal=>
  simp only[qdx] at h⊢;split at h
  ·exact hR _ h
  ·exact h.elim
 |ret=>
  simp only[qdx] at h⊢;split at h
  ·exact hR _ h
  ·exact h.elim
variable{S0:Nat→Prop}
theorem Bs.fr{A:Nat→Prop}{F F':Flr}{w0 w:World}(h:Bs A F w0 S0 p w)(h1:F'.fl=F.fl)(h2:F'.mx=F.mx)(h3:∀b,w0.heap.size≤b→F'.fr b):Bs A F' w0 S0 p w:=⟨h.inj,h.bd,h.but,h.pin,fun b hb=>⟨(h.new b hb).1,h3 b hb⟩,h.pa,h.obj,by
 intro k hk;rw[h1] at hk⊢;rw[h2];exact h.flo k hk⟩
variable{kill:List Nat}{σk:St}
theorem qlq{p':qj}{w' w0:World}{a':Act}{σ':St}{ts ms:List Item}{n n':Nat}{l l':List D}{B':Nat→List D→Prop}(hgo:(qqp ts ms kill σk n' .normal σ').go (qf tbl) R l' B')(hpre:l'.take n=l)(hl:l.length=n)(hb':Bs c.A c.F w0 S0 p' w')(hf':SF (c.at (qf tbl) l') σ' p' w' a'):
  ∃st p2,R st∧st.length=ts.length+ms.length∧Bs c.A c.F w0 S0 p2 w'∧SF (c.at (qf tbl) (l++st)) (q33 ts ms n (q28 ts ms kill n σk)) p2 w' a':=by
 simp only[qqp] at hgo;split at hgo
 ·rename_i σc va vb hcv;split at hgo
  ·rename_i hcov;obtain⟨p2,hb2,hf2,h1,h2⟩:=z9z (c:=c) hcv hcov hb' hf';obtain⟨q1,q2⟩:=z5z hcv;have hR:R (X.evs (evl (qf tbl) l') (va++vb)):=hgo;rw[qdm] at hR;have hnl:n≤l'.length:=by
    have:=congrArg List.length hpre;simp at this;omega
   refine⟨_,p2,hR,by simp[qhp,q1,q2],hb2,?_⟩;refine qro (c:=c.at (qf tbl) l') (c':=c.at (qf tbl) (l++_)) rfl rfl ⟨rfl,rfl,rfl⟩ (fun k hk=>?_) (fun i hi=>?_) (ql4 hf2) h1 h2
   ·show l'.getD k .u=(l++_).getD k .u
    simp only[gnG];rw[uN (by omega),←hpre,vE hk]
   ·show(l++_).getD (n+i) .u=_
    simp only[gnG];rw[uE (by omega)]
    congr 2
    omega
  ·exact hgo.elim
 ·exact hgo.2.elim
def toN(ts ms:List Item)(kill:List Nat)(σk:St):Nat→ResD→St→Tree:=fun n r σ=>match r with
 |.normal=>qqp ts ms kill σk n .normal σ
 |_=>.bad 1
variable{ann:Ann}
theorem qa3{w w0:World}{d:List Deferred}{z:Nat}(ro:Option Nat)(nn:Nat)(htb:q0v tbl)(hfm:∀te,c.F.mx te≤flM tbl te)(hnp:q9v tbl=true){Q:Exit→Act→World→Prop}{K:Act→World→Prop}(xs:List Code){n:Nat}{ts ms:List Item}{l:List D}{B:Nat→List D→Prop}
  (h:(q65 uB tbl ann c.lo z xs n σ (toN ts ms kill σk)).go (qf tbl) R l B)(hl:l.length=n)(hb:Bs c.A c.F w0 S0 p w)(hf:SF (c.at (qf tbl) l) σ p w a)(hd:a.defers=d)(hz:a.tmps.size=z)
  (hk:∀st p' w' a',R st→st.length=ts.length+ms.length→Bs c.A c.F w0 S0 p' w'→SF (c.at (qf tbl) (l++st)) (q33 ts ms n (q28 ts ms kill n σk)) p' w' a'→a'.defers=d→a'.tmps.size=z→K a' w'):qat (FR ro) nn uB Q xs K a w:=by
 refine qbh ro nn htb hfm hnp xs h hl hb hf hd hz fun n' r σ' l' B' p' w' a' hl' hpre hgo hb' hf' hd' hz'=>?_;cases r with
 |ret=>exact hgo.elim
 |exit i=>exact hgo.elim
 |normal=>
  obtain⟨st,p2,hR,hst,hb2,hf2⟩:=qlq (c:=c) (n':=n') hgo hpre hl hb' hf';exact hk st p2 w' a' hR hst hb2 hf2 hd' hz'
variable{g:List D→Option (List D)}
set_option maxHeartbeats 1000000 in
theorem zef(S:Nat→List D→Option (List D))(fn:Func)(cd:Code)(hf:uB.funcs[ct.f]? =some fn)(hb:fn.body=some cd)
  (hen:∀args w,(callFunc ct.f args).run uB w=.ok (.enter ct.f args) w)(hsz:ct.ar.length≤fn.ntmps)
  (h:∀ds outs,WfA ct.ars ds→g ds=some outs→∀(c:Cx)(p:qj)(w:World)(a:Act)(Q:Exit→Act→World→Prop),c.lo=ct.ar.length→(∀te,c.F.mx te=0)→(∀b,c.F.fr b→w.heap.size≤b)→ds.length=q7m ct.ars→Bs c.A c.F w (pinned p) p w→SF (c.at S ds) (qu3 ct) p w a→a.defers=[]→a.tmps.size=fn.ntmps→
   (∀n' r σ' l' B' p' w' a'(c2:Cx),l'.length=n'→(qdx ct fn.results.toList n' r σ').go S (fun o=>o=outs) l' B'→c2.lo=c.lo→c2.F=c.F→c2.At=c.At→(∀b,c2.A b→c.A b)→Bs c.A c.F w (pinned p) p' w'→Bs c2.A c2.F w' (pinned p') p' w'→SF (c2.at S l') σ' p' w' a'→Dfs c2.A w.heap.size [] w' a'.defers→a'.tmps.size=fn.ntmps→Q r.exit' a' w')→
   cd.wpIn (FR none) 5 uB Q a w)(hmr:(ct.all.all fun e=>zty e.2)=true:=by rfl)(hkp:ct.kp=[]:=by rfl)(hfl:ct.fl=[]:=by rfl):FOk ct g:=by
 refine⟨hen,fun A F p w vs us ds outs hg hfl0 hfo hpre hvl hargs=>callsIn_wide.1 (callsIn_of_wp_marks (F:=FR none) (n:=5) hf hb trivial ?_),fun h=>absurd hkp h⟩;obtain⟨hwf,hdl,-⟩:=hargs.wf;rw[all_map] at hwf hdl;have hfz:=hfl0.zero hfl
 let c:Cx:=⟨evl S ds,A,⟨F.fl,F.mx,fun b=>w.heap.size≤b⟩,ct.ar.length,fun k g=>(k<ct.ar.length∨VB≤k)→p (k * 16)=some g,fun k g hk h2 h=>absurd h (by omega),fun q=>(vs++us).getD q undef⟩
 have hb0:Bs c.A c.F w (pinned p) p w:=⟨hpre.inj,hpre.bd,But.refl _ _,fun x b hx=>.inl ⟨x,hx⟩,fun b hb=>⟨(hpre.new b hb).1,hb⟩,hpre.pa,hpre.obj,hfo⟩;have hsf:SF (c.at S ds) (qu3 ct) p w {tmps:=vs.toArray++vN (fn.ntmps - vs.toArray.size) undef,defers:=[]}:=by
  refine⟨fun t x hx=>?_,qrh (c:=c.at S ds) (A:=A) rfl (fun k=>rfl) hargs fun e he=>vI.1 he⟩;obtain⟨h1,h2⟩:=qrn (c:=c.at S ds) (A:=A) (n0:=ct.ar.length) rfl rfl rfl hargs (fun k=>rfl) _ _ t x hx;have hlt:t<vs.length:=by omega
  refine⟨(vs++us).getD t undef,?_,h2⟩
  show(vs.toArray++_)[t]? =_
  rw[kY (by simpa using hlt),gnG,uN hlt];simp[gnK hlt]
 refine h ds outs hwf hg c p w _ _ rfl hfz (fun b hb=>hb) hdl hb0 hsf rfl (by simp;omega) fun n' r σ' l' B' p' w' a' c2 hl' hgo' hlo2 hF2 hT2 hA2 hb' hbn hf' hd' hz'=>?_;obtain⟨Ds,hds,hnd,hDs⟩:=hd';have hds:a'.defers=Ds.map qsp:=by rw[hds];simp
 have hst:=qjo hbn.pa Ds w' fun D hD=>(hDs D hD).2.2;have hbF:=qug (F:=c.F) (fun te=>hfz te) hbn.pa Ds w' hb' fun D hD=>⟨(hDs D hD).1,(hDs D hD).2.2⟩;have hfF:SF (c2.at S l') σ' p' (q1z w' Ds) a':=SF.same hst hf';have hbnF:Bs c2.A c2.F (q1z w' Ds) (pinned p') p' (q1z w' Ds):=⟨hbF.inj,hbF.bd,But.refl _ _,fun x b hx=>.inl ⟨x,hx⟩,fun b hb=>hbn.new b (vG hst.size hb),hbn.pa,hbF.obj,by rw[hF2];exact hbF.flo.anew⟩;have fin':∀xs,fin ct fn.results.toList σ'=some xs→X.evs (evl S l') xs=outs→∃v,(results fn a'.tmps).run uB (q1z w' Ds)=.ok v (q1z w' Ds)∧((∃T,ct.pn=some T∧outs=[.u]∧(Ending.returned v)=.panicked (qao T)∧But (pinned p) w (q1z w' Ds))∨∃rs p2,(Ending.returned v)=.returned (qiy rs)∧Bs A F w (pinned p) p2 (q1z w' Ds)∧qbj A p2 (q1z w' Ds) ct.rs ct.ar.length rs (outs.take ct.rs.length)∧q49 (vs++us) A p p2 (q1z w' Ds) ct.all (outs.drop ct.rs.length)):=by
  intro xs hfin hout;unfold fin at hfin;simp only at hfin;split at hfin
  ·rename_i hok;simp only[gnB] at hok;split at hfin
   ·rename_i xa xb hxa hxb;injection hfin with hfin;subst hfin;have hb1:=hbnF.un (fun y=> !zs ((qgu σ' (fn.results.toList.zip ct.rs) ct.ar.length++qca σ' ct.all).map (·.1)++(qa4 ct.all++q5j σ' fn.results.toList)) y);have hf1:=SF.un (c:=c2.at S l') (q:=fun y=> !zs ((qgu σ' (fn.results.toList.zip ct.rs) ct.ar.length++qca σ' ct.all).map (·.1)++(qa4 ct.all++q5j σ' fn.results.toList)) y) hbnF.inj hbnF.pa hfF;obtain⟨p2,hb2,hf2⟩:=qno (c:=c2.at S l') hok.1 hb1 hf1;obtain⟨l,h1,h2,h3⟩:=qrv hf2 (gnN hok.2) hxa;have h4:=qr8 (VV:=vs++us) (p0:=p) (n0:=ct.ar.length) hf2 hT2 (fun e he=>z27 he) (fun i t hm=>(kT.1 hmr _ hm|>fun h=>by cases h)) hxb;have hev:X.evs (evl S l') xa++X.evs (evl S l') xb=outs:=by rw[←qdm];exact hout
    have hla:(X.evs (evl S l') xa).length=ct.rs.length:=by rw[qhp,h3]
    refine⟨_,qfy h1,.inr ⟨l,p2,rfl,(hbF.up (show Bs c2.A c.F _ _ _ _ from hF2▸hb2) hA2).fr rfl rfl (fun b hb=>(hpre.new b hb).2),qbj.chA (A:=c2.A) (fun b _ h=>hA2 b h) ?_,q49.chA (A:=c2.A) (fun b _ h=>hA2 b h) ?_⟩⟩
    ·rw[←hev,kU (by omega),←hla,vM];exact h2
    ·rw[←hev,←hla,uZ];exact h4
   ·cases hfin
  ·cases hfin
 have last:∀xs,fin ct fn.results.toList σ'=some xs→X.evs (evl S l') xs=outs→LeavesInM (FR none) 5 uB fn a'.tmps (fun e w'=>(∃T,ct.pn=some T∧outs=[.u]∧e=.panicked (qao T)∧But (pinned p) w w')∨∃rs p',e=.returned (qiy rs)∧Bs A F w (pinned p) p' w'∧qbj A p' w' ct.rs ct.ar.length rs (outs.take ct.rs.length)∧q49 (vs++us) A p p' w' ct.all (outs.drop ct.rs.length)) a'.defers .returning w':=fun xs hx ho=>by
  rw[hds];exact z00 Ds w' hnd (fun D hD=>(hDs D hD).2.1) (fin' xs hx ho)
 cases r with
 |exit i=>exact hgo'.elim
 | normal =>
  simp only[qdx] at hgo';split at hgo'
  ·rename_i xs hx;exact last xs hx hgo'
  ·exact hgo'.elim
 | ret =>
  simp only[qdx] at hgo';split at hgo'
  ·rename_i xs hx;exact last xs hx hgo'
  ·exact hgo'.elim
theorem qwb{F:Fence}{n:Nat}{fn:Func}{tmps:Array Value}{R:Ending→World→Prop}{rest:List Deferred}:∀(Ds:List Nat)(w:World),Ds.Nodup→(∀D∈Ds,w.heap[D]? =some (.deferred (some [])))→LeavesInM F n uB fn tmps R rest .returning (q1z w Ds)→LeavesInM F n uB fn tmps R (Ds.map qsp++rest) .returning w
 |[],w,_,_,h=>h
 |D::Ds,w,hn,hd,h=>by
  obtain⟨h1,h2⟩:=List.nodup_cons.1 hn;exact⟨by simp,.inl ⟨D,_,rfl,run_takeDeferred (hd D uR),qwb Ds _ h2 (fun D' hD'=>(World.putObj_heap_other (fun e=>h1 (by rw[←e];exact hD'))).trans (hd D' (uP _ hD'))) h⟩⟩
theorem qw5{n b:Nat}(hb:b<n):∀(Ds:List Nat)(w:World),(∀D∈Ds,n≤D)→(q1z w Ds).heap[b]? =w.heap[b]?
 |[],w,_=>rfl
 |D::Ds,w,h=>by
  have h1:=h D uR;exact(qw5 hb Ds (w.putObj D (.deferred none)) fun D' hD'=>h D' (uP _ hD')).trans (World.putObj_heap_other (by omega))
theorem zte{c':Cx}{w:World}(hA:∀b,b<w.heap.size→c.A b→c'.A b)(hv:c.v=c'.v)(hT:c.At=c'.At)(hF:c.F=c'.F)(hp:zk1 σ.t=true)(h:SF c σ p w a):SF c' σ p w a:=by
 refine⟨fun t x hx=>?_,fun k e he=>(h.m k e he).chA hA hv⟩;obtain⟨v,h1,h2⟩:=h.t t x hx;exact⟨v,h1,AV.chA hA hv hT hF x v (kT.1 hp _ (qx hx)) h2⟩
def zu0(P:Program)(tbl:Tbl)(ct:Ct)(fn:Func)(ops:List Oper)(K:Nat→St→Nat→Nat→X→Tree)(n:Nat)(σ:St):Tree:=match ops with
 | [o1, ck, df] => (match zkp df, z31 ck with
  | some t, some (t', y, x1, te) => if vR t t' && (o1.guard.isNone && (q9o ct.ar.length fn.ntmps o1 && (q9o ct.ar.length fn.ntmps ck && !Nat.beq t te))) then (match stepG P tbl (dsts [o1, ck, df]) σ o1 with
   | some (N, σ1) => (match opd σ1 [] y, opd σ1 [] x1, zc5 te σ1 with
    |some (.fn f []),some (.ref ks [] 0 ty),some (_,σ2)=>(match lkA σ1.m ks with
     |some es=>if vR f 39&&(Ty.beq ty qe&&(Ty.beq es.t qe&&(Nat.blt ks ct.ar.length&&(X.upto n es.x&&zk1 σ1.t)))) then z5y N (K n ⟨q08 σ2.t t .any,σ2.m⟩ ks te es.x) else .bad 9400000
     |none=>.bad 9500000)
    |_,_,_=>.bad 9600000)
   |none=>.bad 9700000) else .bad 9800000
  |_,_=>.bad 9900000)
 |_=>.bad 9950000
def zqy(P:Program)(tbl:Tbl)(ct:Ct)(fn:Func)(ops:List Oper)(K:Nat→St→Nat→Nat→X→Tree):Nat→ResD→St→Tree:=fun n r σ=>match r with
 |.normal=>zu0 P tbl ct fn ops K n σ
 |_=>.bad 1
set_option maxHeartbeats 2000000 in
theorem zd1(fn:Func)(j:Nat)(cd:Code)(htb:q0v tbl)(hkj:∀l,(qf tbl j) l=q5c l)(hf:uB.funcs[ct.f]? =some fn)(hb:fn.body=some cd)
  (hen:∀args w,(callFunc ct.f args).run uB w=.ok (.enter ct.f args) w)(hsz:ct.ar.length≤fn.ntmps)(hnp:q9v tbl=true){xs:List Code}{id:Nat}{ops:List Oper}{post:Code}(hcut:cd=seqs xs (.seq (.region id ops.toArray false) post))(K:Nat→St→Nat→Nat→X→Tree)
  (h:∀ds outs,WfA ct.ars ds→g ds=some outs→∃(R:List D→Prop)(B0:Nat→List D→Prop),(q65 uB tbl ann ct.ar.length fn.ntmps xs (q7m ct.ars) (qu3 ct) (zqy uB tbl ct fn ops K)).go (qf tbl) R ds B0∧
   ∀(c:Cx)(p:qj)(w:World)(a:Act)(S0:Nat→Prop)(Q:Exit→Act→World→Prop)(l:List D)(n:Nat)(σ:St)(ks te:Nat)(was:X)(B:Nat→List D→Prop)(dK:Deferred),(K n σ ks te was).go (qf tbl) R l B→l.length=n→l.take (q7m ct.ars)=ds→X.upto n was=true→c.lo=ct.ar.length→(∀te,c.F.mx te=0)→(∀b,pinned p b→S0 b)→(∀b,c.F.fr b→c.A b→S0 b)→
    Bs c.A c.F w S0 p w→SF (c.at (qf tbl) l) σ p w a→a.defers=[dK]→a.tmps.size=fn.ntmps→
    (∀n' r σ' l' B' p' w' a'(c2:Cx),l'.length=n'→(qio ct fn j ks te was n' r σ').go (qf tbl) (fun o=>o=outs) l' B'→was.ev (evl (qf tbl) l')=was.ev (evl (qf tbl) l)→c2.lo=c.lo→c2.F=c.F→c2.At=c.At→c2.snap (VB+te)=c.snap (VB+te)→(∀b,c2.A b→c.A b)→Bs c.A c.F w S0 p' w'→Bs c2.A c2.F w' (pinned p') p' w'→SF (c2.at (qf tbl) l') σ' p' w' a'→Dfs c2.A w.heap.size [dK] w' a'.defers→a'.tmps.size=fn.ntmps→Q r.exit' a' w')→
    post.wpIn (FR none) 5 uB Q a w)
  (hmr:(ct.all.all fun e=>zty e.2)=true:=by rfl)(hkp:ct.kp=[]:=by rfl)(hfl:ct.fl=[]:=by rfl):FOk ct g:=by
 refine⟨hen,fun A F p w vs us ds outs hg hfl0 hfo hpre hvl hargs=>callsIn_wide.1 (callsIn_of_wp_marks (F:=FR none) (n:=5) hf hb trivial ?_),fun h=>absurd hkp h⟩;obtain⟨hwf,hdl,-⟩:=hargs.wf;rw[all_map] at hwf hdl;have hfz:=hfl0.zero hfl;generalize hR0:(fun(e:Ending)(w':World)=>(∃T,ct.pn=some T∧outs=[.u]∧e=.panicked (qao T)∧But (pinned p) w w')∨∃rs p',e=.returned (qiy rs)∧Bs A F w (pinned p) p' w'∧qbj A p' w' ct.rs ct.ar.length rs (outs.take ct.rs.length)∧q49 (vs++us) A p p' w' ct.all (outs.drop ct.rs.length))=RR
 let c:Cx:=⟨evl (qf tbl) ds,A,⟨F.fl,F.mx,fun b=>w.heap.size≤b⟩,ct.ar.length,fun k g=>(k<ct.ar.length∨VB≤k)→p (k * 16)=some g,fun k g hk h2 h=>absurd h (by omega),fun q=>(vs++us).getD q undef⟩
 have hb0:Bs c.A c.F w (pinned p) p w:=⟨hpre.inj,hpre.bd,But.refl _ _,fun x b hx=>.inl ⟨x,hx⟩,fun b hb=>⟨(hpre.new b hb).1,hb⟩,hpre.pa,hpre.obj,hfo⟩;have hsf:SF (c.at (qf tbl) ds) (qu3 ct) p w {tmps:=vs.toArray++vN (fn.ntmps - vs.toArray.size) undef,defers:=[]}:=by
  refine⟨fun t x hx=>?_,qrh (c:=c.at (qf tbl) ds) (A:=A) rfl (fun k=>rfl) hargs fun e he=>vI.1 he⟩;obtain⟨h1,h2⟩:=qrn (c:=c.at (qf tbl) ds) (A:=A) (n0:=ct.ar.length) rfl rfl rfl hargs (fun k=>rfl) _ _ t x hx;have hlt:t<vs.length:=by omega
  refine⟨(vs++us).getD t undef,?_,h2⟩
  show(vs.toArray++_)[t]? =_
  rw[kY (by simpa using hlt),gnG,uN hlt];simp[gnK hlt]
 obtain⟨R,B0,hpt,huser⟩:=h ds outs hwf hg;have hfm:∀te,c.F.mx te≤flM tbl te:=fun te=>by rw[show c.F.mx te=0 from hfz te];exact kV _
 rw[hcut];refine q2g xs ?_;refine qbh (c:=c) (S0:=pinned p) (w0:=w) (d:=[]) (z:=fn.ntmps) none 5 htb hfm hnp xs hpt hdl hb0 hsf rfl (by simp;omega) fun n' r σ' l' B' p' w' a' hl' hpre1 hgo' hb' hf' hd' hz'=>?_;cases r with
 |exit i=>exact hgo'.elim
 |ret=>exact hgo'.elim
 | normal =>
  show(Code.seq (.region id ops.toArray false) post).wpIn (FR none) 5 uB _ a' w'
  rcases ops with _|⟨o1,_|⟨ck,_|⟨df,_|⟨x,l⟩⟩⟩⟩
  ·exact(show False from hgo').elim
  ·exact(show False from hgo').elim
  ·exact(show False from hgo').elim
  ·simp only[zqy,zu0] at hgo';split at hgo'
   ·rename_i t t' y x1 te hdt hck;split at hgo'
    ·rename_i hok;simp only[gnB,kX,kA] at hok;obtain⟨htt,hg1,hd1,hd2,htte⟩:=hok;obtain rfl:=gnN htt;have htte:t≠te:=fun e=>by rw[e,vQ] at htte;cases htte
     obtain⟨hck1,hck2,tys,hck3⟩:=qzv hck;have htz:t<fn.ntmps:=by
      unfold q9o at hd2;rw[hck1] at hd2;simp only[gnB,vA] at hd2;exact hd2.1
     split at hgo'
     ·rename_i N σ1 hst;split at hgo'
      ·rename_i f ks ty ke σ2 hy hx1 hhold;split at hgo'
       ·rename_i es hes;split at hgo'
        ·rename_i hok2;simp only[gnB,vA] at hok2;obtain⟨hff,hty,het,hks,hup,hpl⟩:=hok2;obtain rfl:=gnN hff;have het:=(Ty.beq_iff _ _).1 het;obtain⟨hN,hgo2⟩:=qtg hgo';generalize hQ:bodyPostM (FR none) 5 uB fn RR=Q;have hQr:∀(r:ResD)(a:Act)(w:World),(∀i,r≠.exit i)→LeavesInM (FR none) 5 uB fn a.tmps RR a.defers .returning w→Q r.exit' a w:=fun r a w hr h=>by
          rw[←hQ];cases r with
          |exit i=>exact absurd rfl (hr i)
          |ret=>exact h
          |normal=>exact h
         refine wpIn_seq ((wpIn_wide (n:=5)).2 (wp_region ?_));have hw0:Region.wanted o1 (yielded ([o1,ck,df].toArray) a'.tmps)=true:=by simp[Region.wanted,hg1]
         have hstep:=qsa (c:=c.at (qf tbl) l') (ops:=[o1,ck,df].toArray) (ds:=dsts [o1,ck,df]) (Q:=Exit.then (fun a w=>post.wpIn (FR none) 5 uB Q a w) Q) (K:=wpOps uB [o1,ck,df].toArray (Exit.then (fun a w=>post.wpIn (FR none) 5 uB Q a w) Q) [1,2]) htb ⟨rfl,hfm⟩ rfl hb' hf' hd' hz' hd1 hst hN (q5t hnp) fun a1 w1 hpost=>?_
         ·rw[if_pos hw0] at hstep
          show wpOps uB [o1,ck,df].toArray _ [0,1,2] a' w'
          simp only[wpOps,kH,kE];rw[if_pos hw0];exact .inl hstep.2
         ·obtain⟨p1,hb1,hf1,hda1,hz1⟩:=hpost;obtain⟨vy,hvy,hvs⟩:=qo hf1 rfl hy;have hvs:vy=[]:=hvs;subst hvs;obtain⟨gs,hgs,hvx,hat⟩:=qo hf1 rfl hx1;obtain⟨gs',cs,T,hgs',hh,hT,hcon⟩:=hf1.m ks _ hes;rw[hgs] at hgs';injection hgs' with hgs';subst hgs';rw[het] at hcon;obtain⟨r0,r1,r2,r3,A0,A1,A2,A3,k0,k1,k2,k3,x4,x5,eD,ecs,-,q4,-⟩:=qjw hcon;have ecs:cs= #[.slice A0 r0.length k0,.slice A1 r1.length k1,.slice A2 r2.length k2,.slice A3 r3.length k3,.int .i64 x4,.int .i64 x5]:=by
           obtain⟨cs⟩:=cs;have ecs:cs=_:=ecs;rw[ecs]
          subst ecs
          -- what lies in keep's blocks is hidden
          obtain⟨A',hA'⟩:∃A':Nat→Prop,A'=fun b=>A b∧(b<w1.heap.size∨w1.heap.size+3≤b):=⟨_,rfl⟩;have hAA:∀b,A' b→A b:=fun b h=>by rw[hA'] at h;exact h.1
          have hf1':SF (({c with A:=A'}:Cx).at (qf tbl) l') σ1 p1 w1 a1:=zte (c:=c.at (qf tbl) l') (fun b hb h=>by show A' b;rw[hA'];exact⟨h,.inl hb⟩) rfl rfl rfl hpl hf1;obtain⟨hf2,ge,hge,hve⟩:=z6t hhold hf1';generalize hcx:({({c with A:=A'}:Cx) with snap:=fun q=>if q=VB+te then a1.eval (.tmp te) else c.snap q}:Cx)=cx;have hcA:cx.A=A':=by rw[←hcx]
          have hcF:cx.F=c.F:=by rw[←hcx]
          have hcAt:cx.At=c.At:=by rw[←hcx]
          have hct:cx.snap (VB+te)=.pointer (some ⟨ge,0,none⟩):=by
           rw[←hcx,←hve]
           show(if VB+te=VB+te then _ else _)=_
           rw[if_pos rfl]
          have hlo:cx.lo=ct.ar.length:=by rw[←hcx]
          have hf3:SF (cx.at (qf tbl) l') σ2 p1 w1 a1:=by rw[←hcx];exact hf2
          have hpg:p (ks * 16)=some gs:=hat (.inl hks);clear hcx
          -- the call of keep
          have hgl:=qt hh;obtain⟨w2,hw2⟩:∃w2,w2=((w1.alloc (.cells #[.pointer (some ⟨gs,0,none⟩)] 37)).alloc (.cells #[.pointer (some ⟨ge,0,none⟩)] 83)).alloc (.cells #[.slice A0 r0.length k0,.slice A1 r1.length k1,.slice A2 r2.length k2,.slice A3 r3.length k3,.int .i64 x4,.int .i64 x5] 27):=⟨_,rfl⟩;have hs2:w2.heap.size=w1.heap.size+3:=by rw[hw2];simp
          have hst1:=q4u (A:=cx.A) hb1.bd (.cells #[.pointer (some ⟨gs,0,none⟩)] 37);have hbs1:=qaa hb1 (.cells #[.pointer (some ⟨gs,0,none⟩)] 37);have hst2:=q4u (A:=cx.A) hbs1.bd (.cells #[.pointer (some ⟨ge,0,none⟩)] 83);have hbs2:=qaa hbs1 (.cells #[.pointer (some ⟨ge,0,none⟩)] 83);have hst3:=q4u (A:=cx.A) hbs2.bd (.cells #[.slice A0 r0.length k0,.slice A1 r1.length k1,.slice A2 r2.length k2,.slice A3 r3.length k3,.int .i64 x4,.int .i64 x5] 27);have hbs3:=qaa hbs2 (.cells #[.slice A0 r0.length k0,.slice A1 r1.length k1,.slice A2 r2.length k2,.slice A3 r3.length k3,.int .i64 x4,.int .i64 x5] 27);have hfk:=SF.same (c:=cx.at (qf tbl) l') hst3 (SF.same (c:=cx.at (qf tbl) l') hst2 (SF.same (c:=cx.at (qf tbl) l') hst1 hf3));have hh2:w2.heap[w1.heap.size]? =some (.cells #[.pointer (some ⟨gs,0,none⟩)] 37 (0,0)):=by
           rw[hw2];exact q2t (q2t (q0h rfl))
          have hh3:w2.heap[w1.heap.size+1]? =some (.cells #[.pointer (some ⟨ge,0,none⟩)] 83 (0,0)):=by
           rw[hw2];exact q2t (q0h (by simp))
          have hh5:w2.heap[w1.heap.size+2]? =some (.cells #[.slice A0 r0.length k0,.slice A1 r1.length k1,.slice A2 r2.length k2,.slice A3 r3.length k3,.int .i64 x4,.int .i64 x5] 27 (0,0)):=by
           rw[hw2];exact q0h (by simp)
          rw[←hw2] at hbs3 hfk;obtain⟨V,hV⟩:∃V,V=Value.func (.func 63) #[] #[.pointer (some ⟨w1.heap.size+1,0,none⟩),.pointer (some ⟨w1.heap.size,0,none⟩),.pointer (some ⟨w1.heap.size+2,0,none⟩)]:=⟨_,rfl⟩;have hfp:SF (cx.at (qf tbl) l') ⟨q08 σ2.t t .any,σ2.m⟩ p1 w2 (a1.put (some t) V):=hfk.put (t:=t) (by rw[hz1];exact htz) trivial;have hws:=hb1.but.size;obtain⟨S0,hS0⟩:∃S0:Nat→Prop,S0=fun b=>pinned p1 b∨(w.heap.size≤b∧A' b):=⟨_,rfl⟩;have hp1:∀x b,p1 x=some b→b<w1.heap.size:=hb1.bd;have hS0w:∀b,S0 b→pinned p b∨w.heap.size≤b:=fun b h=>by
           rw[hS0] at h;rcases h with⟨q,hq⟩|h
           ·exact hbs3.pin q b hq
           ·exact .inr h.1
          have hbu:Bs cx.A cx.F w2 S0 p1 w2:=by
           rw[hcA,hcF];refine⟨hbs3.inj,hbs3.bd,But.refl _ _,fun x b hx=>.inl (by rw[hS0];exact .inl ⟨x,hx⟩),fun b hb=>⟨by rw[hA'];exact⟨(hbs3.new b (by omega)).1,.inr (by omega)⟩,(hbs3.new b (by omega)).2⟩,fun x b hx=>by rw[hA'];exact⟨hbs3.pa x b hx,.inl (hp1 x b hx)⟩,hbs3.obj,hbs3.flo.anew⟩
          have hnS:∀b,w1.heap.size≤b→b<w1.heap.size+3→¬S0 b:=fun b h1 h2 h=>by
           rw[hS0] at h;rcases h with⟨q,hq⟩|⟨-,h⟩
           ·have:=hp1 q b hq;omega
           ·rw[hA'] at h;omega
          have hmain:post.wpIn (FR none) 5 uB Q {a1.put (some t) V with defers:={target:=.fn (.func 63) #[.pointer (some ⟨w1.heap.size+1,0,none⟩),.pointer (some ⟨w1.heap.size,0,none⟩),.pointer (some ⟨w1.heap.size+2,0,none⟩)],args:= #[]}::(a1.put (some t) V).defers} w2:=by
           refine huser cx p1 w2 _ S0 Q l' n' _ ks te es.x _ _ hgo2 hl' hpre1 hup hlo (by rw[hcF];exact hfz) (fun b h=>by rw[hS0];exact .inl h) (fun b h1 h2=>by rw[hcF] at h1;rw[hcA] at h2;rw[hS0];exact .inr ⟨h1,h2⟩) hbu (SF.mk (fun t x hx=>hfp.t t x hx) (fun k e he=>hfp.m k e he)) (by show _::a1.defers=_;rw[hda1]) (by simp only[Act.put,vC];exact hz1) fun n2 r σ3 l2 B2 p4 w3 a3 c2 hl2 hgo3 hwas hlo2 hF2 hT2 hsn2 hA2 hb4 hbn hf4 hDf hz4=>?_;have hres:(qio ct fn j ks te es.x n2 .ret σ3).go (qf tbl) (fun o=>o=outs) l2 B2→LeavesInM (FR none) 5 uB fn a3.tmps RR a3.defers .returning w3:=fun hgo3=>by
            simp only[qio] at hgo3;split at hgo3
            ·rename_i ke' σ4 hfree;split at hgo3
             ·rename_i es' ee' hes' hee';split at hgo3
              ·rename_i hok3;simp only[gnB] at hok3;have h31:=hok3.1;have h32:=hok3.2.1;have h33:zs (es'.own.map (·.2)++es'.dep) (ks * 16)=false:=by simpa using hok3.2.2.1
               have h34:=hok3.2.2.2;obtain⟨⟨hsay,-⟩,hgo4⟩:=hgo3;obtain⟨hf5,ge',hge',hsn⟩:=z6u hfree hf4;have hsn:c2.snap (VB+te)=.pointer (some ⟨ge',0,none⟩):=hsn;rw[hsn2,hct] at hsn;injection hsn with hsn;injection hsn with hsn;injection hsn with hsn;subst hsn;obtain⟨g3,hg3,hat3⟩:=qyy h34 hf5;have hat3:c2.At ks g3:=hat3;rw[hT2,hcAt] at hat3;have hat3:=hat3 (.inl hks);rw[hpg] at hat3;injection hat3 with hat3;subst hat3;obtain⟨Ds,hds,hnd,hDs⟩:=hDf;rw[hcA,hcF] at hb4;have hA2':∀b,c2.A b→A' b:=fun b h=>by rw[←hcA];exact hA2 b h
               have hF2':c2.F=c.F:=hF2.trans hcF;have hbAll:Bs A c.F w (pinned p) p4 w3:=⟨hb4.inj,hb4.bd,hbs3.but.trans hb4.but fun b hb _=>hS0w b hb,fun q b hq=>by
                rcases hb4.pin q b hq with h|h
                ·exact hS0w b h
                ·exact .inr (by omega),hbs3.new,fun q b hq=>hAA b (hb4.pa q b hq),hb4.obj,Flo.of0 hfz hbs3.flo⟩
               have hst:=qjo hbn.pa Ds w3 fun D hD=>(hDs D hD).2.2;have hbF:=qug (F:=c.F) (fun te=>hfz te) hbn.pa Ds w3 hbAll fun D hD=>⟨by have:=(hDs D hD).1;omega,(hDs D hD).2.2⟩;have hfF:SF (c2.at (qf tbl) l2) σ4 p4 (q1z w3 Ds) a3:=SF.same hst hf5;have hbnF:Bs c2.A c2.F (q1z w3 Ds) (pinned p4) p4 (q1z w3 Ds):=⟨hbF.inj,hbF.bd,But.refl _ _,fun x b hx=>.inl ⟨x,hx⟩,fun b hb=>hbn.new b (vG hst.size hb),hbn.pa,hbF.obj,by rw[hF2'];exact hbF.flo.anew⟩;have hkb:∀b o,w1.heap.size≤b→b<w1.heap.size+3→w2.heap[b]? =some o→(q1z w3 Ds).heap[b]? =some o:=fun b o h1 h2 ho=>((qw5 (n:=w2.heap.size) (by omega) Ds w3 fun D hD=>(hDs D hD).1).trans (hb4.but.block b (by omega) (hnS b h1 h2))).trans ho;have ew:es.x.ev (evl (qf tbl) l2)=.a [.r r0,.r r1,.r r2,.r r3,.i x4,.i x5]:=hwas.trans eD;have hcal:=z3y (nn:=4) (c:=c2) (w0:=q1z w3 Ds) (S0:=pinned p4) (u:=.returning) hkj hbnF hfF hes' hee' ((Ty.beq_iff _ _).1 h31) ((Ty.beq_iff _ _).1 h32) h33 hg3 hge' hsay (hkb _ _ (by omega) (by omega) hh3) (hkb _ _ (by omega) (by omega) hh2) (hkb _ _ (by omega) (by omega) hh5) (by rw[ew];exact⟨rfl,rfl,rfl,rfl⟩) q4 ⟨by omega,by omega,by omega⟩;rw[hds];refine qwb Ds w3 hnd (fun D hD=>(hDs D hD).2.1) ?_;refine⟨by simp,.inr ⟨(fun h=>by cases h),_,_,63,#[.pointer (some ⟨w1.heap.size+1,0,none⟩),.pointer (some ⟨w1.heap.size,0,none⟩),.pointer (some ⟨w1.heap.size+2,0,none⟩)],rfl,by simp[invoke,qfu],fun _ _=>trivial,hcal.mono ?_⟩⟩;rintro e' u' w4⟨rfl,rfl,hb5,hf6⟩
               show LeavesInM (FR none) 5 uB fn a3.tmps RR [] _ w4
               simp only[qdx] at hgo4;split at hgo4
               ·rename_i xs hx;have ho:X.evs (evl (qf tbl) l2) xs=outs:=hgo4;rw[hF2'] at hb5;have hb6:Bs A c.F w (pinned p) p4 w4:=hbF.up hb5 fun b h=>hAA b (hA2' b h);have hb7:Bs c2.A c2.F w4 (pinned p4) p4 w4:=by rw[hF2'];exact hb5.anew
                unfold fin at hx;simp only at hx;split at hx
                ·rename_i hok;simp only[gnB] at hok;split at hx
                 ·rename_i xa xb hxa hxb;injection hx with hx;subst hx;have hb1:=hb7.un (fun y=> !zs ((qgu (z3c ks j es' ee'.x es.x σ4) (fn.results.toList.zip ct.rs) ct.ar.length++qca (z3c ks j es' ee'.x es.x σ4) ct.all).map (·.1)++(qa4 ct.all++q5j (z3c ks j es' ee'.x es.x σ4) fn.results.toList)) y);have hf1:=SF.un (c:=c2.at (qf tbl) l2) (q:=fun y=> !zs ((qgu (z3c ks j es' ee'.x es.x σ4) (fn.results.toList.zip ct.rs) ct.ar.length++qca (z3c ks j es' ee'.x es.x σ4) ct.all).map (·.1)++(qa4 ct.all++q5j (z3c ks j es' ee'.x es.x σ4) fn.results.toList)) y) hb7.inj hb7.pa hf6;obtain⟨p2,hb2,hf2⟩:=qno (c:=c2.at (qf tbl) l2) hok.1 hb1 hf1;obtain⟨l,h1,h2,h3⟩:=qrv hf2 (gnN hok.2) hxa;have h4:=qr8 (VV:=vs++us) (p0:=p) (n0:=ct.ar.length) hf2 (hT2.trans hcAt) (fun e he=>z27 he) (fun i t hm=>(kT.1 hmr _ hm|>fun h=>by cases h)) hxb;have hev:X.evs (evl (qf tbl) l2) xa++X.evs (evl (qf tbl) l2) xb=outs:=by rw[←qdm];exact ho
                  have hla:(X.evs (evl (qf tbl) l2) xa).length=ct.rs.length:=by rw[qhp,h3]
                  refine⟨_,qfy h1,?_⟩;rw[←hR0];refine .inr ⟨l,p2,rfl,(hb6.up (show Bs c2.A c.F _ _ _ _ from hF2'▸hb2) fun b h=>hAA b (hA2' b h)).fr rfl rfl (fun b hb=>(hpre.new b hb).2),qbj.chA (A:=c2.A) (fun b _ h=>hAA b (hA2' b h)) ?_,q49.chA (A:=c2.A) (fun b _ h=>hAA b (hA2' b h)) ?_⟩
                  ·rw[←hev,kU (by omega),←hla,vM];exact h2
                  ·rw[←hev,←hla,uZ];exact h4
                 ·cases hx
                ·cases hx
               ·exact hgo4.elim
              ·exact(show False from hgo3).elim
             ·exact(show False from hgo3).elim
            ·exact(show False from hgo3).elim
           cases r with
           |exit i=>exact(show False from hgo3).elim
           |ret=>exact hQr .ret _ _ (fun i h=>by cases h) (hres hgo3)
           |normal=>exact hQr .normal _ _ (fun i h=>by cases h) (hres hgo3)
          have hevt:(a1.put (some t) V).eval (.tmp t)=V:=by
           show(a1.tmps.setIfInBounds t V).getD t undef=V
           rw[kW,kP (by omega)];rfl
          obtain⟨hgd,hdw⟩:=za7 (a:=a1.put (some t) V) (w:=w2) (K:=wpOps uB [o1,ck,df].toArray (Exit.then (fun a w=>post.wpIn (FR none) 5 uB Q a w) Q) []) (Q:=Exit.then (fun a w=>post.wpIn (FR none) 5 uB Q a w) Q) hdt (hevt.trans hV) hmain;have hw1:Region.wanted ck (yielded ([o1,ck,df].toArray) a1.tmps)=true:=by simp[Region.wanted,hck2]
          have hw2':Region.wanted df (yielded ([o1,ck,df].toArray) (a1.put (some t) V).tmps)=true:=by simp[Region.wanted,hgd]
          show wpOps uB [o1,ck,df].toArray _ [1,2] a1 w1
          simp only[wpOps,kH,vF,kE];rw[if_pos hw1];refine .inl ?_;have hrun:(execOp a1.eval ck).run uB w1=.ok (.enter 39 #[.pointer (some ⟨gs,0,none⟩),.pointer (some ⟨ge,0,none⟩)]) w1:=by
           have hen:=qu1 #[.pointer (some ⟨gs,0,none⟩),.pointer (some ⟨ge,0,none⟩)] w1;have hvx:a1.eval x1=.pointer (some ⟨gs,0,none⟩):=hvx;generalize a1.eval=r at *;simp[execOp,hck3,resolve,Deferred.ofValue,hvy,hvx,hve,invoke,hen]
          unfold Oper.wp;rw[hrun]
          show Calls uB 39 _ w1 _
          refine(z6y w1 gs ge T hh).mono ?_;rintro e w2'⟨rfl,rfl⟩
          show(if Region.wanted df (yielded ([o1,ck,df].toArray) (a1.put ck.dst _).tmps)=true then _ else _)
          rw[hck1,←hV,←hw2,if_pos hw2'];exact .inl hdw
        ·exact hgo'.elim
       ·exact hgo'.elim
      ·exact hgo'.elim
     ·exact hgo'.elim
    ·exact hgo'.elim
   ·exact hgo'.elim
  ·exact(show False from hgo').elim
section
section
variable{α:Type}(ky:α→Int)
def q2w(x:α):List α→List α
 |[]=>[x]
 |y::l=>if ky y≤ky x then y::q2w x l else x::y::l
def jh(l:List α):List α:=l.foldl (fun acc x=>q2w ky x acc) []
def j8:List α→List α→List α
 |[],m=>m
 |a::l,[]=>a::l
 |a::l,b::m=>if ky a≤ky b then a::j8 l (b::m) else b::j8 (a::l) m
variable{ky}
theorem zi0(x:α)(l:List α):(q2w ky x l).length=l.length+1:=by
 induction l with
 |nil=>rfl
 |cons y l ih=>unfold q2w;split<;>simp[ih]
theorem z5u(l:List α):∀acc:List α,(l.foldl (fun acc x=>q2w ky x acc) acc).length=acc.length+l.length:=by
 induction l with
 |nil=>intro acc;rfl
 |cons x l ih=>intro acc;rw[List.foldl_cons,ih,zi0];simp;omega
theorem j6(l:List α):(jh ky l).length=l.length:=by
 have:=z5u (ky:=ky) l [];simpa[jh] using this
theorem q9c(l:List α):j8 ky l []=l:=by cases l<;>simp[j8]
theorem q66(m:List α):j8 ky [] m=m:=by simp[j8]
theorem qtw:∀(l m:List α),(j8 ky l m).length=l.length+m.length
 |[],m=>by simp[j8]
 |a::l,[]=>by simp[j8]
 |a::l,b::m=>by
  unfold j8;split
  ·rw[uU,qtw l (b::m)];simp;omega
  ·rw[uU,qtw (a::l) m];simp;omega
theorem qsg(x:α):∀l:List α,j8 ky l [x]=q2w ky x l
 |[]=>by simp[j8,q2w]
 |a::l=>by
  unfold j8 q2w;split
  ·rw[qsg x l]
  ·rw[q9c]
theorem qrk(x:α):∀(A B:List α),j8 ky A (q2w ky x B)=q2w ky x (j8 ky A B)
 |[],B=>by rw[q66,q66]
 |a::A,[]=>by
  rw[q9c];exact qsg x (a::A)
 | a :: A, b :: B => by
  by_cases hb:ky b≤ky x
  ·have e:q2w ky x (b::B)=b::q2w ky x B:=by simp[q2w,hb]
   rw[e];by_cases h:ky a≤ky b
   ·have e1:j8 ky (a::A) (b::q2w ky x B)=a::j8 ky A (b::q2w ky x B):=by rw[j8,if_pos h]
    have e2:j8 ky (a::A) (b::B)=a::j8 ky A (b::B):=by rw[j8,if_pos h]
    rw[e1,e2,←e,qrk x A (b::B)];simp[q2w,show ky a≤ky x by omega]
   ·have e1:j8 ky (a::A) (b::q2w ky x B)=b::j8 ky (a::A) (q2w ky x B):=by rw[j8,if_neg h]
    have e2:j8 ky (a::A) (b::B)=b::j8 ky (a::A) B:=by rw[j8,if_neg h]
    rw[e1,e2,qrk x (a::A) B];simp[q2w,hb]
  ·have e:q2w ky x (b::B)=x::b::B:=by simp[q2w,hb]
   by_cases h:ky a≤ky x
   ·have e1:j8 ky (a::A) (x::b::B)=a::j8 ky A (x::b::B):=by rw[j8,if_pos h]
    have e2:j8 ky (a::A) (b::B)=a::j8 ky A (b::B):=by rw[j8,if_pos (by omega)]
    rw[e,e1,e2,←e,qrk x A (b::B)];simp[q2w,h]
   ·have e1:j8 ky (a::A) (x::b::B)=x::j8 ky (a::A) (b::B):=by rw[j8,if_neg h]
    rw[e,e1];by_cases h2:ky a≤ky b
    ·have e2:j8 ky (a::A) (b::B)=a::j8 ky A (b::B):=by rw[j8,if_pos h2]
     rw[e2];simp[q2w,h]
    ·have e2:j8 ky (a::A) (b::B)=b::j8 ky (a::A) B:=by rw[j8,if_neg h2]
     rw[e2];simp[q2w,hb]
theorem zdj(A B:List α):jh ky (A++B)=j8 ky (jh ky A) (jh ky B):=by
 have key:∀(n:Nat)(B:List α),B.length=n→j8 ky (jh ky A) (jh ky B)=jh ky (A++B):=by
  intro n
  induction n with
  |zero=>
   intro B h;obtain rfl:=uA h;rw[kD];exact q9c _
  |succ n ih=>
   intro B h;have hne:B≠[]:=fun e=>by subst e;cases h
   rw[←List.dropLast_concat_getLast hne];have e1:∀(L:List α)(x:α),jh ky (L++[x])=q2w ky x (jh ky L):=fun L x=>by simp[jh,vL]
   rw[e1,qrk,ih _ (by rw[List.length_dropLast];omega),←kG,e1]
 exact(key _ B rfl).symm
theorem qcw:∀(A1 B1:List α){A2 B2:List α},(∀x∈A1,∀y∈B2,ky x≤ky y)→(∀y∈B1,∀x∈A2,ky y<ky x)→j8 ky (A1++A2) (B1++B2)=j8 ky A1 B1++j8 ky A2 B2
 |[],[],A2,B2,_,_=>by simp[j8]
 | [], b :: B1, A2, B2, h1, h2 => by
  have ih:=qcw [] B1 (A2:=A2) (B2:=B2) h1 (fun y hy=>h2 y (uP _ hy));rw[kN] at ih⊢;rw[q66] at ih⊢;cases A2 with
  |nil=>rw[q66,q66]
  |cons x A2=>
   have:=h2 b uR x uR;rw[uV,j8,if_neg (by omega),ih];rfl
 | a :: A1, [], A2, B2, h1, h2 => by
  have ih:=qcw A1 [] (A2:=A2) (B2:=B2) (fun x hx=>h1 x (uP _ hx)) h2;rw[kN] at ih⊢;rw[q9c] at ih⊢;cases B2 with
  |nil=>rw[q9c,q9c]
  |cons y B2=>
   have:=h1 a uR y uR;rw[uV,j8,if_pos this,ih];rfl
 | a :: A1, b :: B1, A2, B2, h1, h2 => by
  have ih1:=qcw A1 (b::B1) (A2:=A2) (B2:=B2) (fun x hx=>h1 x (uP _ hx)) h2;have ih2:=qcw (a::A1) B1 (A2:=A2) (B2:=B2) h1 (fun y hy=>h2 y (uP _ hy));by_cases h:ky a≤ky b
  ·have e1:j8 ky (a::A1++A2) (b::B1++B2)=a::j8 ky (A1++A2) (b::B1++B2):=by rw[uV,uV,j8,if_pos h]
   have e2:j8 ky (a::A1) (b::B1)=a::j8 ky A1 (b::B1):=by rw[j8,if_pos h]
   rw[e1,e2,ih1];rfl
  ·have e1:j8 ky (a::A1++A2) (b::B1++B2)=b::j8 ky (a::A1++A2) (B1++B2):=by rw[uV,uV,j8,if_neg h]
   have e2:j8 ky (a::A1) (b::B1)=b::j8 ky (a::A1) B1:=by rw[j8,if_neg h]
   rw[e1,e2,ih2];rfl
def q8h(ky:α→Int)(l:List α):Prop:=l.Pairwise fun x y=>ky x≤ky y
theorem zhu{x z:α}{l:List α}(h:z∈q2w ky x l):z=x∨z∈l:=by
 induction l with
 |nil=>simp[q2w] at h;exact .inl h
 | cons y l ih =>
  unfold q2w at h;split at h
  ·rcases kK.1 h with rfl|h
   ·exact .inr uR
   ·exact(ih h).imp id fun h=>uP _ h
  ·rcases kK.1 h with rfl|h
   ·exact .inl rfl
   ·exact .inr h
theorem zeo{x:α}{l:List α}(h:q8h ky l):q8h ky (q2w ky x l):=by
 induction l with
 |nil=>exact List.pairwise_singleton _ _
 | cons y l ih =>
  obtain⟨h1,h2⟩:=kJ.1 h;unfold q2w;split
  ·rename_i hy;refine kJ.2 ⟨fun z hz=>?_,ih h2⟩;rcases zhu hz with rfl|hz
   ·exact hy
   ·exact h1 z hz
  ·rename_i hy;refine kJ.2 ⟨fun z hz=>?_,h⟩;rcases kK.1 hz with rfl|hz
   ·omega
   ·have:=h1 z hz;omega
theorem qd4(l:List α):q8h ky (jh ky l):=by
 have key:∀(l acc:List α),q8h ky acc→q8h ky (l.foldl (fun acc x=>q2w ky x acc) acc):=by
  intro l
  induction l with
  |nil=>intro acc h;exact h
  |cons x l ih=>intro acc h;exact ih _ (zeo h)
 exact key l [] List.Pairwise.nil
theorem qk5(L:List α)(x:α):jh ky (L++[x])=q2w ky x (jh ky L):=by simp[jh,vL]
theorem qks{x:α}:∀{L1 L2:List α},(∀y∈L1,ky y≤ky x)→(∀y,L2.head? =some y→ky x<ky y)→q2w ky x (L1++L2)=L1++x::L2
 |[],[],_,_=>rfl
 |[],z::L2,_,h2=>by
  have:=h2 z rfl;simp[q2w,show ¬ky z≤ky x by omega]
 |y::L1,L2,h1,h2=>by
  rw[uV,q2w,if_pos (h1 y uR),qks (fun z hz=>h1 z (uP _ hz)) h2];rfl
theorem qus{x y:α}{L:List α}(h:q8h ky (L++[y]))(hy:ky y≤ky x):∀z∈L++[y],ky z≤ky x:=fun z hz=>by
 rcases vP.1 hz with hz|hz
 ·have:=(kI.1 h).2.2 z hz y (by simp);omega
 ·obtain rfl:z=y:=by simpa using hz
  exact hy
theorem q8h.left{A B:List α}(h:q8h ky (A++B)):q8h ky A:=(kI.1 h).1
theorem q8h.right{A B:List α}(h:q8h ky (A++B)):q8h ky B:=(kI.1 h).2.1
theorem qza{y:α}{B:List α}(h:q8h ky (y::B)){n:Int}(hn:n≤ky y):∀z∈y::B,n≤ky z:=fun z hz=>by
 rcases kK.1 hz with rfl|hz
 ·exact hn
 ·have:=(kJ.1 h).1 z hz;omega
def chK(ky:α→Int):Nat→Nat→List α→List α
 |0,_,l=>l
 |t+1,k,l=>jh ky (l.take k)++chK ky t k (l.drop k)
theorem q3n:∀(t k:Nat)(l:List α),(chK ky t k l).length=l.length
 |0,_,l=>rfl
 |t+1,k,l=>by
  rw[chK,uH,j6,q3n t k,uC,uI];omega
theorem qum:∀(t k:Nat)(l:List α),(chK ky t k l).drop (t * k)=l.drop (t * k)
 |0,_,l=>by simp[chK]
 | t + 1, k, l => by
  rw[chK];by_cases h:l.length≤k
  ·rw[uG (by rw[uH,j6,q3n,uC,uI,kC];omega),uG (by rw[kC];omega)]
  ·have e:(jh ky (l.take k)).length=k:=by rw[j6,uC];omega
   rw[show(t+1) * k=k+t * k by rw[kC];omega,←uT,←uT];have:(jh ky (l.take k)++chK ky t k (l.drop k)).drop k=chK ky t k (l.drop k):=by
    conv=>lhs;arg 1;rw[←e]
    exact uZ
   rw[this,qum t k]
theorem ql7:∀(t k:Nat)(l:List α),chK ky (t+1) k l=(chK ky t k l).take (t * k)++(jh ky ((l.drop (t * k)).take k)++(l.drop (t * k)).drop k)
 |0,k,l=>by simp[chK]
 | t + 1, k, l => by
  have e0:chK ky (t+2) k l=jh ky (l.take k)++chK ky (t+1) k (l.drop k):=rfl;have e1:chK ky (t+1) k l=jh ky (l.take k)++chK ky t k (l.drop k):=rfl;have e2:(t+1) * k=k+t * k:=by rw[kC];omega
  rw[e0,e1,ql7 t k (l.drop k),e2,uT];by_cases h:l.length≤k
  ·have z0:l.drop k=[]:=uG h;have z1:l.drop (k+t * k)=[]:=uG (by omega);have z2:chK ky t k ([]:List α)=[]:=uA (by rw[q3n];rfl);have z3:(jh ky (l.take k)).take (k+t * k)=jh ky (l.take k):=uK (by rw[j6,uC];omega);rw[z0,z1,z2];simp only[List.drop_nil,List.take_nil,kD,z3];simp[jh]
  ·have e:(jh ky (l.take k)).length=k:=by rw[j6,uC];omega
   have z3:(jh ky (l.take k)).take (k+t * k)=jh ky (l.take k):=uK (by rw[e];omega);rw[List.take_append,e,kF,kG,z3]
theorem zca{t k:Nat}{l:List α}(h:l.length≤k)(ht:0<t∨l=[]):chK ky t k l=jh ky l:=by
 cases t with
 |zero=>
  rcases ht with h|rfl
  ·omega
  ·rfl
 |succ t=>
  rw[chK,uK h,uG h];have:chK ky t k ([]:List α)=[]:=uA (by rw[q3n];rfl);rw[this,kD]
end
end
def pmL(f:Nat→Nat)(l:List D):List D:=(List.range l.length).map fun i=>l.getD (f i) .u
variable{f:Nat→Nat}
theorem q1t{l:List D}:(pmL f l).length=l.length:=by simp[pmL]
theorem q6w{l:List D}{i:Nat}(h:i<l.length):(pmL f l).getD i .u=l.getD (f i) .u:=by
 simp[pmL,gnG,List.getElem?_map,List.getElem?_range h]
theorem qsm{l m:List D}(hl:l.length=m.length)(h:∀i,i<l.length→l.getD i .u=m.getD i .u):l=m:=by
 refine List.ext_getElem hl fun i h1 h2=>?_;have:=h i h1;simpa[gnG,gnK h1,gnK h2] using this
theorem qzm{l:List D}{i j:Nat}{d:D}(hj:j<l.length):(l.set i d).getD j .u=if i=j then d else l.getD j .u:=by
 simp only[gnG,List.getElem?_set];split
 ·rename_i h;subst h;simp[hj]
 ·rfl
theorem zt7{l:List D}(h:∀i,i<l.length→f i=i):pmL f l=l:=qsm q1t fun i hi=>by
 rw[q1t] at hi;rw[q6w hi,h i hi]
theorem za9{l:List D}{g k:Nat→Nat}(h:∀i,i<l.length→f i<l.length∧g (f i)=k i):pmL f (pmL g l)=pmL k l:=qsm (by rw[q1t,q1t,q1t]) fun i hi=>by
 rw[q1t,q1t] at hi;rw[q6w (by rw[q1t];exact hi),q6w (h i hi).1,q6w hi,(h i hi).2]
theorem qc1(l:List D)(i:Int):(D.r l).get i=l.getD i.toNat .u:=rfl
def swF(a b k i:Nat):Nat:=if a≤i∧i<a+k then i - a+b else if b≤i∧i<b+k then i - b+a else i
def z4n(a m b i:Nat):Nat:=if a≤i∧i<a+(b - m) then i - a+m else if a+(b - m)≤i∧i<b then i - (b - m) else i
theorem zns{l:List D}{a b k:Nat}(h:a+k<b)(hb:b+k<l.length):((pmL (swF a b k) l).set (a+k) ((pmL (swF a b k) l).getD (b+k) .u)).set (b+k) ((pmL (swF a b k) l).getD (a+k) .u)=pmL (swF a b (k+1)) l:=by
 refine qsm (by simp[q1t]) fun i hi=>?_;simp only[List.length_set,q1t] at hi;rw[qzm (by simpa[q1t] using hi),qzm (by simpa[q1t] using hi),q6w hi,q6w (by omega),q6w (by omega),q6w hi];unfold swF;split
 ·subst_vars;rw[if_neg (by omega),if_neg (by omega),if_neg (by omega),if_pos (by omega)]
  congr 1
  omega
 ·split
  ·subst_vars;rw[if_neg (by omega),if_neg (by omega),if_pos (by omega)]
   congr 1
   omega
  ·congr 1
   split
   ·rw[if_pos (by omega)]
   ·split
    ·rw[if_neg (by omega),if_pos (by omega)]
    ·rw[if_neg (by omega),if_neg (by omega)]
def z76:List D→Option (List D)
 |[.r l,.i a,.i b,.i n]=>if 0≤a∧0≤n∧a+n≤b∧b+n≤l.length∧l.length≤1000000 then some [.r (pmL (swF a.toNat b.toNat n.toNat) l)] else none
 |_=>none
theorem znt:FOk z7 z76:=q6m fun ds outs hw hg=>by
 obtain⟨d,r,rfl,hd,e,r1,rfl,he,f,r2,rfl,hf,q,r3,rfl,hq,rfl⟩:=hw;obtain⟨l,te,rfl,-,hl,-⟩:=hd.row;obtain⟨a,rfl,ha⟩:=wfI he;obtain⟨b,rfl,hb⟩:=wfI hf;obtain⟨n,rfl,hn⟩:=wfI hq;simp only[z76,uL,uQ] at hg;obtain⟨⟨h0,h1,h2,h3,h4⟩,rfl⟩:=hg;obtain⟨a,rfl⟩:=uJ h0;obtain⟨n,rfl⟩:=uJ h1;obtain⟨b,rfl⟩:=uJ (show 0≤b by omega);simp only[uO];rw[q0k,zx];refine⟨fun st=>∃k:Nat,k≤n∧st=[.i k,.r (pmL (swF a b k) l)],fun st=>n - (st.getD 0 .u).int.toNat,⟨0,kV _,?_⟩,?_⟩
 ·rw[zt7 fun i _=>by unfold swF;rw[if_neg (by omega),if_neg (by omega)]];simp[X.evs,X.ev,evl]
 rintro st - ⟨k,hk,rfl⟩;rw[z8];refine⟨fun hlt=>?_,fun hlt=>?_⟩
 ·simp only[gnZ] at hlt;have ea:((a:Int)+(k:Int)).toNat=a+k:=by omega
  have eb:((b:Int)+(k:Int)).toNat=b+k:=by omega
  simp only[gnZ,qc1,ea,eb,q1t,zns (l:=l) (a:=a) (b:=b) (k:=k) (by omega) (by omega)];refine⟨by (repeat' apply uD)<;>first|omega|trivial,?_⟩
  try refine⟨by (repeat' apply uD)<;>first|omega|trivial,?_⟩
  rw[jv,if_pos rfl];refine⟨⟨k+1,by omega,by simp⟩,?_⟩;simp[D.int];omega
 ·simp only[gnZ] at hlt;obtain rfl:k=n:=by omega
  simp[gnZ]
def z6b:List D→Option (List D)
 |[.r l,.i a,.i m,.i b]=>if 0≤a∧a<m∧m<b∧b≤l.length∧l.length≤1000000 then some [.r (pmL (z4n a.toNat m.toNat b.toNat) l)] else none
 |_=>none
theorem z1m{l:List D}{a b n:Int}{a' b' n':Nat}(ha:a=a')(hb:b=b')(hn:n=n')(h:a'+n'≤b')(h2:b'+n'≤l.length)(h3:l.length≤1000000):z76 [.r l,.i a,.i b,.i n]=some [.r (pmL (swF a' b' n') l)]:=by
 subst ha hb hn;simp only[z76,uO];rw[if_pos (by omega)]
theorem zn7:FOk qq z6b:=q9a znt fun ds outs hw hg=>by
 obtain⟨d,r,rfl,hd,e,r1,rfl,he,f,r2,rfl,hf,q,r3,rfl,hq,rfl⟩:=hw;obtain⟨l,te,rfl,-,hl,-⟩:=hd.row;obtain⟨a,rfl,ha⟩:=wfI he;obtain⟨m,rfl,hm⟩:=wfI hf;obtain⟨b,rfl,hb⟩:=wfI hq;simp only[z6b,uL,uQ] at hg;obtain⟨⟨h0,h1,h2,h3,h4⟩,rfl⟩:=hg;obtain⟨a,rfl⟩:=uJ h0;obtain⟨m,rfl⟩:=uJ (show 0≤m by omega);obtain⟨b,rfl⟩:=uJ (show 0≤b by omega);simp only[uO];simp only[q0z,gnZ];refine⟨by (repeat' apply uD)<;>first|omega|trivial,?_⟩
 try refine⟨by (repeat' apply uD)<;>first|omega|trivial,?_⟩
 rw[zx];refine⟨fun st=>∃(i j:Nat)(l':List D),0<i∧0<j∧i≤m∧m+j≤l.length∧st=[.i i,.i j,.r l']∧l'.length=l.length∧pmL (z4n (m - i) m (m+j)) l'=pmL (z4n a m b) l,fun st=>(st.getD 0 .u).int.toNat+(st.getD 1 .u).int.toNat,⟨m - a,b - m,l,by omega,by omega,by omega,by omega,?_,rfl,?_⟩,?_⟩
 ·simp only[X.evs,X.ev,evl,kQ,kR,j4];rw[show((m:Int) - (a:Int))=((m - a:Nat):Int) by omega,show((b:Int) - (m:Int))=((b - m:Nat):Int) by omega]
 ·rw[show m - (m - a)=a by omega,show m+(b - m)=b by omega]
 rintro st - ⟨i,j,l',hi,hj,him,hmj,rfl,hll,hrot⟩;rw[z8];refine⟨fun hne=>?_,fun he=>?_⟩
 ·simp only[gnZ,q9e,kA,decide_eq_false_iff_not] at hne;have hne:i≠j:=by omega
  rw[z8];refine⟨fun hlt=>?_,fun hlt=>?_⟩
  ·simp only[gnZ] at hlt;have hS:z76 [.r l',.i ((m:Int) - (i:Int)),.i m,.i j]=some [.r (pmL (swF (m - i) m j) l')]:=z1m (by omega) rfl rfl (by omega) (by omega) (by omega);simp only[gnZ,hS];refine⟨by (repeat' apply uD)<;>first|omega|trivial,?_⟩
   try refine⟨by (repeat' apply uD)<;>first|omega|trivial,?_⟩
   rw[jv,if_pos rfl];refine⟨⟨i - j,j,pmL (swF (m - i) m j) l',by omega,hj,by omega,hmj,?_,by rw[q1t];exact hll,?_⟩,?_⟩
   ·simp only[kO,q9e,and_true,true_and];omega
   ·rw[←hrot];refine za9 fun x hx=>?_;rw[hll] at hx;rw[show m - (i - j)=m - i+j by omega];unfold z4n swF
    repeat' split
    all_goals omega
   ·simp[D.int];omega
  ·simp only[gnZ] at hlt;have hS:z76 [.r l',.i ((m:Int) - (i:Int)),.i ((m:Int)+(j:Int) - (i:Int)),.i i]=some [.r (pmL (swF (m - i) (m+j - i) i) l')]:=z1m (by omega) (by omega) rfl (by omega) (by omega) (by omega);simp only[gnZ,hS];refine⟨by (repeat' apply uD)<;>first|omega|trivial,?_⟩
   try refine⟨by (repeat' apply uD)<;>first|omega|trivial,?_⟩
   rw[jv,if_pos rfl];refine⟨⟨i,j - i,pmL (swF (m - i) (m+j - i) i) l',hi,by omega,him,by omega,?_,by rw[q1t];exact hll,?_⟩,?_⟩
   ·simp only[kO,q9e,and_true,true_and];omega
   ·rw[←hrot];refine za9 fun x hx=>?_;rw[hll] at hx;rw[show m+(j - i)=m+j - i by omega];unfold z4n swF
    repeat' split
    all_goals omega
   ·simp[D.int];omega
 ·simp only[gnZ,q9e,kS,gnD] at he;obtain rfl:i=j:=by omega
  have hS:z76 [.r l',.i ((m:Int) - (i:Int)),.i m,.i i]=some [.r (pmL (swF (m - i) m i) l')]:=z1m (by omega) rfl rfl (by omega) (by omega) (by omega);simp only[gnZ,hS];refine⟨by (repeat' apply uD)<;>first|omega|trivial,?_⟩
  try refine⟨by (repeat' apply uD)<;>first|omega|trivial,?_⟩
  rw[←hrot]
  congr 2
  refine qsm (by rw[q1t,q1t]) fun x hx=>?_;rw[q1t] at hx;rw[q6w hx,q6w hx]
  congr 1
  unfold z4n swF
  repeat' split
  all_goals omega
def kyD(d:D):Int:=(d.fld 0).int
def gCw:List D→Option (List D)
 |[x,y]=>some [.i (if kyD x<kyD y then -1 else if kyD y<kyD x then 1 else 0)]
 |_=>none
theorem q5o:FOk qz gCw:=qmm q31 fun ds outs hw hg=>by
 obtain⟨d,r,rfl,hd,e,r',rfl,he,rfl⟩:=hw;simp only[gCw,uQ] at hg;subst hg;simp[q79,gnZ,zdb,kyD];rfl
theorem zxk{l:List D}{a b:Nat}(h1:a≤b)(h2:b≤l.length):∃U S W,l=U++(S++W)∧U.length=a∧S.length=b - a∧l.take a=U∧(l.drop a).take (b - a)=S∧l.drop b=W:=by
 refine⟨l.take a,(l.drop a).take (b - a),l.drop b,?_,by simp;omega,by simp;omega,rfl,rfl,rfl⟩;have e:l.drop b=(l.drop a).drop (b - a):=by rw[uT];congr 1;omega
 rw[e,uM,uM]
variable{x:D}
theorem q2m{A B:List D}{n:Nat}(h:n=A.length):(A++x::B).getD n .u=x:=by
 subst h;simp[gnG]
theorem qzg{A B:List D}{y:D}{n:Nat}(h:n=A.length+1):(A++y::x::B).getD n .u=x:=by
 rw[show A++y::x::B=(A++[y])++x::B by simp];exact q2m (by simp;omega)
theorem z4u{A B:List D}{y:D}{n k:Nat}(h:n=A.length)(hk:k=A.length+1):((A++y::x::B).set k y).set n x=A++x::y::B:=by
 subst h hk;simp[vO]
theorem zcf{A B:List D}{y:D}{n k:Nat}(h:n=A.length)(hk:k=A.length+1):((A++y::x::B).set n x).set k y=A++x::y::B:=by
 subst h hk;simp[vO]
theorem zcu{l:List D}(h:l.length≤1):jh kyD l=l:=by
 rcases l with _|⟨x,_|⟨y,l⟩⟩
 ·rfl
 ·rfl
 ·simp at h
def ze8:List D→Option (List D)
 |[.r l,.i a,.i b]=>if 0≤a∧a≤b∧b≤l.length∧l.length≤1000000 then some [.r (l.take a.toNat++(jh kyD ((l.drop a.toNat).take (b.toNat - a.toNat))++l.drop b.toNat))] else none
 |_=>none
theorem zl1:FOk qw ze8:=q58 q5o fun ds outs hw hg=>by
 obtain⟨d,r,rfl,hd,e,r1,rfl,he,f,r2,rfl,hf,rfl⟩:=hw;obtain⟨l,te,rfl,-,hl,-⟩:=hd.row;obtain⟨a,rfl,ha⟩:=wfI he;obtain⟨b,rfl,hb⟩:=wfI hf;simp only[ze8,uL,uQ] at hg;obtain⟨⟨h0,h1,h2,h3⟩,rfl⟩:=hg;obtain⟨a,rfl⟩:=uJ h0;obtain⟨b,rfl⟩:=uJ (show 0≤b by omega);simp only[uO];obtain⟨U,S,W,hlq,hU,hS,e1,e2,e3⟩:=zxk (l:=l) (a:=a) (b:=b) (by omega) (by omega);rw[e1,e2,e3];have hlen:l.length=U.length+(S.length+W.length):=by rw[hlq];simp
 simp only[jx];rw[qg];refine⟨by simp only[gnZ];(repeat' apply uD)<;>first|omega|trivial,?_⟩;rw[zx];have e11:((a:Int)+1)=((a+1:Nat):Int):=by omega
 refine⟨fun st=>∃t:Nat,1≤t∧(t≤S.length∨t=1)∧st=[.i ((a+t:Nat):Int),.r (U++(jh kyD (S.take t)++(S.drop t++W)))],fun st=>b - (st.getD 0 .u).int.toNat,⟨1,kB _,.inr rfl,?_⟩,?_⟩
 ·rw[zcu (by rw[uC];omega),←kG (S.take 1),uM,←hlq];simp only[X.evs,X.ev,evl,kQ,kR,j4,e11]
 rintro st - ⟨t,ht1,ht,rfl⟩;rw[z8];refine⟨fun hlt=>?_,fun hlt=>?_⟩
 ·simp only[gnZ] at hlt;have hts:t<S.length:=by omega
  obtain⟨x,hx⟩:∃x,S[t]=x:=⟨_,rfl⟩;have hdr:S.drop t=x::S.drop (t+1):=by rw[vB hts,hx]
  have htk:S.take (t+1)=S.take t++[x]:=by rw[List.take_succ_eq_append_getElem hts,hx]
  have hsl:(jh kyD (S.take t)).length=t:=by rw[j6,uC];omega
  rw[zx];refine⟨fun st=>∃L1 L2:List D,L1++L2=jh kyD (S.take t)∧(∀y∈L2,kyD x<kyD y)∧st=[.i ((a+L1.length:Nat):Int),.r ((U++L1)++x::(L2++(S.drop (t+1)++W)))],fun st=>(st.getD 0 .u).int.toNat,⟨jh kyD (S.take t),[],by simp,by simp,?_⟩,?_⟩
  ·simp[X.evs,X.ev,evl,hsl,hdr]
  rintro st - ⟨L1,L2,hL,hL2,rfl⟩;have hll:L1.length+L2.length=t:=by rw[←hsl,←hL,uH]
  have hrl:((U++L1)++x::(L2++(S.drop (t+1)++W))).length=l.length:=by
   simp only[uH,uU,uI];omega
  have hgx:((U++L1)++x::(L2++(S.drop (t+1)++W))).getD (a+L1.length) .u=x:=q2m (by simp;omega);rw[qg];refine⟨?_,?_⟩
  ·simp only[gnZ,qc1,hrl,gCw,Bool.or_eq_true,kA,decide_eq_false_iff_not,Bool.or_true]
   (repeat' apply uD)<;>first|omega|trivial
  rw[z8];rcases uX L1 with rfl|⟨L1',y,hcat⟩
  ·refine⟨fun hc=>?_,fun hc=>?_⟩
   ·simp only[gnZ,gnB,gnD] at hc;exact absurd hc.1 (by simp)
   ·rw[qg];refine⟨by simp only[gnZ];(repeat' apply uD)<;>first|omega|trivial,?_⟩;simp only[gnZ];rw[jv,if_neg (by decide),jv,if_pos rfl];refine⟨⟨t+1,by omega,.inl (by omega),?_⟩,?_⟩
    ·rw[htk,qk5,←hL,qks (by simp) (fun z hz=>hL2 z (vH hz))];simp[X.ev,X.evs,evl];omega
    ·simp[D.int];omega
  ·rw[uY] at hcat;subst hcat;have hgy:((U++(L1'++[y]))++x::(L2++(S.drop (t+1)++W))).getD (a+L1'.length) .u=y:=by
    rw[show(U++(L1'++[y]))++x::(L2++(S.drop (t+1)++W))=(U++L1')++y::(x::(L2++(S.drop (t+1)++W))) by simp];exact q2m (by simp;omega)
   have ej:(((a+(L1'++[y]).length:Nat):Int) - 1).toNat=a+L1'.length:=by simp;omega
   have ej0:((a+(L1'++[y]).length:Nat):Int).toNat=a+(L1'++[y]).length:=by omega
   refine⟨fun hc=>?_,fun hc=>?_⟩
   ·simp only[gnZ,qc1,ej,ej0,hgx,hgy,gCw,gnB,gnD,qgh] at hc;rw[qg];refine⟨?_,?_⟩
    ·simp only[gnZ,qc1,hrl];simp only[uH,uU,uW] at hll⊢
     (repeat' apply uD)<;>first|omega|trivial
    rw[qg];refine⟨by simp only[gnZ];(repeat' apply uD)<;>first|omega|trivial,?_⟩;simp only[gnZ,qc1,ej,ej0,hgx,hgy];rw[jv,if_pos rfl];refine⟨⟨L1',y::L2,by rw[←hL];simp,fun z hz=>?_,?_⟩,?_⟩
    ·rcases kK.1 hz with rfl|hz
     ·exact hc.2
     ·exact hL2 z hz
    ·rw[show(U++(L1'++[y]))++x::(L2++(S.drop (t+1)++W))=(U++L1')++y::x::(L2++(S.drop (t+1)++W)) by simp,z4u (by simp;omega) (by simp;omega)];simp only[uV,kO,q9e,and_true];simp;omega
    ·simp[D.int];omega
   ·simp only[gnZ,qc1,ej,ej0,hgx,hgy,gCw,uF,decide_eq_false_iff_not,qgh] at hc;have hc':kyD y≤kyD x:=by
     rcases hc with hc|hc
     ·exact absurd (show(a:Int)<((a+(L1'++[y]).length:Nat):Int) by simp;omega) hc
     ·omega
    rw[qg];refine⟨by simp only[gnZ];(repeat' apply uD)<;>first|omega|trivial,?_⟩;simp only[gnZ];rw[jv,if_neg (by decide),jv,if_pos rfl];refine⟨⟨t+1,by omega,.inl (by omega),?_⟩,?_⟩
    ·have hsr:q8h kyD ((L1'++[y])++L2):=by rw[hL];exact qd4 _
     rw[htk,qk5,←hL,qks (qus hsr.left hc') (fun z hz=>hL2 z (vH hz))];simp[X.ev,X.evs,evl];omega
    ·simp[D.int];omega
 ·simp only[gnZ] at hlt;have hts:S.length≤t:=by omega
  simp only[gnZ];rw[uK hts,uG hts,kN]
def sgD(l:List D)(a b:Nat):List D:=(l.drop a).take (b - a)
theorem zxs{l:List D}{a m b:Nat}(h0:a≤m)(h1:m≤b)(h2:b≤l.length):∃U A B W,l=U++(A++(B++W))∧U.length=a∧A.length=m - a∧B.length=b - m∧l.take a=U∧sgD l a m=A∧sgD l m b=B∧l.drop b=W:=by
 refine⟨l.take a,sgD l a m,sgD l m b,l.drop b,?_,by simp;omega,by simp[sgD];omega,by simp[sgD];omega,rfl,rfl,rfl,rfl⟩;have e1:l.drop m=sgD l m b++l.drop b:=by
  have e:l.drop b=(l.drop m).drop (b - m):=by rw[uT];congr 1;omega
  rw[sgD,e,uM]
 have e2:l.drop a=sgD l a m++l.drop m:=by
  have e:l.drop m=(l.drop a).drop (m - a):=by rw[uT];congr 1;omega
  rw[sgD,e,uM]
 rw[←e1,←e2,uM]
theorem zfa{P X Y Q:List D}{a m b:Nat}(ha:a=P.length)(hm:m=a+X.length)(hb:b=m+Y.length):pmL (z4n a m b) (P++(X++(Y++Q)))=P++(Y++(X++Q)):=by
 refine qsm (by rw[q1t];simp;omega) fun i hi=>?_;rw[q1t] at hi;rw[q6w hi];simp only[uH] at hi;simp only[gnG]
 congr 1
 unfold z4n;by_cases h1:i<a
 ·rw[if_neg (by omega),if_neg (by omega),uN (by omega),uN (by omega)]
 ·by_cases h2:i<a+(b - m)
  ·rw[if_pos ⟨by omega,h2⟩,uE (by omega),uE (by omega),uN (by omega),uE (by omega),uN (by omega)]
   congr 1
   omega
  ·by_cases h3:i<b
   ·rw[if_neg (by omega),if_pos (by omega),uE (by omega),uN (by omega),uE (by omega),uE (by omega),uN (by omega)]
    congr 1
    omega
   ·rw[if_neg (by omega),if_neg (by omega),uE (by omega),uE (by omega),uE (by omega),uE (by omega),uE (by omega),uE (by omega)]
    congr 1
    omega
theorem z9u:∀{B1 B2:List D},(∀y∈B1,kyD y<kyD x)→(∀y,B2.head? =some y→kyD x≤kyD y)→j8 kyD [x] (B1++B2)=B1++x::B2
 |[],[],_,_=>by simp[j8]
 |[],y::B2,_,h=>by
  have:=h y rfl;rw[kN,j8,if_pos this,q66];rfl
 |y::B1,B2,h1,h2=>by
  have:=h1 y uR;rw[uV,j8,if_neg (by omega),z9u (fun z hz=>h1 z (uP _ hz)) h2];rfl
theorem qy7{n:Int}{y:D}{L:List D}(h:q8h kyD (L++[y]))(hy:kyD y<n):∀z∈L++[y],kyD z<n:=fun z hz=>by
 rcases vP.1 hz with hz|hz
 ·have:=(kI.1 h).2.2 z hz y (by simp);omega
 ·obtain rfl:z=y:=by simpa using hz
  exact hy
theorem zd5{l U A1 A2 B1 B2 W:List D}{s m e:Nat}(hl:l=U++(A1++(A2++(B1++(B2++W)))))(hs:s=U.length+A1.length)(hm:m=s+A2.length)(he:e=m+B1.length)(sA:q8h kyD (A1++A2))(sB:q8h kyD (B1++B2))
  (h1:A1=[]∨B2=[]∨kyD (l.getD (s - 1) .u)≤kyD (l.getD e .u))(h2:A2=[]∨B1=[]∨kyD (l.getD (e - 1) .u)<kyD (l.getD s .u)):j8 kyD (A1++A2) (B1++B2)=j8 kyD A1 B1++j8 kyD A2 B2:=by
 refine qcw A1 B1 ?_ ?_
 ·intro x hx y hy;rcases h1 with rfl|rfl|h1
  ·cases hx
  ·cases hy
  rcases uX A1 with rfl|⟨A,z,hc⟩
  ·cases hx
  rw[uY] at hc;subst hc;cases B2 with
  |nil=>cases hy
  | cons q B2 =>
   have e1:l.getD (s - 1) .u=z:=by
    rw[hl,show U++((A++[z])++(A2++(B1++(q::B2++W))))=(U++A)++z::(A2++(B1++(q::B2++W))) by simp];exact q2m (by simp at hs⊢;omega)
   have e2:l.getD e .u=q:=by
    rw[hl,show U++((A++[z])++(A2++(B1++(q::B2++W))))=(U++((A++[z])++(A2++B1)))++q::(B2++W) by simp];exact q2m (by simp at hs⊢;omega)
   rw[e1,e2] at h1;have a1:=qus (x:=z) sA.left (vJ _) x hx;have a2:=qza (q8h.right sB) (vJ _) y hy;omega
 ·intro y hy x hx;rcases h2 with rfl|rfl|h2
  ·cases hx
  ·cases hy
  rcases uX B1 with rfl|⟨B,z,hc⟩
  ·cases hy
  rw[uY] at hc;subst hc;cases A2 with
  |nil=>cases hx
  | cons q A2 =>
   have e1:l.getD (e - 1) .u=z:=by
    rw[hl,show U++(A1++(q::A2++((B++[z])++(B2++W))))=(U++(A1++(q::A2++B)))++z::(B2++W) by simp];exact q2m (by simp at hm he⊢;omega)
   have e2:l.getD s .u=q:=by
    rw[hl,show U++(A1++(q::A2++((B++[z])++(B2++W))))=(U++A1)++q::(A2++((B++[z])++(B2++W))) by simp];exact q2m (by simp;omega)
   rw[e1,e2] at h2;have a1:=qy7 sB.left h2 y hy;have a2:=qza (q8h.right sA) (vJ _) x hx;omega
open Classical in
noncomputable def qqq:List D→Option (List D)
 |[.r l,.i a,.i m,.i b]=>if 0≤a∧a<m∧m<b∧b≤l.length∧l.length≤1000000∧q8h kyD (sgD l a.toNat m.toNat)∧q8h kyD (sgD l m.toNat b.toNat) then some [.r (l.take a.toNat++(j8 kyD (sgD l a.toNat m.toNat) (sgD l m.toNat b.toNat)++l.drop b.toNat))] else none
 |_=>none
theorem qrw{U A B W:List D}{a m b:Int}(ha:a=U.length)(hm:m=U.length+A.length)(hb:b=U.length+A.length+B.length)(h1:0<A.length)(h2:0<B.length)(h3:U.length+A.length+B.length+W.length≤1000000)(sA:q8h kyD A)(sB:q8h kyD B):qqq [.r (U++(A++(B++W))),.i a,.i m,.i b]=some [.r (U++(j8 kyD A B++W))]:=by
 have d1:(U++(A++(B++W))).drop (U.length+A.length)=B++W:=by rw[←uT,uZ,uZ]
 have t1:(U++(A++(B++W))).take U.length=U:=kZ;have t2:sgD (U++(A++(B++W))) U.length (U.length+A.length)=A:=by rw[sgD,uZ,kF,kZ]
 have t3:sgD (U++(A++(B++W))) (U.length+A.length) (U.length+A.length+B.length)=B:=by rw[sgD,d1,kF,kZ]
 have t4:(U++(A++(B++W))).drop (U.length+A.length+B.length)=W:=by rw[←uT,d1,uZ]
 have ea:a.toNat=U.length:=by omega
 have em:m.toNat=U.length+A.length:=by omega
 have eb:b.toNat=U.length+A.length+B.length:=by omega
 simp only[qqq];rw[if_pos ⟨by omega,by omega,by omega,by simp;omega,by simp;omega,by rw[ea,em,t2];exact sA,by rw[em,eb,t3];exact sB⟩,ea,em,eb,t1,t2,t3,t4]
def qxt(ds:List D):Nat:=((ds.getD 3 .u).int - (ds.getD 1 .u).int).toNat
set_option maxHeartbeats 4000000 in
theorem zo1:FOk qk qqq:=qa2 (m:=qxt) q2o fun N ih=>q7k q5o zn7 ih fun ds outs hw hg=>by
 obtain⟨d,r,rfl,hd,e,r1,rfl,he,f,r2,rfl,hf,q,r3,rfl,hq,rfl⟩:=hw;obtain⟨l,te,rfl,-,hl,-⟩:=hd.row;obtain⟨a,rfl,ha⟩:=wfI he;obtain⟨m,rfl,hm⟩:=wfI hf;obtain⟨b,rfl,hb⟩:=wfI hq;simp only[q3l,qxt,qqq,kQ,kR,j4,uL,uQ] at hg;obtain⟨hN,⟨h0,h1,h2,h3,h4,sA,sB⟩,rfl⟩:=hg;obtain⟨a,rfl⟩:=uJ h0;obtain⟨m,rfl⟩:=uJ (show 0≤m by omega);obtain⟨b,rfl⟩:=uJ (show 0≤b by omega);simp only[uO] at sA sB⊢;obtain⟨U,A,B,W,hlq,hU,hA,hB,e1,e2,e3,e4⟩:=zxs (l:=l) (a:=a) (m:=m) (b:=b) (by omega) (by omega) (by omega);rw[e2] at sA;rw[e3] at sB;rw[e1,e2,e3,e4];have hlen:l.length=U.length+(A.length+(B.length+W.length)):=by rw[hlq];simp
 rw[q0o,qg];refine⟨by simp only[gnZ];(repeat' apply uD)<;>first|omega|trivial,?_⟩;rw[z8];refine⟨fun hc=>?_,fun hc=>?_⟩
 ·-- one element before
  simp only[gnZ,q9e] at hc;obtain⟨x,rfl⟩:∃x,A=[x]:=by
   rcases A with _|⟨x,_|⟨y,A⟩⟩
   ·simp at hA;omega
   ·exact⟨x,rfl⟩
   ·simp at hA;omega
  have hgx:l.getD a .u=x:=by rw[hlq];exact q2m hU.symm
  rw[zx];refine⟨fun st=>∃i j:Nat,m≤i∧i≤j∧j≤b∧st=[.i i,.i j]∧(i=m∨kyD (l.getD (i - 1) .u)<kyD x)∧(j=b∨kyD x≤kyD (l.getD j .u)),fun st=>(st.getD 1 .u).int.toNat - (st.getD 0 .u).int.toNat,⟨m,b,kB _,by omega,kB _,by simp[X.evs,X.ev,evl],.inl rfl,.inl rfl⟩,?_⟩;rintro st - ⟨i,j,hmi,hij,hjb,rfl,hi,hj⟩;rw[z8];refine⟨fun hlt=>?_,fun hlt=>?_⟩
  ·simp only[gnZ] at hlt;rw[qg];refine⟨by simp only[gnZ,fnD,half,gCw];(repeat' apply uD)<;>first|omega|trivial|exact qjn (by omega) (by omega),?_⟩;rw[qg];refine⟨by simp only[gnZ,fnD,half,gCw,uO,qc1,hgx];(repeat' apply uD)<;>first|omega|trivial|exact qjn (by omega) (by omega),?_⟩;rw[z8];simp only[gnZ,fnD,half,gCw,qc1,uO,hgx,qgh];refine⟨fun hc2=>⟨by omega,?_⟩,fun hc2=>?_⟩
   ·rw[jv,if_pos rfl];refine⟨⟨(i+j) / 2+1,j,by omega,by omega,hjb,by simp,.inr (by simpa using hc2),hj⟩,?_⟩;simp[D.int];omega
   ·rw[jv,if_pos rfl];refine⟨⟨i,(i+j) / 2,hmi,by omega,by omega,by simp,hi,.inr (by omega)⟩,?_⟩;simp[D.int];omega
  ·simp only[gnZ] at hlt;obtain rfl:i=j:=by omega
   obtain⟨B1,B2,hB12,hB1⟩:∃B1 B2,B=B1++B2∧B1.length=i - m:=⟨B.take (i - m),B.drop (i - m),(uM _ _).symm,by rw[uC];omega⟩;subst hB12;have hb1:∀y∈B1,kyD y<kyD x:=by
    rcases uX B1 with rfl|⟨C,z,hc3⟩
    ·simp
    rw[uY] at hc3;subst hc3;have hz:l.getD (i - 1) .u=z:=by
     rw[hlq,show U++([x]++(C++[z]++B2++W))=(U++([x]++C))++z::(B2++W) by simp];exact q2m (by simp at hB1 hA⊢;omega)
    rcases hi with hi|hi
    ·simp at hB1;omega
    ·rw[hz] at hi;exact qy7 sB.left hi
   have hb2:∀y,B2.head? =some y→kyD x≤kyD y:=by
    intro y hy;cases B2 with
    |nil=>cases hy
    | cons z B2 =>
     obtain rfl:z=y:=gnI hy;have hz:l.getD i .u=z:=by
      rw[hlq,show U++([x]++(B1++z::B2++W))=(U++([x]++B1))++z::(B2++W) by simp];exact q2m (by simp at hB1 hA⊢;omega)
     rcases hj with hj|hj
     ·simp at hB;omega
     ·rw[hz] at hj;exact hj
   rw[z9u hb1 hb2];rw[zx];refine⟨fun st=>∃C1 C2:List D,C1++C2=B1∧st=[.i ((a+C1.length:Nat):Int),.r ((U++C1)++x::(C2++(B2++W)))],fun st=>b - (st.getD 0 .u).int.toNat,⟨[],B1,rfl,?_⟩,?_⟩
   ·simp[X.evs,X.ev,evl,hlq]
   rintro st - ⟨C1,C2,rfl,rfl⟩;have hrl:((U++C1)++x::(C2++(B2++W))).length=l.length:=by
    rw[hlen];simp;omega
   rw[qg];refine⟨by simp only[gnZ];(repeat' apply uD)<;>first|omega|trivial,?_⟩;rw[z8];simp only[uH] at hB1 hB;cases C2 with
   | nil =>
    refine⟨fun hlt2=>?_,fun hlt2=>?_⟩
    ·simp only[gnZ] at hlt2;simp only[uW] at hB1;simp only[uU,uW] at hA;omega
    ·simp[gnZ]
   | cons y C2 =>
    refine⟨fun hlt2=>?_,fun hlt2=>?_⟩
    ·have ei:((a+C1.length:Nat):Int).toNat=a+C1.length:=by omega
     have ei1:(((a+C1.length:Nat):Int)+1).toNat=a+C1.length+1:=by omega
     have g1:((U++C1)++x::(y::C2++(B2++W))).getD (a+C1.length) .u=x:=q2m (by simp;omega);have g2:((U++C1)++x::(y::C2++(B2++W))).getD (a+C1.length+1) .u=y:=by
      rw[uV];exact qzg (by simp;omega)
     simp only[uU,uW] at hB1 hA hB;rw[uV] at hrl g1 g2;rw[qg];refine⟨by simp only[gnZ,hrl];(repeat' apply uD)<;>first|omega|trivial,?_⟩
     first
      |(rw[qg];refine⟨by simp only[gnZ];(repeat' apply uD)<;>first|omega|trivial,?_⟩)
      |skip
     simp only[gnZ,qc1,ei,ei1,g1,g2];rw[jv,if_pos rfl];refine⟨⟨C1++[y],C2,by simp,?_⟩,?_⟩
     ·rw[zcf (by simp;omega) (by simp;omega)];simp;omega
     ·simp[D.int];omega
    ·simp only[gnZ] at hlt2;simp only[uU,uW] at hB1 hA;omega
 ·simp only[gnZ,q9e,decide_eq_false_iff_not] at hc;rw[qg];refine⟨by simp only[gnZ];(repeat' apply uD)<;>first|omega|trivial,?_⟩;rw[z8];refine⟨fun hc2=>?_,fun hc2=>?_⟩
  ·-- one element behind
   simp only[gnZ,q9e] at hc2;obtain⟨x,rfl⟩:∃x,B=[x]:=by
    rcases B with _|⟨x,_|⟨y,B⟩⟩
    ·simp at hB;omega
    ·exact⟨x,rfl⟩
    ·simp at hB;omega
   have hgx:l.getD m .u=x:=by
    rw[hlq,show U++(A++([x]++W))=(U++A)++x::W by simp];exact q2m (by simp;omega)
   rw[zx];refine⟨fun st=>∃i j:Nat,a≤i∧i≤j∧j≤m∧st=[.i i,.i j]∧(i=a∨kyD (l.getD (i - 1) .u)≤kyD x)∧(j=m∨kyD x<kyD (l.getD j .u)),fun st=>(st.getD 1 .u).int.toNat - (st.getD 0 .u).int.toNat,⟨a,m,kB _,by omega,kB _,by simp[X.evs,X.ev,evl],.inl rfl,.inl rfl⟩,?_⟩;rintro st - ⟨i,j,hai,hij,hjm,rfl,hi,hj⟩;rw[z8];refine⟨fun hlt=>?_,fun hlt=>?_⟩
   ·simp only[gnZ] at hlt;rw[qg];refine⟨by simp only[gnZ,fnD,half,gCw];(repeat' apply uD)<;>first|omega|trivial|exact qjn (by omega) (by omega),?_⟩;rw[qg];refine⟨by simp only[gnZ,fnD,half,gCw,uO,qc1,hgx];(repeat' apply uD)<;>first|omega|trivial|exact qjn (by omega) (by omega),?_⟩;rw[z8];simp only[gnZ,fnD,half,gCw,qc1,uO,hgx,qgh,kA,kS,gnD,decide_eq_false_iff_not];refine⟨fun hc3=>⟨by omega,?_⟩,fun hc3=>?_⟩
    ·rw[jv,if_pos rfl];refine⟨⟨(i+j) / 2+1,j,by omega,by omega,hjm,by simp,.inr (by rw[vK];omega),hj⟩,?_⟩;simp[D.int];omega
    ·rw[jv,if_pos rfl];refine⟨⟨i,(i+j) / 2,hai,by omega,by omega,by simp,hi,.inr (by omega)⟩,?_⟩;simp[D.int];omega
   ·simp only[gnZ] at hlt;obtain rfl:i=j:=by omega
    obtain⟨A1,A2,hA12,hA1⟩:∃A1 A2,A=A1++A2∧A1.length=i - a:=⟨A.take (i - a),A.drop (i - a),(uM _ _).symm,by rw[uC];omega⟩;subst hA12;have ha1:∀y∈A1,kyD y≤kyD x:=by
     rcases uX A1 with rfl|⟨C,z,hc3⟩
     ·simp
     rw[uY] at hc3;subst hc3;have hz:l.getD (i - 1) .u=z:=by
      rw[hlq,show U++(C++[z]++A2++([x]++W))=(U++C)++z::(A2++([x]++W)) by simp];exact q2m (by simp at hA1⊢;omega)
     rcases hi with hi|hi
     ·simp at hA1;omega
     ·rw[hz] at hi;exact qus sA.left hi
    have ha2:∀y,A2.head? =some y→kyD x<kyD y:=by
     intro y hy;cases A2 with
     |nil=>cases hy
     | cons z A2 =>
      obtain rfl:z=y:=gnI hy;have hz:l.getD i .u=z:=by
       rw[hlq,show U++(A1++z::A2++([x]++W))=(U++A1)++z::(A2++([x]++W)) by simp];exact q2m (by simp;omega)
      rcases hj with hj|hj
      ·simp at hA;omega
      ·rw[hz] at hj;exact hj
    rw[qsg,qks ha1 ha2];rw[zx];refine⟨fun st=>∃C1 C2:List D,C1++C2=A2∧st=[.i ((a+A1.length+C1.length:Nat):Int),.r ((U++(A1++C1))++x::(C2++W))],fun st=>(st.getD 0 .u).int.toNat,⟨A2,[],by simp,?_⟩,?_⟩
    ·simp only[uH] at hA;simp[X.evs,X.ev,evl,hlq];omega
    rintro st - ⟨C1,C2,rfl,rfl⟩;have hrl:((U++(A1++C1))++x::(C2++W)).length=l.length:=by
     rw[hlen];simp;omega
    rw[z8];simp only[uH,uU,uW] at hA hB;rcases uX C1 with rfl|⟨C1',y,hcat⟩
    ·refine⟨fun hlt2=>?_,fun hlt2=>?_⟩
     ·simp only[gnZ] at hlt2;simp only[uW] at hlt2;omega
     ·simp[gnZ]
    ·rw[uY] at hcat;subst hcat;refine⟨fun hlt2=>?_,fun hlt2=>?_⟩
     ·have ej0:((a+A1.length+(C1'++[y]).length:Nat):Int).toNat=a+A1.length+C1'.length+1:=by simp;omega
      have ej:(((a+A1.length+(C1'++[y]).length:Nat):Int) - 1).toNat=a+A1.length+C1'.length:=by simp;omega
      have er:(U++(A1++(C1'++[y])))++x::(C2++W)=(U++(A1++C1'))++y::x::(C2++W):=by simp
      rw[er] at hrl;have g1:((U++(A1++C1'))++y::x::(C2++W)).getD (a+A1.length+C1'.length) .u=y:=q2m (by simp;omega);have g2:((U++(A1++C1'))++y::x::(C2++W)).getD (a+A1.length+C1'.length+1) .u=x:=qzg (by simp;omega);simp only[uH,uU,uW] at hA;rw[er,qg];refine⟨by simp only[gnZ,hrl,uH,uU,uW];(repeat' apply uD)<;>first|omega|trivial,?_⟩
      first
       |(rw[qg];refine⟨by simp only[gnZ];(repeat' apply uD)<;>first|omega|trivial,?_⟩)
       |skip
      simp only[gnZ,qc1,ej,ej0,g1,g2];rw[jv,if_pos rfl];refine⟨⟨C1',y::C2,by simp,?_⟩,?_⟩
      ·rw[z4u (by simp;omega) (by simp;omega)];simp;omega
      ·simp[D.int];omega
     ·simp only[gnZ] at hlt2;simp only[uH,uU,uW] at hlt2;omega
  ·-- both longer
   simp only[gnZ,q9e,decide_eq_false_iff_not] at hc2;obtain⟨mid,hmid⟩:∃mid,(a+b) / 2=mid:=⟨_,rfl⟩
   have key:∀{x1 x2:X}{body:Tree}(lo hi:Nat),x1.ev (evl (qf [(qz,gCw),(qq,z6b),(qk,q3l qxt N qqq)]) [.r l,.i a,.i m,.i b])=.i lo→x2.ev (evl (qf [(qz,gCw),(qq,z6b),(qk,q3l qxt N qqq)]) [.r l,.i a,.i m,.i b])=.i hi→lo≤hi→
     (∀s r:Nat,lo≤s→s≤r→r≤hi→(s=lo∨kyD (l.getD (s - 1) .u)≤kyD (l.getD (mid+m - s) .u))→(r=hi∨kyD (l.getD (mid+m - 1 - r) .u)<kyD (l.getD r .u))→body.go (qf [(qz,gCw),(qq,z6b),(qk,q3l qxt N qqq)]) (fun o=>o=[.r (U++(j8 kyD A B++W))]) [.r l,.i a,.i m,.i b,.i s,.i r] (jv (fun _ _=>False) 33 fun st'=>(∃s r:Nat,lo≤s∧s≤r∧r≤hi∧st'=[.i s,.i r]∧(s=lo∨kyD (l.getD (s - 1) .u)≤kyD (l.getD (mid+m - s) .u))∧(r=hi∨kyD (l.getD (mid+m - 1 - r) .u)<kyD (l.getD r .u)))∧(st'.getD 1 .u).int.toNat - (st'.getD 0 .u).int.toNat<r - s))→
     (Tree.loop 33 4 [x1,x2] body).go (qf [(qz,gCw),(qq,z6b),(qk,q3l qxt N qqq)]) (fun o=>o=[.r (U++(j8 kyD A B++W))]) [.r l,.i a,.i m,.i b] fun _ _=>False:=fun lo hi hx1 hx2 hlh hb=>by
    rw[zx];refine⟨fun st=>∃s r:Nat,lo≤s∧s≤r∧r≤hi∧st=[.i s,.i r]∧(s=lo∨kyD (l.getD (s - 1) .u)≤kyD (l.getD (mid+m - s) .u))∧(r=hi∨kyD (l.getD (mid+m - 1 - r) .u)<kyD (l.getD r .u)),fun st=>(st.getD 1 .u).int.toNat - (st.getD 0 .u).int.toNat,⟨lo,hi,kB _,hlh,kB _,by simp only[X.evs,hx1,hx2],.inl rfl,.inl rfl⟩,?_⟩;rintro st - ⟨s,r,g1,g2,g3,rfl,g4,g5⟩;exact hb s r g1 g2 g3 g4 g5
   rw[qg];refine⟨by simp only[gnZ,fnD,half];(repeat' apply uD)<;>first|omega|trivial|exact qjn (by omega) (by omega),?_⟩
   first
    |(rw[qg];refine⟨by simp only[gnZ,fnD,half];(repeat' apply uD)<;>first|omega|trivial|exact qjn (by omega) (by omega),?_⟩)
    |skip
   first
    |(rw[qg];refine⟨by simp only[gnZ,fnD,half];(repeat' apply uD)<;>first|omega|trivial|exact qjn (by omega) (by omega),?_⟩)
    |skip
   rw[z8];refine⟨fun hc3=>?ga,fun hc3=>?gb⟩
   all_goals simp only[gnZ,fnD,half,hmid] at hc3
   case' ga=>
    rw[qg];refine⟨by simp only[gnZ,fnD,half];(repeat' apply uD)<;>first|omega|trivial|exact qjn (by omega) (by omega),?_⟩;rw[qg];refine⟨by simp only[gnZ,fnD,half];(repeat' apply uD)<;>first|omega|trivial|exact qjn (by omega) (by omega),?_⟩;obtain⟨lo,hlo⟩:∃lo,mid+m - b=lo:=⟨_,rfl⟩;obtain⟨hi,hhi⟩:∃hi,mid=hi:=⟨_,rfl⟩;have hlh:lo≤hi∧a≤lo∧hi≤m∧hi≤mid∧mid+m≤lo+b∧(lo=a∨lo+b=mid+m)∧(hi=m∨hi=mid):=by omega
    refine key lo hi ?_ ?_ hlh.1 ?_
    ·simp only[gnZ,fnD,half,hmid];omega
    ·simp only[gnZ,fnD,half,hmid,hhi]
    clear hlo hhi key
   case' gb=>
    rw[qg];refine⟨by simp only[gnZ,fnD,half];(repeat' apply uD)<;>first|omega|trivial|exact qjn (by omega) (by omega),?_⟩;obtain⟨lo,hlo⟩:∃lo,a=lo:=⟨_,rfl⟩;obtain⟨hi,hhi⟩:∃hi,m=hi:=⟨_,rfl⟩;have hlh:lo≤hi∧a≤lo∧hi≤m∧hi≤mid∧mid+m≤lo+b∧(lo=a∨lo+b=mid+m)∧(hi=m∨hi=mid):=by omega
    refine key lo hi ?_ ?_ hlh.1 ?_
    ·simp only[gnZ,hlo]
    ·simp only[gnZ,hhi]
    clear hlo hhi key
   all_goals
    obtain⟨-,q1,q2,q3,q4,q5,q6⟩:=hlh;intro s r g1 g2 g3 g4 g5;rw[z8];refine⟨fun hlt=>?_,fun hlt=>?_⟩
    ·simp only[gnZ] at hlt;have ep:((mid:Int)+(m:Int) - 1 - (((s+r) / 2:Nat):Int)).toNat=mid+m - 1 - (s+r) / 2:=by omega
     rw[qg];refine⟨by simp only[gnZ,fnD,half];(repeat' apply uD)<;>first|omega|trivial|exact qjn (by omega) (by omega),?_⟩;rw[qg];refine⟨by simp only[gnZ,fnD,half,hmid,gCw,qc1,uO];(repeat' apply uD)<;>first|omega|trivial|exact qjn (by omega) (by omega),?_⟩;rw[z8];simp only[gnZ,fnD,half,hmid,gCw,qc1,uO,ep,qgh,kA,kS,gnD,decide_eq_false_iff_not];refine⟨fun hc4=>⟨by omega,?_⟩,fun hc4=>?_⟩
     ·rw[jv,if_pos rfl];refine⟨⟨(s+r) / 2+1,r,by omega,by omega,g3,by simp,.inr ?_,g5⟩,?_⟩
      ·rw[vK,show mid+m - ((s+r) / 2+1)=mid+m - 1 - (s+r) / 2 by omega];omega
      ·simp[D.int];omega
     ·rw[jv,if_pos rfl];refine⟨⟨s,(s+r) / 2,g1,by omega,by omega,by simp,g4,.inr hc4⟩,?_⟩;simp[D.int];omega
    ·simp only[gnZ] at hlt;obtain rfl:s=r:=by omega
     rw[qg];refine⟨by simp only[gnZ,fnD,half];(repeat' apply uD)<;>first|omega|trivial|exact qjn (by omega) (by omega),?_⟩;obtain⟨e,he⟩:∃e,mid+m - s=e:=⟨_,rfl⟩;have he1:m≤e∧e≤b∧e+s=mid+m∧a≤s∧s≤m∧mid<b∧a<mid:=by omega
     have ee:(mid:Int)+(m:Int) - (s:Int)=(e:Int):=by omega
     obtain⟨A1,A2,hA12,hA1⟩:∃A1 A2,A=A1++A2∧A1.length=s - a:=⟨A.take (s - a),A.drop (s - a),(uM _ _).symm,by rw[uC];omega⟩;obtain⟨B1,B2,hB12,hB1⟩:∃B1 B2,B=B1++B2∧B1.length=e - m:=⟨B.take (e - m),B.drop (e - m),(uM _ _).symm,by rw[uC];omega⟩;subst hA12 hB12;simp only[uH] at hA hB hlen;have hl1:l=U++(A1++(A2++(B1++(B2++W)))):=by rw[hlq];simp
     rw[zd5 (l:=l) (U:=U) (W:=W) (s:=s) (m:=m) (e:=e) hl1 (by omega) (by omega) (by omega) sA sB
      (by
       rcases g4 with g4|g4
       ·rcases q5 with q5|q5
        ·exact .inl (uA (by omega))
        ·exact .inr (.inl (uA (by omega)))
       ·rw[he] at g4;exact .inr (.inr g4))
      (by
       rcases g5 with g5|g5
       ·rcases q6 with q6|q6
        ·exact .inl (uA (by omega))
        ·exact .inr (.inl (uA (by omega)))
       ·rw[show mid+m - 1 - s=e - 1 by omega] at g5;exact .inr (.inr g5))]
     have sA1:=q8h.left sA;have sA2:=q8h.right sA;have sB1:=q8h.left sB;have sB2:=q8h.right sB;have hml:(j8 kyD A1 B1).length=A1.length+B1.length:=qtw _ _;have hR:s<m∧m<e→z6b [.r l,.i s,.i m,.i e]=some [.r (U++(A1++(B1++(A2++(B2++W)))))]:=fun h=>by
      simp only[z6b,uO];rw[if_pos (by omega),hl1,show U++(A1++(A2++(B1++(B2++W))))=(U++A1)++(A2++(B1++(B2++W))) by simp,zfa (by simp;omega) (by omega) (by omega)];simp
     have hRn:¬(s<m∧m<e)→l=U++(A1++(B1++(A2++(B2++W)))):=fun h=>by
      rw[hl1];by_cases hs:s<m
      ·obtain rfl:B1=[]:=uA (by omega);simp
      ·obtain rfl:A2=[]:=uA (by omega);simp
     have hM1:a<s∧s<mid→q3l qxt N qqq [.r (U++(A1++(B1++(A2++(B2++W))))),.i a,.i s,.i mid]=some [.r (U++(j8 kyD A1 B1++(A2++(B2++W))))]:=fun h=>by
      unfold q3l;rw[if_pos (by simp[qxt,D.int];omega)];exact qrw (by omega) (by omega) (by omega) (by omega) (by omega) (by simp;omega) sA1 sB1
     have hM1n:¬(a<s∧s<mid)→U++(A1++(B1++(A2++(B2++W))))=U++(j8 kyD A1 B1++(A2++(B2++W))):=fun h=>by
      by_cases hs:a<s
      ·obtain rfl:B1=[]:=uA (by omega);rw[q9c];simp
      ·obtain rfl:A1=[]:=uA (by omega);rw[q66];simp
     have hM2:mid<e∧e<b→q3l qxt N qqq [.r (U++(j8 kyD A1 B1++(A2++(B2++W)))),.i mid,.i e,.i b]=some [.r (U++(j8 kyD A1 B1++j8 kyD A2 B2++W))]:=fun h=>by
      unfold q3l;rw[if_pos (by simp[qxt,D.int];omega),show U++(j8 kyD A1 B1++(A2++(B2++W)))=(U++j8 kyD A1 B1)++(A2++(B2++W)) by simp];rw[qrw (by simp;omega) (by simp;omega) (by simp;omega) (by omega) (by omega) (by simp;omega) sA2 sB2];simp
     have hM2n:¬(mid<e∧e<b)→U++(j8 kyD A1 B1++(A2++(B2++W)))=U++(j8 kyD A1 B1++j8 kyD A2 B2++W):=fun h=>by
      by_cases hs:mid<e
      ·obtain rfl:B2=[]:=uA (by omega);rw[q9c];simp
      ·obtain rfl:A2=[]:=uA (by omega);rw[q66];simp
     rw[z8];refine⟨fun k0=>?_,fun k0=>?_⟩
     ·simp only[gnZ,fnD,half,hmid,ee,gnB,uF,gnD,decide_eq_false_iff_not] at k0;have R:=hR (by omega);rw[qg];refine⟨by simp only[gnZ,fnD,half,hmid,ee,R],?_⟩;rw[z8];refine⟨fun k1=>?_,fun k1=>?_⟩
      ·simp only[gnZ,fnD,half,hmid,ee,gnB,uF,gnD,decide_eq_false_iff_not] at k1;have M1:=hM1 (by omega);rw[qg];refine⟨by simp only[gnZ,fnD,half,hmid,ee,R,M1],?_⟩;rw[z8];refine⟨fun k2=>?_,fun k2=>?_⟩
       ·simp only[gnZ,fnD,half,hmid,ee,gnB,uF,gnD,decide_eq_false_iff_not] at k2;have M2:=hM2 (by omega);rw[qg];refine⟨by simp only[gnZ,fnD,half,hmid,ee,R,M1,M2],?_⟩;simp only[gnZ,fnD,half,hmid,ee,R,M1,M2]
       ·simp only[gnZ,fnD,half,hmid,ee,gnB,uF,gnD,decide_eq_false_iff_not] at k2;have M2:=hM2n (by omega);rw[M2] at M1;simp only[gnZ,fnD,half,hmid,ee,R,M1]
      ·simp only[gnZ,fnD,half,hmid,ee,gnB,uF,gnD,decide_eq_false_iff_not] at k1;have M1:=hM1n (by omega);rw[M1] at R;rw[z8];refine⟨fun k2=>?_,fun k2=>?_⟩
       ·simp only[gnZ,fnD,half,hmid,ee,gnB,uF,gnD,decide_eq_false_iff_not] at k2;have M2:=hM2 (by omega);rw[qg];refine⟨by simp only[gnZ,fnD,half,hmid,ee,R,M2],?_⟩;simp only[gnZ,fnD,half,hmid,ee,R,M2]
       ·simp only[gnZ,fnD,half,hmid,ee,gnB,uF,gnD,decide_eq_false_iff_not] at k2;have M2:=hM2n (by omega);rw[M2] at R;simp only[gnZ,fnD,half,hmid,ee,R]
     ·simp only[gnZ,fnD,half,hmid,ee,gnB,uF,gnD,decide_eq_false_iff_not] at k0;have R:=hRn (by omega);rw[R];rw[z8];refine⟨fun k1=>?_,fun k1=>?_⟩
      ·simp only[gnZ,fnD,half,hmid,ee,gnB,uF,gnD,decide_eq_false_iff_not] at k1;have M1:=hM1 (by omega);rw[qg];refine⟨by simp only[gnZ,fnD,half,hmid,ee,M1],?_⟩;rw[z8];refine⟨fun k2=>?_,fun k2=>?_⟩
       ·simp only[gnZ,fnD,half,hmid,ee,gnB,uF,gnD,decide_eq_false_iff_not] at k2;have M2:=hM2 (by omega);rw[qg];refine⟨by simp only[gnZ,fnD,half,hmid,ee,M1,M2],?_⟩;simp only[gnZ,fnD,half,hmid,ee,M1,M2]
       ·simp only[gnZ,fnD,half,hmid,ee,gnB,uF,gnD,decide_eq_false_iff_not] at k2;have M2:=hM2n (by omega);rw[M2] at M1;simp only[gnZ,fnD,half,hmid,ee,M1]
      ·simp only[gnZ,fnD,half,hmid,ee,gnB,uF,gnD,decide_eq_false_iff_not] at k1;have M1:=hM1n (by omega);rw[M1];rw[z8];refine⟨fun k2=>?_,fun k2=>?_⟩
       ·simp only[gnZ,fnD,half,hmid,ee,gnB,uF,gnD,decide_eq_false_iff_not] at k2;have M2:=hM2 (by omega);rw[qg];refine⟨by simp only[gnZ,fnD,half,hmid,ee,M2],?_⟩;simp only[gnZ,fnD,half,hmid,ee,M2]
       ·simp only[gnZ,fnD,half,hmid,ee,gnB,uF,gnD,decide_eq_false_iff_not] at k2;have M2:=hM2n (by omega);rw[M2];simp only[gnZ,fnD,half,hmid,ee]
section
section
variable{α:Type}{ky:α→Int}
theorem zp1{t k:Nat}:chK ky t k ([]:List α)=[]:=uA (by rw[q3n];rfl)
theorem qh8:∀(j:Nat){T k:Nat}{l:List α},j≤T→(chK ky T k l).drop (j * k)=chK ky (T - j) k (l.drop (j * k))
 |0,T,k,l,_=>by simp
 |j+1,0,k,l,h=>by omega
 | j + 1, T + 1, k, l, h => by
  have e2:(j+1) * k=k+j * k:=by rw[kC];omega
  have e0:chK ky (T+1) k l=jh ky (l.take k)++chK ky T k (l.drop k):=rfl;by_cases hk:l.length≤k
  ·rw[uG (by rw[q3n];omega),uG (show l.length≤(j+1) * k by omega),zp1]
  ·have e:(jh ky (l.take k)).length=k:=by rw[j6,uC];omega
   have e3:(chK ky (T+1) k l).drop k=chK ky T k (l.drop k):=by
    rw[e0]
    conv=>lhs;arg 1;rw[←e]
    exact uZ
   rw[e2,←uT,←uT,e3,qh8 j (by omega)]
   congr 1
   omega
def upS(ky:α→Int)(T k:Nat)(l:List α)(s:Nat):List α:=(chK ky s (2 * k) l).take (s * (2 * k))++(chK ky T k l).drop (s * (2 * k))
theorem zlm{T k:Nat}{l:List α}:upS ky T k l 0=chK ky T k l:=by simp[upS]
theorem zgx{T k s:Nat}{l:List α}(h:2 * s+2≤T)(hm:k<(l.drop (s * (2 * k))).length):upS ky T k l s=(chK ky s (2 * k) l).take (s * (2 * k))++(jh ky ((l.drop (s * (2 * k))).take k)++(jh ky (((l.drop (s * (2 * k))).drop k).take k)++chK ky (T - 2 * s - 2) k ((l.drop (s * (2 * k))).drop (2 * k)))):=by
 unfold upS
 congr 1
 rw[show s * (2 * k)=(2 * s) * k by rw[kM 2 s,kL],qh8 (2 * s) (by omega)];rw[show T - 2 * s=(T - 2 * s - 2)+1+1 by omega];generalize l.drop (2 * s * k)=m at *;rw[chK,chK,uT,show k+k=2 * k by omega];simp
theorem z51{k:Nat}{m:List α}:j8 ky (jh ky (m.take k)) (jh ky ((m.drop k).take k))=jh ky (m.take (2 * k)):=by
 rw[←zdj,show 2 * k=k+k by omega,List.take_add]
theorem zah{T k s:Nat}{l:List α}(h:2 * s+2≤T):(chK ky s (2 * k) l).take (s * (2 * k))++(jh ky ((l.drop (s * (2 * k))).take (2 * k))++chK ky (T - 2 * s - 2) k ((l.drop (s * (2 * k))).drop (2 * k)))=upS ky T k l (s+1):=by
 have e2:(s+1) * (2 * k)=s * (2 * k)+2 * k:=by rw[kC];omega
 have e3:(s+1) * (2 * k)=(2 * s+2) * k:=by rw[kM 2 k,←kL,kM _ 2,←kL];congr 1
 have eb:(chK ky T k l).drop ((s+1) * (2 * k))=chK ky (T - 2 * s - 2) k ((l.drop (s * (2 * k))).drop (2 * k)):=by
  rw[e3,qh8 (2 * s+2) h,←e3,e2,←uT,Nat.sub_sub]
 have ea:(chK ky (s+1) (2 * k) l).take ((s+1) * (2 * k))=(chK ky s (2 * k) l).take (s * (2 * k))++jh ky ((l.drop (s * (2 * k))).take (2 * k)):=by
  rw[ql7,←kG];by_cases hl:s * (2 * k)+2 * k≤l.length
  ·exact List.take_left' (by rw[uH,uC,q3n,j6,uC,uI,e2];omega)
  ·have z:(l.drop (s * (2 * k))).drop (2 * k)=[]:=uG (by rw[uI];omega);rw[z,kD];exact uK (by rw[uH,uC,q3n,j6,uC,uI,e2];omega)
 rw[upS,ea,eb,kG]
theorem zsr{T k s:Nat}{l:List α}(h:l.length≤(s+1) * (2 * k)):upS ky T k l (s+1)=chK ky (s+1) (2 * k) l:=by
 rw[upS,uK (by rw[q3n];exact h),uG (by rw[q3n];exact h),kD]
theorem zta{T k s:Nat}{l:List α}(hT:l.length≤T * k)(hk:0<k)(h1:s * (2 * k)≤l.length)(h:l.length≤s * (2 * k)+k):upS ky T k l s=chK ky (s+1) (2 * k) l:=by
 have e4:s * (2 * k)=(2 * s) * k:=by rw[kM 2 s,kL]
 have hs:2 * s≤T∧(2 * s<T∨l.length=s * (2 * k)):=by
  rw[e4] at h1;have h2:(2 * s) * k≤T * k:=vG h1 hT;have h3:=Nat.le_of_mul_le_mul_right h2 hk;refine⟨h3,?_⟩;rcases Nat.lt_or_eq_of_le h3 with h4|h4
  ·exact .inl h4
  ·right;rw[←h4] at hT;rw[e4];exact Nat.le_antisymm hT h1
 rw[upS,ql7]
 congr 1
 conv=>lhs;rw[e4,qh8 (2 * s) hs.1,←e4]
 have hml:(l.drop (s * (2 * k))).length≤k:=by rw[uI];omega
 have z1:(l.drop (s * (2 * k))).take (2 * k)=l.drop (s * (2 * k)):=uK (by omega);have z2:(l.drop (s * (2 * k))).drop (2 * k)=[]:=uG (by omega);rw[zca hml (hs.2.imp (fun h=>by omega) fun h=>uA (by rw[uI];omega)),z1,z2,kD]
end
theorem zap{t:Nat}{k:Nat}{l:List D}{a b:Int}(ha:a=(t * k:Nat))(hb:b=(t * k+k:Nat)∧t * k+k≤l.length∨b=l.length∧t * k≤l.length∧l.length≤t * k+k)(hl:l.length≤1000000):ze8 [.r (chK kyD t k l),.i a,.i b]=some [.r (chK kyD (t+1) k l)]:=by
 have hab:0≤a∧a≤b∧b≤l.length:=by omega
 have ea:a.toNat=t * k:=by omega
 simp only[ze8];rw[q3n,if_pos ⟨hab.1,hab.2.1,hab.2.2,hl⟩,ea,qum,ql7]
 congr 4
 rcases hb with⟨hb,h⟩|⟨hb,h,h'⟩
 ·have eb:b.toNat=t * k+k:=by omega
  rw[eb,kF,←uT,qum]
 ·have eb:b.toNat=l.length:=by omega
  have z1:(l.drop (t * k)).take (l.length - t * k)=l.drop (t * k):=uK (by rw[uI];omega);have z2:(l.drop (t * k)).take k=l.drop (t * k):=uK (by rw[uI];omega);have z3:(chK kyD t k l).drop l.length=[]:=uG (by rw[q3n];exact kB _);have z4:(l.drop (t * k)).drop k=[]:=uG (by rw[uI];omega);rw[eb,z1,z2,z3,z4]
def zl8:List D→Option (List D)
 |[.r l,.i n]=>if n=l.length∧l.length≤1000 then some [.r (jh kyD l)] else none
 |_=>none
set_option maxHeartbeats 1000000 in
theorem zsf:FOk zj zl8:=q8v q5o zl1 zo1 fun ds outs hw hg=>by
 obtain⟨d,r,rfl,hd,e,r1,rfl,he,rfl⟩:=hw;obtain⟨l,te,rfl,-,hl,-⟩:=hd.row;obtain⟨n,rfl,hn⟩:=wfI he;simp only[zl8,uL,uQ] at hg;obtain⟨⟨rfl,h3⟩,rfl⟩:=hg;rw[q0y,zx];refine⟨fun st=>∃t:Nat,t * 20≤l.length∧st=[.i ((t * 20:Nat):Int),.i ((t * 20+20:Nat):Int),.r (chK kyD t 20 l)],fun st=>l.length+20 - (st.getD 1 .u).int.toNat,⟨0,by omega,rfl⟩,?_⟩;rintro st - ⟨t,ht,rfl⟩;rw[z8];refine⟨fun hlt=>?_,fun hlt=>?_⟩
 ·simp only[gnZ] at hlt;have hI:ze8 [.r (chK kyD t 20 l),.i ((t * 20:Nat):Int),.i ((t * 20+20:Nat):Int)]=some [.r (chK kyD (t+1) 20 l)]:=zap rfl (.inl ⟨rfl,by omega⟩) (by omega);rw[qg];refine⟨by simp only[gnZ,hI],?_⟩;rw[qg];refine⟨by simp only[gnZ];(repeat' apply uD)<;>first|omega|trivial,?_⟩;simp only[gnZ,hI];rw[jv,if_pos rfl];refine⟨⟨t+1,by omega,?_⟩,?_⟩
  ·simp only[kO,q9e,and_true];omega
  ·simp[D.int];omega
 ·simp only[gnZ] at hlt;have hI:ze8 [.r (chK kyD t 20 l),.i ((t * 20:Nat):Int),.i l.length]=some [.r (chK kyD (t+1) 20 l)]:=zap rfl (.inr ⟨rfl,ht,by omega⟩) (by omega);rw[qg];refine⟨by simp only[gnZ,hI],?_⟩;rw[zx];refine⟨fun st=>∃(x y:Int)(T k:Nat),0<k∧0<T∧l.length≤T * k∧st=[.i x,.i y,.i k,.r (chK kyD T k l)],fun st=>l.length - (st.getD 2 .u).int.toNat,⟨(t * 20:Nat),(t * 20+20:Nat),t+1,20,by omega,by omega,by omega,by simp only[gnZ,hI];rfl⟩,?_⟩;rintro st - ⟨x,y,T,k,hk,hT,hTk,rfl⟩;rw[z8];refine⟨fun hlt2=>?_,fun hlt2=>?_⟩
  ·simp only[gnZ] at hlt2;have hkn:k<l.length:=by omega
   rw[qg];refine⟨by simp only[gnZ];(repeat' apply uD)<;>first|omega|trivial,?_⟩;rw[zx];refine⟨fun st=>∃s:Nat,s * (2 * k)≤l.length∧st=[.i ((s * (2 * k):Nat):Int),.i ((s * (2 * k)+2 * k:Nat):Int),.r (upS kyD T k l s)],fun st=>l.length+2 * k - (st.getD 1 .u).int.toNat,⟨0,by omega,?_⟩,?_⟩
   ·simp only[gnZ,zlm];simp
   rintro st - ⟨s,hs,rfl⟩;obtain⟨p,hp⟩:∃p,s * (2 * k)=p:=⟨_,rfl⟩;have hp2:(2 * s) * k=p:=by rw[←hp,kM 2 s,kL]
   have hml:(l.drop (s * (2 * k))).length=l.length - p:=by rw[uI,hp]
   have hTs:p+k<l.length→2 * s+2≤T:=fun h=>by
    have h1:(2 * s+1) * k<T * k:=by rw[kC];omega
    have:=Nat.lt_of_mul_lt_mul_right h1;omega
   have hP:((chK kyD s (2 * k) l).take (s * (2 * k))).length=p:=by rw[uC,q3n,hp];omega
   rw[z8];refine⟨fun hlt3=>?_,fun hlt3=>?_⟩
   ·simp only[gnZ,hp] at hlt3;have h2:=hTs (by omega);have hS:qqq [.r (upS kyD T k l s),.i p,.i ((p:Int)+(k:Int)),.i ((p+2 * k:Nat):Int)]=some [.r (upS kyD T k l (s+1))]:=by
     have e:((l.drop (s * (2 * k))).take k).length=k:=by rw[uC,hml];omega
     have e':(((l.drop (s * (2 * k))).drop k).take k).length=k:=by rw[uC,uI,hml];omega
     rw[zgx h2 (by rw[hml];omega),qrw (by rw[hP]) (by rw[hP,j6,e]) (by rw[hP,j6,j6,e,e'];omega) (by rw[j6,e];exact hk) (by rw[j6,e'];exact hk) (by rw[hP,j6,j6,e,e',q3n,uI,hml];omega) (qd4 _) (qd4 _),z51,zah h2]
    rw[qg];refine⟨by simp only[gnZ,hp,hS];(repeat' apply uD)<;>first|omega|trivial,?_⟩;rw[qg];refine⟨by simp only[gnZ,hp,hS];(repeat' apply uD)<;>first|omega|trivial,?_⟩;simp only[gnZ,hp,hS];rw[jv,if_pos rfl];have e2:(s+1) * (2 * k)=p+2 * k:=by rw[kC,hp];omega
    refine⟨⟨s+1,by rw[e2];omega,?_⟩,?_⟩
    ·rw[e2];have z:((p+2 * k:Nat):Int)+2 * (k:Int)=((p+2 * k+2 * k:Nat):Int):=by omega
     rw[z]
    ·simp[D.int,hp];omega
   ·simp only[gnZ,hp] at hlt3;have e2:(s+1) * (2 * k)=p+2 * k:=by rw[kC,hp];omega
    rw[qg];refine⟨by simp only[gnZ,hp];(repeat' apply uD)<;>first|omega|trivial,?_⟩;rw[z8];refine⟨fun hlt4=>?_,fun hlt4=>?_⟩
    ·simp only[gnZ,hp] at hlt4;have h2:=hTs (by omega);have hS:qqq [.r (upS kyD T k l s),.i p,.i ((p:Int)+(k:Int)),.i l.length]=some [.r (chK kyD (s+1) (2 * k) l)]:=by
      have e:((l.drop (s * (2 * k))).take k).length=k:=by rw[uC,hml];omega
      have e':(((l.drop (s * (2 * k))).drop k).take k).length=l.length - p - k:=by rw[uC,uI,hml];omega
      rw[zgx h2 (by rw[hml];omega),qrw (by rw[hP]) (by rw[hP,j6,e]) (by rw[hP,j6,j6,e,e'];omega) (by rw[j6,e];exact hk) (by rw[j6,e'];omega) (by rw[hP,j6,j6,e,e',q3n,uI,hml];omega) (qd4 _) (qd4 _),z51,zah h2,zsr (by rw[e2];omega)]
     rw[qg];refine⟨by simp only[gnZ,hp,hS],?_⟩;rw[qg];refine⟨by simp only[gnZ,hp];(repeat' apply uD)<;>first|omega|trivial,?_⟩;simp only[gnZ,hp,hS];rw[jv,if_neg (by decide),jv,if_pos rfl];refine⟨⟨(p:Nat),(p+2 * k:Nat),s+1,2 * k,by omega,by omega,by rw[e2];omega,?_⟩,?_⟩
     ·rw[show((k:Int) * 2)=((2 * k:Nat):Int) by omega]
     ·simp[D.int];omega
    ·simp only[gnZ,hp] at hlt4;have h1:=zta (ky:=kyD) hTk hk hs (by rw[hp];omega);rw[qg];refine⟨by simp only[gnZ,hp];(repeat' apply uD)<;>first|omega|trivial,?_⟩;simp only[gnZ,hp,h1];rw[jv,if_neg (by decide),jv,if_pos rfl];refine⟨⟨(p:Nat),(p+2 * k:Nat),s+1,2 * k,by omega,by omega,by rw[e2];omega,?_⟩,?_⟩
     ·rw[show((k:Int) * 2)=((2 * k:Nat):Int) by omega]
     ·simp[D.int];omega
  ·simp only[gnZ] at hlt2;simp only[gnZ];rw[zca (by omega) (.inl hT)]
def zfw:List D→Option (List D)
 |[.r l]=>if l.length≤1000 then some [.r (jh kyD l)] else none
 |_=>none
theorem zt8:FOk yh zfw:=q86 q5o zsf fun ds outs hw hg=>by
 obtain⟨d,r,rfl,hd,rfl⟩:=hw;obtain⟨l,te,rfl,-,hl,-⟩:=hd.row;simp only[zfw,uL,uQ] at hg;obtain⟨h3,rfl⟩:=hg;have hS:zl8 [.r l,.i l.length]=some [.r (jh kyD l)]:=by
  simp only[zl8];rw[if_pos (by simpa using h3)]
 simp only[q0t,gnZ,hS,and_self]
end
variable{V:List Int}
section
mutual
/-- Variables renumbered. -/
def zce(f:Int→Int):Te→Te
 |.mk k n s l=>.mk k (if k=0 then f n else n) s (qp6 f l)
def qp6(f:Int→Int):List Te→List Te
 |[]=>[]
 |t::l=>zce f t::qp6 f l
end
mutual
/-- The variables in the order of their first occurrence, behind those given. -/
def q78(vs:List Int):Te→List Int
 |.mk k n s l=>q3w (if k=0∧n∉vs then vs++[n] else vs) l
def q3w(vs:List Int):List Te→List Int
 |[]=>vs
 |t::l=>q3w (q78 vs t) l
end
mutual
def inV(V:List Int):Te→Prop
 |.mk k n s l=>(k=0→n∈V)∧qi7 V l
def qi7(V:List Int):List Te→Prop
 |[]=>True
 |t::l=>inV V t∧qi7 V l
end
section
variable{f g:Int→Int}
theorem zd9:∀l,qp6 f l=l.map (zce f)
 |[]=>rfl
 |t::l=>by rw[qp6,zd9 l];rfl
theorem z56:∀(l:List Te)(vs:List Int),q3w vs l=l.foldl q78 vs
 |[],_=>rfl
 |t::l,vs=>by rw[q3w,z56 l];rfl
theorem z4w:∀{l:List Te},qi7 V l↔∀t∈l,inV V t
 |[]=>by simp[qi7]
 |t::l=>by rw[qi7,z4w];simp
mutual
theorem z8q(h:∀x∈V,f x=g x):∀t,inV V t→zce f t=zce g t
 |.mk k n s l,hi=>by
  rw[zce,zce,qoq h l hi.2];by_cases hk:k=0
  ·rw[if_pos hk,if_pos hk,h n (hi.1 hk)]
  ·rw[if_neg hk,if_neg hk]
theorem qoq(h:∀x∈V,f x=g x):∀l,qi7 V l→qp6 f l=qp6 g l
 |[],_=>rfl
 |t::l,hi=>by rw[qp6,qp6,z8q h t hi.1,qoq h l hi.2]
end
mutual
theorem z6f{W:List Int}(h:∀x∈V,x∈W):∀t,inV V t→inV W t
 |.mk k n s l,hi=>⟨fun hk=>h n (hi.1 hk),qzb h l hi.2⟩
theorem qzb{W:List Int}(h:∀x∈V,x∈W):∀l,qi7 V l→qi7 W l
 |[],_=>trivial
 |t::l,hi=>⟨z6f h t hi.1,qzb h l hi.2⟩
end
mutual
theorem zcq:∀(t:Te)(vs:List Int),∃m,q78 vs t=vs++m
 |.mk k n s l,vs=>by
  rw[q78];obtain⟨m,hm⟩:=qj9 l (if k=0∧n∉vs then vs++[n] else vs);rw[hm];split
  ·exact⟨[n]++m,by simp⟩
  ·exact⟨m,rfl⟩
theorem qj9:∀(l:List Te)(vs:List Int),∃m,q3w vs l=vs++m
 |[],vs=>⟨[],by simp[q3w]⟩
 |t::l,vs=>by
  rw[q3w];obtain⟨m,hm⟩:=zcq t vs;obtain⟨m',hm'⟩:=qj9 l (q78 vs t);exact⟨m++m',by rw[hm',hm];simp⟩
end
theorem qux{t:List Te}{vs:List Int}{x:Int}(h:x∈vs):x∈q3w vs t:=by
 obtain⟨m,hm⟩:=qj9 t vs;rw[hm];exact List.mem_append_left _ h
mutual
theorem qw1:∀(t:Te)(vs:List Int),inV (q78 vs t) t
 | .mk k n s l, vs => by
  rw[q78];refine⟨fun hk=>qux ?_,z02 l _⟩;split
  ·simp
  ·rename_i h;exact Classical.byContradiction fun hn=>h ⟨hk,hn⟩
theorem z02:∀(l:List Te)(vs:List Int),qi7 (q3w vs l) l
 |[],vs=>trivial
 |t::l,vs=>by
  rw[q3w];exact⟨z6f (fun x hx=>qux hx) t (qw1 t vs),z02 l _⟩
end
end
end
theorem qr4(vs:List Int)(t:Te):q78 vs t=q3w (if t.k=0∧t.n∉vs then vs++[t.n] else vs) t.l:=by cases t;rfl
theorem znu{l:List Te}{k:Nat}(hk:k<l.length):q04 (l.take k)+szT (l.getD k default)≤q04 l:=by
 have h2:=qh9 hk;have:=qg9 (l.take (k+1)) (l.drop (k+1));rw[uM] at this;omega
def qg3(t:Te):Te:=if yj t then t else zT
theorem qfv:FOk yk (gTT qg3):=qcp
def q8x(s:ByteArray)(l:List Te):Te:=if l.length=0 then q39 s else qg3 (.mk 3 0 s l)
def gSL(f:ByteArray→List Te→Te):List D→Option (List D)
 |[s,l]=>some [eT (f s.str (l.rs.map dT))]
 |_=>none
theorem zs6(l:List Te):(l.map eT).map dT=l:=by
 rw[List.map_map];have:dT ∘ eT=id:=funext jz;rw[this,List.map_id]
theorem q4j:FOk yx (gSL q8x):=qph q2z qfv fun ds outs hw hg=>by
 obtain⟨d,r,rfl,hd,e,r',rfl,he,rfl⟩:=hw;obtain⟨s,rfl,hs⟩:=hd.str;obtain⟨l,rfl,hl,-⟩:=zuw he;simp only[gSL,q7o,q7i,zs6,uQ] at hg;subst hg;have e:D.a (((D.a [.i 0,.i 0,.s ⟨#[]⟩,.r []]).fs.set 0 (.i 3)).set 2 (.s s)|>.set 3 (.r (l.map eT)))=eT (.mk 3 0 s l):=by rw[qka];rfl
 have e2:D.a (((eT zT).fs.set 0 (.i 3)).set 2 (.s s)|>.set 3 (.r (l.map eT)))=eT (.mk 3 0 s l):=e;simp only[q8e,gnZ,gnT,gSt,gTT,zvl,q8x,e,e2];refine⟨fun h=>?_,fun h=>?_⟩
 ·rw[if_pos (by omega)]
 ·rw[if_neg (by omega)]
def liT:List Te→Te→Te
 |[],t=>t
 |x::l,t=>.mk 3 0 ⟨#[46]⟩ [x,liT l t]
def dRT(d:D):List Te:=d.rs.map dT
def zme:List D→Option (List D)
 |[l,t]=>if yj (dT t)&&(j7 (dRT l)&&decide (szT (dT t)+q04 (dRT l)+(dRT l).length≤2000)) then some [eT (liT (dRT l) (dT t))] else none
 |_=>none
theorem zm4{l:List Te}{k:Nat}(h:k<l.length):l.drop k=l.getD k default::l.drop (k+1):=by
 rw[vB h];simp[gnG,gnK h]
theorem z2e:FOk q18 zme:=qik q8m qdk qe4 qcp fun ds outs hw hg=>by
 obtain⟨d,r,rfl,hd,e,r',rfl,he,rfl⟩:=hw;obtain⟨l,rfl,hl,hlo⟩:=zuw hd;obtain⟨t,rfl,ht⟩:=wfT he;simp only[zme,dRT,q7i,map_id' jz,jz,uL,uQ,gnB,gnD] at hg;obtain⟨⟨hvt,hno,hsz⟩,rfl⟩:=hg;have hlen:l.length≤2000:=by omega
 have hn:∀x∈l,z6 x=true:=q8y.1 hno;have hvx:∀k,k<l.length→yj (l.getD k default)=true:=fun k hk=>by
  simp only[yj,gnB,gnD];have:=qsd (q1y hk);exact⟨by omega,hn _ (q1y hk)⟩
 have hszt:min (szT t:Int) 2001=szT t:=by omega
 have q1:gTb yj [eT t]=some [.b true]:=by simp only[gTb,jz,hvt]
 have q2:gTi (fun t=>min (szT t:Int) 2001) [eT t]=some [.i (szT t:Nat)]:=by simp only[gTi,jz,hszt]
 have q3:gTT (fun t=>if yj t then t else zT) [eT t]=some [eT t]:=by simp only[gTT,jz,hvt,if_true]
 have d1:decide (2000<(l.length:Int))=false:=decide_eq_false (by omega);rw[q75,qg];refine⟨by simp only[gnZ,gnT,q1,d1],?_⟩;rw[z8];refine⟨fun hb=>absurd hb (by simp only[gnZ,gnT,q1,d1];decide),fun _=>?_⟩;rw[qg];refine⟨by simp only[gnZ,gnT,q2],?_⟩;rw[zx];refine⟨fun st=>∃k:Nat,k≤l.length∧st=[.i ((szT t+(q04 (l.take k)+k):Nat):Int),.i k,eT zT],fun st=>l.length - (st.getD 1 .u).int.toNat,⟨0,kV _,by simp[X.evs,X.ev,evl,qf,q2,q04];rfl⟩,?_⟩;rintro st - ⟨k,hk,rfl⟩;rw[z8];refine⟨fun hlt=>?_,fun hlt=>?_⟩
 ·have hkl:k<l.length:=by
   simp only[gnZ,gnT] at hlt;omega
  have h1:=qh9 hkl;have h2:=znu hkl;have p2:gTi (fun t=>min (szT t:Int) 2001) [eT (l.getD k default)]=some [.i (szT (l.getD k default):Nat)]:=by
   simp only[gTi,jz];rw[show min (szT (l.getD k default):Int) 2001=szT (l.getD k default) by omega]
  have p4:gTb z6 [eT (l.getD k default)]=some [.b true]:=by simp only[gTb,jz,hn _ (q1y hkl)]
  have d2:decide (2000<(((szT t+(q04 (l.take k)+k):Nat):Int)+(1+((szT (l.getD k default):Nat):Int))))=false:=decide_eq_false (by omega);rw[qg];have hi:(0:Int)≤k∧(k:Int)<l.length:=⟨by omega,by omega⟩;refine⟨by simp only[gnZ,gnT,qbo hkl,p2,p4,d2,hi.1,hi.2]<;>(and_intros<;>first|omega|rfl),?_⟩
  repeat' (rw[qg];refine⟨by simp only[gnZ,gnT,qbo hkl,p2,p4,d2,hi.1,hi.2]<;>(and_intros<;>first|omega|rfl),?_⟩)
  rw[z8];refine⟨fun hb=>absurd hb (by simp only[gnZ,gnT,qbo hkl,p2,p4,d2];decide),fun _=>?_⟩;simp only[gnZ,gnT,qbo hkl,p2];refine⟨⟨by omega,by omega⟩,?_⟩;rw[jv,if_pos rfl];refine⟨⟨k+1,by omega,?_⟩,by simp[D.int];omega⟩;rw[h1]
  congr 2
  push_cast
  omega
 ·have hkl:k=l.length:=by
   simp only[gnZ,gnT] at hlt;omega
  subst hkl;rw[qg];refine⟨by simp only[gnZ,gnT,q3],?_⟩;rw[qg];refine⟨by simp only[gnZ,gnT];omega,?_⟩;rw[zx];refine⟨fun st=>∃m:Nat,m≤l.length∧st=[.i ((m:Int) - 1),eT (liT (l.drop m) t)],fun st=>((st.getD 0 .u).int+1).toNat,⟨l.length,kB _,by simp[X.evs,X.ev,evl,qf,q3,liT,j4,q7i]⟩,?_⟩;rintro st - ⟨m,hm,rfl⟩;rw[z8];refine⟨fun hlt=>?_,fun hlt=>?_⟩
  ·simp only[gnZ,gnT] at hlt;obtain⟨k,rfl⟩:∃k,m=k+1:=⟨m - 1,by omega⟩;have hkl:k<l.length:=by omega
   have p3:gTT (fun t=>if yj t then t else zT) [eT (l.getD k default)]=some [eT (l.getD k default)]:=by simp only[gTT,jz,hvx k hkl,if_true]
   have ek:((k+1:Nat):Int) - 1=(k:Int):=by omega
   rw[ek];simp only[gnZ,gnT,qbo hkl,p3];refine⟨⟨by omega,by omega⟩,⟨by omega,by omega⟩,?_⟩;rw[jv,if_pos rfl];refine⟨⟨k,by omega,?_⟩,by simp[D.int]⟩;rw[zm4 hkl,liT,qka];rfl
  ·simp only[gnZ,gnT] at hlt⊢;obtain rfl:m=0:=by omega
   rfl
def zj0:List D→Option (List D)
 |[n]=>some [.b (decide (0≤n.int)&&decide (n.int≤1099511627776))]
 |_=>none
theorem qt3:FOk q1q zj0:=qqi fun ds outs hw hg=>by
 obtain⟨d,r,rfl,hd,rfl⟩:=hw;obtain⟨n,rfl,hn⟩:=wfI hd;simp only[zj0,j4,uQ] at hg;subst hg;simp only[q7y,gnZ]
 congr 2
def vaT(n:Int):Te:=if 0≤n∧n≤1099511627776 then .mk 0 n ⟨#[]⟩ [] else zT
def zhb:List D→Option (List D)
 |[n]=>some [eT (vaT n.int)]
 |_=>none
theorem qgx:FOk q26 zhb:=z1i qt3 fun ds outs hw hg=>by
 obtain⟨d,r,rfl,hd,rfl⟩:=hw;obtain⟨n,rfl,hn⟩:=wfI hd;simp only[zhb,j4,uQ] at hg;subst hg;have e1:D.a ((D.a [.i 0,.i 0,.s ⟨#[]⟩,.r []]).fs.set 1 (.i n))=eT (.mk 0 n ⟨#[]⟩ []):=by rw[qka];rfl
 simp only[qcl,gnZ,gnT,zj0,vaT];by_cases h:0≤n∧n≤1099511627776
 ·simp[h];rw[qka];rfl
 ·have h':¬(0≤n)∨¬(n≤1099511627776):=by omega
  rw[if_neg h];rcases h' with h'|h'<;>simp[h']<;>rfl
def itA(i:Nat)(a:At):Te:=q8x ⟨#[45]⟩ [q39 a.name,vaT i]
def qh0(l:List At):List Te:=l.mapIdx itA
def vsA(l:List At):List Vc:=l.mapIdx fun i a=>⟨i,a.val⟩
def qq4:Te:=.mk 2 0 ⟨#[91,93]⟩ []
def zcc:List D→Option (List D)
 |[s,l]=>if(dAs l).length≤499 then(qoy [s,eT (liT (qh0 (dAs l)) qq4),.r ((vsA (dAs l)).map eV)]).map fun r=>[r.getD 0 .u,r.getD 2 .u,r.getD 3 .u] else none
 |_=>none
theorem z4k{α β:Type}[Inhabited α](f:Nat→α→β){l:List α}{k:Nat}(h:k<l.length):(l.mapIdx f).take (k+1)=(l.mapIdx f).take k++[f k (l.getD k default)]:=by
 rw[List.take_add_one];simp[gnK,h,gnG]
theorem zjh(nm:ByteArray):z6 (q39 nm)=true∧szT (q39 nm)=1:=by
 unfold q39;split
 ·rename_i h;have h':(nm.size:Int)≤100:=by omega
  exact⟨by simp[z6,j7,q3q,Te.k,Te.n,Te.s,Te.l,h',h],rfl⟩
 ·exact⟨by decide,rfl⟩
theorem zqe(n:Int):z6 (vaT n)=true∧szT (vaT n)=1:=by
 unfold vaT;split
 ·rename_i h;exact⟨by simp[z6,j7,q3q,Te.k,Te.n,Te.s,Te.l,h],rfl⟩
 ·exact⟨by decide,rfl⟩
theorem zsn(i:Nat)(a:At):itA i a=.mk 3 0 ⟨#[45]⟩ [q39 a.name,vaT i]:=by
 have h1:=zjh a.name;have h2:=zqe i;have h:yj (.mk 3 0 ⟨#[45]⟩ [q39 a.name,vaT i])=true:=by
  simp only[yj,szT,q04,h1.2,h2.2,z6,j7,h1.1,h2.1,q3q];rfl
 unfold itA q8x qg3;rw[if_neg (by simp),if_pos h]
theorem ztt(i:Nat)(a:At):z6 (itA i a)=true∧szT (itA i a)=3:=by
 have h1:=zjh a.name;have h2:=zqe i;rw[zsn];constructor
 ·simp only[z6,j7,h1.1,h2.1,q3q];rfl
 ·simp only[szT,q04,h1.2,h2.2]
theorem z9j:∀(l:List Te),(∀t∈l,szT t=3)→q04 l=3 * l.length
 |[],_=>rfl
 |t::l,h=>by
  rw[q04,h t uR,z9j l fun x hx=>h x (uP _ hx)];simp;omega
theorem qx9:FOk jb zcc:=qge q2z qgx q4j z2e qc8 fun ds outs hw hg=>by
 obtain⟨d,r,rfl,hd,e,r',rfl,he,rfl⟩:=hw;obtain⟨s,rfl,hs⟩:=wfS hd;obtain⟨l,rfl,hl,hlo⟩:=zqx he;simp only[zcc,z9,uL,Option.map_eq_some_iff] at hg;obtain⟨hlen,r,hr,rfl⟩:=hg;have ev:∀(k:Nat)(a:At),D.a [.i k,eC a.val]=eV ⟨k,a.val⟩:=fun _ _=>rfl;rw[q5m,zx];refine⟨fun st=>∃k:Nat,k≤l.length∧st=[.r (((qh0 l).take k).map eT),.r (((vsA l).take k).map eV),.i k],fun st=>l.length - (st.getD 2 .u).int.toNat,⟨0,kV _,rfl⟩,?_⟩;rintro st - ⟨k,hk,rfl⟩;rw[z8];refine⟨fun hlt=>?_,fun hlt=>?_⟩
 ·simp only[gnZ,gnT] at hlt;have hkl:k<l.length:=by omega
  have es:∀a:At,gSL q8x [.s ⟨#[45]⟩,.r [eT (q39 a.name),eT (vaT k)]]=some [eT (itA k a)]:=fun a=>by
   simp only[gSL,q7o,q7i,List.map_cons,List.map_nil,jz];rfl
  simp only[gnZ,gnT,q67 eA hkl,zvj,zwq,gSt,zhb,es,ev,uC];refine⟨⟨by omega,by omega⟩,⟨by omega,⟨by omega,⟨by omega,by omega⟩,?_⟩⟩⟩;rw[jv,if_pos rfl];refine⟨⟨k+1,by omega,?_⟩,by simp[D.int];omega⟩;rw[qh0,vsA,z4k _ hkl,z4k _ hkl];simp
 ·simp only[gnZ,gnT] at hlt;have hkl:k=l.length:=by omega
  subst hkl;have e1:(qh0 l).take l.length=qh0 l:=uK (by simp[qh0]);have e2:(vsA l).take l.length=vsA l:=uK (by simp[vsA]);have hat:q39 ⟨#[91,93]⟩=qq4:=rfl;have hit:∀t∈qh0 l,z6 t=true∧szT t=3:=fun t ht=>by
   obtain⟨i,hi,rfl⟩:=List.getElem_of_mem ht;simp only[qh0,List.getElem_mapIdx];exact ztt _ _
  have hli:zme [.r ((qh0 l).map eT),eT qq4]=some [eT (liT (qh0 l) qq4)]:=by
   have hsz:=z9j (qh0 l) fun t ht=>(hit t ht).2;have hln:(qh0 l).length=l.length:=by simp[qh0]
   simp only[zme,dRT,q7i,map_id' jz,jz];rw[if_pos];simp only[gnB,gnD];refine⟨by decide,q8y.2 fun t ht=>(hit t ht).1,?_⟩;rw[hsz,hln]
   show 1+3 * l.length+l.length≤2000
   omega
  simp only[e1,e2,gnZ,gnT,gSt,hat,hli,hr]
def ja:Ct:=⟨59,[.own (.row 81),.val (.int .i64),.val (.int .i64)],[(.row 81,true)],[],none,[],[]⟩
theorem q99:EnZ ja:=fun _ _=>by kernel_rfl
def q6d:Ct:=⟨22,[.val (.st 26),.val (.st 32),.val (.str)],[(.st 32,false),(.bool,false)],[],none,[],[]⟩
theorem qu4:EnZ q6d:=fun _ _=>by kernel_rfl
def z2p:Ann:=⟨[0,1,2,3,4,6,7,8,9,10,18,27],[]⟩
def qch:Tree:=(.need [(.ok 0 [(.tok 0),(.tok 1)])] (.br (.not (.call 0 1 [(.tok 0),(.tok 1)])) (.leaf [(.lit (.a [(.i 0),(.i 0)])),(.lit (.b .false))]) (.need [(.ok 1 [(.tok 0),(.call 0 0 [(.tok 0),(.tok 1)])])] (.need [(.ok 2 [(.call 1 0 [(.tok 0),(.call 0 0 [(.tok 0),(.tok 1)])]),(.tok 2)])] (.br (.lt (.call 2 0 [(.call 1 0 [(.tok 0),(.call 0 0 [(.tok 0),(.tok 1)])]),(.tok 2)]) (.lit (.i 0))) (.leaf [(.lit (.a [(.i 0),(.i 0)])),(.lit (.b .false))]) (.need [(.le (.lit (.i 0)) (.call 2 0 [(.call 1 0 [(.tok 0),(.call 0 0 [(.tok 0),(.tok 1)])]),(.tok 2)])),(.lt (.call 2 0 [(.call 1 0 [(.tok 0),(.call 0 0 [(.tok 0),(.tok 1)])]),(.tok 2)]) (.len (.call 1 0 [(.tok 0),(.call 0 0 [(.tok 0),(.tok 1)])])))] (.leaf [(.fld (.get (.call 1 0 [(.tok 0),(.call 0 0 [(.tok 0),(.tok 1)])]) (.call 2 0 [(.call 1 0 [(.tok 0),(.call 0 0 [(.tok 0),(.tok 1)])]),(.tok 2)])) 1),(.lit (.b .true))])))))))
theorem qww(g0 g1 g2:GfZ):CdZ [(qu,g0),(yi,g1),(yr,g2)] z2p q6d Try.f22 qch:=fun cd h=>by injection h with h;subst h;kernel_rfl
theorem z0n{g0 g1 g2 g:GfZ}(h0:FOk qu g0)(h1:FOk yi g1)(h2:FOk yr g2)(h:HgZ qch q6d [(qu,g0),(yi,g1),(yr,g2)] g):FOk q6d g:=jf (qww g0 g1 g2) (.cons h0 (.cons h1 (.cons h2 .nil))) rfl rfl qu4 (by decide) h
end Go.Proofs.Ytdaadonfbnedaaa
