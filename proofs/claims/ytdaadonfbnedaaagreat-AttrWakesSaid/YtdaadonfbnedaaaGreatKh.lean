/-
 Lemmas of the walk and plain laws, put together. No condition.
-/
import Derived.Great.BuildSlice
import Derived.OwnWalk
import Derived.RangeFuncSeq
import Derived.StillTailTactics
import Derived.TacticsInMore
import Derived.Test.YtdaadonfbnedaaaGreatKg
namespace Go.Proofs.YtdaadonfbnedaaaGreat
open Go.RowKit
set_option linter.unusedVariables false
set_option linter.unusedSimpArgs false
set_option maxRecDepth 100000
open _root_.Go.Proofs.Tryz renaming prog→uA,f94→kM,f23→vH
open _root_.Array renaming getElem?_eq_some_iff→uB,replicate→uP,getElem?_setIfInBounds_self_of_lt→uQ,getElem?_append_left→uR,getElem?_setIfInBounds_ne→kI
open _root_.Option.some renaming injEq→uC
open _root_.Option renaming ite_none_right_eq_some→uD,isSome_some→uL,getD_some→uM
open World renaming putObj_heap_other→uE,putObj_heap_same→kD
open _root_.List renaming getD_cons_zero→uF,length_map→uG,getD_cons_succ→uH,replicate→uN,all_eq_true→uO,getElem?_append_right→uZ,getElem?_append_left→kA,length→kB,drop_length→kC,length_append→kF,map_append→kK,append_nil→kL,pairwise_iff_getElem→kP,map_take→kQ,map_drop→kR,getElem?_cons_zero→kU,take_of_length_le→kV,getElem?_toArray→kX,mem_iff_getElem→kY,mem_cons_of_mem→kZ,mem_cons_self→vB,map_replicate→vC,map_toArray→vG,mem_range→vI,drop_drop→vJ,map_cons→vK,map_nil→vM,map_map→vN,map_id→vP,range→vQ
open _root_.List.cons renaming inj→uI
open _root_.Nat renaming zero_le→uJ,not_lt_zero→uU,le_trans→uW,beq→uY,add_sub_cancel→kH,zero_add→kJ,lt_of_lt_of_le→vE,lt_or_ge→vO,blt_eq→vR
open _root_.Int renaming toNat_natCast→uK,le_refl→vA
open _root_.Bool renaming not_true→uT,not_false→uV,true_and→uX,false_or→kE,true_eq_false→kG,false_and→kN,and_false→kO,and_true→kS,and_self→kT,true_or→kW,not_eq_true'→vF,or_false→vL
variable{tmps:Array Value}
theorem qww{F:Fence}{n:Nat}{fn:Func}{R:Ending→World→Prop}{rest:List Deferred}:∀(Ds:List Nat)(w:World),Ds.Nodup→(∀D∈Ds,w.heap[D]? =some (.deferred (some [])))→LeavesInM F n uA fn tmps R rest .returning (ji w Ds)→LeavesInM F n uA fn tmps R (Ds.map qom++rest) .returning w
 |[],w,_,_,h=>h
 |D::Ds,w,hn,hd,h=>by
  obtain⟨h1,h2⟩:=List.nodup_cons.1 hn;exact⟨by simp,.inl ⟨D,_,rfl,run_takeDeferred (hd D vB),qww Ds _ h2 (fun D' hD'=>(uE (fun e=>h1 (by rw[←e];exact hD'))).trans (hd D' (kZ _ hD'))) h⟩⟩
theorem qt5{n b:Nat}(hb:b<n):∀(Ds:List Nat)(w:World),(∀D∈Ds,n≤D)→(ji w Ds).heap[b]? =w.heap[b]?
 |[],w,_=>rfl
 |D::Ds,w,h=>by
  have h1:=h D vB;exact(qt5 hb Ds (w.putObj D (.deferred none)) fun D' hD'=>h D' (kZ _ hD')).trans (uE (by omega))
variable{p:qg}{a:Act}
theorem zss{c c':Cx}{σ:St}{w:World}(hA:∀b,b<w.heap.size→c.A b→c'.A b)(hv:c.v=c'.v)(hT:c.At=c'.At)(hF:c.F=c'.F)(hp:qoh σ.t=true)(h:SF c σ p w a):SF c' σ p w a:=by
 refine⟨fun t x hx=>?_,fun k e he=>(h.m k e he).chA hA hv⟩;obtain⟨v,h1,h2⟩:=h.t t x hx;exact⟨v,h1,AV.chA hA hv hT hF x v (uO.1 hp _ (qv hx)) h2⟩
def ztm(P:Program)(tbl:Tbl)(ct:Ct)(fn:Func)(ops:List Oper)(K:Nat→St→Nat→Nat→X→Tree)(n:Nat)(σ:St):Tree:=match ops with
 | [o1, ck, df] => (match zkh df, z3a ck with
  | some t, some (t', y, x1, te) => if uY t t' && (o1.guard.isNone && (q9g ct.ar.length fn.ntmps o1 && (q9g ct.ar.length fn.ntmps ck && !Nat.beq t te))) then (match stepG P tbl (dsts [o1, ck, df]) σ o1 with
   | some (N, σ1) => (match opd σ1 [] y, opd σ1 [] x1, zcl te σ1 with
    |some (.fn f []),some (.ref ks [] 0 ty),some (_,σ2)=>(match lkA σ1.m ks with
     |some es=>if uY f 43&&(Ty.beq ty qd&&(Ty.beq es.t qd&&(Nat.blt ks ct.ar.length&&(X.upto n es.x&&qoh σ1.t)))) then z7h N (K n ⟨jw σ2.t t .any,σ2.m⟩ ks te es.x) else .bad 9400000
     |none=>.bad 9500000)
    |_,_,_=>.bad 9600000)
   |none=>.bad 9700000) else .bad 9800000
  |_,_=>.bad 9900000)
 |_=>.bad 9950000
def zs9(P:Program)(tbl:Tbl)(ct:Ct)(fn:Func)(ops:List Oper)(K:Nat→St→Nat→Nat→X→Tree):Nat→ResD→St→Tree:=fun n r σ=>match r with
 |.normal=>ztm P tbl ct fn ops K n σ
 |_=>.bad 1
variable{g:List D→Option (List D)}
set_option maxHeartbeats 2000000 in
theorem zdf{ct:Ct}{tbl:Tbl}(fn:Func)(j:Nat)(cd:Code)(htb:q0i tbl)(hkj:∀l,(qb tbl j) l=q72 l)(hf:uA.funcs[ct.f]? =some fn)(hb:fn.body=some cd)
  (hen:∀args w,(callFunc ct.f args).run uA w=.ok (.enter ct.f args) w)(hsz:ct.ar.length≤fn.ntmps)(hnp:q76 tbl=true){ann:Ann}{xs:List Code}{id:Nat}{ops:List Oper}{post:Code}(hcut:cd=seqs xs (.seq (.region id ops.toArray false) post))(K:Nat→St→Nat→Nat→X→Tree)
  (h:∀ds outs,WfA ct.ars ds→g ds=some outs→∃(R:List D→Prop)(B0:Nat→List D→Prop),(q5p uA tbl ann ct.ar.length fn.ntmps xs (q6f ct.ars) (qn1 ct) (zs9 uA tbl ct fn ops K)).go (qb tbl) R ds B0∧
   ∀(c:Cx)(p:qg)(w:World)(a:Act)(S0:Nat→Prop)(Q:Exit→Act→World→Prop)(l:List D)(n:Nat)(σ:St)(ks te:Nat)(was:X)(B:Nat→List D→Prop)(dK:Deferred),(K n σ ks te was).go (qb tbl) R l B→l.length=n→l.take (q6f ct.ars)=ds→X.upto n was=true→c.lo=ct.ar.length→(∀te,c.F.mx te=0)→(∀b,pinned p b→S0 b)→(∀b,c.F.fr b→c.A b→S0 b)→
    Bs c.A c.F w S0 p w→SF (c.at (qb tbl) l) σ p w a→a.defers=[dK]→a.tmps.size=fn.ntmps→
    (∀n' r σ' l' B' p' w' a'(c2:Cx),l'.length=n'→(qi2 ct fn j ks te was n' r σ').go (qb tbl) (fun o=>o=outs) l' B'→was.ev (evl (qb tbl) l')=was.ev (evl (qb tbl) l)→c2.lo=c.lo→c2.F=c.F→c2.At=c.At→c2.snap (VB+te)=c.snap (VB+te)→(∀b,c2.A b→c.A b)→Bs c.A c.F w S0 p' w'→Bs c2.A c2.F w' (pinned p') p' w'→SF (c2.at (qb tbl) l') σ' p' w' a'→Dfs c2.A w.heap.size [dK] w' a'.defers→a'.tmps.size=fn.ntmps→Q r.exit' a' w')→
    post.wpIn (FR none) 5 uA Q a w)
  (hmr:(ct.all.all fun e=>zqg e.2)=true:=by rfl)(hkp:ct.kp=[]:=by rfl)(hfl:ct.fl=[]:=by rfl):FOk ct g:=by
 refine⟨hen,fun A F p w vs us ds outs hg hfl0 hfo hpre hvl hargs=>callsIn_wide.1 (callsIn_of_wp_marks (F:=FR none) (n:=5) hf hb trivial ?_),fun h=>absurd hkp h⟩;obtain⟨hwf,hdl,-⟩:=hargs.wf;rw[all_map] at hwf hdl;have hfz:=hfl0.zero hfl;generalize hR0:(fun(e:Ending)(w':World)=>(∃T,ct.pn=some T∧outs=[.u]∧e=.panicked (q98 T)∧But (pinned p) w w')∨∃rs p',e=.returned (qet rs)∧Bs A F w (pinned p) p' w'∧q91 A p' w' ct.rs ct.ar.length rs (outs.take ct.rs.length)∧q3k (vs++us) A p p' w' ct.all (outs.drop ct.rs.length))=RR
 let c:Cx:=⟨evl (qb tbl) ds,A,⟨F.fl,F.mx,fun b=>w.heap.size≤b⟩,ct.ar.length,fun k g=>(k<ct.ar.length∨VB≤k)→p (k * 16)=some g,fun k g hk h2 h=>absurd h (by omega),fun q=>(vs++us).getD q undef⟩
 have hb0:Bs c.A c.F w (pinned p) p w:=⟨hpre.inj,hpre.bd,But.refl _ _,fun x b hx=>.inl ⟨x,hx⟩,fun b hb=>⟨(hpre.new b hb).1,hb⟩,hpre.pa,hpre.obj,hfo⟩;have hsf:SF (c.at (qb tbl) ds) (qn1 ct) p w {tmps:=vs.toArray++uP (fn.ntmps - vs.toArray.size) undef,defers:=[]}:=by
  refine⟨fun t x hx=>?_,qls (c:=c.at (qb tbl) ds) (A:=A) rfl (fun k=>rfl) hargs fun e he=>List.mem_iff_getElem?.1 he⟩;obtain⟨h1,h2⟩:=qlo (c:=c.at (qb tbl) ds) (A:=A) (n0:=ct.ar.length) rfl rfl rfl hargs (fun k=>rfl) _ _ t x hx;have hlt:t<vs.length:=by omega
  refine⟨(vs++us).getD t undef,?_,h2⟩
  show(vs.toArray++_)[t]? =_
  rw[uR (by simpa using hlt),gnG,kA hlt];simp[gnK hlt]
 obtain⟨R,B0,hpt,huser⟩:=h ds outs hwf hg;have hfm:∀te,c.F.mx te≤flM tbl te:=fun te=>by rw[show c.F.mx te=0 from hfz te];exact uJ _
 rw[hcut];refine q2g xs ?_;refine qba (c:=c) (S0:=pinned p) (w0:=w) (d:=[]) (z:=fn.ntmps) none 5 htb hfm hnp xs hpt hdl hb0 hsf rfl (by simp;omega) fun n' r σ' l' B' p' w' a' hl' hpre1 hgo' hb' hf' hd' hz'=>?_;cases r with
 |exit i=>exact hgo'.elim
 |ret=>exact hgo'.elim
 | normal =>
  show(Code.seq (.region id ops.toArray false) post).wpIn (FR none) 5 uA _ a' w'
  rcases ops with _|⟨o1,_|⟨ck,_|⟨df,_|⟨x,l⟩⟩⟩⟩
  ·exact(show False from hgo').elim
  ·exact(show False from hgo').elim
  ·exact(show False from hgo').elim
  ·simp only[zs9,ztm] at hgo';split at hgo'
   ·rename_i t t' y x1 te hdt hck;split at hgo'
    ·rename_i hok;simp only[gnB,Option.isNone_iff_eq_none,vF] at hok;obtain⟨htt,hg1,hd1,hd2,htte⟩:=hok;obtain rfl:=gnN htt;have htte:t≠te:=fun e=>by rw[e,Nat.beq_refl] at htte;cases htte
     obtain⟨hck1,hck2,tys,hck3⟩:=qzw hck;have htz:t<fn.ntmps:=by
      unfold q9g at hd2;rw[hck1] at hd2;simp only[gnB,vR] at hd2;exact hd2.1
     split at hgo'
     ·rename_i N σ1 hst;split at hgo'
      ·rename_i f ks ty ke σ2 hy hx1 hhold;split at hgo'
       ·rename_i es hes;split at hgo'
        ·rename_i hok2;simp only[gnB,vR] at hok2;obtain⟨hff,hty,het,hks,hup,hpl⟩:=hok2;obtain rfl:=gnN hff;have het:=(Ty.beq_iff _ _).1 het;obtain⟨hN,hgo2⟩:=qwp hgo';generalize hQ:bodyPostM (FR none) 5 uA fn RR=Q;have hQr:∀(r:ResD)(a:Act)(w:World),(∀i,r≠.exit i)→LeavesInM (FR none) 5 uA fn a.tmps RR a.defers .returning w→Q r.exit' a w:=fun r a w hr h=>by
          rw[←hQ];cases r with
          |exit i=>exact absurd rfl (hr i)
          |ret=>exact h
          |normal=>exact h
         refine wpIn_seq ((wpIn_wide (n:=5)).2 (wp_region ?_));have hw0:Region.wanted o1 (yielded ([o1,ck,df].toArray) a'.tmps)=true:=by simp[Region.wanted,hg1]
         have hstep:=qsj (c:=c.at (qb tbl) l') (ops:=[o1,ck,df].toArray) (ds:=dsts [o1,ck,df]) (Q:=Exit.then (fun a w=>post.wpIn (FR none) 5 uA Q a w) Q) (K:=wpOps uA [o1,ck,df].toArray (Exit.then (fun a w=>post.wpIn (FR none) 5 uA Q a w) Q) [1,2]) htb ⟨rfl,hfm⟩ rfl hb' hf' hd' hz' hd1 hst hN (q3l hnp) fun a1 w1 hpost=>?_
         ·rw[if_pos hw0] at hstep
          show wpOps uA [o1,ck,df].toArray _ [0,1,2] a' w'
          simp only[wpOps,kX,kU];rw[if_pos hw0];exact .inl hstep.2
         ·obtain⟨p1,hb1,hf1,hda1,hz1⟩:=hpost;obtain⟨vy,hvy,hvs⟩:=ql hf1 rfl hy;have hvs:vy=[]:=hvs;subst hvs;obtain⟨gs,hgs,hvx,hat⟩:=ql hf1 rfl hx1;obtain⟨gs',cs,T,hgs',hh,hT,hcon⟩:=hf1.m ks _ hes;rw[hgs] at hgs';injection hgs' with hgs';subst hgs';rw[het] at hcon;obtain⟨r0,r1,r2,r3,A0,A1,A2,A3,k0,k1,k2,k3,x4,x5,eD,ecs,-,q4,-⟩:=qij hcon;have ecs:cs= #[.slice A0 r0.length k0,.slice A1 r1.length k1,.slice A2 r2.length k2,.slice A3 r3.length k3,.int .i64 x4,.int .i64 x5]:=by
           obtain⟨cs⟩:=cs;have ecs:cs=_:=ecs;rw[ecs]
          subst ecs
          -- what lies in keep's blocks is hidden
          obtain⟨A',hA'⟩:∃A':Nat→Prop,A'=fun b=>A b∧(b<w1.heap.size∨w1.heap.size+3≤b):=⟨_,rfl⟩;have hAA:∀b,A' b→A b:=fun b h=>by rw[hA'] at h;exact h.1
          have hf1':SF (({c with A:=A'}:Cx).at (qb tbl) l') σ1 p1 w1 a1:=zss (c:=c.at (qb tbl) l') (fun b hb h=>by show A' b;rw[hA'];exact⟨h,.inl hb⟩) rfl rfl rfl hpl hf1;obtain⟨hf2,ge,hge,hve⟩:=z5q hhold hf1';generalize hcx:({({c with A:=A'}:Cx) with snap:=fun q=>if q=VB+te then a1.eval (.tmp te) else c.snap q}:Cx)=cx;have hcA:cx.A=A':=by rw[←hcx]
          have hcF:cx.F=c.F:=by rw[←hcx]
          have hcAt:cx.At=c.At:=by rw[←hcx]
          have hct:cx.snap (VB+te)=.pointer (some ⟨ge,0,none⟩):=by
           rw[←hcx,←hve]
           show(if VB+te=VB+te then _ else _)=_
           rw[if_pos rfl]
          have hlo:cx.lo=ct.ar.length:=by rw[←hcx]
          have hf3:SF (cx.at (qb tbl) l') σ2 p1 w1 a1:=by rw[←hcx];exact hf2
          have hpg:p (ks * 16)=some gs:=hat (.inl hks);clear hcx
          -- the call of keep
          have hgl:=qq hh;obtain⟨w2,hw2⟩:∃w2,w2=((w1.alloc (.cells #[.pointer (some ⟨gs,0,none⟩)] 41)).alloc (.cells #[.pointer (some ⟨ge,0,none⟩)] 79)).alloc (.cells #[.slice A0 r0.length k0,.slice A1 r1.length k1,.slice A2 r2.length k2,.slice A3 r3.length k3,.int .i64 x4,.int .i64 x5] 27):=⟨_,rfl⟩;have hs2:w2.heap.size=w1.heap.size+3:=by rw[hw2];simp
          have hst1:=q4j (A:=cx.A) hb1.bd (.cells #[.pointer (some ⟨gs,0,none⟩)] 41);have hbs1:=qa7 hb1 (.cells #[.pointer (some ⟨gs,0,none⟩)] 41);have hst2:=q4j (A:=cx.A) hbs1.bd (.cells #[.pointer (some ⟨ge,0,none⟩)] 79);have hbs2:=qa7 hbs1 (.cells #[.pointer (some ⟨ge,0,none⟩)] 79);have hst3:=q4j (A:=cx.A) hbs2.bd (.cells #[.slice A0 r0.length k0,.slice A1 r1.length k1,.slice A2 r2.length k2,.slice A3 r3.length k3,.int .i64 x4,.int .i64 x5] 27);have hbs3:=qa7 hbs2 (.cells #[.slice A0 r0.length k0,.slice A1 r1.length k1,.slice A2 r2.length k2,.slice A3 r3.length k3,.int .i64 x4,.int .i64 x5] 27);have hfk:=SF.same (c:=cx.at (qb tbl) l') hst3 (SF.same (c:=cx.at (qb tbl) l') hst2 (SF.same (c:=cx.at (qb tbl) l') hst1 hf3));have hh2:w2.heap[w1.heap.size]? =some (.cells #[.pointer (some ⟨gs,0,none⟩)] 41 (0,0)):=by
           rw[hw2];exact q0a (q0a (q03 rfl))
          have hh3:w2.heap[w1.heap.size+1]? =some (.cells #[.pointer (some ⟨ge,0,none⟩)] 79 (0,0)):=by
           rw[hw2];exact q0a (q03 (by simp))
          have hh5:w2.heap[w1.heap.size+2]? =some (.cells #[.slice A0 r0.length k0,.slice A1 r1.length k1,.slice A2 r2.length k2,.slice A3 r3.length k3,.int .i64 x4,.int .i64 x5] 27 (0,0)):=by
           rw[hw2];exact q03 (by simp)
          rw[←hw2] at hbs3 hfk;obtain⟨V,hV⟩:∃V,V=Value.func (.func 82) #[] #[.pointer (some ⟨w1.heap.size+1,0,none⟩),.pointer (some ⟨w1.heap.size,0,none⟩),.pointer (some ⟨w1.heap.size+2,0,none⟩)]:=⟨_,rfl⟩;have hfp:SF (cx.at (qb tbl) l') ⟨jw σ2.t t .any,σ2.m⟩ p1 w2 (a1.put (some t) V):=hfk.put (t:=t) (by rw[hz1];exact htz) trivial;have hws:=hb1.but.size;obtain⟨S0,hS0⟩:∃S0:Nat→Prop,S0=fun b=>pinned p1 b∨(w.heap.size≤b∧A' b):=⟨_,rfl⟩;have hp1:∀x b,p1 x=some b→b<w1.heap.size:=hb1.bd;have hS0w:∀b,S0 b→pinned p b∨w.heap.size≤b:=fun b h=>by
           rw[hS0] at h;rcases h with⟨q,hq⟩|h
           ·exact hbs3.pin q b hq
           ·exact .inr h.1
          have hbu:Bs cx.A cx.F w2 S0 p1 w2:=by
           rw[hcA,hcF];refine⟨hbs3.inj,hbs3.bd,But.refl _ _,fun x b hx=>.inl (by rw[hS0];exact .inl ⟨x,hx⟩),fun b hb=>⟨by rw[hA'];exact⟨(hbs3.new b (by omega)).1,.inr (by omega)⟩,(hbs3.new b (by omega)).2⟩,fun x b hx=>by rw[hA'];exact⟨hbs3.pa x b hx,.inl (hp1 x b hx)⟩,hbs3.obj,hbs3.flo.anew⟩
          have hnS:∀b,w1.heap.size≤b→b<w1.heap.size+3→¬S0 b:=fun b h1 h2 h=>by
           rw[hS0] at h;rcases h with⟨q,hq⟩|⟨-,h⟩
           ·have:=hp1 q b hq;omega
           ·rw[hA'] at h;omega
          have hmain:post.wpIn (FR none) 5 uA Q {a1.put (some t) V with defers:={target:=.fn (.func 82) #[.pointer (some ⟨w1.heap.size+1,0,none⟩),.pointer (some ⟨w1.heap.size,0,none⟩),.pointer (some ⟨w1.heap.size+2,0,none⟩)],args:= #[]}::(a1.put (some t) V).defers} w2:=by
           refine huser cx p1 w2 _ S0 Q l' n' _ ks te es.x _ _ hgo2 hl' hpre1 hup hlo (by rw[hcF];exact hfz) (fun b h=>by rw[hS0];exact .inl h) (fun b h1 h2=>by rw[hcF] at h1;rw[hcA] at h2;rw[hS0];exact .inr ⟨h1,h2⟩) hbu (SF.mk (fun t x hx=>hfp.t t x hx) (fun k e he=>hfp.m k e he)) (by show _::a1.defers=_;rw[hda1]) (by simp only[Act.put,Array.size_setIfInBounds];exact hz1) fun n2 r σ3 l2 B2 p4 w3 a3 c2 hl2 hgo3 hwas hlo2 hF2 hT2 hsn2 hA2 hb4 hbn hf4 hDf hz4=>?_;have hres:(qi2 ct fn j ks te es.x n2 .ret σ3).go (qb tbl) (fun o=>o=outs) l2 B2→LeavesInM (FR none) 5 uA fn a3.tmps RR a3.defers .returning w3:=fun hgo3=>by
            simp only[qi2] at hgo3;split at hgo3
            ·rename_i ke' σ4 hfree;split at hgo3
             ·rename_i es' ee' hes' hee';split at hgo3
              ·rename_i hok3;simp only[gnB] at hok3;have h31:=hok3.1;have h32:=hok3.2.1;have h33:zu (es'.own.map (·.2)++es'.dep) (ks * 16)=false:=by simpa using hok3.2.2.1
               have h34:=hok3.2.2.2;obtain⟨⟨hsay,-⟩,hgo4⟩:=hgo3;obtain⟨hf5,ge',hge',hsn⟩:=z6x hfree hf4;have hsn:c2.snap (VB+te)=.pointer (some ⟨ge',0,none⟩):=hsn;rw[hsn2,hct] at hsn;injection hsn with hsn;injection hsn with hsn;injection hsn with hsn;subst hsn;obtain⟨g3,hg3,hat3⟩:=z0f h34 hf5;have hat3:c2.At ks g3:=hat3;rw[hT2,hcAt] at hat3;have hat3:=hat3 (.inl hks);rw[hpg] at hat3;injection hat3 with hat3;subst hat3;obtain⟨Ds,hds,hnd,hDs⟩:=hDf;rw[hcA,hcF] at hb4;have hA2':∀b,c2.A b→A' b:=fun b h=>by rw[←hcA];exact hA2 b h
               have hF2':c2.F=c.F:=hF2.trans hcF;have hbAll:Bs A c.F w (pinned p) p4 w3:=⟨hb4.inj,hb4.bd,hbs3.but.trans hb4.but fun b hb _=>hS0w b hb,fun q b hq=>by
                rcases hb4.pin q b hq with h|h
                ·exact hS0w b h
                ·exact .inr (by omega),hbs3.new,fun q b hq=>hAA b (hb4.pa q b hq),hb4.obj,Flo.of0 hfz hbs3.flo⟩
               have hst:=qdt hbn.pa Ds w3 fun D hD=>(hDs D hD).2.2;have hbF:=qlp (F:=c.F) (fun te=>hfz te) hbn.pa Ds w3 hbAll fun D hD=>⟨by have:=(hDs D hD).1;omega,(hDs D hD).2.2⟩;have hfF:SF (c2.at (qb tbl) l2) σ4 p4 (ji w3 Ds) a3:=SF.same hst hf5;have hbnF:Bs c2.A c2.F (ji w3 Ds) (pinned p4) p4 (ji w3 Ds):=⟨hbF.inj,hbF.bd,But.refl _ _,fun x b hx=>.inl ⟨x,hx⟩,fun b hb=>hbn.new b (uW hst.size hb),hbn.pa,hbF.obj,by rw[hF2'];exact hbF.flo.anew⟩;have hkb:∀b o,w1.heap.size≤b→b<w1.heap.size+3→w2.heap[b]? =some o→(ji w3 Ds).heap[b]? =some o:=fun b o h1 h2 ho=>((qt5 (n:=w2.heap.size) (by omega) Ds w3 fun D hD=>(hDs D hD).1).trans (hb4.but.block b (by omega) (hnS b h1 h2))).trans ho;have ew:es.x.ev (evl (qb tbl) l2)=.a [.r r0,.r r1,.r r2,.r r3,.i x4,.i x5]:=hwas.trans eD;have hcal:=z5h (nn:=4) (c:=c2) (w0:=ji w3 Ds) (S0:=pinned p4) (u:=.returning) hkj hbnF hfF hes' hee' ((Ty.beq_iff _ _).1 h31) ((Ty.beq_iff _ _).1 h32) h33 hg3 hge' hsay (hkb _ _ (by omega) (by omega) hh3) (hkb _ _ (by omega) (by omega) hh2) (hkb _ _ (by omega) (by omega) hh5) (by rw[ew];exact⟨rfl,rfl,rfl,rfl⟩) q4 ⟨by omega,by omega,by omega⟩;rw[hds];refine qww Ds w3 hnd (fun D hD=>(hDs D hD).2.1) ?_;refine⟨by simp,.inr ⟨(fun h=>by cases h),_,_,82,#[.pointer (some ⟨w1.heap.size+1,0,none⟩),.pointer (some ⟨w1.heap.size,0,none⟩),.pointer (some ⟨w1.heap.size+2,0,none⟩)],rfl,by simp[invoke,qgm],fun _ _=>trivial,hcal.mono ?_⟩⟩;rintro e' u' w4⟨rfl,rfl,hb5,hf6⟩
               show LeavesInM (FR none) 5 uA fn a3.tmps RR [] _ w4
               simp only[qbs] at hgo4;split at hgo4
               ·rename_i xs hx;have ho:X.evs (evl (qb tbl) l2) xs=outs:=hgo4;rw[hF2'] at hb5;have hb6:Bs A c.F w (pinned p) p4 w4:=hbF.up hb5 fun b h=>hAA b (hA2' b h);have hb7:Bs c2.A c2.F w4 (pinned p4) p4 w4:=by rw[hF2'];exact hb5.anew
                unfold fin at hx;simp only at hx;split at hx
                ·rename_i hok;simp only[gnB] at hok;split at hx
                 ·rename_i xa xb hxa hxb;injection hx with hx;subst hx;have hb1:=hb7.un (fun y=> !zu ((qcg (z2c ks j es' ee'.x es.x σ4) (fn.results.toList.zip ct.rs) ct.ar.length++q9h (z2c ks j es' ee'.x es.x σ4) ct.all).map (·.1)++(q74 ct.all++q3q (z2c ks j es' ee'.x es.x σ4) fn.results.toList)) y);have hf1:=SF.un (c:=c2.at (qb tbl) l2) (q:=fun y=> !zu ((qcg (z2c ks j es' ee'.x es.x σ4) (fn.results.toList.zip ct.rs) ct.ar.length++q9h (z2c ks j es' ee'.x es.x σ4) ct.all).map (·.1)++(q74 ct.all++q3q (z2c ks j es' ee'.x es.x σ4) fn.results.toList)) y) hb7.inj hb7.pa hf6;obtain⟨p2,hb2,hf2⟩:=qe2 (c:=c2.at (qb tbl) l2) hok.1 hb1 hf1;obtain⟨l,h1,h2,h3⟩:=qk3 hf2 (gnN hok.2) hxa;have h4:=qk4 (VV:=vs++us) (p0:=p) (n0:=ct.ar.length) hf2 (hT2.trans hcAt) (fun e he=>qs1 he) (fun i t hm=>(uO.1 hmr _ hm|>fun h=>by cases h)) hxb;have hev:X.evs (evl (qb tbl) l2) xa++X.evs (evl (qb tbl) l2) xb=outs:=by rw[←q8l];exact ho
                  have hla:(X.evs (evl (qb tbl) l2) xa).length=ct.rs.length:=by rw[q6n,h3]
                  refine⟨_,qc9 h1,?_⟩;rw[←hR0];refine .inr ⟨l,p2,rfl,(hb6.up (show Bs c2.A c.F _ _ _ _ from hF2'▸hb2) fun b h=>hAA b (hA2' b h)).fr rfl rfl (fun b hb=>(hpre.new b hb).2),q91.chA (A:=c2.A) (fun b _ h=>hAA b (hA2' b h)) ?_,q3k.chA (A:=c2.A) (fun b _ h=>hAA b (hA2' b h)) ?_⟩
                  ·rw[←hev,List.take_append_of_le_length (by omega),←hla,List.take_length];exact h2
                  ·rw[←hev,←hla,List.drop_left];exact h4
                 ·cases hx
                ·cases hx
               ·exact hgo4.elim
              ·exact(show False from hgo3).elim
             ·exact(show False from hgo3).elim
            ·exact(show False from hgo3).elim
           cases r with
           |exit i=>exact(show False from hgo3).elim
           |ret=>exact hQr .ret _ _ (fun i h=>by cases h) (hres hgo3)
           |normal=>exact hQr .normal _ _ (fun i h=>by cases h) (hres hgo3)
          have hevt:(a1.put (some t) V).eval (.tmp t)=V:=by
           show(a1.tmps.setIfInBounds t V).getD t undef=V
           rw[Array.getD_eq_getD_getElem?,uQ (by omega)];rfl
          obtain⟨hgd,hdw⟩:=zc3 (a:=a1.put (some t) V) (w:=w2) (K:=wpOps uA [o1,ck,df].toArray (Exit.then (fun a w=>post.wpIn (FR none) 5 uA Q a w) Q) []) (Q:=Exit.then (fun a w=>post.wpIn (FR none) 5 uA Q a w) Q) hdt (hevt.trans hV) hmain;have hw1:Region.wanted ck (yielded ([o1,ck,df].toArray) a1.tmps)=true:=by simp[Region.wanted,hck2]
          have hw2':Region.wanted df (yielded ([o1,ck,df].toArray) (a1.put (some t) V).tmps)=true:=by simp[Region.wanted,hgd]
          show wpOps uA [o1,ck,df].toArray _ [1,2] a1 w1
          simp only[wpOps,kX,List.getElem?_cons_succ,kU];rw[if_pos hw1];refine .inl ?_;have hrun:(execOp a1.eval ck).run uA w1=.ok (.enter 43 #[.pointer (some ⟨gs,0,none⟩),.pointer (some ⟨ge,0,none⟩)]) w1:=by
           have hen:=qt9 #[.pointer (some ⟨gs,0,none⟩),.pointer (some ⟨ge,0,none⟩)] w1;have hvx:a1.eval x1=.pointer (some ⟨gs,0,none⟩):=hvx;generalize a1.eval=r at *;simp[execOp,hck3,resolve,Deferred.ofValue,hvy,hvx,hve,invoke,hen]
          unfold Oper.wp;rw[hrun]
          show Calls uA 43 _ w1 _
          refine(z56 w1 gs ge T hh).mono ?_;rintro e w2'⟨rfl,rfl⟩
          show(if Region.wanted df (yielded ([o1,ck,df].toArray) (a1.put ck.dst _).tmps)=true then _ else _)
          rw[hck1,←hV,←hw2,if_pos hw2'];exact .inl hdw
        ·exact hgo'.elim
       ·exact hgo'.elim
      ·exact hgo'.elim
     ·exact hgo'.elim
    ·exact hgo'.elim
   ·exact hgo'.elim
  ·exact(show False from hgo').elim
def y8:Ct:=⟨23,[.ref (.st 26) true],[(.row 29,true),(.int .i64,false)],[],none,[],[]⟩
theorem q37:EnZ y8:=fun _ _=>by kernel_rfl
def q2b:Ct:=⟨25,[],[(.st 26,true),(.st 28,false),(.bool,false)],[],none,[],[]⟩
theorem qhl:EnZ q2b:=fun _ _=>by kernel_rfl
def qli:Ann:=⟨[0,1,2,3,4,5,6,7],[]⟩
def q5o:Tree:=(.need [(.ok 0 [(.lit (.i 100))])] (.need [(.ok 1 [(.call 0 0 [(.lit (.i 100))])])] (.need [(.ok 3 [(.call 1 2 [(.call 0 0 [(.lit (.i 100))])]),(.call 1 0 [(.call 0 0 [(.lit (.i 100))])]),(.lit (.s ⟨#[97]⟩)),(.call 2 0 [(.lit (.i 1))])]),(.ok 2 [(.lit (.i 1))])] (.leaf [(.call 3 1 [(.call 1 2 [(.call 0 0 [(.lit (.i 100))])]),(.call 1 0 [(.call 0 0 [(.lit (.i 100))])]),(.lit (.s ⟨#[97]⟩)),(.call 2 0 [(.lit (.i 1))])]),(.call 1 0 [(.call 0 0 [(.lit (.i 100))])]),(.and (.and (.eq (.call 0 1 [(.lit (.i 100))]) (.lit (.i 0))) (.eq (.call 1 1 [(.call 0 0 [(.lit (.i 100))])]) (.lit (.i 0)))) (.eq (.call 3 0 [(.call 1 2 [(.call 0 0 [(.lit (.i 100))])]),(.call 1 0 [(.call 0 0 [(.lit (.i 100))])]),(.lit (.s ⟨#[97]⟩)),(.call 2 0 [(.lit (.i 1))])]) (.lit (.i 0))))]))))
theorem qj1(g0 g1 g2 g3:GfZ):CdZ [(q20,g0),(z7,g1),(q15,g2),(q26,g3)] qli q2b Tryz.f25 q5o:=fun cd h=>by injection h with h;subst h;kernel_rfl
theorem qle{g0 g1 g2 g3 g:GfZ}(h0:FOk q20 g0)(h1:FOk z7 g1)(h2:FOk q15 g2)(h3:FOk q26 g3)(h:HgZ q5o q2b [(q20,g0),(z7,g1),(q15,g2),(q26,g3)] g):FOk q2b g:=ym (qj1 g0 g1 g2 g3) (.cons h0 (.cons h1 (.cons h2 (.cons h3 .nil)))) rfl rfl qhl (by decide) h
def q3d:Ct:=⟨8,[],[(.bool,false)],[],none,[],[]⟩
theorem qkb:EnZ q3d:=fun _ _=>by kernel_rfl
def qeg:Ann:=⟨[0,1,2,3,4,5,6,7,8,9,48,59],[]⟩
def q1l:Ct:=⟨24,[.ref (.st 26) true],[(.row 29,true),(.int .i64,false)],[],none,[],[]⟩
theorem qkg:EnZ q1l:=fun _ _=>by kernel_rfl
def qr3:Ann:=⟨[0,2,3,4,5,6,7,8,9,10,11,12,13,14,16,18,25,48,74,90,121],[(5,⟨[(4,.row 73,false),(5,.int .i64,false)],[],[19,20,21,22,23,24,25,28,29,6,30,31,32,33,34,35,36,37,38,39,40,41,42,43,44,45,46,47,48,49,50,51,52,53,54,55,56,57,58,59,60,61,62,63,64,65,66,26,27],[]⟩),
 (8,⟨[(6,.int .i64,false)],[],[30,31,32,33,34,35,36,37,38,39,40,41,42,43,44,45,46,47,48,49,50],[]⟩),
 (14,⟨[(2,.row 29,false),(3,.int .i64,false),(8,.row 29,false),(9,.int .i64,false)],[7],[71,72,73,74,78,79,80,81,82,83,84,77,85,86,10,11,12,87,88,89,90,93,94,95,96,97,98,99,100,101,13,103,104,105,106,107,108,109,110,111,112,113,114,115,116,102,117,118,119,14,15,16,120,121,122,123,124,125,126,91,92,75,76],[]⟩),
 (18,⟨[(2,.row 29,false),(3,.int .i64,false),(8,.row 29,false),(12,.int .i64,false)],[7],[87,88,89,90,93,94,95,96,97,98,99,100,101,13,103,104,105,106,107,108,109,110,111,112,113,114,115,116,102,117,118,119,14,15,16,120,121,122,123,124,125,126,91,92],[]⟩)]⟩
def q7y:Tree:=
 let e:X:=.lit (.i 0)
 let f:X:=.len (.tok 1)
 let h:X:=.lt (.tok 2) (.len (.fld (.tok 0) 3))
 let i:X:=.tok 3
 let k:X:=.lit (.i 1)
 let m:X:=.lit (.r [])
 let p:X:=.tok 11
 let r:X:=.tok 6
 let u:X:=.tok 12
 let w:X:=.lit (.i 3518437208780)
 let b:X:=.lt e i
 let c:X:=.sub i k
 let j:X:=.fld (.get (.tok 1) r) 1
 let l:X:=.app (.row [(.get (.fld (.tok 0) 3) (.tok 2))]) (.cut (.tok 1) i f)
 let q:X:=.le e (.tok 2)
 let s:X:=.le e i
 let t:X:=.le i f
 let a:X:=.set (.set (.set (.lit (.a [(.i 0),(.i 0),(.s ⟨#[]⟩),(.r [])])) 0 (.lit (.i 3))) 2 (.lit (.s ⟨#[97,116,116,114,95,104,111,111,107]⟩))) 3 (.row [(.set (.set (.lit (.a [(.i 0),(.i 0),(.s ⟨#[]⟩),(.r [])])) 0 (.lit (.i 2))) 2 (.get (.call 1 0 [(.tok 7),j]) p)),(.set (.lit (.a [(.i 0),(.i 0),(.s ⟨#[]⟩),(.r [])])) 1 e),(.set (.lit (.a [(.i 0),(.i 0),(.s ⟨#[]⟩),(.r [])])) 1 k)])
 let d:X:=.row [(.mk [e,(.get (.call 1 1 [(.tok 7),j]) p)]),(.mk [k,(.fld (.get (.tok 1) r) 2)])]
 let g:X:=.rng .i64 c
 let n:X:=.le e c
 let o:X:=.lt c f
 let v:X:=.lt p (.len (.call 1 0 [(.tok 7),j]))
 (.loop 5 1 [m,e] (.br h (.loop 8 3 [f] (.need [(.imp b n),(.imp b o),(.imp b q),(.imp b h),(.imp b n),(.imp b o),(.imp b g),(.imp b g),(.imp b q),(.imp b h),(.imp b n),(.imp b o),(.imp b n),(.imp b o),(.imp b g),(.imp b g),(.imp b n),(.imp b o),(.imp b n),(.imp b o),(.imp b g),(.imp b g),(.imp b g),(.imp b q),(.imp b h),(.imp b g),(.imp b n),(.imp b o),(.imp b g),(.imp b g),(.imp b g),(.imp b g),(.imp b g)] (.br (.and b (.lt (.fld (.get (.fld (.tok 0) 3) (.tok 2)) 0) (.fld (.get (.tok 1) c) 0))) (.need [g] (.back 8 [c])) (.need [(.le (.add (.len (.cut (.tok 1) e i)) (.len l)) w),s,t,(.le (.add k (.len (.cut (.tok 1) i f))) w),s,t,s,t,s,t,s,t,s,t,q,h] (.need [(.rng .i64 (.add (.tok 2) k))] (.back 5 [(.app (.cut (.tok 1) e i) l),(.add (.tok 2) k)])))))) (.need [(.ok 0 [(.tok 0)])] (.loop 14 3 [m,e,m,e,(.call 0 0 [(.tok 0)])] (.br (.lt r f) (.need [(.ok 1 [(.tok 7),j]),(.le e r),(.lt r f)] (.loop 18 8 [i,(.tok 4),(.tok 5),e,(.tok 7)] (.br v (.need [(.le e p),v] (.need [(.ok 2 [u,a,d]),(.le e r),(.lt r f),(.le e p),(.lt p (.len (.call 1 1 [(.tok 7),j])))] (.br (.not (.eq (.call 2 2 [u,a,d]) e)) (.leaf [m,(.call 2 2 [u,a,d]),(.tok 0)]) (.need [(.le (.add (.len (.tok 10)) k) (.lit (.i 8796093021952)))] (.need [(.rng .i64 (.add p k))] (.back 18 [(.tok 8),(.tok 9),(.app (.tok 10) (.row [(.call 2 0 [u,a,d])])),(.add p k),(.call 2 3 [u,a,d])])))))) (.need [(.rng .i64 (.add r k))] (.back 14 [(.tok 8),(.tok 9),(.tok 10),(.add r k),u]))))) (.leaf [(.tok 5),e,(.set (.tok 7) 3 m)]))))))
theorem qol(g0 g1 g2:GfZ):CdZ [(yt,g0),(jf,g1),(q30,g2)] qr3 q1l Tryz.f24 q7y:=fun cd h=>by injection h with h;subst h;kernel_rfl
theorem qr6{g0 g1 g2 g:GfZ}(h0:FOk yt g0)(h1:FOk jf g1)(h2:FOk q30 g2)(h:HgZ q7y q1l [(yt,g0),(jf,g1),(q30,g2)] g):FOk q1l g:=ym (qol g0 g1 g2) (.cons h0 (.cons h1 (.cons h2 .nil))) rfl rfl qkg (by decide) h
def q0p:Ct:=⟨23,[.nilp],[(.row 29,true),(.int .i64,false)],[],none,[],[]⟩
theorem qii:EnZ q0p:=fun _ _=>by kernel_rfl
def q71:Ct:=⟨65,[.nilp,.val (.st 53),.val (.row 102)],[(.st 28,false),(.row 102,true),(.int .i64,false)],[],none,[],[]⟩
theorem qk0:EnZ q71:=fun _ _=>by kernel_rfl
def qd3:Ann:=⟨[0,1,2,3,4,6,7,8,9,10,12,14,16,24,25,26,27,35,36,37,58],[(7,⟨[(26,.int .i64,false)],[2,3],[27,28,29,6,30,31,32,33,34,35,7,8,38,39,40,41,42,43,9,45,46,47,48,49,50,51,52,53,44,54,55,56,10,11,12,57,58,59,60,61,62,63,64],[]⟩),
 (10,⟨[],[2,3],[7,8,38,39,40,41,42,43,9,45,46,47,48,49,50,51,52,53,44,54,55,56,10,11,12,57,58,59,60,61,62,63],[]⟩)]⟩
def q6o:Tree:=(.br (.lit (.b .true)) (.leaf [(.lit (.r [])),(.lit (.i 1))]) (.bad 3001))
theorem ql4(g0 g1 g2 g3 g4 g5:List D→Option (List D)):∀cd,vH.body=some cd→zpk uA [(yv,g0),(z6,g1),(zo,g2),(q0b,g3),(yp,g4),(q71,g5)] qd3 q0p vH cd=q6o:=by
 intro cd h;injection h with h;subst h;kernel_rfl
theorem qns{g0 g1 g2 g3 g4 g5:List D→Option (List D)}(h0:FOk yv g0)(h1:FOk z6 g1)(h2:FOk zo g2)(h3:FOk q0b g3)(h4:FOk yp g4)(h5:FOk q71 g5)(h:∀ds outs,WfA q0p.ars ds→g ds=some outs→q6o.go (qb [(yv,g0),(z6,g1),(zo,g2),(q0b,g3),(yp,g4),(q71,g5)]) (fun o=>o=outs) ds fun _ _=>False):FOk q0p g:=
 zlc qd3 vH _ (.cons h0 (.cons h1 (.cons h2 (.cons h3 (.cons h4 (.cons h5 .nil)))))) zef rfl rfl qii (by decide) fun ds outs hw hg=>by rw[ql4 g0 g1 g2 g3 g4 g5 _ rfl];exact h ds outs hw hg
def q2m:Ct:=⟨6,[.val (.st 26)],[(.bool,false)],[],none,[],[]⟩
theorem qey:EnZ q2m:=fun _ _=>by kernel_rfl
def qhc:Ann:=⟨[0,1,2,3,4,5,6,7,8,9,11,14,24,36,40,51],[(12,⟨[(2,.bool,false),(9,.int .i64,false)],[],[37,38,39,40,43,44,45,46,47,48,49,50,51,41,42],[]⟩)]⟩
def q4b:Tree:=
 let c:X:=.tok 2
 let e:X:=.tok 0
 let f:X:=.lit (.b .false)
 let h:X:=.call 1 0 []
 let i:X:=.lit (.i 0)
 let a:X:=.call 2 0 [e]
 let b:X:=.and (.and (.eq (.call 3 1 [a]) (.call 5 1 [a])) (.call 7 0 [(.call 3 2 [a]),(.call 5 2 [a])])) (.eq (.call 6 1 []) (.lit (.i 1)))
 let d:X:=.len (.call 3 0 [a])
 let g:X:=.call 5 0 [a]
 (.need [(.ok 0 [e])] (.br (.not (.call 0 0 [e])) (.need [(.ok 1 [])] (.leaf [h])) (.need [(.ok 2 [e])] (.need [(.ok 3 [a])] (.need [(.ok 4 [e])] (.br (.not (.call 4 0 [e])) (.need [(.ok 1 [])] (.leaf [h])) (.need [(.ok 2 [e])] (.need [(.ok 5 [a])] (.br (.not (.eq d (.len g))) (.leaf [f]) (.loop 12 1 [f,i] (.br (.lt c d) (.need [(.le i c),(.lt c (.len g)),(.le i c),(.lt c d)] (.br (.not (.eq (.get (.call 3 0 [a]) c) (.get g c))) (.leaf [f]) (.need [(.rng .i64 (.add c (.lit (.i 1))))] (.back 12 [(.tok 1),(.add c (.lit (.i 1)))])))) (.need [(.ok 6 [])] (.need [(.imp (.eq (.call 3 1 [a]) (.call 5 1 [a])) (.ok 7 [(.call 3 2 [a]),(.call 5 2 [a])])),(.imp b (.ok 1 []))] (.leaf [(.and b h)]))))))))))))))
theorem qfd(g0 g1 g2 g3 g4 g5 g6 g7:GfZ):CdZ [(q1i,g0),(q3d,g1),(yt,g2),(y8,g3),(q1m,g4),(q1l,g5),(q0p,g6),(q2a,g7)] qhc q2m Tryz.f6 q4b:=fun cd h=>by injection h with h;subst h;kernel_rfl
theorem qh4{g0 g1 g2 g3 g4 g5 g6 g7 g:GfZ}(h0:FOk q1i g0)(h1:FOk q3d g1)(h2:FOk yt g2)(h3:FOk y8 g3)(h4:FOk q1m g4)(h5:FOk q1l g5)(h6:FOk q0p g6)(h7:FOk q2a g7)(h:HgZ q4b q2m [(q1i,g0),(q3d,g1),(yt,g2),(y8,g3),(q1m,g4),(q1l,g5),(q0p,g6),(q2a,g7)] g):FOk q2m g:=ym (qfd g0 g1 g2 g3 g4 g5 g6 g7) (.cons h0 (.cons h1 (.cons h2 (.cons h3 (.cons h4 (.cons h5 (.cons h6 (.cons h7 .nil)))))))) rfl rfl qey (by decide) h
variable{ops:Array Oper}{Q:Exit→Act→World→Prop}
section
open Go.RowKit Go.Shelf
attribute [local go_sem] Oper.semAt_some
theorem qir(w:World){rest:List Oper}{o:Oper}(hgd:o.guard=none)(s x:Operand)(t t':TypeId)
  (ho:o.op=.call {callee:=.builtin .append,args:= #[s,x],argTypes:= #[t,t']})(v u:Value)(hs:a.eval s=v)(hx:a.eval x=u){v':Value}{w':World}
  (hr:(Builtin.append_ #[t,t'] o.type #[v,u]).run uA w=.ok v' w')(h:wpList uA ops Q rest (a.put o.dst v') w'):wpList uA ops Q (o::rest) a w:=
 wpList_plain hgd fun _ hK=>by
  unfold Oper.wp execOp;simp only[ho,resolve,invoke,builtin,Sem.run_bind,Sem.run_pure,Result.andThen_ok,vG,vK,vM,hs,hx,hr];exact hK _ _ h
theorem zj4{w:World}{k:Nat}{a b c d e f:Value}{T:TypeId}(h:w.heap[k]? =some (.cells #[a,b,c,d,e,f] T (0,0))):
  w.cell? ⟨k,0,none⟩=some a∧w.cell? ⟨k,1,none⟩=some b∧w.cell? ⟨k,2,none⟩=some c∧w.cell? ⟨k,3,none⟩=some d∧w.cell? ⟨k,4,none⟩=some e∧w.cell? ⟨k,5,none⟩=some f:=
 ⟨cell_of_row _ _ 0 _ _ _ h,cell_of_row _ _ 1 _ _ _ h,cell_of_row _ _ 2 _ _ _ h,cell_of_row _ _ 3 _ _ _ h,cell_of_row _ _ 4 _ _ _ h,cell_of_row _ _ 5 _ _ _ h⟩
set_option maxHeartbeats 4000000 in
theorem zks(w:World)(gv:Nat)(v0 v2 v3 n4 n5:Value)(TS:TypeId)(A1:Option Addr)(l c:Nat)(hl:l≤9223372036854775807)(hgv:w.heap[gv]? =some (.cells #[v0,.slice A1 l c,v2,v3,n4,n5] TS (0,0)))(nm:ByteArray)(ar n:Int)
  (hfind:Calls uA 130 #[.agg #[v0,.slice A1 l c,v2,v3,n4,n5],.string nm,.int .i64 ar] w fun e w'=>e=.returned (.int .i64 n)∧But Nil w w'){K:Value→World→Prop}
  (happ:n<0→∀w1 ty,But Nil w w1→w1.heap[w1.heap.size - 1]? =some (.cells #[.string nm,.int .i64 ar] 87 (0,0))→w.heap.size≤w1.heap.size - 1→∃A2 l2 c2 w2,(Builtin.append_ #[23,23] ty #[.slice A1 l c,.slice (some ⟨w1.heap.size - 1,0,none⟩) 1 1]).run uA w1=.ok (.slice A2 l2 c2) w2∧K (.slice A2 l2 c2) w2∧w2.heap[gv]? =w.heap[gv]?):
  Calls uA 122 #[.pointer (some ⟨gv,0,none⟩),.string nm,.int .i64 ar] w fun e w'=>(0≤n∧e=.returned (.int .i64 n)∧But Nil w w')∨(n<0∧e=.returned (.int .i64 l)∧∃v' w2,K v' w2∧w'=w2.setCell ⟨gv,1,none⟩ v'):=by
 obtain⟨c0,c1,c2,c3,c4,c5⟩:=zj4 hgv
 go_enter Tryz.func122,Tryz.ntmps122
 go_wp2_with fail
 refine hfind.mono ?_;rintro e w1⟨rfl,hb1⟩;have hgv1:=(hb1.block gv (qq hgv) id).trans hgv;obtain⟨d0,d1,d2,d3,d4,d5⟩:=zj4 hgv1;by_cases hn:n<0
 ·obtain⟨A2,l2,c2,w2,hr,hk,hg2⟩:=happ hn (w1.alloc (.cells #[.string nm,.int .i64 ar] 87)) 23 (hb1.alloc _) (by rw[hsize,kH];exact q03 rfl) (by rw[hsize,kH];exact hb1.size);rw[hsize,kH] at hr;have hgv2:=hg2.trans hgv;obtain⟨e0,e1,e2,e3,e4,e5⟩:=zj4 hgv2;have hfz:=frz hgv2 1
  go_wp2_with (at_builtin;refine qir _ rfl _ _ _ _ rfl _ _ rfl rfl hr ?_)
  go_ret
  exact .inr ⟨hn,rfl,_,_,hk,rfl⟩
 ·go_wp2_with fail
  go_ret
  exact .inl ⟨by omega,rfl,hb1⟩
end
theorem qcw:FOk yh (gCl 5864062014634):=qcd fun ds outs hw hg=>by
 obtain⟨d,r,rfl,hd,rfl⟩:=hw;obtain⟨l,te,rfl,-⟩:=hd.row;simp only[gCl,za0,uD,uC] at hg;obtain⟨h1,rfl⟩:=hg;exact zhq h1 rfl
def vAt(s:So)(l:List Vc)(k:Nat):Bool:=decide (0≤(l.getD k default).v)&&(decide ((l.getD k default).v≤1099511627776)&&(decide (k=0∨(l.getD (k - 1) default).v<(l.getD k default).v)&&vcP s (l.getD k default).c))
def vvP(s:So)(l:List Vc):Bool:=(vQ l.length).all (vAt s l)
theorem qh3{l:List Vc}{i:Nat}(h:i<l.length):l.getD i default=l[i]:=by
 rw[gnG,gnK h];rfl
theorem qc4{s:So}{l:List Vc}:vvP s l=true↔SV l∧∀x∈l,vcP s x.c=true:=by
 unfold vvP;rw[uO];constructor
 ·intro h;have h':∀k,k<l.length→vAt s l k=true:=fun k hk=>h k (vI.2 hk);have step:∀j i,i<j→j<l.length→(l.getD i default).v<(l.getD j default).v:=by
   intro j
   induction j with
   |zero=>intro i hi;omega
   | succ j ih =>
    intro i hi hj;have h1:=h' (j+1) hj;simp only[vAt,gnB,gnD] at h1;have h2:(l.getD j default).v<(l.getD (j+1) default).v:=by
     rcases h1.2.2.1 with h|h
     ·omega
     ·exact h
    rcases Nat.lt_or_eq_of_le (Nat.le_of_lt_succ hi) with h3|rfl
    ·have:=ih i h3 (by omega);omega
    ·exact h2
  refine⟨⟨kP.2 fun i j hi hj hij=>?_,fun x hx=>?_⟩,fun x hx=>?_⟩
  ·have:=step j i hij hj;rw[qh3 hi,qh3 hj] at this;exact this
  ·obtain⟨i,hi,rfl⟩:=kY.1 hx;have h1:=h' i hi;simp only[vAt,gnB,gnD,qh3 hi] at h1;exact⟨h1.1,h1.2.1⟩
  ·obtain⟨i,hi,rfl⟩:=kY.1 hx;have h1:=h' i hi;simp only[vAt,gnB,gnD,qh3 hi] at h1;exact h1.2.2.2
 ·rintro⟨hs,hc⟩k hk;have hk:=vI.1 hk;have hm:=q8t hk;simp only[vAt,gnB,gnD];refine⟨(hs.2 _ hm).1,(hs.2 _ hm).2,?_,hc _ hm⟩;rcases Nat.eq_zero_or_pos k with h|h
  ·exact .inl h
  ·right;have h1:k - 1<l.length:=by omega
   rw[qh3 h1,qh3 hk];exact kP.1 hs.1 (k - 1) k h1 hk (by omega)
def gVV(f:So→List Vc→Bool):List D→Option (List D)
 |[s,l]=>some [.b (f (dS s) (dVs l))]
 |_=>none
theorem qik:FOk jn (gVV vvP):=qh5 jm fun ds outs hw hg=>by
 obtain⟨d,r,rfl,hd,e,r',rfl,he,rfl⟩:=hw;obtain⟨s,rfl,hs⟩:=wfS hd;obtain⟨l,rfl,hl,hok⟩:=qy1 he;simp only[gVV,zr,q0d,uC] at hg;subst hg;rw[q45,zz];refine⟨fun st=>∃k:Nat,k≤l.length∧st=[.b false,.i k]∧∀j,j<k→vAt s l j=true,fun st=>l.length - (st.getD 1 .u).int.toNat,⟨0,uJ _,rfl,fun j hj=>absurd hj (uU _)⟩,?_⟩;rintro st - ⟨k,hk,rfl,hP⟩;rw[zw];refine⟨fun hlt=>?_,fun hlt=>?_⟩
 ·simp only[gnZ,gnT] at hlt;have hkl:k<l.length:=by omega
  have hvb:=(hok _ (q8t hkl)).1;by_cases h0:k=0
  ·subst h0;have e1:decide ((0:Int)<((0:Nat):Int))=false:=by decide
   simp only[gnZ,gnT,q31 eV hkl,z7k,ze2,qcu,e1,kO,kN,uV,kW,vL,true_and,and_self];refine⟨⟨by omega,by omega⟩,fun hb=>?_,fun hb=>⟨⟨by omega,by omega⟩,?_⟩⟩
   ·have hv:vAt s l 0=false:=by
     simp only[vAt,true_or,decide_true,uX];generalize l.getD 0 default=z at hb⊢;cases hvc:vcP s z.c
     ·simp
     ·simp[hvc] at hb⊢;omega
    rw[vvP,qaa hkl hv]
   ·have hv:vAt s l 0=true:=by
     simp only[vAt,true_or,decide_true,uX];generalize l.getD 0 default=z at hb⊢;cases hvc:vcP s z.c
     ·simp[hvc] at hb
     ·simp[hvc] at hb⊢;omega
    rw[jg,if_pos rfl];exact⟨⟨1,by omega,by simp,q2v hP hv⟩,by simp[D.int];omega⟩
  ·have hk1:((k:Int) - 1)=((k - 1:Nat):Int):=by omega
   have hkp:k - 1<l.length:=by omega
   have hp:(0:Int)<k:=by omega
   have hr1:yz .i64 ((k - 1:Nat):Int)=true:=by simp[yz];omega
   have hr2:(0:Int)≤((k - 1:Nat):Int):=by omega
   have hr3:((k - 1:Nat):Int)<l.length:=by omega
   simp only[gnZ,gnT,hk1,hp,hr1,hr2,hr3,q31 eV hkl,q31 eV hkp,z7k,ze2,qcu,kS,uX];refine⟨⟨by omega,by omega⟩,fun hb=>?_,fun hb=>⟨⟨by omega,by omega⟩,?_⟩⟩
   ·have hv:vAt s l k=false:=by
     simp only[vAt,h0,false_or];generalize l.getD k default=z at hb⊢;cases hvc:vcP s z.c
     ·simp
     ·simp[hvc] at hb⊢;omega
    rw[vvP,qaa hkl hv]
   ·have hv:vAt s l k=true:=by
     simp only[vAt,h0,false_or];generalize l.getD k default=z at hb⊢;cases hvc:vcP s z.c
     ·simp[hvc] at hb
     ·simp[hvc] at hb⊢;omega
    rw[jg,if_pos rfl];exact⟨⟨k+1,by omega,by simp,q2v hP hv⟩,by simp[D.int];omega⟩
 ·simp only[gnZ,gnT] at hlt⊢;have:k=l.length:=by omega
  subst this;simp only[vvP,q8m hP]
def qfm(s:So)(t:Te)(l:List Vc):Bool:=decide ((q46 t l:Int)≤s.mx - s.cs.length)&&decide (((qdr s.ys [] t).length:Int)≤1048576 - s.ys.length)
def qlr(s:So)(t:Te)(l:List Vc):Bool:=decide ((q46 t l:Int)≤IntKind.wrap .i64 (s.mx - s.cs.length))&&decide (((qdr s.ys [] t).length:Int)≤1048576 - s.ys.length)
variable{t:Te}
theorem z7e{s:So}{l:List Vc}(h:yz .i64 (s.mx - s.cs.length)=true):qlr s t l=qfm s t l:=by
 unfold qlr qfm;rw[qde h]
def zb4:List D→Option (List D)
 |[s,t,l]=>if zq (dT t)=true∧szT (dT t)≤2000∧SV (dVs l)∧(dS s).cs.length≤1048576∧(dS s).ys.length≤1048576 then some [.b (qlr (dS s) (dT t) (dVs l))] else none
 |_=>none
theorem qyp:FOk q27 zb4:=qsh qr9 q2h fun ds outs hw hg=>by
 obtain⟨d,r,rfl,hd,e,r',rfl,he,f,r2,rfl,hf,rfl⟩:=hw;obtain⟨s,rfl,hs⟩:=wfS hd;obtain⟨t,rfl,ht⟩:=wfT he;obtain⟨l,rfl,hl,hok⟩:=qy1 hf;simp only[zb4,zr,q1p,q0d,uD,uC] at hg;obtain⟨⟨hnd,hsz,hsv,hcl,hyl⟩,rfl⟩:=hg;have hc:=qlc t;have hv:=qly t s.ys [];have hc0:zq t=true∧(0:Int)≤0∧0+(q5v t:Int)≤1099511627776:=⟨hnd,by omega,by omega⟩;have hc1:zq t=true∧(0:Int)≤1∧1+(q5v t:Int)≤1099511627776:=⟨hnd,by omega,by omega⟩;have hme:(D.mp []=D.mp (eM []))=True:=eq_true rfl;have hmd:dM (D.mp [])=[]:=rfl;simp only[q9j,gnZ,gnT,z1d,zml,q0d,if_pos hsv,fnD,zbo,hmd,hme,if_pos hc0,if_pos hc1,qlr];have hlen:(eM (qdr s.ys [] t)).length=(qdr s.ys [] t).length:=uG _;have hr1:yz .i64 ((qdr s.ys [] t).length:Int)=true:=by simp[yz] at hv⊢;omega
 have hr2:yz .i64 (1048576 - (s.ys.length:Int))=true:=by simp[yz];omega
 have hx:=hs.mx;simp only[hlen,hr1,hr2,Bool.or_true,true_and];refine⟨fun h0=>⟨fun hn=>⟨⟨by omega,by omega⟩,?_⟩,fun hn=>?_⟩,fun h0=>?_⟩
 ·have e:ofV l t.n=none:=by simpa using hn
  rw[q46,if_pos ⟨h0,e⟩,Nat.add_comm];rfl
 ·have e:¬ofV l t.n=none:=fun q=>by rw[q] at hn;cases hn
  rw[q46,if_neg fun q=>e q.2];simp
 ·rw[q46,if_neg fun q=>h0 q.1];simp
def qoj(s:So)(all:List Vc)(t:Te)(a:Int):Bool:=zq t&&(decide (SV all)&&(decide ((s.cs.length:Int)+((if a<0 then q46 t all else q5v t:Nat):Int)≤1048576)&&(decide (a<0→t.k=0→ofV all t.n=none→(s.cs.length:Int)<s.mx)&&(decide ((q33 s.ys t).length≤1048576)&&decide (a≤1048576)))))
def zny:List D→Option (List D)
 |[t,a,all,s]=>if qoj (dS s) (dVs all) (dT t) a.int then some [eC (z9 (dS s,dVs all) (dT t) a.int).1,.r ((z9 (dS s,dVs all) (dT t) a.int).2.2.map eV),eS (z9 (dS s,dVs all) (dT t) a.int).2.1] else none
 |_=>none
variable{nm:ByteArray}
theorem zpe{s:So}{ar:Int}(h:qj9 nm ar=false)(hl:(qb5 s.ys ⟨nm,ar⟩).length≤1048576):znu [eS s,.s nm,.i ar]=some [.i (jp s nm ar).1,.i 0,eS (jp s nm ar).2]:=by
 simp only[znu,zr,q5f,yw,h,jp];by_cases h0:0≤q60 s nm ar
 ·simp[h0]
 ·have h1:¬(⟨nm,ar⟩:Sy)∈s.ys:=fun q=>h0 (qgw.2 q);rw[qb5,if_neg h1] at hl;have h2:¬1048576≤s.ys.length:=by simp at hl;omega
  simp[h0,h2]
theorem z9t(s:So)(i:Nat)(c:Ce):D.a ((eS s).fs.set 0 (.r ((s.cs.map eC).set i (eC c))))=eS (qcn s i c):=by
 rw[←List.map_set];rfl
theorem qsb(s:So)(l:List Ce):D.a ((eS s).fs.set 0 (.r (s.cs.map eC++l.map eC)))=eS {s with cs:=s.cs++l}:=by
 rw[←kK];rfl
theorem qt3:FOk zd zny:=qa2 (m:=mT) q1n fun N ih=>qr1 ih qqa q2h qxk qfl qcf fun ds outs hw hg=>by
 obtain⟨d,r,rfl,hd,e,r',rfl,he,f,r2,rfl,hf,q,r3,rfl,hq,rfl⟩:=hw;obtain⟨t,rfl,ht⟩:=wfT hd;obtain⟨a,rfl,ha⟩:=wfI he;obtain⟨all,rfl,hal,hok⟩:=qy1 hf;obtain⟨s,rfl,hs⟩:=wfS hq;simp only[q3e,mT,zny,uF,q1p,yw,zr,q0d,uD,uC] at hg;obtain⟨hsz,hA,rfl⟩:=hg;simp only[qoj,gnB,gnD] at hA;obtain⟨hnd,hsv,hcs,hmx,hys,hamx⟩:=hA;have hnl:=(q67 t).1 hnd;obtain⟨k,n,nm,l⟩:=t;have hlo:=z37 n all;have hlen:=SV.len hsv;rcases q1t hnl.1 with⟨rfl,rfl,h1,h2⟩|⟨rfl,rfl⟩|⟨rfl,rfl,h1⟩|⟨rfl,h1,h2,h3⟩
 ·have hins:∀c:Ce,zri [.r (all.map eV),.i (loV all n),.r [eV ⟨n,c⟩]]=some [.r ((qa9 all n c).map eV)]:=fun c=>by
   simp only[zri,qa8,yw,uG,List.length_singleton,uK];rw[if_pos ⟨trivial,by omega,by omega,by omega⟩,qk5];simp[kQ,kR]
  have hof:=z8h (v:=n) hsv;rw[q9m];simp only[q2c,gnZ,gnT,Te.k,Te.n,Te.s,Te.l,q63,q8w,zpm,zml,q0d,if_pos hsv,hins];refine⟨fun h=>absurd h (by decide),fun _=>⟨fun h=>absurd h (by decide),fun _=>⟨fun _=>⟨fun ho=>?_,fun ho=>⟨fun ha0=>?_,fun ha0=>?_⟩⟩,fun h=>(by cases h)⟩⟩⟩
  ·split at hof
   ·rename_i hq;simp only[q31 eV hq.1,ze2,hof,q0t];exact⟨⟨by omega,by omega⟩,trivial⟩
   ·rw[hof] at ho;cases ho
  ·have e:ofV all n=none:=by simpa using ho
   have hn:q46 (.mk 0 n nm []) all=1:=by
    rw[q46,qmg (by decide),if_pos ⟨rfl,e⟩]
   rw[if_pos ha0,hn] at hcs;have h4:¬s.mx≤s.cs.length:=by have:=hmx ha0 rfl e;omega
   have h5:s.cs.length<8796093021952:=by omega
   simp only[z2m,zr,h4,h5,decide_false,decide_true,gnF,if_false,if_true,uM,uL,uF,uH,zpm,hins,e,ha0,true_and];exact⟨⟨by omega,by omega,by omega,by omega⟩,trivial⟩
  ·have e:ofV all n=none:=by simpa using ho
   simp only[e,if_neg ha0]
   done
 ·rw[qdd];simp[q2c,gnZ,gnT,Te.k,Te.n,Te.s,Te.l,q8w]
  done
 ·rw[zag] at hys;have hb:qj9 nm 0=false:=by simp[qj9];omega
  rw[qdj];simp[q2c,gnZ,gnT,Te.k,Te.n,Te.s,Te.l,q8w,zpe hb hys]
  done
 ·rw[za8] at hys;have hb:qj9 nm (l.length:Nat)=false:=by simp[qj9];omega
  have hys0:(qb5 s.ys ⟨nm,(l.length:Nat)⟩).length≤1048576:=uW (q7s l _) hys;have hl8:(l.length:Int)≤16777216:=by omega
  obtain⟨y1,y2,y3,y4,y5,y6⟩:=qgx s nm (l.length:Nat);have hcn:(s.cs.length:Int)+((1+l.length+q29 l:Nat):Int)≤1048576:=by
   rw[qta (by decide),zfg] at hcs;split at hcs<;>exact hcs
  rw[qe4,←y1];rw[←y1] at hcn;rw[←y3] at hys;have hS:=zpe (s:=s) hb hys0;have yl:s.ys.length≤(jp s nm (l.length:Nat)).2.ys.length:=by
   rw[y3];unfold qb5;split<;>simp
  have yc:s.cs.length=(jp s nm (l.length:Nat)).2.cs.length:=by rw[y1]
  generalize jp s nm (l.length:Nat)=S at hS hys hcn y2 y4 y5 yl yc⊢;have hz:uN l.length (eC ⟨0,0⟩)=(uN l.length (⟨0,0⟩:Ce)).map eC:=by rw[vC]
  simp only[q2c,gnZ,gnT,Te.k,Te.n,Te.s,Te.l,q8w,hS,z94,uK];refine⟨fun h=>absurd h (by decide),fun _=>⟨fun h=>absurd h (by decide),fun _=>⟨fun h=>absurd h (by decide),fun _=>?_⟩⟩⟩;refine⟨⟨by omega,by omega,by omega,by omega⟩,⟨by omega,by omega⟩,⟨by omega,by omega,by simp;omega,by simp;omega⟩,?_⟩;rw[zz];refine⟨fun st=>∃(k:Nat)(al:List Vc)(s':So),k≤l.length∧st=[.i k,.r (al.map eV),eS s']∧SV al∧s'.mx=s.mx∧(s'.cs.length:Int)+(q29 (l.drop k):Int)≤1048576∧S.2.cs.length+1+l.length≤s'.cs.length∧(q0e s'.ys (l.drop k)).length≤1048576∧(s.ys.length≤s'.ys.length∧s'.tr=s.tr∧s'.wk=s.wk)∧je (s',al) (l.drop k) (S.2.cs.length+1+k)=je ({S.2 with cs:=S.2.cs++(⟨4,S.1⟩::uN l.length ⟨0,0⟩)},all) l (S.2.cs.length+1),fun st=>l.length - (st.getD 0 .u).int.toNat,⟨0,all,{S.2 with cs:=S.2.cs++(⟨4,S.1⟩::uN l.length ⟨0,0⟩)},uJ _,?_,hsv,y2,by simp;omega,by simp;omega,hys,⟨yl,y4,y5⟩,rfl⟩,?_⟩
  ·simp only[X.evs,gnZ,gnT,Te.k,Te.n,Te.s,Te.l,q8w,hS,z94,uK,hz,qsb];simp[eS,D.fs]
  rintro st - ⟨k,al,s',hk,rfl,hsv',hmx',hc',hb',hy',⟨hyl,htr',hwk'⟩,hP⟩;rw[zw];refine⟨fun hlt=>?_,fun hlt=>?_⟩
  ·simp only[gnZ,gnT,Te.l] at hlt;have hkl:k<l.length:=by omega
   have ha:=qfv (t:=.mk 3 n nm l) hkl;simp only[Te.l] at ha;have hto:((S.2.cs.length:Int)+1+(k:Int))=((S.2.cs.length+1+k:Nat):Int):=by omega
   have hdr:=qae hkl;rw[hdr,q29] at hc';rw[hdr,q0e] at hy';rw[hdr,je] at hP;have hsy:=uW (q7s (l.drop (k+1)) (q33 s'.ys (l.getD k default))) hy';have hnk:=hnl.2 k hkl;simp only[Te.l] at hnk;have hQ:qoj s' al (l.getD k default) ((S.2.cs.length+1+k:Nat):Int)=true:=by
    have h0:¬(((S.2.cs.length+1+k:Nat):Int)<0):=by omega
    simp only[qoj,if_neg h0,gnB,gnD];exact⟨hnk,hsv',by omega,fun h=>absurd h h0,hsy,by omega⟩
   obtain⟨g1,g2,g3,g4⟩:=q2x (l.getD k default) (s',al) ((S.2.cs.length+1+k:Nat):Int) hnk hsv';rw[if_neg (by omega)] at g1;simp only[gnZ,gnT,Te.k,Te.n,Te.s,Te.l,hS,quf hkl,hto,q3e,mT,zny,q0d,if_pos hQ,if_pos (show szT (l.getD k default)<N by omega)];generalize z9 (s',al) (l.getD k default) ((S.2.cs.length+1+k:Nat):Int)=R at g1 g2 g3 g4 hP⊢;simp only at g1;simp only[gnZ,gnT,uK,z9t];refine⟨⟨by omega,by omega⟩,⟨⟨by omega,by omega⟩,by omega,by omega⟩,⟨by omega,by omega,by rw[htr'];exact vA _,by rw[hwk'];exact vA _⟩,⟨by omega,by omega,by omega⟩,⟨by omega,by omega⟩,?_⟩;rw[jg,if_pos rfl];refine⟨⟨k+1,R.2.2,qcn R.2.1 (S.2.cs.length+1+k) R.1,by omega,by simp,g4,g3.1.trans hmx',?_,?_,?_,?_,hP⟩,?_⟩
   ·rw[q3r,g1];omega
   ·rw[q3r,g1];omega
   ·show(q0e R.2.1.ys _).length≤_
    rw[g2];exact hy'
   ·refine⟨?_,g3.2.1.trans htr',g3.2.2.1.trans hwk'⟩
    show s.ys.length≤R.2.1.ys.length
    rw[g2];exact uW hyl (qmc _ _)
   ·simp[D.int];omega
  ·simp only[gnZ,gnT,Te.l] at hlt;have:k=l.length:=by omega
   subst this;rw[kC,je] at hP;simp only[gnZ,gnT,Te.k,Te.n,Te.s,Te.l,q8w,hS,←hP]
def z5b(s:So)(t:Te)(l:List Vc):Ce×List Vc×Int×So:=
 if q01 t&&vvP s l then(if qfm s t l then((z9 (s,l) t (-1)).1,(z9 (s,l) t (-1)).2.2,0,(z9 (s,l) t (-1)).2.1) else(⟨0,0⟩,[],13,s)) else(⟨0,0⟩,[],1,s)
def z9v:List D→Option (List D)
 |[s,t,l]=>if zi (dS s) then some [eC (z5b (dS s) (dT t) (dVs l)).1,.r ((z5b (dS s) (dT t) (dVs l)).2.1.map eV),.i (z5b (dS s) (dT t) (dVs l)).2.2.1,eS (z5b (dS s) (dT t) (dVs l)).2.2.2] else none
 |_=>none
theorem z70{s:So}(h:zi s=true):1≤s.mx∧s.mx≤1048576∧(s.cs.length:Int)≤s.mx∧s.ys.length≤1048576:=by
 have h:=qs8 h;simp only[qg2,q95,gnB,gnD] at h;omega
theorem zp5{s:So}(h:zi s=true):yz .i64 (s.mx - s.cs.length)=true:=by
 obtain⟨h1,h2,h3,h4⟩:=z70 h;simp[yz];omega
theorem z7l{s:So}{l:List Vc}(hs:zi s=true)(ht:q01 t=true)(hl:vvP s l=true)(hr:qfm s t l=true):qoj s l t (-1)=true:=by
 obtain⟨h1,h2,h3,h4⟩:=z70 hs;simp only[q01,gnB,gnD] at ht;simp only[qfm,gnB,gnD] at hr;have hv:=qve t s.ys [];rw[kL] at hv;have hv':=congrArg kB hv;rw[kF] at hv';simp only[qoj,gnB,gnD];refine⟨ht.2,(qc4.1 hl).1,by rw[if_pos (by decide)];omega,fun _ hk he=>?_,by omega,by decide⟩;have:1≤q46 t l:=by
  unfold q46;rw[if_pos ⟨hk,he⟩];omega
 omega
def qpa(s:So)(t:Te)(l:List Vc):Ce×List Vc×Int×So:=
 if q01 t&&vvP s l then(if qlr s t l then((z9 (s,l) t (-1)).1,(z9 (s,l) t (-1)).2.2,0,(z9 (s,l) t (-1)).2.1) else(⟨0,0⟩,[],13,s)) else(⟨0,0⟩,[],1,s)
def qo1(s:So)(t:Te)(l:List Vc):Bool:= !(q01 t&&vvP s l)||(decide (s.cs.length≤1048576)&&(decide (s.ys.length≤1048576)&&(!qlr s t l||qoj s l t (-1))))
def z12:List D→Option (List D)
 |[s,t,l]=>if qo1 (dS s) (dT t) (dVs l) then some [eC (qpa (dS s) (dT t) (dVs l)).1,.r ((qpa (dS s) (dT t) (dVs l)).2.1.map eV),.i (qpa (dS s) (dT t) (dVs l)).2.2.1,eS (qpa (dS s) (dT t) (dVs l)).2.2.2] else none
 |_=>none
theorem za1{s:So}(h:zi s=true)(t:Te)(l:List Vc):qpa s t l=z5b s t l:=by
 unfold qpa z5b;rw[z7e (zp5 h)]
theorem zqj{s:So}(h:zi s=true)(t:Te)(l:List Vc):qo1 s t l=true:=by
 unfold qo1;rw[z7e (zp5 h)];obtain⟨h1,h2,h3,h4⟩:=z70 h;cases hv:(q01 t&&vvP s l)
 ·rfl
 ·simp only[gnB] at hv;have e1:s.cs.length≤1048576:=by omega
  cases hr:qfm s t l
  ·simp[e1,h4]
  ·simp[e1,h4,z7l h hv.1 hv.2 hr]
theorem qi7:FOk zx z12:=qyg qt3 qck qik qyp qcw fun ds outs hw hg=>by
 obtain⟨d,r,rfl,hd,e,r',rfl,he,f,r2,rfl,hf,rfl⟩:=hw;obtain⟨s,rfl,hs⟩:=wfS hd;obtain⟨t,rfl,ht⟩:=wfT he;obtain⟨l,rfl,hl,hok⟩:=qy1 hf;simp only[z12,zr,q1p,q0d,uD,uC] at hg;obtain⟨hv,rfl⟩:=hg;have hz:D.a [.i 0,.i 0]=eC ⟨0,0⟩:=rfl;have hQ:q01 t=true→vvP s l=true→s.cs.length≤1048576∧s.ys.length≤1048576∧(qlr s t l=true→qoj s l t (-1)=true):=fun a b=>by
  unfold qo1 at hv;rw[a,b] at hv;simp only[kT,uT,kE,gnB,gnD,Bool.or_eq_true,vF] at hv;exact⟨hv.1,hv.2.1,fun c=>hv.2.2.resolve_left (by rw[c];decide)⟩
 have hgr:q01 t=true→vvP s l=true→zb4 [eS s,eT t,.r (l.map eV)]=some [.b (qlr s t l)]:=fun a b=>by
  obtain⟨h1,h2,-⟩:=hQ a b;simp only[q01,gnB,gnD] at a;simp only[zb4,zr,q1p,q0d];rw[if_pos ⟨a.2,a.1,(qc4.1 b).1,h1,h2⟩]
 simp only[qbn,gnZ,gnT,gTb,gVV,gCl,za0,hl,hz,q0d,qpa];cases hvt:q01 t
 ·simp
 cases hvl:vvP s l
 ·simp
 simp only[hgr hvt hvl];cases hrm:qlr s t l
 ·simp[D.tt]
 simp[zny,zr,q1p,q0d,D.int,D.tt,(hQ hvt hvl).2.2 hrm]
theorem z44:FOk zx z9v:=qi7.sub fun ds outs h=>by
 unfold z9v at h;split at h
 ·rename_i s t l;split at h
  ·rename_i hv;rw[z12,if_pos (zqj hv _ _),za1 hv];exact h
  ·cases h
 ·cases h
variable{cs:List Value}
section
abbrev nS:TypeId:=match qd with
 |.st S=>S
 |_=>0
theorem zoj:flds nS=some [.row 29,.row 87,.row 71,.row 73,.int .i64,.int .i64]:=by kernel_rfl
theorem zoi:qn 0 qd=[(0,1),(1,2),(2,3),(3,4)]:=by kernel_rfl
theorem zkq:qj 87=some yd:=by kernel_rfl
theorem zu3:qj 23=some (.row 87):=by kernel_rfl
abbrev nY:TypeId:=match yd with
 |.st S=>S
 |_=>0
theorem zvt:flds nY=some [.str,.int .i64]:=by kernel_rfl
theorem wSy:yd.w=2:=by kernel_rfl
theorem zt7:LM yd=5864062014634:=by kernel_rfl
section
variable{A:Nat→Prop}{F:Flr}{p:qg}{w:World}{dep:List Nat}
theorem z1e{pin E:Nat}{te:Ty}(hte:qj E=some te){l:List D}(h:Fl A p w dep (some pin) (.r l) (.row E) cs):∃v,cs=[v]∧q1e A p w dep pin E te l v:=by
 rcases h with⟨E',te',l',v,e,hte',e2,rfl,hv⟩|⟨K,V,kt,vt,l',g,es,clock,e,-⟩
 ·injection e with e;subst e;injection e2 with e2;subst e2;obtain rfl:=gnI (hte.symm.trans hte');exact⟨v,rfl,hv⟩
 ·cases e
theorem zfv{n:Int}(h:Fl A p w dep none (.i n) (.int .i64) cs):cs=[.int .i64 n]∧yz .i64 n=true:=by
 obtain⟨k,e,h1,h2⟩:=h;injection e with e;subst e;exact⟨h1,h2⟩
theorem zda{s:So}{tC tU tW:Ty}(hC:qj 29=some tC)(hU:qj 71=some tU)(hW:qj 73=some tW)(h:Con A p w (eS s) qd (qn 0 qd) [] cs):
  ∃v0 v1 v2 v3,cs=[v0,v1,v2,v3,.int .i64 s.ser,.int .i64 s.mx]∧q1e A p w [] 1 29 tC (s.cs.map eC) v0∧q1e A p w [] 2 87 yd (s.ys.map eY) v1∧q1e A p w [] 3 71 tU (s.tr.map eU) v2∧q1e A p w [] 4 73 tW (s.wk.map eW) v3∧yz .i64 s.ser=true∧yz .i64 s.mx=true:=by
 rw[zoi] at h;obtain⟨fs,ds,hf,e,t0,ts0,c0,r0,e0,q0,h0,t1,ts1,c1,r1,e1,q1,h1,t2,ts2,c2,r2,e2,q2,h2,t3,ts3,c3,r3,e3,q3,h3,t4,ts4,c4,r4,e4,q4,h4,t5,ts5,c5,r5,e5,q5,h5,hn⟩:∃fs ds,flds nS=some fs∧eS s=.a ds∧∃t0 ts0 c0 r0,fs=t0::ts0∧cs=c0++r0∧Fl A p w [] (some 1) (.r (s.cs.map eC)) t0 c0∧∃t1 ts1 c1 r1,ts0=t1::ts1∧r0=c1++r1∧Fl A p w [] (some 2) (.r (s.ys.map eY)) t1 c1∧∃t2 ts2 c2 r2,ts1=t2::ts2∧r1=c2++r2∧Fl A p w [] (some 3) (.r (s.tr.map eU)) t2 c2∧∃t3 ts3 c3 r3,ts2=t3::ts3∧r2=c3++r3∧Fl A p w [] (some 4) (.r (s.wk.map eW)) t3 c3∧∃t4 ts4 c4 r4,ts3=t4::ts4∧r3=c4++r4∧Fl A p w [] none (.i s.ser) t4 c4∧∃t5 ts5 c5 r5,ts4=t5::ts5∧r4=c5++r5∧Fl A p w [] none (.i s.mx) t5 c5∧ts5=[]∧r5=[]:=by
  obtain⟨fs,ds,hf,e,h⟩:=h;have e':=e;unfold eS at e';injection e' with e';subst e';exact⟨fs,_,hf,e,h⟩
 rw[zoj] at hf;obtain rfl:=gnI hf;obtain⟨rfl,rfl⟩:=uI e0;obtain⟨rfl,rfl⟩:=uI e1;obtain⟨rfl,rfl⟩:=uI e2;obtain⟨rfl,rfl⟩:=uI e3;obtain⟨rfl,rfl⟩:=uI e4;obtain⟨rfl,rfl⟩:=uI e5;obtain⟨v0,rfl,g0⟩:=z1e hC h0;obtain⟨v1,rfl,g1⟩:=z1e zkq h1;obtain⟨v2,rfl,g2⟩:=z1e hU h2;obtain⟨v3,rfl,g3⟩:=z1e hW h3;obtain⟨rfl,g4⟩:=zfv h4;obtain⟨rfl,g5⟩:=zfv h5;obtain⟨-,rfl⟩:=hn;refine⟨v0,v1,v2,v3,?_,g0,g1,g2,g3,g4,g5⟩;rw[q0,q1,q2,q3,q4,q5];rfl
theorem zrm{s:So}{tC tU tW:Ty}(hC:qj 29=some tC)(hU:qj 71=some tU)(hW:qj 73=some tW){v0 v1 v2 v3:Value}(h0:q1e A p w [] 1 29 tC (s.cs.map eC) v0)(h1:q1e A p w [] 2 87 yd (s.ys.map eY) v1)(h2:q1e A p w [] 3 71 tU (s.tr.map eU) v2)(h3:q1e A p w [] 4 73 tW (s.wk.map eW) v3)(h4:yz .i64 s.ser=true)(h5:yz .i64 s.mx=true):
  Con A p w (eS s) qd (qn 0 qd) [] [v0,v1,v2,v3,.int .i64 s.ser,.int .i64 s.mx]:=by
 rw[zoi];refine⟨_,_,zoj,rfl,.row 29,_,[v0],[v1,v2,v3,.int .i64 s.ser,.int .i64 s.mx],rfl,rfl,.inl ⟨_,tC,_,v0,rfl,hC,rfl,rfl,h0⟩,.row 87,_,[v1],[v2,v3,.int .i64 s.ser,.int .i64 s.mx],rfl,rfl,.inl ⟨_,_,_,v1,rfl,zkq,rfl,rfl,h1⟩,.row 71,_,[v2],[v3,.int .i64 s.ser,.int .i64 s.mx],rfl,rfl,.inl ⟨_,tU,_,v2,rfl,hU,rfl,rfl,h2⟩,.row 73,_,[v3],[.int .i64 s.ser,.int .i64 s.mx],rfl,rfl,.inl ⟨_,tW,_,v3,rfl,hW,rfl,rfl,h3⟩,.int .i64,_,[.int .i64 s.ser],[.int .i64 s.mx],rfl,rfl,⟨.i64,rfl,rfl,h4⟩,.int .i64,[],[.int .i64 s.mx],[],rfl,rfl,⟨.i64,rfl,rfl,h5⟩,rfl,rfl⟩
end
theorem qun:FOk q5e zfo:=quv fun ds outs hw hg=>by
 obtain⟨d,r,rfl,hd,e,r',rfl,he,f,r2,rfl,hf',rfl⟩:=hw;obtain⟨s,rfl,hs⟩:=wfS hd;obtain⟨nm,rfl,hn⟩:=he.str;obtain⟨ar,rfl,ha⟩:=wfI hf';simp only[zfo,zr,q5f,yw,uC] at hg;subst hg;have hl:=hs.ys.1;rw[q9b,zz];refine⟨fun st=>∃k:Nat,k≤s.ys.length∧st=[.i 0,.i k]∧fnd nm ar k (s.ys.drop k)=q60 s nm ar,fun st=>s.ys.length - (st.getD 1 .u).int.toNat,⟨0,uJ _,rfl,rfl⟩,?_⟩;rintro st - ⟨k,hk,rfl,hf⟩;simp only[gnZ];refine⟨fun hlt=>?_,fun hlt=>?_⟩
 ·have hkn:k<s.ys.length:=by omega
  rw[z7x hkn] at hf;simp only[q31 eY hkn,zec,z9h,zjx,q6r];generalize s.ys.getD k default=z at hf;refine⟨⟨by omega,by omega,by simp,by simp;omega⟩,fun he=>?_,fun he=>⟨⟨by omega,by omega⟩,?_⟩⟩
  ·have he':z.name=nm∧z.ar=ar:=by simpa using he
   rw[if_pos he'] at hf;rw[←hf]
  ·have he':¬(z.name=nm∧z.ar=ar):=by simpa using he
   rw[if_neg he'] at hf;rw[jg,if_pos rfl];refine⟨⟨k+1,hkn,by simp,hf⟩,?_⟩;simp[D.int];omega
 ·have:k=s.ys.length:=by omega
  subst this;rw[kC] at hf;rw[←hf];rfl
def qtp:List D→Option (List D)
 |[s,nm,ar]=>if(dS s).ys.length<5864062014634 then some [.i (jp (dS s) nm.str ar.int).1,eS (jp (dS s) nm.str ar.int).2] else none
 |_=>none
theorem z7d(A:Nat→Prop)(F:Flr)(p:qg)(w:World)(vs us:List Value)(ds outs:List D)(hg:qtp ds=some outs)(hfl0:qg3 ze F ds)(hfo:Flo F w w)(hpre:Pre ze.ar.length A F p w)(hvl:vs.length=ze.ar.length)(hargs:j7 (vs++us) A p w ze.all (vs++us) ds):
  Calls uA ze.f vs.toArray w fun e w'=>∃rs p',e=.returned (qet rs)∧Bs A F w (pinned p) p' w'∧q91 A p' w' ze.rs ze.ar.length rs (outs.take ze.rs.length)∧q3k (vs++us) A p p' w' ze.all (outs.drop ze.rs.length)∧Kpt ze.kp p p' w w':=by
 have h0:∀te,F.mx te=0:=fun te=>hfl0.zero rfl te;have hF:∀{w1 w2:World},Flo F w1 w2:=fun{w1 w2}=>Flo.of0 h0 hfo;obtain⟨hwf,-,-⟩:=hargs.wf;rw[all_map] at hwf;obtain⟨d,r,rfl,hd,e,r',rfl,he,f,r2,rfl,hf',rfl⟩:=hwf;obtain⟨s,rfl,hs⟩:=wfS hd;obtain⟨nm,rfl,hn⟩:=he.str;obtain⟨ar,rfl,ha⟩:=wfI hf';simp only[qtp,zr,q5f,yw,uD,uC] at hg;obtain⟨hlen,rfl⟩:=hg;obtain⟨x0,r0,d0,ds0,e0,e00,⟨gv,cs,TS,hp0,rfl,hgv,hty,hcon⟩,x1,r1,d1,ds1,e1,e11,⟨cs1,hpk1,hc1⟩,x2,r2,d2,ds2,e2',e22,⟨cs2,hpk2,hc2⟩,hr⟩:=hargs;obtain rfl:r2=[]:=hr.1;subst e1 e2';obtain⟨rfl,rfl⟩:=uI e00;obtain⟨rfl,rfl⟩:=uI e11;obtain⟨rfl,-⟩:=uI e22;clear e00 e11 e22 hr;obtain⟨rfl,rfl⟩:vs=[.pointer (some ⟨gv,0,none⟩),x1,x2]∧us=[]:=by
  have hl3:vs.length=3:=hvl;have hus:us.length=0:=by
   have:=congrArg kB e0;simp at this;omega
  obtain rfl:=List.length_eq_zero_iff.1 hus;exact⟨by simpa using e0,rfl⟩
 clear e0;obtain⟨-,rfl,hnm⟩:D.str (.s nm)=nm∧cs1=[.string nm]∧nm.size≤LIM:=⟨rfl,hc1.2.1,hc1.2.2⟩;obtain rfl:Value.string nm=x1:=(uI hpk1).1;obtain⟨k2,ek2,rfl,hra⟩:=hc2;injection ek2 with ek2;subst ek2;obtain rfl:Value.int .i64 ar=x2:=(uI hpk2).1;obtain⟨tC,hC⟩:∃t,qj 29=some t:=⟨qk,by kernel_rfl⟩;obtain⟨tU,hU⟩:∃t,qj 71=some t:=⟨q2f,by kernel_rfl⟩;obtain⟨tW,hW⟩:∃t,qj 73=some t:=⟨yo,by kernel_rfl⟩;have hcon:Con A p w (eS s) qd (qn 0 qd) [] cs.toList:=hcon;obtain⟨v0,v1,v2,v3,hcs,o0,o1,o2,o3,i4,i5⟩:=zda hC hU hW hcon;have hp0:p 0=some gv:=hp0;obtain rfl:cs= #[v0,v1,v2,v3,.int .i64 s.ser,.int .i64 s.mx]:=by
  apply Array.ext';exact hcs
 obtain⟨A1,l1,c1,rfl,hl1⟩:∃A1 l1 c1,v1=.slice A1 l1 c1∧l1=s.ys.length:=by
  rcases o1 with⟨rfl,h⟩|⟨g,cap,cur,rfl,-⟩
  ·exact⟨_,_,_,rfl,by have:=congrArg kB h;simp at this;simp[this]⟩
  ·exact⟨_,_,_,rfl,by simp⟩
 have hflat:zp 8 yd=true:=by kernel_rfl
 have hy:∀(W:World)(F:Nat→Prop),Rd W F (eY ⟨nm,ar⟩) yd [.string nm,.int .i64 ar]:=fun W F=>⟨nY,_,rfl,zvt,.str,_,[.string nm],[.int .i64 ar],rfl,rfl,⟨rfl,rfl,hnm⟩,.int .i64,[],[.int .i64 ar],[],rfl,rfl,⟨.i64,rfl,rfl,hra⟩,rfl,rfl⟩
 have hrd:Rd w (FFD A (fun _=>none) []) (eS s) qd [v0,.slice A1 l1 c1,v2,v3,.int .i64 s.ser,.int .i64 s.mx]:=
  Rd.mono (fun b _ hb=>by
   rcases hb with⟨h,-⟩|⟨x,-,h⟩
   ·exact .inl ⟨h,fun x hx=>by cases hx⟩
   ·exact .inl ⟨hpre.pa x b h,fun x hx=>by cases hx⟩) (hcon.rd (dep':=(qn 0 qd).map (·.2)) (fun _ h=>by cases h) (fun _ h=>h))
 have hfind:Calls uA 130 #[.agg #[v0,.slice A1 l1 c1,v2,v3,.int .i64 s.ser,.int .i64 s.mx],.string nm,.int .i64 ar] w fun e w'=>e=.returned (.int .i64 (q60 s nm ar))∧But Nil w w':=by
  refine(qun.call A F (fun _=>none) w [.agg #[v0,.slice A1 l1 c1,v2,v3,.int .i64 s.ser,.int .i64 s.mx],.string nm,.int .i64 ar] [] [eS s,.s nm,.i ar] _ rfl (qg3.of0 h0) hfo ⟨by simp,by simp,by simp,by simp,hpre.new,by simp⟩ rfl
   ⟨_,_,_,_,rfl,rfl,⟨_,rfl,hrd⟩,_,_,_,_,rfl,rfl,⟨[.string nm],rfl,rfl,rfl,hnm⟩,_,_,_,_,rfl,rfl,⟨[.int .i64 ar],rfl,.i64,rfl,rfl,hra⟩,rfl,rfl⟩).mono ?_
  rintro e w'(⟨T,hT,-⟩|⟨rs,p',rfl,hb,⟨v,r,d,ds',rfl,hd',⟨cs',hpk,hcn⟩,hr0⟩,-⟩)
  ·cases hT
  ·obtain rfl:r=[]:=hr0;obtain⟨rfl,-⟩:=uI hd';obtain⟨k,ek,rfl,-⟩:=hcn;injection ek with ek;subst ek;obtain rfl:Value.int .i64 (q60 (dS (eS s)) (D.s nm).str (D.i ar).int)=v:=(uI hpk).1;exact⟨by rw[zr];rfl,hb.but.mono fun i⟨x,hx⟩_=>by cases hx⟩
 have hst1:∀{w1:World},But Nil w w1→Stab A no no p w p w1:=fun{w1}hb1=>⟨hb1.size,fun b hlt _ hf=>⟨hb1.block b hlt id,hf⟩,fun _ _ _ h=>h,fun x b _ hx=>hb1.block b (hpre.bd x b hx) id⟩;have hbs1:∀{w1:World},But Nil w w1→Bs A F w (pinned p) p w1:=fun{w1}hb1=>⟨hpre.inj,fun x b hx=>vE (hpre.bd x b hx) hb1.size,hb1.of_nil,fun x b hx=>.inl ⟨x,hx⟩,hpre.new,hpre.pa,fun x b hx=>(hpre.obj x b hx).same (hb1.block b (hpre.bd x b hx) id),hF⟩;refine(zks w gv v0 v2 v3 (.int .i64 s.ser) (.int .i64 s.mx) TS A1 l1 c1 (by omega) hgv nm ar (q60 s nm ar) hfind (K:=fun v' w2=>∃w1 p',But Nil w w1∧AppOut A F w (pinned p) p w1 (some 2) 2 87 yd (s.ys.map eY).length [.string nm,.int .i64 ar] [eY ⟨nm,ar⟩].length v' p' w2) fun hneg w1 ty hb1 hcell hge=>?_).mono ?_
 ·have o1':=o1.kept (hst1 hb1) (fun x hx=>by cases hx) ⟨rfl,rfl⟩;obtain⟨v',p',w2,hr,hap⟩:=z2q (T:=23) zu3 zkq (pin:=some 2) (P':=2) (hbs1 hb1) (fun _ _=>rfl) (fun x _=>by rw[h0];exact uJ _) (n:=(s.ys.map eY).length) (m:=[eY ⟨nm,ar⟩].length) (cb:=1) (va:=.slice A1 l1 c1) (by
    rcases o1' with⟨h1,h2⟩|⟨g,cap,cur,h1,h2,h3,h4,h5,h6,h7,-⟩
    ·exact .inl ⟨h1,by rw[h2];rfl⟩
    ·exact .inr ⟨2,g,cap,cur,rfl,h1,h2,h3,h4,h5,h6⟩) (Ab:=some ⟨w1.heap.size - 1,0,none⟩) (news:=[.string nm,.int .i64 ar]) (by rw[wSy];rfl) (fun ad h j u hj=>by
    injection h with h;subst h;rw[Addr.add_lit,kJ,cell_of_row w1 _ j _ _ (0,0) hcell];simpa using hj) (fun h=>by cases h) (fun c hc=>by simp at hc;rcases hc with rfl|rfl<;>rfl) (by rw[zt7,uG];simp;omega) ty
  obtain⟨A2,l2,c2,rfl⟩:∃A2 l2 c2,v'=.slice A2 l2 c2:=by
   rcases hap.res with⟨rfl,-⟩|⟨g',cap',cur',rfl,-⟩<;>exact⟨_,_,_,rfl⟩
  exact⟨A2,l2,c2,w2,hr,⟨w1,p',hb1,hap⟩,(hap.stab.con 0 gv rfl hp0).trans (hb1.block gv (qq hgv) id)⟩
 ·rintro e w'(⟨h0,rfl,hb⟩|⟨h0,rfl,v',w2,⟨w1,p',hb1,hap⟩,rfl⟩)
  ·have hN:jp s nm ar=(q60 s nm ar,s):=by unfold jp;rw[if_pos h0]
   rw[hN];have hrn:yz .i64 (q60 s nm ar)=true:=by
    rcases zax (nm:=nm) (ar:=ar) 0 s.ys with h|⟨h1,h2⟩
    ·exact absurd (show 0≤fnd nm ar 0 s.ys from h0) (by omega)
    ·show yz .i64 (fnd nm ar 0 s.ys)=true
     simp[yz];omega
   refine⟨[.int .i64 (q60 s nm ar)],p,rfl,hbs1 hb,⟨_,_,_,_,rfl,rfl,⟨[.int .i64 (q60 s nm ar)],rfl,.i64,rfl,rfl,hrn⟩,rfl⟩,⟨_,_,rfl,⟨gv,_,TS,hp0,hp0,(hb.block gv (qq hgv) id).trans hgv,hty,hcon.kept (hst1 hb) (fun x hx=>by cases hx) fun _ _=>⟨rfl,rfl⟩⟩,rfl⟩,fun q hq b hb'=>⟨hb',hb.block b (hpre.bd q b hb') id⟩⟩
  ·have hN:jp s nm ar=(((s.ys.length:Nat):Int),({s with ys:=s.ys++[⟨nm,ar⟩]}:So)):=by unfold jp;rw[if_neg (by omega)]
   rw[hN];have hg2:w2.heap[gv]? =some (.cells #[v0,.slice A1 l1 c1,v2,v3,.int .i64 s.ser,.int .i64 s.mx] TS (0,0)):=((hap.stab.con 0 gv rfl hp0).trans (hb1.block gv (qq hgv) id)).trans hgv;have hp0':p' 0=some gv:=hap.stab.loc 0 gv rfl hp0;have hg3:(w2.setCell ⟨gv,1,none⟩ v').heap[gv]? =some (.cells #[v0,v',v2,v3,.int .i64 s.ser,.int .i64 s.mx] TS (0,0)):=by
    have:=ql6 (i:=1) hg2 v';simpa using this
   have hne:∀{k:Nat},k≠gv→(w2.setCell ⟨gv,1,none⟩ v').heap[k]? =w2.heap[k]? :=fun{k}hk=>Below.heap_setCell _ _ _ _ hk;have hsz:(w2.setCell ⟨gv,1,none⟩ v').heap.size=w2.heap.size:=by simp[World.setCell]
   have hst:Stab A (fun x=>uY x 0||uY x 2) (fun x=>uY x 2) p w p' (w2.setCell ⟨gv,1,none⟩ v'):=by
    refine⟨by rw[hsz];exact uW hb1.size hap.stab.size,fun b hlt ha' hf=>?_,fun x b hl hx=>hap.stab.loc x b (by show(uY x 2||uY x 2)=false;rw[show uY x 2=false from hl];rfl) hx,fun x b hz hx=>?_⟩
    ·obtain⟨q1,q2⟩:=hap.stab.free b (vE hlt hb1.size) ha' hf;exact⟨((hne (fun e:b=gv=>hf 0 (by rw[e];exact hp0))).trans q1).trans (hb1.block b hlt id),q2⟩
    ·simp only[Bool.or_eq_false_iff] at hz;have hb0:b≠gv:=fun e=>by
      subst e;have:=hpre.inj x 0 b hx hp0;subst this;simp at hz
     exact((hne hb0).trans (hap.stab.con x b (by show(uY x 2||uY x 2)=false;rw[hz.2];rfl) hx)).trans (hb1.block b (hpre.bd x b hx) id)
   have hst2:Stab A (fun x=>uY x 0) no p' w2 p' (w2.setCell ⟨gv,1,none⟩ v'):=by
    refine⟨by rw[hsz];exact Nat.le_refl _,fun b hlt ha' hf=>⟨hne (fun e:b=gv=>hf 0 (by rw[e];exact hp0')),hf⟩,fun x b _ hx=>hx,fun x b hz hx=>hne fun e=>?_⟩;subst e;have:=hap.bs.inj x 0 b hx hp0';subst this;simp at hz
   have hown:=AppOut.own (c:=cxA [] ze A F p [] [] []) zkq (la:=s.ys.map eY) (lb:=[eY ⟨nm,ar⟩]) hap (dep:=[]) (by rw[zt7,uG];simp;omega) (by rw[wSy];rfl) (fun j hj=>by
     have hj0:j=0:=by simpa using hj
     subst hj0;rw[wSy];exact hy _ _) (fun x g hx hg j hj=>by
     injection hx with hx;subst hx;rcases o1.kept (hst1 hb1) (fun x hx=>by cases hx) ⟨rfl,rfl⟩ with⟨-,h⟩|⟨g',cap,cur,-,h2,-,-,-,-,-,h5⟩
     ·rw[h] at hj;cases hj
     ·obtain rfl:=gnI (hg.symm.trans h2);obtain⟨vs,q1,q2⟩:=h5 j hj;exact⟨vs,q1,Rd.flat 8 _ hflat q2⟩)
   have hown':=hown.kept hst2 (fun x hx=>by cases hx) ⟨rfl,rfl⟩;have hbs:Bs A F w (pinned p) p' (w2.setCell ⟨gv,1,none⟩ v'):=⟨hap.bs.inj,fun x b hx=>by rw[hsz];exact hap.bs.bd x b hx,hap.bs.but.setCell (.inl ⟨0,hp0⟩) _,hap.bs.pin,hap.bs.new,hap.bs.pa,fun x b hx=>by
    by_cases e:b=gv
    ·subst e;exact .inl ⟨_,_,hg3⟩
    ·exact(hap.bs.obj x b hx).same (hne e),hF⟩
   refine⟨[.int .i64 l1],p',rfl,hbs,⟨_,_,_,_,rfl,rfl,⟨[.int .i64 l1],rfl,.i64,rfl,by rw[hl1],by simp[yz];omega⟩,rfl⟩,⟨_,_,rfl,⟨gv,_,TS,hp0,hp0',hg3,hty,?_⟩,rfl⟩,fun q hq b hb'=>?_⟩
   ·refine zrm (s:={s with ys:=s.ys++[⟨nm,ar⟩]}) hC hU hW (o0.kept hst (fun x hx=>by cases hx) ⟨rfl,rfl⟩) ?_ (o2.kept hst (fun x hx=>by cases hx) ⟨rfl,rfl⟩) (o3.kept hst (fun x hx=>by cases hx) ⟨rfl,rfl⟩) i4 i5
    show q1e _ _ _ _ _ _ _ ((s.ys++[(⟨nm,ar⟩:Sy)]).map eY) _
    rw[kK];exact hown'
   ·obtain rfl:q=1:=by simpa[ze] using hq
    exact⟨hst.loc 1 b rfl hb',hst.con 1 b rfl hb'⟩
theorem qpf:FOk ze qtp:=
 ⟨qjn,fun A F p w vs us ds outs hg hfl hfo hpre hvl hargs=>(z7d A F p w vs us ds outs hg hfl hfo hpre hvl hargs).mono fun e w'⟨rs,p',h1,h2,h3,h4,_⟩=>.inr ⟨rs,p',h1,h2,h3,h4⟩,
  fun _ A F p w vs us ds outs hg hfl hfo hpre hvl hargs=>(z7d A F p w vs us ds outs hg hfl hfo hpre hvl hargs).mono fun e w' h=>.inr h⟩
end
def qhk(v:Int):Nat→List Vc→Int
 |_,[]=> -1
 |k,x::l=>if x.v=v then(k:Int) else qhk v (k+1) l
theorem zep{v:Int}{l:List Vc}{k:Nat}(h:k<l.length):qhk v k (l.drop k)=if(l.getD k default).v=v then(k:Int) else qhk v (k+1) (l.drop (k+1)):=by
 rw[qae h];rfl
theorem zf5{v:Int}:∀(k:Nat)(l:List Vc),qhk v k l= -1∨((k:Int)≤qhk v k l∧qhk v k l<k+l.length)
 |k,[]=>.inl rfl
 | k, y :: l => by
  unfold qhk;split
  ·exact .inr ⟨vA _,by simp;omega⟩
  ·rcases zf5 (v:=v) (k+1) l with h|⟨h1,h2⟩
   ·exact .inl h
   ·exact .inr ⟨by omega,by simp;omega⟩
theorem qs6{v:Int}:∀(k:Nat)(l:List Vc),(qhk v k l= -1∧ofV l v=none)∨∃j:Nat,j<l.length∧qhk v k l=((k+j:Nat):Int)∧ofV l v=some (l.getD j default).c
 |k,[]=>.inl ⟨rfl,rfl⟩
 | k, y :: l => by
  unfold qhk ofV;split
  ·exact .inr ⟨0,by simp,by simp,rfl⟩
  ·rcases qs6 (v:=v) (k+1) l with h|⟨j,h1,h2,h3⟩
   ·exact .inl h
   ·exact .inr ⟨j+1,by simpa using h1,by rw[h2];omega,by rw[h3];rfl⟩
def zjd:List D→Option (List D)
 |[l,v]=>some [.i (qhk v.int 0 (dVs l))]
 |_=>none
theorem z4o:FOk q3h zjd:=z31 fun ds outs hw hg=>by
 obtain⟨d,r,rfl,hd,e,r',rfl,he,rfl⟩:=hw;obtain⟨l,rfl,hl,hok⟩:=qy1 hd;obtain⟨v,rfl,hv⟩:=wfI he;simp only[zjd,q0d,yw,uC] at hg;subst hg;rw[qcl,zz];refine⟨fun st=>∃k:Nat,k≤l.length∧st=[.i 0,.i k]∧qhk v k (l.drop k)=qhk v 0 l,fun st=>l.length - (st.getD 1 .u).int.toNat,⟨0,uJ _,rfl,rfl⟩,?_⟩;rintro st - ⟨k,hk,rfl,hf⟩;simp only[gnZ,gnT];refine⟨fun hlt=>?_,fun hlt=>?_⟩
 ·have hkn:k<l.length:=by omega
  rw[zep hkn] at hf;simp only[q31 eV hkn,z7k,q6r];generalize l.getD k default=z at hf;refine⟨⟨by omega,by omega⟩,fun he=>?_,fun he=>⟨⟨by omega,by omega⟩,?_⟩⟩
  ·rw[if_pos (by simpa using he)] at hf;rw[←hf]
  ·rw[if_neg (by simpa using he)] at hf;rw[jg,if_pos rfl];refine⟨⟨k+1,hkn,by simp,hf⟩,?_⟩;simp[D.int];omega
 ·have:k=l.length:=by omega
  subst this;rw[kC] at hf;rw[←hf];rfl
def z3m:List D→Option (List D)
 |[l,v,c]=>if(dVs l).length<5864062014634 then some [.r ((qa9 (dVs l) v.int (dC c)).map eV)] else none
 |_=>none
theorem qyv:FOk q24 z3m:=qsr fun ds outs hw hg=>by
 obtain⟨d,r,rfl,hd,e,r',rfl,he,f,r2,rfl,hf,rfl⟩:=hw;obtain⟨l,rfl,hl,hok⟩:=qy1 hd;obtain⟨v,rfl,hv⟩:=wfI he;obtain⟨c,rfl,hc⟩:=wfC hf;simp only[z3m,q0d,yw,q0t,uD,uC] at hg;obtain⟨hll,rfl⟩:=hg;rw[q9i,zz];refine⟨fun st=>∃k:Nat,k≤loV l v∧st=[.r ((l.take k).map eV),.i k],fun st=>l.length - (st.getD 1 .u).int.toNat,⟨0,uJ _,rfl⟩,?_⟩;rintro st - ⟨k,hk,rfl⟩;have hlo:=z37 v l;have hkl:k≤l.length:=by omega
 have htl:((l.take k).map eV).length=k:=by rw[uG,List.length_take];omega
 by_cases hkn:k<l.length
 ·have e0:decide ((k:Int)<(l.length:Int))=true:=by simp;omega
  have e1:decide (0≤(k:Int))=true:=by simp
  by_cases hv':(l.getD k default).v<v
  ·have hk2:k<loV l v:=by
    rcases vO k (loV l v) with h|h
    ·exact h
    ·have:k=loV l v:=by omega
     have h2:=qtm (v:=v) (l:=l) (by omega);rw[←this] at h2;omega
   have htk:(l.take k).map eV++[eV (l.getD k default)]=(l.take (k+1)).map eV:=by rw[q7x hkn,kK];rfl
   simp only[gnZ,gnT,q31 eV hkn,z7k,e0,e1,htl,hv',uT,kE,kT,kS,forall_const];refine⟨⟨by omega,⟨by omega,by omega⟩,?_⟩,fun h=>(by cases h)⟩;rw[jg,if_pos rfl,htk];refine⟨⟨k+1,hk2,by simp⟩,?_⟩;simp[D.int];omega
  ·have hk2:k=loV l v:=by
    rcases vO k (loV l v) with h|h
    ·exact absurd (z8x h) hv'
    ·omega
   simp only[gnZ,gnT,q31 eV hkn,z7k,e0,e1,htl,hv',uT,kE,kT,kO,forall_const];refine⟨fun h=>(by cases h),⟨by omega,⟨by omega,?_⟩,?_⟩⟩
   ·simp;omega
   ·rw[qk5,←hk2];simp[eV,kQ,kR,kV]
 ·have hk1:k=l.length:=by omega
  have hk2:k=loV l v:=by omega
  have e0:decide ((k:Int)<(l.length:Int))=false:=by simp;omega
  simp only[gnZ,gnT,e0,htl,uV,kW,kN,forall_const];refine⟨fun h=>(by cases h),by omega,⟨by omega,by omega,?_⟩,?_⟩
  ·simp;omega
  ·rw[qk5,←hk2];simp[eV,kQ,kR,kV]
theorem zry{a:Te}(h:zq a=true)(h0:a.k=0):0≤a.n∧a.n≤1099511627776:=by
 obtain⟨k,n,nm,l⟩:=a;have h0:k=0:=h0;subst h0;rcases q1t ((q67 _).1 h).1 with⟨-,-,h1,h2⟩|⟨h1,-⟩|⟨h1,-⟩|⟨h1,-⟩
 ·exact⟨h1,h2⟩
 all_goals cases h1
def qza(s:So)(all:List Vc)(t:Te):Bool:=zq t&&(decide (SV all)&&(decide (s.cs.length+q46 t all≤9000000)&&decide ((q33 s.ys t).length≤9000000)))
def z0p:List D→Option (List D)
 |[s,t,all]=>if qza (dS s) (dVs all) (dT t) then some [eC (z9 (dS s,dVs all) (dT t) (-1)).1,.r ((z9 (dS s,dVs all) (dT t) (-1)).2.2.map eV),eS (z9 (dS s,dVs all) (dT t) (-1)).2.1] else none
 |_=>none
theorem zic{q:Sv}(h:¬(t.k=0∧ofV q.2 t.n=none))(a b:Int):z9 q t a=z9 q t b:=by
 obtain⟨k,n,nm,l⟩:=t;by_cases h0:k=0
 ·subst h0;rw[q9m,q9m];cases ho:ofV q.2 n with
  |none=>exact absurd ⟨rfl,ho⟩ h
  |some c=>rfl
 ·unfold z9;simp only[if_neg h0]
theorem zji{q:Sv}(h:t.k=0∧ofV q.2 t.n=none){a:Int}(ha:0≤a):z9 q t a=(⟨0,a⟩,q.1,qa9 q.2 t.n ⟨0,a⟩):=by
 obtain⟨k,n,nm,l⟩:=t;obtain⟨h0,ho⟩:=h;have h0:k=0:=h0;subst h0;rw[q9m,show ofV q.2 n=none from ho]
 show(if a<0 then _ else _)=_
 rw[if_neg (by omega)];rfl
theorem zsh(s:So)(c:Ce):D.a ((eS s).fs.set 0 (.r (s.cs.map eC++[eC c])))=eS {s with cs:=s.cs++[c]}:=qsb s [c]
def zkx(ds:List D):Nat:=szT (dT (ds.getD 1 .u))
theorem z21:FOk q0n z0p:=qa2 (m:=zkx) qeo fun N ih=>qxe qpf z4o qi4 qyv ih fun ds outs hw hg=>by
 obtain⟨q,r3,rfl,hq,d,r,rfl,hd,f,r2,rfl,hf,rfl⟩:=hw;obtain⟨t,rfl,ht⟩:=wfT hd;obtain⟨all,rfl,hal,hok⟩:=qy1 hf;obtain⟨s,rfl,hs⟩:=wfS hq;simp only[q3e,zkx,z0p,uF,uH,q1p,zr,q0d,uD,uC] at hg;obtain⟨hsz,hA,rfl⟩:=hg;simp only[qza,gnB,gnD] at hA;obtain⟨hnd,hsv,hcs,hys⟩:=hA;have hnl:=(q67 t).1 hnd;obtain⟨k,n,nm,l⟩:=t;have hlen:=SV.len hsv;rcases q1t hnl.1 with⟨rfl,rfl,h1,h2⟩|⟨rfl,rfl⟩|⟨rfl,rfl,h1⟩|⟨rfl,h1,h2,h3⟩
 ·rw[q9m];rcases qs6 (v:=n) 0 all with⟨e1,e2⟩|⟨j,hj,e1,e2⟩
  ·have hn:q46 (.mk 0 n nm []) all=1:=by rw[q46,qmg (by decide),if_pos ⟨rfl,e2⟩]
   rw[hn] at hcs;simp only[q2k,gnZ,gnT,Te.k,Te.n,Te.s,Te.l,q8w,zjd,z3m,q0d,e1,e2,q0t];have hall:all.length<5864062014634:=by omega
   simp[hall];exact⟨by omega,zsh s _⟩
  ·rw[kJ] at e1;simp only[q2k,gnZ,gnT,Te.k,Te.n,Te.s,Te.l,q8w,zjd,q63,q0d,e1,e2,q31 eV hj,ze2,q0t];simp;omega
 ·rw[qdd];simp[q2k,gnZ,gnT,Te.k,Te.n,Te.s,Te.l,q8w]
 ·rw[zag] at hys;have hyl:s.ys.length≤(qb5 s.ys ⟨nm,0⟩).length:=quk _ _;have hS:qtp [eS s,.s nm,.i 0]=some [.i (jp s nm 0).1,eS (jp s nm 0).2]:=by simp only[qtp,zr,q5f,yw];rw[if_pos (by omega)]
  rw[qdj];simp[q2k,gnZ,gnT,Te.k,Te.n,Te.s,Te.l,q8w,hS]
 ·rw[za8] at hys;have hys0:(qb5 s.ys ⟨nm,(l.length:Nat)⟩).length≤9000000:=uW (q7s l _) hys;have hyl:s.ys.length≤(qb5 s.ys ⟨nm,(l.length:Nat)⟩).length:=quk _ _;obtain⟨y1,y2,y3,y4,y5,y6⟩:=qgx s nm (l.length:Nat);have hS:qtp [eS s,.s nm,.i (l.length:Nat)]=some [.i (jp s nm (l.length:Nat)).1,eS (jp s nm (l.length:Nat)).2]:=by simp only[qtp,zr,q5f,yw];rw[if_pos (by omega)]
  rw[qta (by decide),zfg] at hcs;rw[qe4];rw[←y3] at hys;have hcl:s.cs.length=(jp s nm (l.length:Nat)).2.cs.length:=by rw[y1]
  rw[←y1];generalize jp s nm (l.length:Nat)=S at hS hys hcl y1 y2⊢;have hz:uN l.length (eC ⟨0,0⟩)=(uN l.length (⟨0,0⟩:Ce)).map eC:=by rw[vC]
  have hz0:D.a [.i 0,.i 0]=eC ⟨0,0⟩:=rfl;have hz1:∀n:Int,D.a [.i 0,.i n]=eC ⟨0,n⟩:=fun n=>rfl;have hz4:∀n:Int,D.a [.i 4,.i n]=eC ⟨4,n⟩:=fun n=>rfl;simp only[q2k,gnZ,gnT,Te.k,Te.n,Te.s,Te.l,q8w,hS,zsh,qsb,hz,uK];refine⟨fun h=>absurd h (by decide),fun _=>⟨fun h=>absurd h (by decide),fun _=>⟨fun h=>absurd h (by decide),fun _=>?_⟩⟩⟩;refine⟨⟨by omega,by rw[y1]⟩,⟨by omega,by omega,by simp;omega⟩,?_⟩;rw[zz];refine⟨fun st=>∃(k:Nat)(al:List Vc)(s':So),k≤l.length∧st=[.r (al.map eV),.i k,eS s']∧SV al∧s'.cs.length+q29 (l.drop k)≤9000000∧S.2.cs.length+1+l.length≤s'.cs.length∧(q0e s'.ys (l.drop k)).length≤9000000∧je (s',al) (l.drop k) (S.2.cs.length+1+k)=je ({S.2 with cs:=S.2.cs++(⟨4,S.1⟩::uN l.length ⟨0,0⟩)},all) l (S.2.cs.length+1),fun st=>l.length - (st.getD 1 .u).int.toNat,⟨0,all,{S.2 with cs:=S.2.cs++(⟨4,S.1⟩::uN l.length ⟨0,0⟩)},uJ _,?_,hsv,?_,?_,hys,rfl⟩,?_⟩
  ·simp only[X.evs,gnZ,gnT,Te.k,Te.n,Te.s,Te.l,hS,zsh,qsb,hz,uK];simp[eS,D.fs,D.fld,D.rs,eC]
  ·simp;omega
  ·simp;omega
  rintro st - ⟨k,al,s',hk,rfl,hsv',hc',hb',hy',hP⟩;rw[zw];refine⟨fun hlt=>?_,fun hlt=>?_⟩
  ·simp only[gnZ,gnT,Te.k,Te.n,Te.s,Te.l] at hlt;have hkl:k<l.length:=by omega
   have ha:=qfv (t:=.mk 3 n nm l) hkl;simp only[Te.l] at ha;have hto:((S.2.cs.length:Int)+1+(k:Int))=((S.2.cs.length+1+k:Nat):Int):=by omega
   have hdr:=qae hkl;rw[hdr,q29] at hc';rw[hdr,q0e] at hy';rw[hdr,je] at hP;have hsy:=uW (q7s (l.drop (k+1)) (q33 s'.ys (l.getD k default))) hy';have hnk:=hnl.2 k hkl;simp only[Te.l] at hnk;have hlal:=SV.len hsv';simp only[gnZ,gnT,q31 eT hkl,zjd,q0d,hcl,hto,q8w];rw[show(Te.mk 3 n nm l).l=l from rfl,q31 eT hkl];generalize l.getD k default=a at ha hc' hy' hP hsy hnk⊢;obtain⟨ak,an,anm,als⟩:=a;simp only[gnZ,gnT,Te.k,Te.n,Te.s,Te.l];by_cases hva:ak=0∧ofV al an=none
   ·have hq:=zji (q:=(s',al)) (t:=.mk ak an anm als) hva (a:=((S.2.cs.length+1+k:Nat):Int)) (by omega);rw[hq] at hP;have hi:qhk an 0 al= -1:=by
     rcases qs6 (v:=an) 0 al with⟨e1,-⟩|⟨j,-,-,e2⟩
     ·exact e1
     ·rw[hva.2] at e2;cases e2
    have hall:al.length<5864062014634:=by omega
    have hpr:=zry hnk hva.1;have h2:=(q2x (.mk ak an anm als) (s',al) ((S.2.cs.length+1+k:Nat):Int) hnk hsv').2.1;rw[hq] at h2;rw[←h2] at hy';simp only[hva.1,hi,z3m,q0d,q0t,yw,hall,if_true,z9t];refine⟨⟨⟨by omega,by omega⟩,by omega,by omega⟩,⟨by omega,by omega⟩,fun _=>⟨rfl,⟨by omega,by omega⟩,⟨by omega,by omega⟩,?_⟩,fun h=>(by simp at h)⟩;rw[jg,if_pos rfl];refine⟨⟨k+1,qa9 al an ⟨0,((S.2.cs.length+1+k:Nat):Int)⟩,qcn s' (S.2.cs.length+1+k) ⟨0,((S.2.cs.length+1+k:Nat):Int)⟩,by omega,by rw[uK];simp,z2g hpr.1 hpr.2 hsv' hva.2,?_,?_,hy',hP⟩,?_⟩
    ·rw[q3r];omega
    ·rw[q3r];omega
    ·simp[D.int];omega
   ·have hcond:(decide (ak=0)&&decide (qhk an 0 al<0))=false:=by
     by_cases h0:ak=0
     ·rcases qs6 (v:=an) 0 al with⟨-,e1⟩|⟨j,-,e2,-⟩
      ·exact absurd ⟨h0,e1⟩ hva
      ·have:¬qhk an 0 al<0:=by omega
       simp[this]
     ·simp[h0]
    have hned:q46 (.mk ak an anm als) al=q5v (.mk ak an anm als):=by
     unfold q46;rw[if_neg (show ¬((Te.mk ak an anm als).k=0∧ofV al (Te.mk ak an anm als).n=none) from hva)];rfl
    have hQ:qza s' al (.mk ak an anm als)=true:=by
     simp only[qza,gnB,gnD,hned];exact⟨hnk,hsv',by omega,hsy⟩
    have hG:q3e zkx N z0p [eS s',eT (.mk ak an anm als),.r (al.map eV)]=some [eC (z9 (s',al) (.mk ak an anm als) (-1)).1,.r ((z9 (s',al) (.mk ak an anm als) (-1)).2.2.map eV),eS (z9 (s',al) (.mk ak an anm als) (-1)).2.1]:=by
     simp only[q3e,zkx,z0p,uF,uH,q1p,zr,q0d];rw[if_pos (by omega),if_pos hQ]
    rw[zic (q:=(s',al)) (t:=.mk ak an anm als) hva _ (-1)] at hP;obtain⟨g1,g2,g3,g4⟩:=q2x (.mk ak an anm als) (s',al) (-1) hnk hsv';rw[if_pos (by decide),hned] at g1;simp only[hcond,hG];generalize z9 (s',al) (.mk ak an anm als) (-1)=R at g1 g2 g3 g4 hP⊢;simp only at g1;simp only[gnZ,gnT,z9t,uK];refine⟨⟨⟨by omega,by omega⟩,by omega,by omega⟩,⟨by omega,by omega⟩,fun h=>(by cases h),fun _=>⟨⟨by omega,by omega⟩,⟨by omega,by omega⟩,?_⟩⟩;rw[jg,if_pos rfl];refine⟨⟨k+1,R.2.2,qcn R.2.1 (S.2.cs.length+1+k) R.1,by omega,by simp,g4,?_,?_,?_,hP⟩,?_⟩
    ·rw[q3r,g1];omega
    ·rw[q3r,g1];omega
    ·show(q0e R.2.1.ys _).length≤_
     rw[g2];exact hy'
    ·simp[D.int];omega
  ·simp only[gnZ,gnT,Te.k,Te.n,Te.s,Te.l] at hlt;have:k=l.length:=by omega
   subst this;rw[kC,je] at hP;simp only[gnZ,gnT,Te.k,Te.n,Te.s,Te.l,hcl,←hP,q8w]
def qqm(s:So)(l:List Vc)(k:Nat):Bool:=decide (0≤(l.getD k default).v)&&(decide ((l.getD k default).v≤1099511627776)&&(decide (k=0∨(l.getD (k - 1) default).v<(l.getD k default).v)&&vcR s (l.getD k default).c))
def vvR(s:So)(l:List Vc):Bool:=(vQ l.length).all (qqm s l)
theorem zv2{s:So}(h:zi s=true)(l:List Vc):vvR s l=vvP s l:=by
 have:qqm s l=vAt s l:=by
  funext k;simp only[qqm,vAt,(qad h).vc]
 unfold vvR vvP;rw[this]
theorem qjk:FOk jq (gVV vvR):=qho q2i fun ds outs hw hg=>by
  obtain⟨d,r,rfl,hd,e,r',rfl,he,rfl⟩:=hw;obtain⟨s,rfl,hs⟩:=wfS hd;obtain⟨l,rfl,hl,hok⟩:=qy1 he;simp only[gVV,zr,q0d,uC] at hg;subst hg;rw[q42,zz];refine⟨fun st=>∃k:Nat,k≤l.length∧st=[.b false,.i k]∧∀j,j<k→qqm s l j=true,fun st=>l.length - (st.getD 1 .u).int.toNat,⟨0,uJ _,rfl,fun j hj=>absurd hj (uU _)⟩,?_⟩;rintro st - ⟨k,hk,rfl,hP⟩;rw[zw];refine⟨fun hlt=>?_,fun hlt=>?_⟩
  · simp only[gnZ,gnT] at hlt;have hkl:k<l.length:=by omega
    have hvb:=(hok _ (q8t hkl)).1;by_cases h0:k=0
    · subst h0;have e1:decide ((0:Int)<((0:Nat):Int))=false:=by decide
      simp only[gnZ,gnT,q31 eV hkl,z7k,ze2,qcu,e1,kO,kN,uV,kW,vL,true_and,and_self];refine⟨(by first|(simp;done)|(simp;omega)|(trace_state;omega)),fun hb=>?_,fun hb=>⟨⟨by omega,by omega⟩,?_⟩⟩
      · have hv:qqm s l 0=false:=by
          simp only[qqm,true_or,decide_true,uX];generalize l.getD 0 default=z at hb⊢;cases hvc:vcR s z.c
          · simp
          · simp[hvc] at hb⊢;omega
        rw[vvR,qaa hkl hv]
      · have hv:qqm s l 0=true:=by
          simp only[qqm,true_or,decide_true,uX];generalize l.getD 0 default=z at hb⊢;cases hvc:vcR s z.c
          · simp[hvc] at hb
          · simp[hvc] at hb⊢;omega
        rw[jg,if_pos rfl];exact⟨⟨1,by omega,by simp,q2v hP hv⟩,by simp[D.int];omega⟩
    · have hk1:((k:Int) - 1)=((k - 1:Nat):Int):=by omega
      have hkp:k - 1<l.length:=by omega
      have hp:(0:Int)<k:=by omega
      have hr1:yz .i64 ((k - 1:Nat):Int)=true:=by simp[yz];omega
      have hr2:(0:Int)≤((k - 1:Nat):Int):=by omega
      have hr3:((k - 1:Nat):Int)<l.length:=by omega
      simp only[gnZ,gnT,hk1,hp,hr1,hr2,hr3,q31 eV hkl,q31 eV hkp,z7k,ze2,qcu,kS,uX];refine⟨(by first|(simp;done)|(simp;omega)|(trace_state;omega)),fun hb=>?_,fun hb=>⟨⟨by omega,by omega⟩,?_⟩⟩
      · have hv:qqm s l k=false:=by
          simp only[qqm,h0,false_or];generalize l.getD k default=z at hb⊢;cases hvc:vcR s z.c
          · simp
          · simp[hvc] at hb⊢;omega
        rw[vvR,qaa hkl hv]
      · have hv:qqm s l k=true:=by
          simp only[qqm,h0,false_or];generalize l.getD k default=z at hb⊢;cases hvc:vcR s z.c
          · simp[hvc] at hb
          · simp[hvc] at hb⊢;omega
        rw[jg,if_pos rfl];exact⟨⟨k+1,by omega,by simp,q2v hP hv⟩,by simp[D.int];omega⟩
  · simp only[gnZ,gnT] at hlt⊢;have:k=l.length:=by omega
    subst this;simp only[vvR,q8m hP]
theorem z1t:FOk q30 z9v:=qyw qsx qjk qbc z21 fun ds outs hw hg=>by
 obtain⟨d,r,rfl,hd,e,r',rfl,he,f,r2,rfl,hf,rfl⟩:=hw;obtain⟨s,rfl,hs⟩:=wfS hd;obtain⟨t,rfl,ht⟩:=wfT he;obtain⟨l,rfl,hl,hok⟩:=qy1 hf;simp only[z9v,zr,q1p,q0d,uD,uC] at hg;obtain⟨hv,rfl⟩:=hg;obtain⟨h1,h2,h3,h4⟩:=z70 hv;have hz:D.a [.i 0,.i 0]=eC ⟨0,0⟩:=rfl;have hc:qfw [eS s]=some [eS s]:=by simp only[qfw,zr,z8n hs,if_true]
 have hR:∀(a:Bool),a=(decide ((1048576:Int)<(((z9 (s,l) t (-1)).2.1.ys.length:Nat):Int))||decide (s.mx<(((z9 (s,l) t (-1)).2.1.cs.length:Nat):Int)))→q01 t=true→vvP s l=true→a= !qfm s t l:=fun a ha hvt hvl=>by
  simp only[q01,gnB,gnD] at hvt;obtain⟨g1,g2,g3,g4⟩:=q2x t (s,l) (-1) hvt.2 (qc4.1 hvl).1;rw[if_pos (by decide)] at g1;simp only at g1 g2;rw[ha,g1,g2];have hm:=congrArg kB (qve t s.ys []);rw[kL,kF] at hm;unfold qfm;rw[←hm];by_cases q1:((q46 t l:Nat):Int)≤s.mx - s.cs.length<;>by_cases q2:((qdr s.ys [] t).length:Int)≤1048576 - s.ys.length
  all_goals simp[q1,q2]
  all_goals omega
 have hQ:q01 t=true→vvP s l=true→qza s l t=true:=fun hvt hvl=>by
  simp only[q01,gnB,gnD] at hvt;simp only[qza,gnB,gnD];have hm:=congrArg kB (qve t s.ys []);rw[kL,kF] at hm;have hv:=qly t s.ys [];have hc:=qlc t;have hn:q46 t l≤q5v t+1:=by unfold q46;split<;>omega
  simp at hv;exact⟨hvt.2,(qc4.1 hvl).1,by omega,by omega⟩
 simp only[qbe,gnZ,gnT,gTb,gVV,hz,q0d,z5b,zv2 hv,hc,uK,List.drop_zero];cases hvt:q01 t
 ·simp
 cases hvl:vvP s l
 ·simp
 have hq:=hQ hvt hvl;have hr:=hR _ rfl hvt hvl;have hmx:(z9 (s,l) t (-1)).2.1.mx=s.mx:=by
  simp only[q01,gnB,gnD] at hvt;exact(q2x t (s,l) (-1) hvt.2 (qc4.1 hvl).1).2.2.1.1
 have hg:z0p [eS s,eT t,.r (l.map eV)]=some [eC (z9 (s,l) t (-1)).1,.r ((z9 (s,l) t (-1)).2.2.map eV),eS (z9 (s,l) t (-1)).2.1]:=by
  simp only[z0p,zr,q1p,q0d,hq,if_true]
 simp only[hg];generalize z9 (s,l) t (-1)=R at hr hmx;simp only[gnZ,gnT,hmx];rw[hr];cases qfm s t l
 ·simp;omega
 ·simp;omega
theorem zn6{s:So}{n:Int}(h:0≤q3f s n):inS s n=true:=by
 cases hi:inS s n with
 |true=>rfl
 |false=>rw[q70 hi] at h;omega
def z8p(s:So):Nat→Ce→Ce
 |0,c=>c
 |k+1,c=>if c.t=0∧0≤q3f s c.n∧cellAt s c.n≠c then z8p s k (cellAt s c.n) else c
def q2t(s:So)(c:Ce):Ce:=if vcP s c then z8p s s.cs.length c else⟨0,0⟩
def qf5:List D→Option (List D)
 |[s,c]=>some [eC (q2t (dS s) (dC c))]
 |_=>none
theorem q5k:FOk zj qf5:=qek jm qac fun ds outs hw hg=>by
 obtain⟨d,r,rfl,hd,e,r',rfl,he,rfl⟩:=hw;obtain⟨s,rfl,hs⟩:=wfS hd;obtain⟨c,rfl,hc⟩:=wfC he;simp only[qf5,zr,q0t,uC] at hg;subst hg;have hl:=hs.cs.1;simp only[q4r,gnZ,qcu,zgg];refine⟨fun h=>?_,fun h=>?_⟩
 ·simp only[q2t,show vcP s c=false by simpa using h];rfl
 have hvc':vcP s c=true:=by simpa using h
 rw[zz];refine⟨fun st=>∃(k:Nat)(x:Ce),k≤s.cs.length∧st=[.i k,eC x]∧z8p s (s.cs.length - k) x=q2t s c,fun st=>s.cs.length - (st.getD 0 .u).int.toNat,⟨0,c,uJ _,rfl,by rw[Nat.sub_zero,q2t,if_pos hvc']⟩,?_⟩;rintro st - ⟨k,x,hk,rfl,hP⟩;rw[zw];refine⟨fun hlt=>?_,fun hlt=>?_⟩
 ·simp only[gnZ] at hlt;have hkl:k<s.cs.length:=by omega
  obtain⟨n,hn⟩:∃n,s.cs.length - k=n+1:=⟨s.cs.length - k - 1,by omega⟩;rw[hn] at hP;unfold z8p at hP;have hn2:s.cs.length - (k+1)=n:=by omega
  by_cases h0:x.t=0
  ·by_cases ht:0≤q3f s x.n
   ·have hin:=zn6 ht;have h3:=qs.1 hin;have ht':¬q3f s x.n<0:=by omega
    simp only[gnZ,qa3,zs hin,h0,ht',h3.1,h3.2];refine⟨fun hx=>?_,fun hx=>?_⟩
    ·have hx':cellAt s x.n=x:=by simpa using hx
     rw[if_neg (fun q=>q.2.2 hx')] at hP;rw[hP]
    ·have hx':cellAt s x.n≠x:=by simpa using hx
     rw[if_pos ⟨h0,ht,hx'⟩] at hP;refine⟨⟨by omega,by omega⟩,?_⟩;rw[jg,if_pos rfl];refine⟨⟨k+1,cellAt s x.n,by omega,by simp,by rw[hn2];exact hP⟩,?_⟩;simp[D.int];omega
   ·have ht':q3f s x.n<0:=by omega
    rw[if_neg (fun q=>ht q.2.1)] at hP;simp only[gnZ,qa3,h0,ht',←hP];simp
  ·rw[if_neg (fun q=>h0 q.1)] at hP;simp only[gnZ,qa3,h0,←hP];simp
 ·simp only[gnZ] at hlt⊢;have:k=s.cs.length:=by omega
  subst this;rw[Nat.sub_self] at hP;rw[←hP,z8p]
theorem qjc:FOk q07 (qcv inS):=z6y fun ds outs hw hg=>by
 obtain⟨d,r,rfl,hd,e,r',rfl,he,rfl⟩:=hw;obtain⟨s,rfl,hs⟩:=wfS hd;obtain⟨i,rfl,hi⟩:=wfI he;simp only[qcv,zr,yw,uC] at hg;subst hg;simp only[qe3,gnZ,inS]
theorem qe6:FOk q14 q63:=qyo fun ds outs hw hg=>by
 obtain⟨d,r,rfl,hd,rfl⟩:=hw;obtain⟨c,rfl,hc⟩:=wfC hd;simp only[q63,q0t,uC] at hg;subst hg;simp only[qaz,gnZ,q2q,zpd];exact⟨fun h=>by rw[if_pos h],fun h=>by rw[if_neg h]⟩
def qi1(s:So)(c:Ce)(nm:ByteArray):Bool:=decide (c.t=3)&&(inS s c.n&&(inS s (c.n+2)&&(decide ((cellAt s c.n).t=4)&&(decide (0≤(cellAt s c.n).n)&&(decide ((cellAt s c.n).n<s.ys.length)&&decide (s.ys.getD (cellAt s c.n).n.toNat default=⟨nm,2⟩))))))
def zbd:List D→Option (List D)
 |[s,c,nm]=>if qi1 (dS s) (dC c) nm.str then some [eC (cellAt (dS s) ((dC c).n+1)),eC (cellAt (dS s) ((dC c).n+2)),.b true] else some [eC ⟨0,0⟩,eC ⟨0,0⟩,.b false]
 |_=>none
variable{c:Ce}
theorem q3b{s:So}:qi1 s c nm=true↔c.t=3∧inS s c.n=true∧inS s (c.n+2)=true∧(cellAt s c.n).t=4∧0≤(cellAt s c.n).n∧(cellAt s c.n).n<s.ys.length∧s.ys.getD (cellAt s c.n).n.toNat default=⟨nm,2⟩:=by
 simp only[qi1,gnB,gnD]
variable{i:Int}
theorem ztd{s:So}(h0:inS s i=true)(h2:inS s (i+2)=true):inS s (i+1)=true:=by
 have:=qs.1 h0;have:=qs.1 h2;exact qs.2 ⟨by omega,by omega⟩
theorem z29:FOk q4z zbd:=qyu qjc fun ds outs hw hg=>by
 obtain⟨d,r,rfl,hd,e,r',rfl,he,f,r2,rfl,hf,rfl⟩:=hw;obtain⟨s,rfl,hs⟩:=wfS hd;obtain⟨c,rfl,hc⟩:=wfC he;obtain⟨nm,rfl,hn⟩:=hf.str;simp only[zbd,zr,q0t,q5f] at hg;have ey:D.a [.s nm,.i 2]=eY ⟨nm,2⟩:=rfl;have hl:=hs.cs.1;have no:qi1 s c nm=false→outs=[eC ⟨0,0⟩,eC ⟨0,0⟩,.b false]:=fun hb=>by
  rw[if_neg (by rw[hb];decide)] at hg;exact(gnI hg).symm
 have no':¬qi1 s c nm=true→outs=[eC ⟨0,0⟩,eC ⟨0,0⟩,.b false]:=fun hb=>no (Bool.eq_false_iff.2 hb);simp only[qaq,gnZ,qcv,ey,q8w];by_cases h3:c.t=3
 ·cases h0:inS s c.n with
  |false=>
   rw[no' fun q=>by have:=(q3b.1 q).2.1;rw[h0] at this;cases this];simp[h3]
  | true =>
   have i0:=qs.1 h0;have hr:i64 (c.n+2):=⟨by omega,by omega⟩;have hrb:=q6w.2 hr;cases h2:inS s (c.n+2) with
   |false=>
    rw[no' fun q=>by have:=(q3b.1 q).2.2.1;rw[h2] at this;cases this];simp[h3,hr.1,hr.2,hrb]
   | true =>
    have i2:=qs.1 h2;have h1:=ztd h0 h2;have i1:=qs.1 h1;have hr1:i64 (c.n+1):=⟨by omega,by omega⟩;have hrb1:=q6w.2 hr1;by_cases h4:(cellAt s c.n).t=4
    ·by_cases hy:0≤(cellAt s c.n).n∧(cellAt s c.n).n<s.ys.length
     ·have ha:=z2j hy;have hy':¬(cellAt s c.n).n<0:=by omega
      have hy2:¬(s.ys.length:Int)≤(cellAt s c.n).n:=by omega
      by_cases hq:s.ys.getD (cellAt s c.n).n.toNat default=⟨nm,2⟩
      ·rw[if_pos (q3b.2 ⟨h3,h0,h2,h4,hy.1,hy.2,hq⟩)] at hg;have:=gnI hg;subst this;simp only[zs h0,zs h1,zs h2,qps,qxf,ha,qzi,h3,h4,hq,yw];simp[hr.1,hr.2,hr1.1,hr1.2,i0,i1,i2,hy,hrb,hrb1,hy',hy2]
      ·rw[no' fun q=>hq (q3b.1 q).2.2.2.2.2.2];simp only[zs h0,zs h1,zs h2,qps,qxf,ha,qzi,h3,h4,hq,yw];simp[hr.1,hr.2,hr1.1,hr1.2,i0,i1,i2,hy,hrb,hrb1,hy',hy2]
     ·rw[no' fun q=>hy ⟨(q3b.1 q).2.2.2.2.1,(q3b.1 q).2.2.2.2.2.1⟩];have hy':((cellAt s c.n).n<0∨(s.ys.length:Int)≤(cellAt s c.n).n)=True:=eq_true (by omega);simp only[zs h0,qps,qxf,h3,h4,yw];simp[hr.1,hr.2,i0,hrb];omega
    ·rw[no' fun q=>h4 (q3b.1 q).2.2.2.1];simp only[zs h0,qps,qxf,h3,h4,yw];simp[hr.1,hr.2,i0,h4,hrb]
 ·rw[no' fun q=>h3 (q3b.1 q).1];simp[h3]
def qed(s:So)(c:Ce):Bool:=decide (c.t=2)&&(decide (0≤c.n)&&decide (c.n<s.ys.length))
def z23:List D→Option (List D)
 |[s,c]=>if qed (dS s) (dC c) then some [.s ((dS s).ys.getD (dC c).n.toNat default).name,.b true] else some [.s ⟨#[]⟩,.b false]
 |_=>none
theorem z2u:FOk q4o z23:=qx9 fun ds outs hw hg=>by
 obtain⟨d,r,rfl,hd,e,r',rfl,he,rfl⟩:=hw;obtain⟨s,rfl,hs⟩:=wfS hd;obtain⟨c,rfl,hc⟩:=wfC he;simp only[z23,zr,q0t] at hg;simp only[qbg,gnZ];by_cases h2:c.t=2
 ·by_cases hy:0≤c.n∧c.n<s.ys.length
  ·have hb:qed s c=true:=by simp[qed,h2,hy]
   rw[if_pos hb] at hg;have:=gnI hg;subst this;have hy':¬c.n<0:=by omega
   have hy2:¬(s.ys.length:Int)≤c.n:=by omega
   simp[h2,z2j hy,zec,hy,hy',hy2]
  ·have hb:qed s c=false:=by
    simp only[qed,Bool.and_eq_false_iff,decide_eq_false_iff_not];by_cases h5:0≤c.n
    ·exact .inr (.inr fun q=>hy ⟨h5,q⟩)
    ·exact .inr (.inl h5)
   rw[if_neg (by rw[hb];decide)] at hg;have:=gnI hg;subst this;have hy':c.n<0∨(s.ys.length:Int)≤c.n:=by omega
   simp[h2,hy'];omega
 ·have hb:qed s c=false:=by simp[qed,h2]
  rw[if_neg (by rw[hb];decide)] at hg;have:=gnI hg;subst this;simp[h2]
def zrb(s:So)(v:Ce):Ce×Bool:=if vcP s v then(if(q2t s v).t=0 then(q2t s v,inS s (q2t s v).n) else if(q2t s v).t=5 then(q2t s v,inS s (q2t s v).n&&inS s ((q2t s v).n+2)) else(⟨0,0⟩,false)) else(⟨0,0⟩,false)
def qzt:List D→Option (List D)
 |[s,v]=>some [eC (zrb (dS s) (dC v)).1,.b (zrb (dS s) (dC v)).2]
 |_=>none
theorem q4l:FOk qu qzt:=ql9 jm q5k qjc fun ds outs hw hg=>by
 obtain⟨d,r,rfl,hd,e,r',rfl,he,rfl⟩:=hw;obtain⟨s,rfl,hs⟩:=wfS hd;obtain⟨v,rfl,hv⟩:=wfC he;simp only[qzt,zr,q0t,uC] at hg;subst hg;have hl:=hs.cs.1;have ez:D.a [.i 0,.i 0]=eC ⟨0,0⟩:=rfl;simp only[q5m,gnZ,qcu,qf5,qcv,ez,zrb];cases hb:vcP s v with
 |false=>simp
 | true =>
  by_cases h0:(q2t s v).t=0
  ·simp[h0]
  ·by_cases h5:(q2t s v).t=5
   ·cases hi:inS s (q2t s v).n with
    |false=>simp[h5]
    |true=>
     have:=qs.1 hi;have hrb:yz .i64 ((q2t s v).n+2)=true:=q6w.2 ⟨by omega,by omega⟩;simp[h5,hrb]
   ·simp[h0,h5]
def ztz(s:So)(a:Int):Bool:=decide ((cellAt s (a+2)).t=1)||(decide ((cellAt s (a+2)).t=2)||(decide ((cellAt s (a+2)).t=3)||decide (cellAt s (a+2)=⟨0,a+2⟩)))
def zcd:List D→Option (List D)
 |[s,d]=>if inS (dS s) ((dC d).n+2) then some [.b (ztz (dS s) (dC d).n)] else none
 |_=>none
theorem qcx:FOk y9 zcd:=qla fun ds outs hw hg=>by
 obtain⟨d,r,rfl,hd,e,r',rfl,he,rfl⟩:=hw;obtain⟨s,rfl,hs⟩:=wfS hd;obtain⟨c,rfl,hc⟩:=wfC he;simp only[zcd,zr,q0t,uD,uC] at hg;obtain⟨hin,rfl⟩:=hg;have h1:=qs.1 hin;have hl:=hs.cs.1;have hr:i64 (c.n+2):=⟨by omega,by omega⟩;have e0:D.a [.i 0,.i (c.n+2)]=eC ⟨0,c.n+2⟩:=rfl;simp only[q5r,gnZ,zs hin,h1,hr,e0,zao,ztz];by_cases c1:(cellAt s (c.n+2)).t=1
 ·simp[c1]
 ·by_cases c2:(cellAt s (c.n+2)).t=2
  ·simp[c2]
  ·by_cases c3:(cellAt s (c.n+2)).t=3
   ·simp[c3]
   ·simp[c1,c2,c3]
structure At where
 name:ByteArray
 val:Ce
instance:Inhabited At:=⟨⟨⟨#[]⟩,default⟩⟩
def eA(a:At):D:=.a [.s a.name,eC a.val]
def dA(d:D):At:=⟨(d.fld 0).str,dC (d.fld 1)⟩
theorem zf7(a:At):dA (eA a)=a:=rfl
theorem zwi(a:At):(eA a).fld 0=.s a.name:=rfl
def At.ok(a:At):Prop:=a.name.size≤LIM∧a.val.ok
def stN(T:TypeId):TypeId:=match qj T with
 |some (.st S)=>S
 |_=>0
abbrev aS:TypeId:=stN 66
theorem tyA:qj 66=some (.st aS):=by kernel_rfl
theorem flA:flds aS=some [.str,qk]:=by kernel_rfl
theorem lmA:LM (.st aS)=4398046510976:=by kernel_rfl
variable{d:D}
theorem wfA(h:Wf d (.st aS)):∃a,d=eA a∧a.ok:=by
 obtain⟨ds,rfl,hl⟩:=h.st_of flA;obtain⟨a,b,rfl,ha,hb⟩:=z81 hl;obtain⟨x,rfl,hx⟩:=ha.str;obtain⟨y,rfl,hy⟩:=wfC hb;exact⟨⟨x,y⟩,rfl,hx,hy⟩
theorem zvj(h:Wf d (.row 66)):∃l:List At,d=.r (l.map eA)∧l.length≤4398046510976∧∀a∈l,a.ok:=by
 obtain⟨l,rfl,h1,h2⟩:=h.row_of tyA;obtain⟨m,rfl,h3⟩:=qe5 (e:=eA) (P:=At.ok) fun x hx=>wfA (h2 x hx);rw[lmA,uG] at h1;exact⟨m,rfl,h1,h3⟩
def dAs(d:D):List At:=d.rs.map dA
theorem z2a(l:List At):dAs (.r (l.map eA))=l:=map_id' zf7 l
def zrz(l:List At)(nm:ByteArray):Int:=match l.findIdx? fun a=>decide (a.name=nm) with
 |some i=>i
 |none=> -1
def zqy:List D→Option (List D)
 |[a,nm]=>some [.b (decide ((dA a).name=nm.str))]
 |_=>none
theorem qvv:FOk q1j zqy:=qpu fun ds outs hw hg=>by
 obtain⟨d,r,rfl,hd,e,r',rfl,he,rfl⟩:=hw;obtain⟨a,rfl,ha⟩:=wfA hd;obtain⟨nm,rfl,hn⟩:=he.str;simp only[zqy,zf7,q5f,uC] at hg;subst hg;simp only[q8g,gnZ,zwi]
 congr 2
def qoy:List D→Option (List D)
 |[l,nm]=>some [.i (zrz (dAs l) nm.str)]
 |_=>none
theorem q94:FOk zf qoy:=q8j qvv fun ds outs hw hg=>by
 obtain⟨d,r,rfl,hd,e,r',rfl,he,rfl⟩:=hw;obtain⟨l,rfl,hl,hlo⟩:=zvj hd;obtain⟨nm,rfl,hn⟩:=he.str;simp only[qoy,z2a,q5f,uC] at hg;subst hg;rw[q0r,zz];refine⟨fun st=>∃k:Nat,k≤l.length∧st=[.i 0,.i k]∧∀j,j<k→(l.getD j default).name≠nm,fun st=>l.length - (st.getD 1 .u).int.toNat,⟨0,uJ _,rfl,fun j hj=>absurd hj (uU _)⟩,?_⟩;rintro st - ⟨k,hk,rfl,hP⟩;rw[zw];refine⟨fun hlt=>?_,fun hlt=>?_⟩
 ·simp only[gnZ] at hlt;have hkl:k<l.length:=by omega
  simp only[gnZ,q31 eA hkl,zqy,zf7];refine⟨⟨by omega,by omega⟩,fun hx=>?_,fun hx=>⟨⟨by omega,by omega⟩,?_⟩⟩
  ·have hf:(l.findIdx? fun a=>decide (a.name=nm))=some k:=by
    rw[List.findIdx?_eq_some_iff_getElem];refine⟨hkl,?_,fun j hj=>?_⟩
    ·have e:l.getD k default=l[k]:=by rw[gnG,gnK hkl];rfl
     rw[e] at hx
     first|exact hx|simpa using hx
    ·have:=hP j hj;rw[gnG,gnK (by omega)] at this;simpa using this
   rw[zrz,hf]
  ·rw[jg,if_pos rfl];refine⟨⟨k+1,by omega,by simp,q2v hP (by simpa using hx)⟩,?_⟩;simp[D.int];omega
 ·simp only[gnZ] at hlt⊢;have:k=l.length:=by omega
  subst this;have hf:(l.findIdx? fun a=>decide (a.name=nm))=none:=by
   rw[List.findIdx?_eq_none_iff];intro a ha;obtain⟨j,hj,rfl⟩:=List.getElem_of_mem ha;have:=hP j hj;rw[gnG,gnK hj] at this;simpa using this
  rw[zrz,hf]
theorem qdq:FOk yq qoy:=qy0 q94 fun ds outs hw hg=>by
 obtain⟨d,r,rfl,hd,e,r',rfl,he,rfl⟩:=hw;obtain⟨l,rfl,hl,hlo⟩:=zvj hd;obtain⟨nm,rfl,hn⟩:=he.str;simp only[qoy,z2a,q5f,uC] at hg;subst hg;simp only[qbp,gnZ,qoy,z2a]
def qya(s:So)(a:Int)(c:Ce):Int×So:=if qem vcP qay s a c then(0,zn1 s a c) else(1,s)
def zcy(s:So):Bool:=decide (s.tr.length<5864062014634)&&decide (s.wk.length<3518437208780)
theorem zkv{s:So}(hr:zcy s=true)(a:Int)(c:Ce):z7i vcP qay [eS s,.i a,eC c]=some [.i (qya s a c).1,eS (qya s a c).2]:=by
 simp only[zcy,gnB,gnD] at hr;simp only[z7i,zr,q0t,yw,qya,decide_eq_true hr.1,if_true];split<;>rfl
theorem zmi(s:So)(a:Int)(c:Ce):(qya s a c).2.wk=s.wk:=by
 unfold qya;split<;>rfl
def zar(s:So)(x c:Ce):Int×So:=if(qya s x.n c).1=0 then(0,{(qya s x.n c).2 with wk:=s.wk++[⟨(cellAt s (x.n+1)).n,cellAt s (x.n+2),q2q c⟩]}) else qya s x.n c
def zp2(s:So)(x:Ce):Bool:=inS s (x.n+1)&&(inS s (x.n+2)&&zcy s)
def zfj:List D→Option (List D)
 |[s,x,c]=>if zp2 (dS s) (dC x) then some [.i (zar (dS s) (dC x) (dC c)).1,eS (zar (dS s) (dC x) (dC c)).2] else none
 |_=>none
theorem zsb(s:So)(l:List Wk)(w:Wk):D.a ((eS s).fs.set 3 (.r (l.map eW++[eW w])))=eS {s with wk:=l++[w]}:=by simp[eS,D.fs]
theorem zmj:FOk q17 zfj:=qhw qe6 q7c fun ds outs hw hg=>by
 obtain⟨d,r,rfl,hd,e,r',rfl,he,f,r2,rfl,hf,rfl⟩:=hw;obtain⟨s,rfl,hs⟩:=wfS hd;obtain⟨x,rfl,hx⟩:=wfC he;obtain⟨c,rfl,hc⟩:=wfC hf;simp only[zfj,zr,q0t,uD,uC] at hg;obtain⟨hq,rfl⟩:=hg;simp only[zp2,gnB] at hq;obtain⟨h1,h2,hr⟩:=hq;have i1:=qs.1 h1;have i2:=qs.1 h2;have hl:=hs.cs.1;have rb1:yz .i64 (x.n+1)=true:=q6w.2 ⟨by omega,by omega⟩;have rb2:yz .i64 (x.n+2)=true:=q6w.2 ⟨by omega,by omega⟩;have hr':=hr;simp only[zcy,gnB,gnD] at hr';have hwk:=zmi s x.n c;have hle:s.wk.length+1≤3518437208780:=by omega
 have ew:D.a [.i (cellAt s (x.n+1)).n,eC (cellAt s (x.n+2)),eC (q2q c)]=eW ⟨(cellAt s (x.n+1)).n,cellAt s (x.n+2),q2q c⟩:=rfl;have b1: -9223372036854775808≤x.n+1∧x.n+1≤9223372036854775807:=⟨by omega,by omega⟩;have b2: -9223372036854775808≤x.n+2∧x.n+2≤9223372036854775807:=⟨by omega,by omega⟩;simp only[q6e,gnZ,q63,zkv hr,zs h1,zs h2,ew,b1,b2,i1,i2,hwk,zsb];refine⟨fun h=>?_,fun h=>?_⟩
 ·have h0:¬(qya s x.n c).1=0:=by simpa using h
  rw[zar,if_neg h0]
 ·have h0:(qya s x.n c).1=0:=by simpa using h
  rw[zar,if_pos h0];exact⟨by omega,rfl⟩
def orI:List Int→Int
 |[]=>0
 |x::l=>if x=0 then orI l else x
def gOr:List D→Option (List D)
 |[l]=>some [.i (orI (l.rs.map D.int))]
 |_=>none
theorem z7v:∀{l:List Int}{k:Nat},k<l.length→(∀j,j<k→l.getD j 0=0)→orI l=orI (l.drop k)
 |[],k,h,_=>by simp at h
 |x::l,0,h,_=>rfl
 |x::l,k+1,h,hz=>by
  have h0:x=0:=by simpa using hz 0 (by omega)
  rw[orI,if_pos h0,List.drop_succ_cons];exact z7v (by simpa using h) fun j hj=>by simpa using hz (j+1) (by omega)
theorem z6b:∀{l:List Int},(∀j,j<l.length→l.getD j 0=0)→orI l=0
 |[],_=>rfl
 |x::l,h=>by
  have h0:x=0:=by simpa using h 0 (by simp)
  rw[orI,if_pos h0];exact z6b fun j hj=>by simpa using h (j+1) (by simpa using hj)
theorem zwu{E:TypeId}(hE:qj E=some (.int .i64))(h:Wf d (.row E)):∃l:List Int,d=.r (l.map D.i)∧l.length≤LM (.int .i64)∧∀x∈l,i64 x:=by
 obtain⟨l,rfl,h1,h2⟩:=h.row_of hE;obtain⟨m,rfl,h3⟩:=qe5 (e:=D.i) (P:=i64) fun x hx=>wfI (h2 x hx);rw[uG] at h1;exact⟨m,rfl,h1,h3⟩
theorem lmI:LM (.int .i64)=17592186043904:=by kernel_rfl
theorem zux{l:List Int}{k:Nat}(h:k<l.length):(D.r (l.map D.i)).get (k:Int)=.i (l.getD k 0):=by
 show(l.map D.i).getD (k:Int).toNat .u=_
 simp[gnG,h]
theorem qx4:FOk q16 gOr:=qv4 fun ds outs hw hg=>by
 obtain⟨d,r,rfl,hd,rfl⟩:=hw;obtain⟨l,rfl,hl,hlo⟩:=zwu rfl hd;rw[lmI] at hl;have hm:(l.map D.i).map D.int=l:=by
  rw[vN];have:D.int ∘ D.i=id:=funext fun _=>rfl;rw[this,vP]
 simp only[gOr,qa8,hm,uC] at hg;subst hg;rw[q9s,zz];refine⟨fun st=>∃k:Nat,k≤l.length∧st=[.i 0,.i k]∧∀j,j<k→l.getD j 0=0,fun st=>l.length - (st.getD 1 .u).int.toNat,⟨0,uJ _,rfl,fun j hj=>absurd hj (uU _)⟩,?_⟩;rintro st - ⟨k,hk,rfl,hP⟩;rw[zw];refine⟨fun hlt=>?_,fun hlt=>?_⟩
 ·simp only[gnZ] at hlt;have hkl:k<l.length:=by omega
  have hd:orI l=orI (l.drop k):=z7v hkl hP;have he:l.drop k=l.getD k 0::l.drop (k+1):=by
   rw[List.drop_eq_getElem_cons hkl];simp[gnG,hkl]
  simp only[gnZ,zux hkl];refine⟨⟨by omega,by omega⟩,fun hx=>?_,fun hx=>⟨⟨by omega,by omega⟩,?_⟩⟩
  ·have hx':¬l.getD k 0=0:=by simpa using hx
   rw[hd,he,orI,if_neg hx']
  ·have hx':l.getD k 0=0:=by simpa using hx
   rw[jg,if_pos rfl];refine⟨⟨k+1,by omega,by simp,q2v hP hx'⟩,?_⟩;simp[D.int];omega
 ·simp only[gnZ] at hlt⊢;have:k=l.length:=by omega
  subst this;rw[z6b hP]
def q4c(s:So)(c:Ce):Option (ByteArray×Ce×Ce):=
 if qi1 s (q2t s c) ⟨#[46]⟩ then
  (if qi1 s (q2t s (cellAt s ((q2t s c).n+1))) ⟨#[45]⟩ then
   (if qed s (q2t s (cellAt s ((q2t s (cellAt s ((q2t s c).n+1))).n+1))) then
    some ((s.ys.getD (q2t s (cellAt s ((q2t s (cellAt s ((q2t s c).n+1))).n+1))).n.toNat default).name,cellAt s ((q2t s c).n+2),cellAt s ((q2t s (cellAt s ((q2t s c).n+1))).n+2))
    else none) else none) else none
def hasB(met:List ByteArray)(nm:ByteArray):Bool:=met.any fun x=>decide (x=nm)
def q5n(s:So):Nat→Ce→List ByteArray→List At
 |0,_,_=>[]
 |k+1,c,met=>match q4c s c with
  |none=>[]
  |some (nm,tl,vl)=>(if hasB met nm then[] else[⟨nm,q2q (q2t s vl)⟩])++q5n s k tl (nm::met)
def yb(s:So)(c:Ce):List At:=q5n s s.cs.length c []
def sqL:Code→Code
 |.seq x _=>x
 |c=>c
def sqR:Code→Code
 |.seq _ y=>y
 |c=>c
def bkC:Code→Code
 |.block _ c=>c
 |c=>c
def lpC:Code→Code
 |.loop c=>c
 |c=>c
noncomputable def itC:Code:=match kM.body with
 |some c=>c
 |none=>.skip
noncomputable def itR:Code:=lpC (bkC (sqR (sqR itC)))
noncomputable def itB:Code:=bkC (sqL (sqR (sqR itR)))
noncomputable def it1:List Code:=[sqL itC,sqL (sqR itC)]
noncomputable def z84:List Code:=[sqL itR,sqL (sqR itR)]
noncomputable def z97:List Code:=[sqL itB,sqL (sqR itB),sqL (sqR (sqR itB)),sqL (sqR (sqR (sqR itB))),sqL (sqR (sqR (sqR (sqR itB)))),sqL (sqR (sqR (sqR (sqR (sqR itB)))))]
noncomputable def itY:Code:=sqL (sqR (sqR (sqR (sqR (sqR (sqR itB))))))
noncomputable def it3:List Code:=[sqL (sqR (sqR (sqR (sqR (sqR (sqR (sqR itB))))))),sqR (sqR (sqR (sqR (sqR (sqR (sqR (sqR itB)))))))]
noncomputable def it4:List Code:=[sqR (sqR (sqR itR))]
noncomputable def itO:List Oper:=match sqL itY with
 |.region _ ops _=>ops.toList
 |_=>[]
abbrev mpT:Ty:=.map 9 4
abbrev q2z:Tbl:=[(zj,qf5),(q4z,zbd),(q4o,z23),(q14,q63)]
theorem qc5:q0i q2z:=.cons q5k (.cons z29 (.cons z2u (.cons qe6 .nil)))
def z3j:Ann:=⟨[0,1,2,4,5,6,7,8,9,10,14,15,16,27,38,48,62],[]⟩
def sA:St:=⟨[(0,.sn 0 .any),(1,.sn 1 (.rd (.tok 0) qd [] none)),(2,.sn 2 .any)],[]⟩
def sA':St:=⟨[(0,.sn 0 .any),(1,.sn 1 (.rd (.tok 0) qd [] none)),(2,.sn 2 .any),(14,.v (.len (.fld (.tok 0) 0)) (.int .i64) [] [])],[]⟩
abbrev iA:List Item:=[(4,mpT,[(0,65)],[]),(15,.int .i64,[],[])]
def sH:St:=⟨[(0,.sn 0 .any),(1,.sn 1 (.rd (.tok 0) qd [] none)),(2,.ref 2 [] 0 qk),(4,.sn 4 (.v (.tok 2) mpT [(0,65)] [])),(14,.v (.len (.fld (.tok 0) 0)) (.int .i64) [] []),(15,.v (.tok 3) (.int .i64) [] [])],[(2,⟨.tok 1,qk,[],[]⟩)]⟩
def sB:St:=⟨[(0,.sn 0 .any),(1,.sn 1 (.rd (.tok 0) qd [] none)),(2,.ref 2 [] 0 qk),(4,.sn 4 (.v (.tok 2) mpT [(0,65)] [])),(6,.ref 6 [] 0 qk),(9,.ref 9 [] 0 qk),(14,.v (.len (.fld (.tok 0) 0)) (.int .i64) [] []),(15,.v (.tok 3) (.int .i64) [] [])],[(2,⟨.tok 1,qk,[],[]⟩)]⟩
abbrev iBt:List Item:=[(10,.str,[],[])]
abbrev iBm:List Item:=[(6,qk,[],[]),(9,qk,[],[])]
def sY:St:=⟨[(10,.v (.tok 4) .str [] []),(0,.sn 0 .any),(1,.sn 1 (.rd (.tok 0) qd [] none)),(2,.ref 2 [] 0 qk),(4,.sn 4 (.v (.tok 2) mpT [(0,65)] [])),(6,.ref 6 [] 0 qk),(9,.ref 9 [] 0 qk),(14,.v (.len (.fld (.tok 0) 0)) (.int .i64) [] []),(15,.v (.tok 3) (.int .i64) [] [])],[(6,⟨.tok 5,qk,[],[]⟩),(9,⟨.tok 6,qk,[],[]⟩),(2,⟨.tok 1,qk,[],[]⟩)]⟩
def sP:St:=⟨[(0,.sn 0 .any),(1,.sn 1 (.rd (.tok 0) qd [] none)),(2,.ref 2 [] 0 qk),(4,.sn 4 (.v (.tok 2) mpT [(0,65)] [])),(6,.rd (.tok 5) qk [] none),(10,.v (.tok 4) .str [] []),(14,.v (.len (.fld (.tok 0) 0)) (.int .i64) [] []),(15,.v (.tok 3) (.int .i64) [] [])],[(2,⟨.tok 1,qk,[],[]⟩)]⟩
def sP':St:=⟨[(0,.sn 0 .any),(1,.sn 1 (.rd (.tok 0) qd [] none)),(2,.ref 2 [] 0 qk),(14,.v (.len (.fld (.tok 0) 0)) (.int .i64) [] [])],[]⟩
abbrev iPt:List Item:=[(4,mpT,[(0,65)],[SNK]),(15,.int .i64,[],[])]
abbrev iPm:List Item:=[(2,qk,[],[])]
def sYt:St:=⟨(54,.sn 0 .any)::(53,.v (.lit (.b true)) .bool [] [])::sY.t,sY.m⟩
def sYf:St:=⟨(53,.v (.lit (.b false)) .bool [] [])::sY.t,sY.m⟩
def sYz:St:=⟨(60,.v (.tok 6) .bool [] [])::(53,.v (.lit (.b true)) .bool [] [])::sP.t,sP.m⟩
def zvi:Tree:=(.leaf [(.lit (.mp [])),(.lit (.i 0))])
theorem zl2:q5p uA q2z z3j 3 67 it1 1 sA (qpx iA [] [] sA')=zvi:=by kernel_rfl
def zrh:Tree:=
 let b:X:=.tok 0
 let e:X:=.lit (.s ⟨#[46]⟩)
 let f:X:=.lit (.s ⟨#[45]⟩)
 let d:X:=.call 0 0 [b,(.tok 1)]
 let h:X:=.ok 0 [b,(.tok 1)]
 let a:X:=.call 1 0 [b,d,e]
 let g:X:=.call 0 0 [b,a]
 let j:X:=.ok 0 [b,a]
 let c:X:=.call 1 0 [b,g,f]
 let i:X:=.call 0 0 [b,c]
 (.br (.lt (.tok 3) (.len (.fld b 0))) (.need [(.ok 1 [b,d,e]),(.ok 1 [b,d,e]),h,h,h] (.br (.not (.call 1 2 [b,d,e])) (.leaf []) (.need [(.ok 1 [b,g,f]),(.ok 1 [b,g,f]),j,j,j] (.br (.not (.call 1 2 [b,g,f])) (.leaf []) (.need [(.ok 2 [b,i]),(.ok 0 [b,c])] (.br (.not (.call 2 1 [b,i])) (.leaf []) (.leaf [(.call 2 0 [b,i]),(.call 1 1 [b,d,e]),(.call 1 1 [b,g,f])]))))))) (.leaf [(.lit (.i 0))]))
theorem zly:q5p uA q2z z3j 3 67 (z84++z97) 4 sH (qpx iBt iBm [] sB)=zrh:=by kernel_rfl
def zqq:Tree:=(.need [(.rng .i64 (.add (.tok 3) (.lit (.i 1))))] (.leaf [(.fn 2 [(.tok 2),(.tok 4),(.lit (.b .true))]),(.add (.tok 3) (.lit (.i 1))),(.tok 5)]))
theorem zmz:q5p uA q2z z3j 3 67 (it3++it4) 6 sP (qpx iPt iPm [] sP')=zqq:=by kernel_rfl
def zvr:List X:=[]
def zs8:St:=(.mk [(53,(.v (.not (.fn 0 [(.tok 2),(.tok 4),(.lit (.b .false))])) .bool [] [])),(52,(.v (.not (.fn 0 [(.tok 2),(.tok 4),(.lit (.b .false))])) .bool [] [])),(51,(.v (.fn 0 [(.tok 2),(.tok 4),(.lit (.b .false))]) .bool [] [])),(50,(.v (.tok 4) .str [] [])),(49,(.v (.tok 2) (.map 9 4) [(0,65)] [])),(10,(.v (.tok 4) .str [] [])),(0,(.sn 0 .any)),(1,(.sn 1 (.rd (.tok 0) (.st 26) [] .none))),(2,(.ref 2 [] 0 (.st 28))),(4,(.sn 4 (.v (.tok 2) (.map 9 4) [(0,65)] []))),(6,(.ref 6 [] 0 (.st 28))),(9,(.ref 9 [] 0 (.st 28))),(14,(.v (.len (.fld (.tok 0) 0)) (.int .i64) [] [])),(15,(.v (.tok 3) (.int .i64) [] []))] [(6,(.mk (.tok 5) (.st 28) [] [])),(9,(.mk (.tok 6) (.st 28) [] [])),(2,(.mk (.tok 1) (.st 28) [] []))])
theorem zlh:qvg uA q2z (dsts itO) sY (itO.take 5)=some (zvr,zs8):=by kernel_rfl
def zpw:List X:=[(.ok 0 [(.tok 0),(.tok 6)]),(.ok 3 [(.call 0 0 [(.tok 0),(.tok 6)])])]
def zea:St:=(.mk [(59,(.v (.call 3 0 [(.call 0 0 [(.tok 0),(.tok 6)])]) (.st 28) [] [])),(58,(.v (.call 0 0 [(.tok 0),(.tok 6)]) (.st 28) [] [])),(57,(.v (.tok 6) (.st 28) [] [])),(56,(.v (.tok 0) (.st 26) [] [])),(55,(.v (.tok 4) .str [] [])),(54,(.sn 0 .any)),(53,(.v (.lit (.b .true)) .bool [] [])),(10,(.v (.tok 4) .str [] [])),(0,(.sn 0 .any)),(1,(.sn 1 (.rd (.tok 0) (.st 26) [] .none))),(2,(.ref 2 [] 0 (.st 28))),(4,(.sn 4 (.v (.tok 2) (.map 9 4) [(0,65)] []))),(6,(.ref 6 [] 0 (.st 28))),(9,(.ref 9 [] 0 (.st 28))),(14,(.v (.len (.fld (.tok 0) 0)) (.int .i64) [] [])),(15,(.v (.tok 3) (.int .i64) [] []))] [(6,(.mk (.tok 5) (.st 28) [] [])),(9,(.mk (.tok 6) (.st 28) [] [])),(2,(.mk (.tok 1) (.st 28) [] []))])
theorem zlo:qvg uA q2z (dsts itO) sYt ((itO.drop 6).take 5)=some (zpw,zea):=by kernel_rfl
def zwb:List X:=[]
def zs5:St:=(.mk [(62,(.v (.lit (.b .false)) .bool [] [])),(61,.undef),(60,.undef),(59,.undef),(58,.undef),(57,.undef),(56,.undef),(55,.undef),(54,.undef),(53,(.v (.lit (.b .false)) .bool [] [])),(10,(.v (.tok 4) .str [] [])),(0,(.sn 0 .any)),(1,(.sn 1 (.rd (.tok 0) (.st 26) [] .none))),(2,(.ref 2 [] 0 (.st 28))),(4,(.sn 4 (.v (.tok 2) (.map 9 4) [(0,65)] []))),(6,(.ref 6 [] 0 (.st 28))),(9,(.ref 9 [] 0 (.st 28))),(14,(.v (.len (.fld (.tok 0) 0)) (.int .i64) [] [])),(15,(.v (.tok 3) (.int .i64) [] []))] [(6,(.mk (.tok 5) (.st 28) [] [])),(9,(.mk (.tok 6) (.st 28) [] [])),(2,(.mk (.tok 1) (.st 28) [] []))])
theorem zm3:qvg uA q2z (dsts itO) sYf (itO.drop 5)=some (zwb,zs5):=by kernel_rfl
def zvz:List X:=[]
def zre:St:=(.mk [(62,(.v (.not (.tok 6)) .bool [] [])),(61,(.v (.not (.tok 6)) .bool [] [])),(60,(.v (.tok 6) .bool [] [])),(53,(.v (.lit (.b .true)) .bool [] [])),(0,(.sn 0 .any)),(1,(.sn 1 (.rd (.tok 0) (.st 26) [] .none))),(2,(.ref 2 [] 0 (.st 28))),(4,(.sn 4 (.v (.tok 2) (.map 9 4) [(0,65)] []))),(6,(.rd (.tok 5) (.st 28) [] .none)),(10,(.v (.tok 4) .str [] [])),(14,(.v (.len (.fld (.tok 0) 0)) (.int .i64) [] [])),(15,(.v (.tok 3) (.int .i64) [] []))] [(2,(.mk (.tok 1) (.st 28) [] []))])
theorem zlw:qvg uA q2z (dsts itO) sYz (itO.drop 12)=some (zvz,zre):=by kernel_rfl
def ztu(s:So)(c:Ce)(i:Int)(o:List D):Prop:=(o=[]∧q4c s c=none)∨(o=[.i 0]∧(s.cs.length:Int)≤i)∨∃nm tl vl,i<s.cs.length∧q4c s c=some (nm,tl,vl)∧o=[.s nm,eC tl,eC vl]
theorem zwt{s:So}{M:D}(B:Nat→List D→Prop):zrh.go (qb q2z) (ztu s c i) [eS s,eC c,M,.i i] B:=by
 unfold zrh;rw[zw];refine⟨fun h=>?_,fun h=>?_⟩
 ·have hi:i<s.cs.length:=by simpa[X.ev,evl,qev,D.int,D.rs,D.tt] using h
  simp only[gnZ,qf5,zbd,q5f];by_cases h1:qi1 s (q2t s c) ⟨#[46]⟩=true
  ·simp only[h1,if_true,uL,uM,uF,uH,q6x,q0t];by_cases h2:qi1 s (q2t s (cellAt s ((q2t s c).n+1))) ⟨#[45]⟩=true
   ·simp only[h2,if_true,uL,uM,uF,uH,q6x,q0t,z23,zr];by_cases h3:qed s (q2t s (cellAt s ((q2t s (cellAt s ((q2t s c).n+1))).n+1)))=true
    ·simp only[h3,if_true,uL,uM,uF,uH,q6x,uT,gnF,false_implies,true_and,true_implies,and_true];exact .inr (.inr ⟨_,_,_,hi,by rw[q4c,if_pos h1,if_pos h2,if_pos h3],rfl⟩)
    ·have hn:q4c s c=none:=by rw[q4c,if_pos h1,if_pos h2,if_neg h3]
     simp only[if_neg h3,uL,uM,uF,uH,q6x,uT,uV,gnF,kG,false_implies,true_and,true_implies,and_true];exact .inl ⟨rfl,hn⟩
   ·have hn:q4c s c=none:=by rw[q4c,if_pos h1,if_neg h2]
    simp only[if_neg h2,uL,uM,uF,uH,q6x,uT,uV,gnF,kG,false_implies,true_and,true_implies,and_true];exact .inl ⟨rfl,hn⟩
  ·have hn:q4c s c=none:=by rw[q4c,if_neg h1]
   simp only[if_neg h1,uL,uM,uF,uH,q6x,uT,uV,gnF,kG,false_implies,true_and,true_implies,and_true];exact .inl ⟨rfl,hn⟩
 ·have hi:(s.cs.length:Int)≤i:=by simpa[X.ev,evl,qev,D.int,D.rs,D.tt] using h
  exact .inr (.inl ⟨rfl,hi⟩)
def zti(c:Ce)(M nm:D)(i:Int)(o:List D):Prop:=o=[.mp (mset nm (.b true) M.ms),.i (i+1),eC c]
theorem zwv{s:So}{tl:Ce}{M nm:D}(hi:i64 (i+1))(B:Nat→List D→Prop):zqq.go (qb q2z) (zti tl M nm i) [eS s,eC c,M,.i i,nm,eC tl] B:=by
 unfold zqq;rw[qp];refine⟨⟨?_,trivial⟩,?_⟩
 ·show(D.b (yz .i64 (i+1))).tt=true
  rw[q6w.2 hi];rfl
 ·rfl
theorem zwk{s:So}(B:Nat→List D→Prop):zvi.go (qb q2z) (fun o=>o=[.mp [],.i 0]) [eS s] B:=rfl
variable{F:Nat→Prop}{cx:Cx}{x:X}{v:Value}
section
open Go.RowKit Go.Shelf
abbrev yvV(l:Nat):Value:=.func (.yield l) #[] #[]
abbrev ptV(b:Nat):Value:=.pointer (some ⟨b,0,none⟩)
def ceL(c:Ce):List Value:=[.int .i64 c.t,.int .i64 c.n]
theorem z09{w:World}(h:Rd w F (eC c) qk cs):cs=ceL c:=by
 obtain⟨l,e,hF⟩:=Ins.of_rdS Ins.flC h;injection e with e;subst e;obtain⟨d,l',c1,c2,e1,rfl,h1,hG⟩:=Ins.of_rdF hF;obtain⟨d2,l2,c3,c4,e2,rfl,h2,hH⟩:=Ins.of_rdF hG;obtain⟨rfl,rfl⟩:=Ins.of_rdN hH;injection e1 with e1 e1';subst e1 e1';injection e2 with e2 _;subst e2;obtain⟨n1,-,q1,rfl⟩:=Ins.of_rdI h1;obtain⟨n2,-,q2,rfl⟩:=Ins.of_rdI h2;injection q1 with q1;injection q2 with q2;subst q1 q2;rfl
theorem qzm{w:World}(h:c.ok):Rd w F (eC c) qk (ceL c):=
 ⟨_,_,rfl,Ins.flC,.int .i64,[.int .i64],[.int .i64 c.t],[.int .i64 c.n],rfl,rfl,⟨.i64,rfl,rfl,q6w.2 h.1⟩,.int .i64,[],[.int .i64 c.n],[],rfl,rfl,⟨.i64,rfl,rfl,q6w.2 h.2⟩,rfl,rfl⟩
theorem zd0{w:World}(h:Rd w F (eC c) qk cs):c.ok:=by
 obtain⟨c',e,hc⟩:=wfC ⟨w,F,cs,h⟩;rw[z3c e];exact hc
def itP(bc m:Nat):qg:=fun x=>if x=32 then some bc else if x=65 then some m else none
theorem q96{bc m x b:Nat}(h:itP bc m x=some b):(x=32∧b=bc)∨(x=65∧b=m):=by
 unfold itP at h;split at h
 ·rename_i e;exact .inl ⟨e,(gnI h).symm⟩
 ·split at h
  ·rename_i e;exact .inr ⟨e,(gnI h).symm⟩
  ·cases h
theorem zd2{bc m b:Nat}:pinned (itP bc m) b↔b=bc∨b=m:=by
 constructor
 ·rintro⟨x,hx⟩;exact(q96 hx).imp (·.2) (·.2)
 ·rintro(rfl|rfl)
  ·exact⟨32,rfl⟩
  ·exact⟨65,rfl⟩
def itX(l bs bc m:Nat):Cx:=⟨evl (qb q2z) [],fun _=>True,.no,3,fun k g=>(k<3∨VB≤k)→itP bc m (k * 16)=some g,fun k g hk h2 h=>absurd h (by omega),fun t=>if t=0 then yvV l else if t=1 then ptV bs else if t=4 then .map (some m) else ptV bc⟩
theorem qwm(l bs bc m:Nat):∀te,(itX l bs bc m).F.mx te≤flM q2z te:=fun _=>uJ _
structure HdOk(NB l bs bc m:Nat)(css:List Value)(s:So)(c:Ce)(M:List D)(i:Int)(a:Act)(W:World):Prop where
 z:a.tmps.size=67
 d:a.defers=[]
 t0:a.tmps[0]? =some (yvV l)
 t1:a.tmps[1]? =some (ptV bs)
 t2:a.tmps[2]? =some (ptV bc)
 t4:a.tmps[4]? =some (.map (some m))
 t14:a.tmps[14]? =some (.int .i64 (s.cs.length:Nat))
 t15:a.tmps[15]? =some (.int .i64 i)
 hs:∃T,W.heap[bs]? =some (.cells css.toArray T (0,0))
 rd:Rd W (fun b=>b<NB∧b≠bc) (eS s) qd css
 hc:∃T,qj T=some qk∧W.heap[bc]? =some (.cells (ceL c).toArray T (0,0))
 hm:∃es clock,W.heap[m]? =some (.map es clock)∧q7t .str .bool M es.toList
 so:s.ok
 co:c.ok
 ir:i64 i
section
variable{NB l bs bc m:Nat}{css:List Value}{s:So}{c:Ce}{M:List D}{i:Int}{a:Act}{W:World}
theorem ziy(h1:bc<NB)(h2:NB≤m)(hc:∃T,qj T=some qk∧W.heap[bc]? =some (.cells (ceL c).toArray T (0,0)))(hm:∃es clock,W.heap[m]? =some (.map es clock)):Bs (itX l bs bc m).A (itX l bs bc m).F W (pinned (itP bc m)) (itP bc m) W:=by
 obtain⟨T,-,hc⟩:=hc;obtain⟨es,clock,hm⟩:=hm;refine⟨fun x y b hx hy=>?_,fun x b hx=>?_,But.refl _ _,fun x b hx=>.inl ⟨x,hx⟩,fun _ _=>⟨trivial,trivial⟩,fun _ _ _=>trivial,fun x b hx=>?_,Flo.no⟩
 ·rcases q96 hx with⟨rfl,rfl⟩|⟨rfl,rfl⟩<;>rcases q96 hy with⟨rfl,e⟩|⟨rfl,e⟩<;>first|rfl|omega
 ·rcases q96 hx with⟨rfl,rfl⟩|⟨rfl,rfl⟩
  ·exact qq hc
  ·exact(uB.1 hm).1
 ·rcases q96 hx with⟨rfl,rfl⟩|⟨rfl,rfl⟩
  ·exact .inl ⟨_,_,hc⟩
  ·exact .inr ⟨_,_,hm⟩
theorem zr2{w:World}{n:Int}(h:i64 n):Rd w F (.i n) (.int .i64) [.int .i64 n]:=⟨.i64,rfl,rfl,q6w.2 h⟩
theorem z4a(h:s.ok):i64 (s.cs.length:Nat):=by
 have:=h.cs.1;exact⟨by omega,by omega⟩
theorem zin(hA:cx.A=fun _=>True)(hsn:cx.snap 1=ptV bs)(hE:cx.v.E 0=eS s)(hp:∀x b,p x=some b→b=bc∨NB≤b)(hbs:bs<NB)(hbc:bs≠bc)(hs:∃T,W.heap[bs]? =some (.cells css.toArray T (0,0)))(rd:Rd W (fun b=>b<NB∧b≠bc) (eS s) qd css):(AV.sn 1 (.rd (.tok 0) qd [] none)).pd cx p W (ptV bs):=by
 obtain⟨T,hs⟩:=hs;have hfr:∀b,b<NB∧b≠bc→FFD cx.A p [] b:=fun b hb=>.inl ⟨by rw[hA];trivial,fun x hx=>by
  rcases hp x b hx with h|h<;>omega⟩
 have hl:=(Rd.len _ rd).1;refine⟨hsn.symm,bs,0,css,rfl,hfr bs ⟨hbs,hbc⟩,fun j v hj=>?_,?_,?_,trivial⟩
 ·rw[cell_of_row W bs _ _ T (0,0) hs,kJ];simpa using hj
 ·rw[hl]
  show 0<(Ty.st _).w
  exact q39 (E:=27) (by kernel_rfl)
 ·show Rd W _ (cx.v.E 0) qd css
  rw[hE];exact rd.mono fun b _ hb=>hfr b hb
theorem zfr(hsn:cx.snap 4=.map (some m))(hE:x.ev cx.v=.mp M)(hp:p 65=some m)(hm:∃es clock,W.heap[m]? =some (.map es clock)∧q7t .str .bool M es.toList):(AV.sn 4 (.v x mpT [(0,65)] [])).pd cx p W (.map (some m)):=by
 obtain⟨es,clock,hm,hl⟩:=hm;refine⟨hsn.symm,[.map (some m)],rfl,?_⟩;rw[hE];exact .inr ⟨_,_,.str,.bool,M,m,es,clock,rfl,by kernel_rfl,by kernel_rfl,rfl,rfl,hp,hm,hl⟩
theorem z24{n:Int}(hE:x.ev cx.v=.i n)(h:i64 n):(AV.v x (.int .i64) [] []).pd cx p W (.int .i64 n):=⟨[.int .i64 n],rfl,by rw[hE];exact Con.of_rd (zr2 h)⟩
theorem zug(h:HdOk NB l bs bc m css s c M i a W)(hbs:bs<NB)(hbc:bs≠bc)(hcb:bc<NB)(hmb:NB≤m):SF ((itX l bs bc m).at (qb q2z) [eS s,eC c,.mp M,.i i]) sH (itP bc m) W a:=by
 have hp:∀x b,itP bc m x=some b→b=bc∨NB≤b:=fun x b hx=>(q96 hx).imp (·.2) fun e=>by omega
 refine⟨fun t x hx=>?_,fun k e he=>?_⟩
 ·have hx:=qv hx;simp only[sH,gnM] at hx;rcases hx with⟨rfl,rfl⟩|⟨rfl,rfl⟩|⟨rfl,rfl⟩|⟨rfl,rfl⟩|⟨rfl,rfl⟩|⟨rfl,rfl⟩
  ·exact⟨_,h.t0,rfl,trivial⟩
  ·exact⟨_,h.t1,zin rfl rfl rfl hp hbs hbc h.hs h.rd⟩
  ·exact⟨_,h.t2,bc,rfl,rfl,fun _=>rfl⟩
  ·exact⟨_,h.t4,zfr rfl rfl rfl h.hm⟩
  ·refine⟨_,h.t14,z24 ?_ (z4a h.so)⟩
   show D.i (((eS s).fld 0).rs.length:Nat)=_
   rw[qev,qa8,uG]
  ·exact⟨_,h.t15,z24 rfl h.ir⟩
 ·have he:=qv he;simp only[sH,gnM] at he;obtain⟨rfl,rfl⟩:=he;obtain⟨T,hT,hc⟩:=h.hc;exact⟨bc,_,T,rfl,hc,hT,Con.of_rd (show Rd W _ (eC c) qk (ceL c).toArray.toList from qzm h.co)⟩
theorem zad{dep:List Nat}(h:(AV.v x mpT [(0,65)] dep).pd cx p W v):∃b,p 65=some b∧v=.map (some b)∧∃l es clock,x.ev cx.v=.mp l∧W.heap[b]? =some (.map es clock)∧q7t .str .bool l es.toList:=by
 obtain⟨cs,hpk,hc⟩:=h;rcases hc with⟨E,te,l,v',e1,-⟩|⟨K,V,kt,vt,l,g,es,clock,e1,hK,hV,e2,rfl,hg,hh,hl⟩
 ·cases e1
 ·have hpk:[Value.map (some g)]=[v]:=hpk;injection hpk with hpk;subst hpk;injection e1 with e1 e1';subst e1 e1';have h1:qj 9=some .str:=by kernel_rfl
  have h2:qj 4=some .bool:=by kernel_rfl
  rw[h1] at hK;rw[h2] at hV;injection hK with hK;injection hV with hV;subst hK hV;exact⟨g,hg,rfl,l,es,clock,e2,hh,hl⟩
theorem qh1{n:Int}(hE:x.ev cx.v=.i n)(h:(AV.v x (.int .i64) [] []).pd cx p W v):v=.int .i64 n∧i64 n:=by
 obtain⟨m,e,rfl,hr⟩:=q0g h;rw[hE] at e;injection e with e;subst e;exact⟨rfl,q6w.1 hr⟩
theorem z9d{k:Nat}(hE:x.ev cx.v=eC c)(h:q1s cx p W k ⟨x,qk,[],[]⟩):∃g,p (k * 16)=some g∧c.ok∧∃T,qj T=some qk∧W.heap[g]? =some (.cells (ceL c).toArray T (0,0)):=by
 obtain⟨g,cs,T,hg,hh,hT,hc⟩:=h;rw[hE] at hc;obtain⟨cs⟩:=cs;have hr:Rd W (FFD cx.A p []) (eC c) qk cs:=Con.rd hc (fun _ h=>h) (fun _ h=>h);obtain rfl:=z09 hr;exact⟨g,hg,zd0 hr,T,hT,hh⟩
end
end
section
open Go.RowKit Go.Shelf
structure KOk(l n bs bc m NB:Nat)(css:List Value)(s:So)(c0:Ce)(K:Nat→Nat→World→Prop)(J:World→Prop):Prop where
 rd:∀k N W,K k N W→N≤W.heap.size∧(∃T,W.heap[bs]? =some (.cells css.toArray T (0,0)))∧Rd W (fun b=>b<NB∧b≠bc) (eS s) qd css
 step:∀k N W W',K k N W→But (fun b=>b=bc∨b=m) W W'→K k N W'
 yield:∀k N W a,K k N W→(yb s c0)[k]? =some a→a.ok→YieldAt (FR none) (n - 1) uA l #[.string a.name,.agg (ceL a.val).toArray] W fun e W'=>
  W.heap.size≤W'.heap.size∧(∀b,b<W.heap.size→N≤b∨b=bc∨b=m→W'.heap[b]? =W.heap[b]?)∧(e=.returned (.bool true)∧K (k+1) W'.heap.size W'∨e=.returned (.bool false)∧J W')
 stop:∀W W',J W→But Nil W W'→J W'
structure MidOk(l bs bc m:Nat)(s:So)(c:Ce)(M:List D)(i:Int)(nm:ByteArray)(tl:Ce)(b6:Nat)(a:Act)(W:World):Prop where
 z:a.tmps.size=67
 d:a.defers=[]
 t0:a.tmps[0]? =some (yvV l)
 t1:a.tmps[1]? =some (ptV bs)
 t2:a.tmps[2]? =some (ptV bc)
 t4:a.tmps[4]? =some (.map (some m))
 t6:a.tmps[6]? =some (ptV b6)
 t10:a.tmps[10]? =some (.string nm)
 t14:a.tmps[14]? =some (.int .i64 (s.cs.length:Nat))
 t15:a.tmps[15]? =some (.int .i64 i)
 hc:∃T,qj T=some qk∧W.heap[bc]? =some (.cells (ceL c).toArray T (0,0))
 hm:∃es clock,W.heap[m]? =some (.map es clock)∧q7t .str .bool M es.toList
 h6:∃T,W.heap[b6]? =some (.cells (ceL tl).toArray T (0,0))
 co:c.ok
 tlo:tl.ok
 ir:i64 i
 nml:nm.size≤LIM
def sYm:St:=⟨[(10,.v (.tok 4) .str [] []),(0,.sn 0 .any),(1,.sn 1 (.rd (.tok 0) qd [] none)),(2,.ref 2 [] 0 qk),(4,.sn 4 (.v (.tok 2) mpT [(0,65)] [])),(6,.ref 6 [] 0 qk),(14,.v (.len (.fld (.tok 0) 0)) (.int .i64) [] []),(15,.v (.tok 3) (.int .i64) [] [])],[(6,⟨.tok 5,qk,[],[]⟩),(2,⟨.tok 1,qk,[],[]⟩)]⟩
section
variable{NB n l bs bc m:Nat}{css:List Value}{s:So}{c tl vl:Ce}{M:List D}{i:Int}{nm:ByteArray}{a:Act}{W W0:World}{p:qg}{r:List D}{b6:Nat}
abbrev qlt(s:So)(c:Ce)(M:List D)(i:Int)(nm:ByteArray)(tl:Ce)(r:List D):List D:=eS s::eC c:: .mp M:: .i i:: .s nm::eC tl::r
theorem zfk(hm:bc≠m)(hb:Bs (itX l bs bc m).A (itX l bs bc m).F W0 (pinned (itP bc m)) p W)(hf:SF ((itX l bs bc m).at (qb q2z) (qlt s c M i nm tl r)) sYm p W a)(hd:a.defers=[])(hz:a.tmps.size=67):∃b6,W0.heap.size≤b6∧b6<W.heap.size∧b6≠bc∧b6≠m∧MidOk l bs bc m s c M i nm tl b6 a W:=by
 obtain⟨v0,t0,e0,-⟩:=hf.t 0 _ (by kernel_rfl:lkA sYm.t 0=some (.sn 0 .any));obtain⟨v1,t1,e1,-⟩:=hf.t 1 _ (by kernel_rfl:lkA sYm.t 1=some (.sn 1 (.rd (.tok 0) qd [] none)));obtain⟨v2,t2,g2,q2,e2,hat⟩:=hf.t 2 _ (by kernel_rfl:lkA sYm.t 2=some (.ref 2 [] 0 qk));obtain⟨v4,t4,e4,h4⟩:=hf.t 4 _ (by kernel_rfl:lkA sYm.t 4=some (.sn 4 (.v (.tok 2) mpT [(0,65)] [])));obtain⟨v6,t6,g6,q6,e6,-⟩:=hf.t 6 _ (by kernel_rfl:lkA sYm.t 6=some (.ref 6 [] 0 qk));obtain⟨v10,t10,h10⟩:=hf.t 10 _ (by kernel_rfl:lkA sYm.t 10=some (.v (.tok 4) .str [] []));obtain⟨v14,t14,h14⟩:=hf.t 14 _ (by kernel_rfl:lkA sYm.t 14=some (.v (.len (.fld (.tok 0) 0)) (.int .i64) [] []));obtain⟨v15,t15,h15⟩:=hf.t 15 _ (by kernel_rfl:lkA sYm.t 15=some (.v (.tok 3) (.int .i64) [] []));have hat:itP bc m 32=some g2:=hat (.inl (by omega));have hg2:bc=g2:=gnI hat;subst hg2;subst e0 e1 e2 e6;obtain⟨g4,q4,e4',l4,es,clock,h4e,h4h,h4l⟩:=zad h4;have e4:v4=.map (some m):=e4;rw[e4] at e4';injection e4' with e4';injection e4' with e4';subst e4' e4;have h4e:D.mp M=D.mp l4:=h4e;injection h4e with h4e;subst h4e;obtain⟨s10,e10,rfl,hl10⟩:=qit h10;have e10:D.s nm=D.s s10:=e10;injection e10 with e10;subst e10;obtain⟨rfl,-⟩:=qh1 (n:=(s.cs.length:Nat)) (by
  show D.i (((eS s).fld 0).rs.length:Nat)=_
  rw[qev,qa8,uG]) h14
 obtain⟨rfl,hi⟩:=qh1 (n:=i) rfl h15;obtain⟨g6',q6',tlo,T6,-,h6⟩:=z9d (c:=tl) rfl (hf.m 6 _ (by kernel_rfl:lkA sYm.m 6=some ⟨.tok 5,qk,[],[]⟩));obtain⟨gc,qc,co,Tc,hTc,hc⟩:=z9d (c:=c) rfl (hf.m 2 _ (by kernel_rfl:lkA sYm.m 2=some ⟨.tok 1,qk,[],[]⟩));have q6:p (6 * 16)=some g6:=q6;rw[q6] at q6';injection q6' with q6';subst q6';have q2:p (2 * 16)=some bc:=q2;rw[q2] at qc;injection qc with qc;subst qc;have n1:g6≠bc:=fun e=>by
  have:=hb.inj _ _ _ q6 (e▸q2);omega
 have n2:g6≠m:=fun e=>by
  have:=hb.inj _ _ _ q6 (e▸q4);omega
 refine⟨g6,?_,hb.bd _ _ q6,n1,n2,⟨hz,hd,t0,t1,t2,t4,t6,t10,t14,t15,⟨Tc,hTc,hc⟩,⟨es,clock,h4h,h4l⟩,⟨T6,h6⟩,co,tlo,hi,hl10⟩⟩;rcases hb.pin _ _ q6 with h|h
 ·rcases zd2.1 h with h|h
  ·exact absurd h n1
  ·exact absurd h n2
 ·exact h
theorem zk5(h:MidOk l bs bc m s c M i nm tl b6 a W)(hs:∃T,W.heap[bs]? =some (.cells css.toArray T (0,0)))(rd:Rd W (fun b=>b<NB∧b≠bc) (eS s) qd css)(so:s.ok)(hbs:bs<NB)(hbc:bs≠bc)(hcb:bc<NB)(hmb:NB≤m)(h6c:b6≠bc)(h6m:b6≠m):SF ((itX l bs bc m).at (qb q2z) (qlt s c M i nm tl r)) sP (itP bc m) W a:=by
 have hp:∀x b,itP bc m x=some b→b=bc∨NB≤b:=fun x b hx=>(q96 hx).imp (·.2) fun e=>by omega
 refine⟨fun t x hx=>?_,fun k e he=>?_⟩
 ·have hx:=qv hx;simp only[sP,gnM] at hx;rcases hx with⟨rfl,rfl⟩|⟨rfl,rfl⟩|⟨rfl,rfl⟩|⟨rfl,rfl⟩|⟨rfl,rfl⟩|⟨rfl,rfl⟩|⟨rfl,rfl⟩|⟨rfl,rfl⟩
  ·exact⟨_,h.t0,rfl,trivial⟩
  ·exact⟨_,h.t1,zin rfl rfl rfl hp hbs hbc hs rd⟩
  ·exact⟨_,h.t2,bc,rfl,rfl,fun _=>rfl⟩
  ·exact⟨_,h.t4,zfr rfl rfl rfl h.hm⟩
  ·obtain⟨T,h6⟩:=h.h6;refine⟨_,h.t6,b6,0,ceL tl,rfl,.inl ⟨trivial,fun x hx=>?_⟩,fun j v hj=>?_,Nat.zero_lt_succ _,qzm h.tlo,trivial⟩
   ·rcases q96 hx with⟨-,e⟩|⟨-,e⟩
    ·exact h6c e
    ·exact h6m e
   ·rw[cell_of_row W b6 _ _ T (0,0) h6,kJ];simpa using hj
  ·exact⟨_,h.t10,[.string nm],rfl,Con.of_rd (show Rd W _ (.s nm) .str _ from⟨rfl,rfl,h.nml⟩)⟩
  ·refine⟨_,h.t14,z24 ?_ (z4a so)⟩
   show D.i (((eS s).fld 0).rs.length:Nat)=_
   rw[qev,qa8,uG]
  ·exact⟨_,h.t15,z24 rfl h.ir⟩
 ·have he:=qv he;simp only[sP,gnM] at he;obtain⟨rfl,rfl⟩:=he;obtain⟨T,hT,hc⟩:=h.hc;exact⟨bc,_,T,rfl,hc,hT,Con.of_rd (show Rd W _ (eC c) qk (ceL c).toArray.toList from qzm h.co)⟩
theorem SF.cons{σ:St}{k:Nat}{x:AV}(hf:SF cx σ p W a)(hv:a.tmps[k]? =some v)(hx:x.pd cx p W v):SF cx ⟨(k,x)::σ.t,σ.m⟩ p W a:=by
 refine⟨fun t y hy=>?_,hf.m⟩;by_cases e:k=t
 ·subst e;have hy:lkA ((k,x)::σ.t) k=some y:=hy;rw[qa] at hy;injection hy with hy;subst hy;exact⟨v,hv,hx⟩
 ·exact hf.t t y (by rw[←qe e];exact hy)
theorem SF.forget{l6 r':List D}(hr:l6.length=6)(hf:SF (cx.at (qb q2z) (l6++r')) sP p W a):SF (cx.at (qb q2z) l6) sP p W a:=by
 have e:q0z [] [] 6 (jv [] [] [] 6 sP)=sP:=by kernel_rfl
 rw[←e];exact qju (c:=cx.at (qb q2z) (l6++r')) (c':=cx.at (qb q2z) l6) (da:=[]) (db:=[]) rfl rfl ⟨rfl,rfl,rfl⟩ (fun k hk=>by
  show(l6++r').getD k .u=l6.getD k .u
  simp only[gnG];rw[kA (by omega)]) (fun i hi=>absurd hi (uU _)) (qfx hf) rfl rfl
end
end
variable{P:Program}{α:Type}
section
open Go.RowKit Go.Shelf
theorem qgj{F:Fence}{n:Nat}{l:List Oper}{w:World}(k:Nat)(h:wpListIn F n P ops (Exit.then (wpListIn F n P ops Q (l.drop k)) Q) (l.take k) a w):wpListIn F n P ops Q l a w:=by
 have:=qdp (l.take k) (l.drop k) h;rwa [List.take_append_drop] at this
noncomputable def o5:Oper:=(itO.drop 5).headD default
noncomputable def o11:Oper:=(itO.drop 11).headD default
theorem zkg:itO.drop 5=o5::itO.drop 6:=by kernel_rfl
theorem zol:o5.op=.move (.tmp 0):=by kernel_rfl
theorem zqf:o5.dst=some 54:=by kernel_rfl
theorem zut:o5.guard=some (4,true):=by kernel_rfl
theorem zjg:itO.drop 11=o11::itO.drop 12:=by kernel_rfl
noncomputable def c11:Go.Call:=match o11.op with
 |.call c=>c
 |_=>⟨.value (.tmp 0),#[],#[]⟩
theorem zk3:o11.op=.call c11:=by kernel_rfl
theorem zuw:c11.callee=.value (.tmp 54):=by kernel_rfl
theorem zuo:c11.args= #[.tmp 55,.tmp 59]:=by kernel_rfl
theorem z3q:o11.dst=some 60:=by kernel_rfl
theorem zsw:o11.guard=some (4,true):=by kernel_rfl
theorem zq8:itY=.seq (.region 9 itO.toArray false) (.cond (.tmp 62) .ret .skip):=by kernel_rfl
theorem zue:((dsts itO)[4]?).join=some 53:=by kernel_rfl
theorem qlv:itO.all (q9g 3 67)=true:=by kernel_rfl
theorem z5a{f:α→Bool}{l:List α}(h:l.all f=true)(k:Nat):(l.take k).all f=true:=uO.2 fun x hx=>uO.1 h x (List.mem_of_mem_take hx)
theorem qkm{f:α→Bool}{l:List α}(h:l.all f=true)(k:Nat):(l.drop k).all f=true:=uO.2 fun x hx=>uO.1 h x (List.mem_of_mem_drop hx)
theorem drop_drop(l:List Oper):(l.drop 6).drop 5=l.drop 11:=by rw[vJ]
def sJ:St:=⟨[(60,.v (.tok 0) .bool [] []),(53,.v (.lit (.b true)) .bool [] [])],[]⟩
noncomputable def zun:St:=match qvg uA q2z (dsts itO) sJ (itO.drop 12) with
 |some (_,σ)=>σ
 |none=>⟨[],[]⟩
theorem zmq:qvg uA q2z (dsts itO) sJ (itO.drop 12)=some ([],zun):=by kernel_rfl
theorem zm5:lkA zun.t 62=some (.v (.not (.tok 0)) .bool [] []):=by kernel_rfl
theorem qbv:q76 q2z=true:=by kernel_rfl
theorem qca{t:Nat}(h:a.tmps[t]? =some v):a.eval (.tmp t)=v:=by
 obtain⟨h1,e⟩:=uB.1 h;simp[Act.eval,Array.getD,h1,e]
theorem zdy{ρ:Operand→Value}{w:World}{l:Nat}{v1 v2:Value}{fn:FuncId}{assign body:Code}(h54:ρ (.tmp 54)=yvV l)(h55:ρ (.tmp 55)=v1)(h59:ρ (.tmp 59)=v2)(hy:(Instr.yield l #[v1,v2]).run P w=.ok (.round l fn tmps assign body) w):(execOp ρ o11).run P w=.ok (.round l fn tmps assign body) w:=by
 unfold execOp;simp only[zk3,resolve,zuw,zuo,vG,vK,vM,h54,h55,h59,yvV,Deferred.ofValue];simp[go_sem,invoke,hy]
theorem zh0{w:World}:(execOp a.eval o5).run P w=.ok (.value (a.eval (.tmp 0))) w:=by
 unfold execOp;simp only[zol];rfl
end
section
open Go.RowKit Go.Shelf
section
variable{NB n l bs bc m:Nat}{css:List Value}{s:So}{c0 c tl vl:Ce}{M:List D}{i:Int}{nm:ByteArray}{a:Act}{W W0:World}{p:qg}{r:List D}{b6 j N:Nat}{met:List ByteArray}{K:Nat→Nat→World→Prop}{J:World→Prop}
theorem qcs(hb:Bs (itX l bs bc m).A (itX l bs bc m).F W0 (pinned (itP bc m)) p W):But (fun b=>b=bc∨b=m) W0 W:=hb.but.mono fun b h _=>zd2.1 h
theorem zpv(hk:KOk l n bs bc m NB css s c0 K J)(hn:1≤n)(hbs:bs<NB)(hbc:bs≠bc)(hcb:bc<NB)(hmb:NB≤m)(so:s.ok)
  (hKW:K j N W0)(hb:Bs (itX l bs bc m).A (itX l bs bc m).F W0 (pinned (itP bc m)) p W)(hf:SF ((itX l bs bc m).at (qb q2z) (qlt s c M i nm tl [eC vl])) sY p W a)(hd:a.defers=[])(hz:a.tmps.size=67)
  (htr:fnD 0 [.mp M,.s nm,.b false]=.b (hasB met nm))(hj:hasB met nm=false→(yb s c0)[j]? =some ⟨nm,q2q (q2t s vl)⟩)
  {KK:Act→World→Prop}
  (hgo:∀p' N' W1 W' a',K (if hasB met nm then j else j+1) N' W1→But (fun b=>b=bc∨b=m) W1 W'→Bs (itX l bs bc m).A (itX l bs bc m).F W1 (pinned (itP bc m)) p' W'→SF ((itX l bs bc m).at (qb q2z) (qlt s c M i nm tl [])) sP p' W' a'→a'.defers=[]→a'.tmps.size=67→KK a' W')
  (hst:∀W' a',J W'→a'.defers=[]→a'.tmps.size=67→Q .ret a' W'):itY.wpIn (FR none) n uA (Exit.then KK Q) a W:=by
 rw[zq8];have hmc:bc≠m:=by omega
 have hS:HS ((itX l bs bc m).at (qb q2z) (qlt s c M i nm tl [eC vl])) q2z:=⟨rfl,qwm l bs bc m⟩;refine wpIn_seq (wpIn_region_lit (qgj 5 (q7p none n qc5 hS rfl (q3l qbv) zlh (z5a qlv 5) (fun n h=>by cases h) hb hf hd hz fun a1 W1 hp=>?_)));obtain⟨p1,hb1,hf1,hd1,hz1⟩:=hp;obtain⟨v,hv,hpd⟩:=hf1.t 53 _ (by kernel_rfl:lkA zs8.t 53=some (.v (.not (.fn 0 [(.tok 2),(.tok 4),(.lit (.b false))])) .bool [] []));obtain⟨y,ey,rfl⟩:=q2p hpd;have ey:D.b (!(fnD 0 [.mp M,.s nm,.b false]).tt)=.b y:=ey;rw[htr] at ey;injection ey with ey;have hfY:SF ((itX l bs bc m).at (qb q2z) (qlt s c M i nm tl [eC vl])) sY p1 W1 a1:=q2u (by kernel_rfl:covers zs8 sY=true) hf1
 show wpListIn (FR none) n uA itO.toArray _ (itO.drop 5) a1 W1
 cases hm:hasB met nm with
 |true=>
  rw[hm] at ey;have ey:false=y:=ey;subst ey;have hff:=SF.cons (k:=53) (x:=.v (.lit (.b false)) .bool [] []) hfY hv ⟨_,rfl,Con.of_rd (show Rd W1 _ (.b false) .bool _ from⟨rfl,rfl⟩)⟩;refine q7p none n qc5 hS rfl (q3l qbv) (σ:=sYf) zm3 (qkm qlv 5) (fun n h=>by cases h) hb1 hff hd1 hz1 fun a2 W2 hp=>?_;obtain⟨p2,hb2,hf2,hd2,hz2⟩:=hp;obtain⟨v2,hv2,hpd2⟩:=hf2.t 62 _ (by kernel_rfl:lkA zs5.t 62=some (.v (.lit (.b false)) .bool [] []));obtain⟨y2,ey2,rfl⟩:=q2p hpd2;have ey2:D.b false=.b y2:=ey2;injection ey2 with ey2;subst ey2;refine wpIn_cond_false (qca hv2) (wpIn_skip ?_);obtain⟨b6,h1,h2,h3,h4,hmid⟩:=zfk hmc hb2 (q2u (by kernel_rfl:covers zs5 sYm=true) hf2) hd2 hz2;have hK2:=hk.step _ _ _ _ hKW (qcs (l:=l) (bs:=bs) hb2);obtain⟨-,hs2,hrd2⟩:=hk.rd _ _ _ hK2;have hbf:Bs (itX l bs bc m).A (itX l bs bc m).F W2 (pinned (itP bc m)) (itP bc m) W2:=ziy (c:=c) hcb hmb hmid.hc (by obtain⟨es,clock,h,-⟩:=hmid.hm;exact⟨es,clock,h⟩);refine hgo (itP bc m) N W2 W2 a2 (by rw[if_pos hm];exact hK2) (But.refl _ _) hbf ?_ hd2 hz2;exact zk5 hmid hs2 hrd2 so hbs hbc hcb hmb h3 h4
 | false =>
  rw[hm] at ey;have ey:true=y:=ey;subst ey;have hsz:∀{t:Nat},t<67→t<a1.tmps.size:=fun{t}h=>by omega
  have hft:=SF.cons (k:=53) (x:=.v (.lit (.b true)) .bool [] []) hfY hv ⟨_,rfl,Con.of_rd (show Rd W1 _ (.b true) .bool _ from⟨rfl,rfl⟩)⟩;obtain⟨v0,t0,e0,-⟩:=hfY.t 0 _ (by kernel_rfl:lkA sY.t 0=some (.sn 0 .any));rw[zkg];unfold wpListIn;have hw:Region.wanted o5 (yielded itO.toArray a1.tmps)=true:=(qdn zut).2 ((qe7 (ds:=dsts itO) rfl zue hv).2 rfl);rw[if_pos hw];refine Oper.wp_round none (by rw[zol];simp) ?_;unfold Oper.wp;rw[zh0,qca t0]
  show wpListIn (FR none) n uA itO.toArray _ (itO.drop 6) (a1.put o5.dst v0) W1
  rw[zqf];have hfq:SF ((itX l bs bc m).at (qb q2z) (qlt s c M i nm tl [eC vl])) sYt p1 W1 (a1.put (some 54) v0):=by
   have:=hft.put (t:=54) (x:=.sn 0 .any) (v:=v0) (by omega) ⟨e0,trivial⟩;exact this
  have hv2:(a1.put (some 54) v0).tmps[53]? =some (.bool true):=by
   obtain⟨v,hv,hpd⟩:=hfq.t 53 _ (by kernel_rfl:lkA sYt.t 53=some (.v (.lit (.b true)) .bool [] []));obtain⟨y2,ey2,rfl⟩:=q2p hpd;have ey2:D.b true=.b y2:=ey2;injection ey2 with ey2;subst ey2;exact hv
  have hsay:∀x∈zpw,x.says ((itX l bs bc m).at (qb q2z) (qlt s c M i nm tl [eC vl])).v:=by
   intro x hx;simp only[zpw,List.mem_cons,List.not_mem_nil,or_false] at hx;rcases hx with rfl|rfl
   ·show(D.b (qf5 [eS s,eC vl]).isSome).tt=true
    simp[qf5,q6x]
   ·show(D.b (q63 [_]).isSome).tt=true
    simp[q63,q6x]
  refine qgj 5 (q7p none n qc5 hS rfl (q3l qbv) zlo (z5a (qkm qlv 6) 5) hsay hb1 hfq hd1 (by simp[Act.put];exact hz1) fun a2 W2 hp=>?_);obtain⟨p2,hb2,hf2,hd2,hz2⟩:=hp
  show wpListIn (FR none) n uA itO.toArray _ ((itO.drop 6).drop 5) a2 W2
  rw[drop_drop,zjg];obtain⟨b6,h1,h2,h3,h4,hmid⟩:=zfk hmc hb2 (q2u (by kernel_rfl:covers zea sYm=true) hf2) hd2 hz2;have hK2:=hk.step _ _ _ _ hKW (qcs (l:=l) (bs:=bs) hb2);obtain⟨v54,t54,e54,-⟩:=hf2.t 54 _ (by kernel_rfl:lkA zea.t 54=some (.sn 0 .any));obtain⟨v53,t53,h53⟩:=hf2.t 53 _ (by kernel_rfl:lkA zea.t 53=some (.v (.lit (.b true)) .bool [] []));obtain⟨y3,ey3,rfl⟩:=q2p h53;have ey3:D.b true=.b y3:=ey3;injection ey3 with ey3;subst ey3;obtain⟨v55,t55,h55⟩:=hf2.t 55 _ (by kernel_rfl:lkA zea.t 55=some (.v (.tok 4) .str [] []));obtain⟨s55,es55,rfl,-⟩:=qit h55;have es55:D.s nm=.s s55:=es55;injection es55 with es55;subst es55;obtain⟨v59,t59,cs59,hp59,hc59⟩:=hf2.t 59 _ (by kernel_rfl:lkA zea.t 59=some (.v (.call 3 0 [(.call 0 0 [(.tok 0),(.tok 6)])]) qk [] []));have hr59:Rd W2 (FFD (itX l bs bc m).A p2 []) (eC (q2q (q2t s vl))) qk cs59:=by
   have h:=Con.rd hc59 (fun _ h=>h) (fun _ h=>h);have e:(X.call 3 0 [(.call 0 0 [(.tok 0),(.tok 6)])]).ev ((itX l bs bc m).at (qb q2z) (qlt s c M i nm tl [eC vl])).v=eC (q2q (q2t s vl)):=by
    show((q63 [((qf5 [eS s,eC vl]).getD []).getD 0 .u]).getD []).getD 0 .u=_
    simp[qf5,q63,q0t,zr]
   rw[e] at h;exact h
  have hr59':=hr59;obtain rfl:=z09 hr59;have hp59:v59=.agg (ceL (q2q (q2t s vl))).toArray:=hp59;subst hp59;obtain⟨fn,tmps,assign,body,hy,hR⟩:=hk.yield _ _ _ _ hK2 (hj hm) ⟨hmid.nml,zd0 hr59'⟩;unfold wpListIn;have hw:Region.wanted o11 (yielded itO.toArray a2.tmps)=true:=(qdn zsw).2 ((qe7 (ds:=dsts itO) rfl zue t53).2 rfl);rw[if_pos hw];refine⟨fun _ _=>trivial,?_⟩;have e54':a2.eval (.tmp 54)=yvV l:=(qca t54).trans e54;rw[show Oper.semAt (FR none).round a2.eval o11=execOp a2.eval o11 from Oper.semAt_eq _ _ _ (by rw[zk3];simp),zdy e54' (qca t55) (qca t59) hy];refine⟨fun e=>(by cases e),hR.mono ?_⟩;rintro e W3⟨hsz3,hbl,hres⟩;have hN2:=(hk.rd _ _ _ hKW).1;have hput:(a2.put o11.dst (.bool true)).tmps.size=67:=by rw[z3q];simp[Act.put];exact hz2
  rcases hres with⟨rfl,hK3⟩|⟨rfl,hJ3⟩
  ·-- the rounds go on
   show wpListIn (FR none) n uA itO.toArray _ (itO.drop 12) (a2.put o11.dst (.bool true)) W3
   rw[z3q];have hol:∀b,W0.heap.size≤b∨b=bc∨b=m→b<W2.heap.size→W3.heap[b]? =W2.heap[b]? :=fun b hb hlt=>hbl b hlt (by
    rcases hb with h|h|h
    ·exact .inl (by omega)
    ·exact .inr (.inl h)
    ·exact .inr (.inr h))
   have hpt:∀{t:Nat},t≠60→(a2.put (some 60) (.bool true)).tmps[t]? =a2.tmps[t]? :=fun{t}ht=>by
    show(a2.tmps.setIfInBounds 60 _)[t]? =_
    rw[kI (fun e=>ht e.symm)]
   have hmid3:MidOk l bs bc m s c M i nm tl b6 (a2.put (some 60) (.bool true)) W3:=by
    refine⟨by simp[Act.put];exact hz2,hmid.d,?_,?_,?_,?_,?_,?_,?_,?_,?_,?_,?_,hmid.co,hmid.tlo,hmid.ir,hmid.nml⟩
    ·rw[hpt (by omega)];exact hmid.t0
    ·rw[hpt (by omega)];exact hmid.t1
    ·rw[hpt (by omega)];exact hmid.t2
    ·rw[hpt (by omega)];exact hmid.t4
    ·rw[hpt (by omega)];exact hmid.t6
    ·rw[hpt (by omega)];exact hmid.t10
    ·rw[hpt (by omega)];exact hmid.t14
    ·rw[hpt (by omega)];exact hmid.t15
    ·obtain⟨T,hT,h⟩:=hmid.hc;exact⟨T,hT,(hol bc (.inr (.inl rfl)) (qq h)).trans h⟩
    ·obtain⟨es,clock,h,hl⟩:=hmid.hm;exact⟨es,clock,(hol m (.inr (.inr rfl)) (uB.1 h).1).trans h,hl⟩
    ·obtain⟨T,h⟩:=hmid.h6;exact⟨T,(hol b6 (.inl h1) h2).trans h⟩
   obtain⟨-,hs3,hrd3⟩:=hk.rd _ _ _ hK3;have hf3:=zk5 (r:=[.b true]) hmid3 hs3 hrd3 so hbs hbc hcb hmb h3 h4;have hbf:Bs (itX l bs bc m).A (itX l bs bc m).F W3 (pinned (itP bc m)) (itP bc m) W3:=ziy (c:=c) hcb hmb hmid3.hc (by obtain⟨es,clock,h,-⟩:=hmid3.hm;exact⟨es,clock,h⟩);have t53':(a2.put (some 60) (.bool true)).tmps[53]? =some (.bool true):=by rw[hpt (by omega)];exact t53
   have t60':(a2.put (some 60) (.bool true)).tmps[60]? =some (.bool true):=by
    show(a2.tmps.setIfInBounds 60 _)[60]? =_
    rw[uQ (by omega)]
   have hfz:=SF.cons (k:=60) (x:=.v (.tok 6) .bool [] []) (SF.cons (k:=53) (x:=.v (.lit (.b true)) .bool [] []) hf3 t53' ⟨_,rfl,Con.of_rd (show Rd W3 _ (.b true) .bool _ from⟨rfl,rfl⟩)⟩) t60' ⟨_,rfl,Con.of_rd (show Rd W3 _ (.b true) .bool _ from⟨rfl,rfl⟩)⟩;have hS3:HS ((itX l bs bc m).at (qb q2z) (qlt s c M i nm tl [.b true])) q2z:=⟨rfl,qwm l bs bc m⟩;refine q7p none n qc5 hS3 rfl (q3l qbv) (σ:=sYz) zlw (qkm qlv 12) (fun n h=>by cases h) hbf hfz hmid.d (by simp[Act.put];exact hz2) fun a4 W4 hp=>?_;obtain⟨p4,hb4,hf4,hd4,hz4⟩:=hp;obtain⟨v4,hv4,hpd4⟩:=hf4.t 62 _ (by kernel_rfl:lkA zre.t 62=some (.v (.not (.tok 6)) .bool [] []));obtain⟨y4,ey4,rfl⟩:=q2p hpd4;have ey4:D.b false=.b y4:=ey4;injection ey4 with ey4;subst ey4;refine wpIn_cond_false (qca hv4) (wpIn_skip ?_);refine hgo p4 _ W3 W4 a4 (by rw[hm];exact hK3) (qcs (l:=l) (bs:=bs) hb4) hb4 ?_ hd4 hz4;exact SF.forget (l6:=qlt s c M i nm tl []) rfl (q2u (by kernel_rfl:covers zre sP=true) hf4)
  ·-- the rounds stop
   show wpListIn (FR none) n uA itO.toArray _ (itO.drop 12) (a2.put o11.dst (.bool false)) W3
   rw[z3q];have t53':(a2.put (some 60) (.bool false)).tmps[53]? =some (.bool true):=by
    show(a2.tmps.setIfInBounds 60 _)[53]? =_
    rw[kI (by omega)];exact t53
   have t60':(a2.put (some 60) (.bool false)).tmps[60]? =some (.bool false):=by
    show(a2.tmps.setIfInBounds 60 _)[60]? =_
    rw[uQ (by omega)]
   have hbf:Bs (fun _=>True) Flr.no W3 (pinned fun _=>none) (fun _=>none) W3:=⟨fun x y b h=>(nomatch h),fun x b h=>(nomatch h),But.refl _ _,fun x b h=>(nomatch h),fun _ _=>⟨trivial,trivial⟩,fun x b h=>(nomatch h),fun x b h=>(nomatch h),Flo.no⟩;have hfj:SF ((itX l bs bc m).at (qb q2z) [.b false]) sJ (fun _=>none) W3 (a2.put (some 60) (.bool false)):=by
    refine⟨fun t x hx=>?_,fun k e he=>by cases he⟩;have hx:=qv hx;simp only[sJ,gnM] at hx;rcases hx with⟨rfl,rfl⟩|⟨rfl,rfl⟩
    ·exact⟨_,t60',_,rfl,Con.of_rd (show Rd W3 _ (.b false) .bool _ from⟨rfl,rfl⟩)⟩
    ·exact⟨_,t53',_,rfl,Con.of_rd (show Rd W3 _ (.b true) .bool _ from⟨rfl,rfl⟩)⟩
   have hSj:HS ((itX l bs bc m).at (qb q2z) [.b false]) q2z:=⟨rfl,qwm l bs bc m⟩;refine q7p none n qc5 hSj rfl (q3l qbv) (σ:=sJ) zmq (qkm qlv 12) (fun n h=>by cases h) hbf hfj hmid.d (by simp[Act.put];exact hz2) fun a4 W4 hp=>?_;obtain⟨p4,hb4,hf4,hd4,hz4⟩:=hp;obtain⟨v4,hv4,hpd4⟩:=hf4.t 62 _ zm5;obtain⟨y4,ey4,rfl⟩:=q2p hpd4;have ey4:D.b true=.b y4:=ey4;injection ey4 with ey4;subst ey4;refine wpIn_cond_true (qca hv4) (wpIn_ret (hst _ _ (hk.stop _ _ hJ3 (hb4.but.mono fun b h _=>?_)) hd4 hz4));obtain⟨x,hx⟩:=h;cases hx
end
end
section
open Go.RowKit Go.Shelf
noncomputable def itL:Code:=sqR (sqR (sqR itR))
noncomputable def r10:Code:=sqL (sqR (sqR (sqR (sqR (sqR (sqR (sqR itB)))))))
noncomputable def r11:Code:=sqR (sqR (sqR (sqR (sqR (sqR (sqR (sqR itB)))))))
theorem zsf:itR=seqs z84 (.seq (.block 1 itB) itL):=by kernel_rfl
theorem zsc:itB=seqs z97 (.seq itY (.seq r10 r11)):=by kernel_rfl
theorem zv8:q0z iBt iBm 4 (jv iBt iBm [] 4 sB)=sY:=by kernel_rfl
def sN:St:=q0z iPt iPm 6 (jv iPt iPm [] 6 sP')
theorem sN0:lkA sN.t 0=some (.sn 0 .any):=by kernel_rfl
theorem sN1:lkA sN.t 1=some (.sn 1 (.rd (.tok 0) qd [] none)):=by kernel_rfl
theorem sN2:lkA sN.t 2=some (.ref 2 [] 0 qk):=by kernel_rfl
theorem sN4:lkA sN.t 4=some (.sn 4 (.v (.tok 6) mpT [(0,65)] [SNK])):=by kernel_rfl
theorem zws:lkA sN.t 14=some (.v (.len (.fld (.tok 0) 0)) (.int .i64) [] []):=by kernel_rfl
theorem zw5:lkA sN.t 15=some (.v (.tok 7) (.int .i64) [] []):=by kernel_rfl
theorem sNm:lkA sN.m 2=some ⟨.tok 8,qk,[],[]⟩:=by kernel_rfl
def trk(M:List D)(met:List ByteArray):Prop:=∀nm:ByteArray,fnD 0 [.mp M,.s nm,.b false]=.b (hasB met nm)
theorem znh:trk [] []:=fun nm=>rfl
theorem zie{M:List D}{met:List ByteArray}{x:ByteArray}(h:trk M met):trk (mset (.s x) (.b true) M) (x::met):=fun nm=>by
 show(mfind (.s nm) (mset (.s x) (.b true) M)).getD (.b false)=_
 rw[qjj];by_cases e:x=nm
 ·subst e;simp[hasB]
 ·rw[if_neg (by simpa using e)];have:=h nm;simp only[hasB,List.any_cons,decide_eq_false e,kE] at this⊢;exact this
theorem qon{s:So}(h:q4c s c=none):∀k met,q5n s k c met=[]
 |0,_=>rfl
 |k+1,met=>by
  unfold q5n;rw[h]
section
variable{NB n l bs bc m:Nat}{css:List Value}{s:So}{c0 c tl vl:Ce}{M:List D}{i:Int}{nm:ByteArray}{a:Act}{W W0:World}{p:qg}{r:List D}{b6 j N:Nat}{met:List ByteArray}{K:Nat→Nat→World→Prop}{J:World→Prop}
theorem zt6(hb:Bs (itX l bs bc m).A (itX l bs bc m).F W0 (pinned (itP bc m)) p W){l6:List D}(hl6:l6.length=6)(hs6:l6.getD 0 .u=eS s)(hf:SF ((itX l bs bc m).at (qb q2z) (l6++[.mp M,.i i,eC c])) sN p W a)(hd:a.defers=[])(hz:a.tmps.size=67)(hs:∃T,W.heap[bs]? =some (.cells css.toArray T (0,0)))(rd:Rd W (fun b=>b<NB∧b≠bc) (eS s) qd css)(so:s.ok):HdOk NB l bs bc m css s c M i a W:=by
 obtain⟨v0,t0,e0,-⟩:=hf.t 0 _ sN0;obtain⟨v1,t1,e1,-⟩:=hf.t 1 _ sN1;obtain⟨v2,t2,g2,q2,e2,hat⟩:=hf.t 2 _ sN2;obtain⟨v4,t4,e4,h4⟩:=hf.t 4 _ sN4;obtain⟨v14,t14,h14⟩:=hf.t 14 _ zws;obtain⟨v15,t15,h15⟩:=hf.t 15 _ zw5;have tk:∀k d,(l6++[D.mp M,.i i,eC c]).getD k .u=d→(X.tok k).ev ((itX l bs bc m).at (qb q2z) (l6++[.mp M,.i i,eC c])).v=d:=fun k d h=>h;have tk0:(l6++[D.mp M,.i i,eC c]).getD 0 .u=eS s:=by
  rw[gnG,kA (by omega),←gnG];exact hs6
 have tk6:(l6++[D.mp M,.i i,eC c]).getD 6 .u=.mp M:=by
  rw[gnG,uZ (by omega),hl6];rfl
 have tk7:(l6++[D.mp M,.i i,eC c]).getD 7 .u=.i i:=by
  rw[gnG,uZ (by omega),hl6];rfl
 have tk8:(l6++[D.mp M,.i i,eC c]).getD 8 .u=eC c:=by
  rw[gnG,uZ (by omega),hl6];rfl
 have hat:itP bc m 32=some g2:=hat (.inl (by omega));have hg2:bc=g2:=gnI hat;subst hg2;subst e0 e1 e2;obtain⟨g4,q4,e4',l4,es,clock,h4e,h4h,h4l⟩:=zad h4;have e4:v4=.map (some m):=e4;rw[e4] at e4';injection e4' with e4';injection e4' with e4';subst e4' e4;have h4e:=(tk _ _ tk6).symm.trans h4e;injection h4e with h4e;subst h4e;obtain⟨rfl,-⟩:=qh1 (n:=(s.cs.length:Nat)) (by
  show D.i ((((l6++[D.mp M,.i i,eC c]).getD 0 .u).fld 0).rs.length:Nat)=_
  rw[tk0,qev,qa8,uG]) h14
 obtain⟨rfl,hi⟩:=qh1 (n:=i) (tk _ _ tk7) h15;obtain⟨gc,qc,co,Tc,hTc,hc⟩:=z9d (c:=c) (tk _ _ tk8) (hf.m 2 _ sNm);have q2:p (2 * 16)=some bc:=q2;rw[q2] at qc;injection qc with qc;subst qc;exact⟨hz,hd,t0,t1,t2,t4,t14,t15,hs,rd,⟨Tc,hTc,hc⟩,⟨es,clock,h4h,h4l⟩,so,co,hi⟩
theorem z07(hk:KOk l n bs bc m NB css s c0 K J)(hn:1≤n)(hbs:bs<NB)(hbc:bs≠bc)(hcb:bc<NB)(hmb:NB≤m)(so:s.ok)
  (hQ:∀e a W,(e=.ret∨e=.exit 0)→a.defers=[]→a.tmps.size=67→((∃N,K (yb s c0).length N W)∨J W)→Q e a W):
  ∀(f:Nat){i:Int}{c:Ce}{M:List D}{met:List ByteArray}{j N:Nat}{a:Act}{W:World},HdOk NB l bs bc m css s c M i a W→K j N W→(yb s c0).drop j=q5n s (s.cs.length - i.toNat) c met→j≤(yb s c0).length→0≤i→trk M met→s.cs.length - i.toNat<f→Code.roundsIn (FR none) n uA itR Q f a W
 |0,i,c,M,met,j,N,a,W,h,hK,hdr,hjl,hi0,htr,hfu=>absurd hfu (uU _)
 | f + 1, i, c, M, met, j, N, a, W, h, hK, hdr, hjl, hi0, htr, hfu => by
  rw[roundsIn_succ];have hbf:Bs (itX l bs bc m).A (itX l bs bc m).F W (pinned (itP bc m)) (itP bc m) W:=ziy (c:=c) hcb hmb h.hc (by obtain⟨es,clock,h,-⟩:=h.hm;exact⟨es,clock,h⟩);have hff:=zug h hbs hbc hcb hmb;have hend:q5n s (s.cs.length - i.toNat) c met=[]→j=(yb s c0).length:=fun e=>by
   rw[e] at hdr;have:=List.drop_eq_nil_iff.1 hdr;omega
  have hW:(seqs z84 (.seq (.block 1 itB) itL)).wpIn (FR none) n uA (Exit.then (Code.roundsIn (FR none) n uA itR Q f) Q) a W:=by
   refine q2g z84 ?_;have pre:qbb (FR none) n uA (fun e a W=>(e=.ret∨e=.exit 0)∧Q e a W) (z84++z97) ((Code.seq itY (.seq r10 r11)).wpIn (FR none) n uA (Exit.inBlock 1 (Exit.then (itL.wpIn (FR none) n uA (Exit.then (Code.roundsIn (FR none) n uA itR Q f) Q)) (Exit.then (Code.roundsIn (FR none) n uA itR Q f) Q)))) a W:=by
    refine qtf (c:=itX l bs bc m) none n qc5 (qwm l bs bc m) qbv (z84++z97) (n:=4) (ann:=z3j) (R:=ztu s c i) (B:=fun _ _=>False) (ts:=iBt) (ms:=iBm) (kill:=[]) (σk:=sB) (l:=[eS s,eC c,.mp M,.i i]) (σ:=sH) (by
     show(q5p uA q2z z3j 3 _ _ _ _ _).go _ _ _ _
     rw[zly];exact zwt _) rfl hbf hff h.d h.z (fun st p' W' a' hR hst hb' hf' hd' hz'=>?_) (fun p' W' a' hR hb' hd' hz'=>?_) (fun i' p' W' a' hR hb' hd' hz'=>?_)
    ·rcases hR with⟨rfl,-⟩|⟨rfl,-⟩|⟨nm,tl,vl,hil,hnx,rfl⟩
     ·cases hst
     ·cases hst
     have e1:s.cs.length - i.toNat=(s.cs.length - (i.toNat+1))+1:=by omega
     have hdr1:(yb s c0).drop j=(if hasB met nm then[] else[⟨nm,q2q (q2t s vl)⟩])++q5n s (s.cs.length - (i.toNat+1)) tl (nm::met):=by
      rw[hdr,e1]
      conv=>lhs;unfold q5n
      rw[hnx]
     have hfy:SF ((itX l bs bc m).at (qb q2z) (qlt s c M i nm tl [eC vl])) sY p' W' a':=by
      have:=hf';rw[zv8] at this;exact this
     have hi1:i64 (i+1):=by
      have:=z4a so;unfold i64 at this⊢;omega
     refine wpIn_seq (zpv (c0:=c0) (j:=j) (N:=N) (met:=met) hk hn hbs hbc hcb hmb so hK hb' hfy hd' hz' (htr nm) (fun hm=>?_) (fun p2 N2 W1 W2 a2 hK2 hbut hb2 hf2 hd2 hz2=>?_) fun W2 a2 hJ hd2 hz2=>?_)
     ·rw[hm] at hdr1;have:=congrArg (fun l=>l[0]?) hdr1;simpa using this
     ·have pre2:qbb (FR none) n uA (fun _ _ _=>False) (it3++it4) (Code.roundsIn (FR none) n uA itR Q f) a2 W2:=by
       refine qtf (c:=itX l bs bc m) none n qc5 (qwm l bs bc m) qbv (it3++it4) (n:=6) (ann:=z3j) (R:=zti tl (.mp M) (.s nm) i) (B:=fun _ _=>False) (ts:=iPt) (ms:=iPm) (kill:=[]) (σk:=sP') (l:=qlt s c M i nm tl []) (σ:=sP) (by
        show(q5p uA q2z z3j 3 _ _ _ _ _).go _ _ _ _
        rw[zmz];exact zwv hi1 _) rfl hb2 hf2 hd2 hz2 (fun st p3 W3 a3 hR3 hst3 hb3 hf3 hd3 hz3=>?_) (fun p3 W3 a3 hR3 hb3 hd3 hz3=>?_) (fun i' p3 W3 a3 hR3 hb3 hd3 hz3=>?_)
       ·have hR3:st=[.mp (mset (.s nm) (.b true) M),.i (i+1),eC tl]:=hR3;subst hR3;have hK3:=hk.step _ _ _ _ hK2 (qcs (l:=l) (bs:=bs) hb3);obtain⟨-,hs3,hrd3⟩:=hk.rd _ _ _ hK3;have hhd:HdOk NB l bs bc m css s tl (mset (.s nm) (.b true) M) (i+1) a3 W3:=zt6 (l6:=qlt s c M i nm tl []) hb3 rfl rfl hf3 hd3 hz3 hs3 hrd3 so;have e2:(i+1).toNat=i.toNat+1:=by omega
        refine z07 hk hn hbs hbc hcb hmb so hQ f (met:=nm::met) hhd hK3 ?_ ?_ (by omega) (zie htr) (by rw[e2];omega)
        ·rw[e2];cases hm:hasB met nm with
         |true=>
          rw[hm] at hdr1;simpa[hm] using hdr1
         |false=>
          rw[hm] at hdr1;simp only[gnF,if_false];rw[←vJ,hdr1];rfl
        ·cases hm:hasB met nm with
         |true=>simpa using hjl
         |false=>
          rw[hm] at hdr1;have:=congrArg kB hdr1;simp at this⊢;omega
       ·cases hR3
       ·cases hR3
      have pre3:=qcq it3 it4 pre2;refine wpIn_seq (wpIn_mono pre3 fun e a w hq=>?_);cases e with
      | normal =>
       refine wpIn_mono hq fun e a w hq=>?_;cases e with
       |normal=>
        refine wpIn_mono hq fun e a w hq=>?_;cases e with
        |normal=>exact hq
        |_=>exact hq.elim
       |_=>exact hq.elim
      |_=>exact hq.elim
     ·exact hQ _ _ _ (.inl rfl) hd2 hz2 (.inr hJ)
    ·rcases hR with⟨-,hnx⟩|⟨h,-⟩|⟨nm,tl,vl,-,-,h⟩
     ·exact⟨.inl rfl,hQ _ _ _ (.inl rfl) hd' hz' (.inl ⟨N,by rw[←hend (qon hnx _ _)];exact hk.step _ _ _ _ hK (qcs (l:=l) (bs:=bs) hb')⟩)⟩
     ·cases h
     ·cases h
    ·rcases hR with⟨h,-⟩|⟨h,hil⟩|⟨nm,tl,vl,-,-,h⟩
     ·cases h
     ·injection h with h;injection h with h;have h:i'=0:=Int.ofNat.inj h;subst h;have e0:s.cs.length - i.toNat=0:=by omega
      exact⟨.inr rfl,hQ _ _ _ (.inr rfl) hd' hz' (.inl ⟨N,by rw[←hend (by rw[e0];rfl)];exact hk.step _ _ _ _ hK (qcs (l:=l) (bs:=bs) hb')⟩)⟩
     ·cases h
   refine q8b (fun e a w hne hq=>?_) z84 (fun a w hp=>?_) (qcq z84 z97 pre)
   ·rcases hq with⟨rfl|rfl,hq⟩<;>exact hq
   ·refine wpIn_seq (wpIn_block ?_);rw[zsc];refine q2g z97 (q8b (fun e a w hne hq=>?_) z97 (fun a w h=>h) hp);rcases hq with⟨rfl|rfl,hq⟩
    ·exact hq
    ·exact hq
  have e:=zsf;rw[←e] at hW;exact hW
end
end
variable{css:List Value}
section
open Go.RowKit Go.Shelf
theorem zqc:itC=seqs it1 (.block 0 (.loop itR)):=by kernel_rfl
theorem zhf:kM.body=some itC:=by kernel_rfl
def zo1(l bs bc:Nat):Cx:=⟨evl (qb q2z) [],fun _=>True,.no,3,fun _ _=>True,fun _ _ _ _=>trivial,fun t=>if t=0 then yvV l else if t=1 then ptV bs else ptV bc⟩
def sS:St:=q0z iA [] 1 (jv iA [] [] 1 sA')
theorem sS0:lkA sS.t 0=some (.sn 0 .any):=by kernel_rfl
theorem sS1:lkA sS.t 1=some (.sn 1 (.rd (.tok 0) qd [] none)):=by kernel_rfl
theorem sS2:lkA sS.t 2=some (.sn 2 .any):=by kernel_rfl
theorem sS4:lkA sS.t 4=some (.v (.tok 1) mpT [(0,65)] []):=by kernel_rfl
theorem zw6:lkA sS.t 14=some (.v (.len (.fld (.tok 0) 0)) (.int .i64) [] []):=by kernel_rfl
theorem zwq:lkA sS.t 15=some (.v (.tok 2) (.int .i64) [] []):=by kernel_rfl
theorem zsa{n l bs bc:Nat}(hn:1≤n){W0:World}{s:So}{c0:Ce}(hbs:bs<W0.heap.size)(hcb:bc<W0.heap.size)(hbc:bs≠bc)(hs:∃T,W0.heap[bs]? =some (.cells css.toArray T (0,0)))(rd:Rd W0 (fun b=>b<W0.heap.size∧b≠bc) (eS s) qd css)(so:s.ok)(hc:∃T,qj T=some qk∧W0.heap[bc]? =some (.cells (ceL c0).toArray T (0,0)))(co:c0.ok){R:World→Prop}
  (hK:∀m W1,But Nil W0 W1→W0.heap.size≤m→m<W1.heap.size→∃K J,KOk l n bs bc m W0.heap.size css s c0 K J∧K 0 W1.heap.size W1∧∀W,((∃N,K (yb s c0).length N W)∨J W)→R W):
  CallsIn (FR none) n uA 94 #[yvV l,ptV bs,ptV bc] W0 fun e W=>(∃v,e=.returned v)∧R W:=by
 refine callsIn_of_wp Tryz.func94 zhf trivial ?_ rfl;have hW:(seqs it1 (.block 0 (.loop itR))).wpIn (FR none) n uA (bodyPost uA kM fun e W=>(∃v,e=.returned v)∧R W) {tmps:= #[yvV l,ptV bs,ptV bc]++uP (kM.ntmps - (#[yvV l,ptV bs,ptV bc]:Array Value).size) Go.undef,defers:=[]} W0:=by
  rw[Tryz.ntmps94];have hz0:(#[yvV l,ptV bs,ptV bc]++uP (67 - (#[yvV l,ptV bs,ptV bc]:Array Value).size) Go.undef).size=67:=by simp
  have z0:(#[yvV l,ptV bs,ptV bc]++uP (67 - (#[yvV l,ptV bs,ptV bc]:Array Value).size) Go.undef)[0]? =some (yvV l):=by rw[uR (by simp)];rfl
  have z1:(#[yvV l,ptV bs,ptV bc]++uP (67 - (#[yvV l,ptV bs,ptV bc]:Array Value).size) Go.undef)[1]? =some (ptV bs):=by rw[uR (by simp)];rfl
  have z2:(#[yvV l,ptV bs,ptV bc]++uP (67 - (#[yvV l,ptV bs,ptV bc]:Array Value).size) Go.undef)[2]? =some (ptV bc):=by rw[uR (by simp)];rfl
  generalize #[yvV l,ptV bs,ptV bc]++uP (67 - (#[yvV l,ptV bs,ptV bc]:Array Value).size) Go.undef=tm at hz0 z0 z1 z2⊢;refine q2g it1 (q8b (Q:=fun _ _ _=>False) (fun e a w _ h=>h.elim) it1 (fun a w h=>h) ?_);have hbf:Bs (zo1 l bs bc).A (zo1 l bs bc).F W0 (pinned fun _=>none) (fun _=>none) W0:=⟨fun x y b h=>(nomatch h),fun x b h=>(nomatch h),But.refl _ _,fun x b h=>(nomatch h),fun _ _=>⟨trivial,trivial⟩,fun x b h=>(nomatch h),fun x b h=>(nomatch h),Flo.no⟩;refine qtf (c:=zo1 l bs bc) (z:=67) none n qc5 (fun _=>uJ _) qbv it1 (n:=1) (ann:=z3j) (R:=fun o=>o=[.mp [],.i 0]) (B:=fun _ _=>False) (ts:=iA) (ms:=[]) (kill:=[]) (σk:=sA') (l:=[eS s]) (σ:=sA) (by
   show(q5p uA q2z z3j 3 _ _ _ _ _).go _ _ _ _
   rw[zl2];exact zwk _) rfl hbf ?_ rfl hz0 (fun st p' W' a' hR hst hb' hf' hd' hz'=>?_) (fun p' W' a' hR hb' hd' hz'=>by cases hR) (fun i' p' W' a' hR hb' hd' hz'=>by cases hR)
  ·refine⟨fun t x hx=>?_,fun k e he=>by cases he⟩;have hx:=qv hx;simp only[sA,gnM] at hx;rcases hx with⟨rfl,rfl⟩|⟨rfl,rfl⟩|⟨rfl,rfl⟩
   ·exact⟨_,z0,rfl,trivial⟩
   ·exact⟨_,z1,zin (bc:=bc) (NB:=W0.heap.size) (s:=s) rfl rfl rfl (fun x b h=>by cases h) hbs hbc hs rd⟩
   ·exact⟨_,z2,rfl,trivial⟩
  ·subst hR;have hf':SF ((zo1 l bs bc).at (qb q2z) [eS s,.mp [],.i 0]) sS p' W' a':=hf';have hbut:But Nil W0 W':=hb'.but.mono fun b h _=>by
    obtain⟨x,hx⟩:=h;cases hx
   obtain⟨v0,t0,e0,-⟩:=hf'.t 0 _ sS0;obtain⟨v1,t1,e1,-⟩:=hf'.t 1 _ sS1;obtain⟨v2,t2,e2,-⟩:=hf'.t 2 _ sS2;obtain⟨v4,t4,h4⟩:=hf'.t 4 _ sS4;obtain⟨v14,t14,h14⟩:=hf'.t 14 _ zw6;obtain⟨v15,t15,h15⟩:=hf'.t 15 _ zwq;subst e0 e1 e2;obtain⟨m,q4,rfl,l4,es,clock,h4e,h4h,h4l⟩:=zad h4;have h4e:D.mp []=D.mp l4:=h4e;injection h4e with h4e;subst h4e;obtain⟨rfl,-⟩:=qh1 (n:=(s.cs.length:Nat)) (by
    show D.i (((eS s).fld 0).rs.length:Nat)=_
    rw[qev,qa8,uG]) h14
   obtain⟨rfl,hi⟩:=qh1 (n:=0) rfl h15;have hmb:W0.heap.size≤m:=by
    rcases hb'.pin _ _ q4 with⟨x,hx⟩|h
    ·cases hx
    ·exact h
   have hmW:m<W'.heap.size:=hb'.bd _ _ q4;obtain⟨K,J,hk,hK0,hfin⟩:=hK m W' hbut hmb hmW;obtain⟨-,hs',rd'⟩:=hk.rd _ _ _ hK0;obtain⟨T,hT,hcc⟩:=hc;have hhd:HdOk W0.heap.size l bs bc m css s c0 [] 0 a' W':=⟨hz',hd',t0,t1,t2,t4,t14,t15,hs',rd',⟨T,hT,(hbut.block _ hcb (fun h=>h)).trans hcc⟩,⟨es,clock,h4h,h4l⟩,so,co,hi⟩;refine wpIn_block (wpIn_loop_rounds (s.cs.length+1) (z07 (c0:=c0) (j:=0) (met:=[]) hk hn hbs hbc hcb hmb so (fun e a W he hd hz hKJ=>?_) (s.cs.length+1) hhd hK0 (by rfl) (uJ _) (by omega) znh (by simp)));have key:bodyPost uA kM (fun e W=>(∃v,e=.returned v)∧R W) .ret a W:=⟨hd,_,results_none rfl _ _ _,⟨_,rfl⟩,hfin W hKJ⟩;rcases he with rfl|rfl
   ·exact key
   ·exact key
 rw[←zqc] at hW;exact hW
end
section
open Go.RowKit Go.Shelf
def q4f(w:World)(bc m:Nat)(b:Nat):Prop:=b=bc∨b=m∨b=w.heap.size∨b=w.heap.size+1
def KpN(w:World)(bc m N B:Nat)(W W':World):Prop:=W.heap.size≤W'.heap.size∧∀b,b<B→N≤b∨q4f w bc m b→W'.heap[b]? =W.heap[b]?
structure ItOk(w:World)(a:Act)(n bs bc m:Nat)(ti tx:Tmp)(assign body:Code)(css:List Value)(s:So)(c0:Ce)(I:Nat→Nat→World→Prop)(M:Nat→Nat→Nat→Act→World→Prop)(J:World→Prop):Prop where
 rd:∀k N W,I k N W→w.heap.size+2≤N∧N≤W.heap.size∧(∃T,W.heap[bs]? =some (.cells css.toArray T (0,0)))∧Rd W (fun b=>b<w.heap.size+2∧b≠bc) (eS s) qd css
 step:∀k N W W',I k N W→But (q4f w bc m) W W'→I k N W'
 assign:∀k N W x,(yb s c0)[k]? =some x→x.ok→I k N W→assign.wpIn (FR (some (w.heap.size+1))) n uA (Exit.then (fun a1 W1=>M k N W.heap.size a1 W1∧KpN w bc m N W.heap.size W W1) (fun _ _ _=>False)) {tmps:=(a.tmps.setIfInBounds ti (.string x.name)).setIfInBounds tx (.agg (ceL x.val).toArray),defers:=[]} W
 mstep:∀k N B a1 W W',M k N B a1 W→But (q4f w bc m) W W'→M k N B a1 W'
 body:∀k N B a1 W,k<(yb s c0).length→M k N B a1 W→body.wpIn (FR (some (w.heap.size+1))) n uA (fun e a2 W2=>KpN w bc m N B W W2∧(e=.normal∧I (k+1) W2.heap.size W2∨e=.ret∧J W2)) a1 W
 stop:∀W W',J W→But (q4f w bc m) W W'→J W'
theorem qkd{S:Nat→Prop}{W:World}{b:Nat}{o:Obj}(h:S b):But S W (W.putObj b o):=by
 refine⟨rfl,rfl,rfl,by simp,fun k hk hn=>uE (fun e=>hn (by rw[e];exact h))⟩
theorem zeo(args:Array Value)(w:World):(callFunc 94 args).run uA w=.ok (.enter 94 args) w:=by kernel_rfl
theorem zhw{g:Operand}{ti tx:Tmp}{assign body:Code}{w:World}{nn:Nat}(hn:3≤nn){bs bc:Nat}{s:So}{c0:Ce}
  (hg:a.eval g=.func (.func 94) #[] #[ptV bs,ptV bc])(hbc:bs≠bc)(hs:∃T,w.heap[bs]? =some (.cells css.toArray T (0,0)))(rd:Rd w (fun b=>b≠bc) (eS s) qd css)(so:s.ok)(hc:∃T,qj T=some qk∧w.heap[bc]? =some (.cells (ceL c0).toArray T (0,0)))(co:c0.ok)
  (hK:∀m W1,But Nil w W1→w.heap.size+2≤m→m<W1.heap.size→∃I M J,ItOk w a (nn - 1 - 1) bs bc m ti tx assign body css s c0 I M J∧I 0 W1.heap.size W1∧
   (∀N W,I (yb s c0).length N W→W.heap[w.heap.size]? =some (.deferred (some []))→Q .normal {a with defers:={target:=.collected w.heap.size,args:= #[]}::a.defers} W)∧
   (∀W,J W→W.heap[w.heap.size]? =some (.deferred (some []))→Q .ret {a with defers:={target:=.collected w.heap.size,args:= #[]}::a.defers} W)):
  (Code.rangeFunc g #[ti,tx] assign body).wpIn (FR none) nn uA Q a w:=by
 refine wpIn_rangeFunc ?_;intro fn hfn;obtain⟨rec,hrec⟩:∃rec:LoopState→Option Code→Loop,rec=fun st pe=>{state:=st,pending:=pe,fn,tmps:=a.tmps,params:= #[ti,tx],assign,body,defers:=w.heap.size}:=⟨_,rfl⟩;have hD:∀o,(((w.alloc (.deferred (some []))).alloc o).heap[w.heap.size]? =some (.deferred (some []))):=fun o=>by
  rw[hget,if_neg (by simp),hget,if_pos rfl]
 have hL:∀o,(((w.alloc (.deferred (some []))).alloc o).heap[w.heap.size+1]? =some o):=fun o=>by
  rw[hget,if_pos (by simp)]
 refine⟨w.heap.size+1,[{target:=.collected w.heap.size,args:= #[]}],(w.alloc (.deferred (some []))).alloc (.loop (rec .ready none)),{target:=.fn (.func 94) #[ptV bs,ptV bc],args:= #[yvV (w.heap.size+1)]},(w.alloc (.deferred (some []))).alloc (.loop (rec .ready none)),94,
  #[yvV (w.heap.size+1)]++ #[ptV bs,ptV bc],(w.alloc (.deferred (some []))).alloc (.loop (rec .ready none)),?_,?_,?_,?_,fun _=>by omega,?_⟩
 ·rw[hrec];exact run_enterLoop_outer _ _ _ _ _
 ·simp only[resolve,hg];simp[go_sem]
 ·intro f' hf';trivial
 ·simp only[invoke];exact zeo _ _
 ·show CallsIn (FR none) (nn - 1) uA 94 #[yvV (w.heap.size+1),ptV bs,ptV bc] ((w.alloc (.deferred (some []))).alloc (.loop (rec .ready none))) _
  have hsz:((w.alloc (.deferred (some []))).alloc (.loop (rec .ready none))).heap.size=w.heap.size+2:=by simp
  obtain⟨Ts,hs⟩:=hs;obtain⟨Tc,hTc,hc⟩:=hc;have hbs:=qq hs;have hcb:=qq hc;have hkeep:∀b o,w.heap[b]? =some o→((w.alloc (.deferred (some []))).alloc (.loop (rec .ready none))).heap[b]? =some o:=fun b o h=>by
   have hb:b<w.heap.size:=(uB.1 h).1;rw[hget,if_neg (by simp;omega),hget,if_neg (by omega)];exact h
  have hb1:But Nil w ((w.alloc (.deferred (some []))).alloc (.loop (rec .ready none))):=((But.refl _ _).alloc _).alloc _
  refine(zsa (l:=w.heap.size+1) (R:=fun W=>(∃m I M J,ItOk w a (nn - 1 - 1) bs bc m ti tx assign body css s c0 I M J∧(∀N W,I (yb s c0).length N W→W.heap[w.heap.size]? =some (.deferred (some []))→Q .normal {a with defers:={target:=.collected w.heap.size,args:= #[]}::a.defers} W)∧(∀W,J W→W.heap[w.heap.size]? =some (.deferred (some []))→Q .ret {a with defers:={target:=.collected w.heap.size,args:= #[]}::a.defers} W)∧w.heap.size+2≤m∧
    ((∃N,I (yb s c0).length N W∧W.heap[w.heap.size+1]? =some (.loop (rec .ready none))∧W.heap[w.heap.size]? =some (.deferred (some [])))∨(J W∧W.heap[w.heap.size+1]? =some (.loop (rec .done (some .ret)))∧W.heap[w.heap.size]? =some (.deferred (some [])))))) (by omega) (by omega) (by omega) hbc ⟨Ts,hkeep _ _ hs⟩ (Rd.keeps (fun b o hb h=>⟨hkeep b o h,by rw[hsz];have:b<w.heap.size:=(uB.1 h).1;exact⟨by omega,hb⟩⟩) _ rd) so ⟨Tc,hTc,hkeep _ _ hc⟩ co ?_).mono ?_
  ·intro m W1 hbut hm1 hm2;rw[hsz] at hm1;obtain⟨I,M,J,hI,hI0,hq1,hq2⟩:=hK m W1 (hb1.trans_nil hbut) hm1 hm2;refine⟨fun k N W=>I k N W∧W.heap[w.heap.size+1]? =some (.loop (rec .ready none))∧W.heap[w.heap.size]? =some (.deferred (some [])),fun W=>J W∧W.heap[w.heap.size+1]? =some (.loop (rec .done (some .ret)))∧W.heap[w.heap.size]? =some (.deferred (some [])),⟨?_,?_,?_,?_⟩,⟨hI0,?_,?_⟩,?_⟩
   ·rintro k N W⟨h,-,-⟩;obtain⟨-,h2,h3,h4⟩:=hI.rd k N W h;rw[hsz];exact⟨h2,h3,h4⟩
   ·rintro k N W W'⟨h,hl,hd⟩hb;refine⟨hI.step k N W W' h (hb.mono fun b h _=>?_),(hb.block _ (uB.1 hl).1 (by omega)).trans hl,(hb.block _ (uB.1 hd).1 (by omega)).trans hd⟩;rcases h with h|h
    ·exact .inl h
    ·exact .inr (.inl h)
   ·-- one round
    rintro k N W x⟨h,hl,hd⟩hx hxo;obtain⟨hN0,hN,-,-⟩:=hI.rd k N W h;have hy:=run_yield (P:=uA) (args:= #[.string x.name,.agg (ceL x.val).toArray]) hl (by rw[hrec];rfl);rw[hrec] at hy;have hz:((#[ti,tx]:Array Tmp).zip #[Value.string x.name,.agg (ceL x.val).toArray]).foldl (fun tmps(x:Tmp×Value)=>tmps.setIfInBounds x.1 x.2) a.tmps=(a.tmps.setIfInBounds ti (.string x.name)).setIfInBounds tx (.agg (ceL x.val).toArray):=by
     simp
    have ha:=hI.assign k N W x hx hxo h;rw[←hz] at ha;refine⟨fn,_,assign,body,hy,roundIn_of_wpIn hfn (wpIn_mono ha ?_)⟩;rintro e a1 W1 h1;cases e with
    | normal =>
     obtain⟨hm,hk1⟩:=h1;have hl1:W1.heap[w.heap.size+1]? =some (.loop (rec .ready none)):=(hk1.2 _ (uB.1 hl).1 (.inr (.inr (.inr (.inr rfl))))).trans hl;have hd1:W1.heap[w.heap.size]? =some (.deferred (some [])):=(hk1.2 _ (uB.1 hd).1 (.inr (.inr (.inr (.inl rfl))))).trans hd;have hsz1:w.heap.size+1<W1.heap.size:=(uB.1 hl1).1;have hlb:(W1.putObj (w.heap.size+1) (.loop {rec .ready none with state:=.busy})).heap[w.heap.size+1]? =some (.loop {rec .ready none with state:=.busy}):=kD hsz1;have hdb:(W1.putObj (w.heap.size+1) (.loop {rec .ready none with state:=.busy})).heap[w.heap.size]? =some (.deferred (some [])):=(uE (by omega)).trans hd1;refine⟨_,run_beginRound hl1 (by rw[hrec]),?_⟩;have hkl:k<(yb s c0).length:=(gnH.1 hx).1;refine wpIn_mono (hI.body k N W.heap.size a1 _ hkl (hI.mstep k N _ a1 _ _ hm (qkd (.inr (.inr (.inr rfl)))))) ?_;have hold:∀{W3:World}{o:Obj},KpN w bc m N W.heap.size (W1.putObj (w.heap.size+1) (.loop {rec .ready none with state:=.busy})) W3→∀b,b<W.heap.size→N≤b∨b=bc∨b=m→(W3.putObj (w.heap.size+1) o).heap[b]? =W.heap[b]? :=fun{W3 o}hk3 b hb hbN=>by
      have hne:b≠w.heap.size+1:=by omega
      have hh:N≤b∨q4f w bc m b:=by
       rcases hbN with h|h|h
       ·exact .inl h
       ·exact .inr (.inl h)
       ·exact .inr (.inr (.inl h))
      rw[uE hne,hk3.2 b hb hh,uE hne,hk1.2 b hb hh]
     rintro e a3 W3⟨hk3,⟨rfl,hi3⟩|⟨rfl,hj3⟩⟩
     ·have hl3:W3.heap[w.heap.size+1]? =some (.loop {rec .ready none with state:=.busy}):=(hk3.2 _ (uB.1 hl).1 (.inr (.inr (.inr (.inr rfl))))).trans hlb;have hd3:W3.heap[w.heap.size]? =some (.deferred (some [])):=(hk3.2 _ (uB.1 hd).1 (.inr (.inr (.inr (.inl rfl))))).trans hdb;have hsz3:w.heap.size+1<W3.heap.size:=(uB.1 hl3).1;refine⟨_,_,run_endRound (P:=uA) none hl3,?_,hold hk3,.inl ⟨rfl,?_,?_,(uE (by omega)).trans hd3⟩⟩
      ·have h1:=hk3.1;have h2:=hk1.1;simp at h1⊢;omega
      ·have:=hI.step _ _ _ _ hi3 (qkd (S:=q4f w bc m) (b:=w.heap.size+1) (o:=.loop {(rec .ready none) with state:=if(none:Option Code).isNone then .ready else .done,pending:=none}) (.inr (.inr (.inr rfl))));simpa using this
      ·have:=kD (w:=W3) (o:=.loop {rec .ready none with state:=.ready,pending:=none}) hsz3;rw[hrec] at this⊢;exact this
     ·have hl3:W3.heap[w.heap.size+1]? =some (.loop {rec .ready none with state:=.busy}):=(hk3.2 _ (uB.1 hl).1 (.inr (.inr (.inr (.inr rfl))))).trans hlb;have hd3:W3.heap[w.heap.size]? =some (.deferred (some [])):=(hk3.2 _ (uB.1 hd).1 (.inr (.inr (.inr (.inl rfl))))).trans hdb;have hsz3:w.heap.size+1<W3.heap.size:=(uB.1 hl3).1;refine⟨_,_,run_endRound (P:=uA) (some .ret) hl3,?_,hold hk3,.inr ⟨rfl,hI.stop _ _ hj3 (qkd (.inr (.inr (.inr rfl)))),?_,(uE (by omega)).trans hd3⟩⟩
      ·have h1:=hk3.1;have h2:=hk1.1;simp at h1⊢;omega
      ·have:=kD (w:=W3) (o:=.loop {rec .ready none with state:=.done,pending:=some .ret}) hsz3;rw[hrec] at this⊢;exact this
    |_=>exact h1.elim
   ·rintro W W'⟨h,hl,hd⟩hb;exact⟨hI.stop _ _ h hb.of_nil,(hb.block _ (uB.1 hl).1 (fun h=>h)).trans hl,(hb.block _ (uB.1 hd).1 (fun h=>h)).trans hd⟩
   ·exact(hbut.block _ (by rw[hsz];omega) (fun h=>h)).trans (hL _)
   ·exact(hbut.block _ (by rw[hsz];omega) (fun h=>h)).trans (hD _)
   ·intro W hW;exact⟨m,I,M,J,hI,hq1,hq2,hm1,hW⟩
  ·rintro e W2⟨⟨v,rfl⟩,m,I,M,J,hI,hq1,hq2,hm1,⟨N,hi,hl,hd⟩|⟨hj,hl,hd⟩⟩
   ·refine⟨none,_,by have:=run_endLoop (P:=uA) hl (by rw[hrec];simp);rw[hrec] at this;exact this,hq1 N _ (hI.step _ _ _ _ hi (qkd (.inr (.inr (.inr rfl))))) ((uE (by omega)).trans hd)⟩
   ·refine⟨some .ret,_,by have:=run_endLoop (P:=uA) hl (by rw[hrec];simp);rw[hrec] at this;exact this,wpIn_ret (hq2 _ (hI.stop _ _ hj (qkd (.inr (.inr (.inr rfl))))) ((uE (by omega)).trans hd))⟩
end
variable{V:List Int}
section
mutual
/-- Variables renumbered. -/
def zdg(f:Int→Int):Te→Te
 |.mk k n s l=>.mk k (if k=0 then f n else n) s (qov f l)
def qov(f:Int→Int):List Te→List Te
 |[]=>[]
 |t::l=>zdg f t::qov f l
end
mutual
/-- The variables in the order of their first occurrence, behind those given. -/
def q6y(vs:List Int):Te→List Int
 |.mk k n s l=>q3v (if k=0∧n∉vs then vs++[n] else vs) l
def q3v(vs:List Int):List Te→List Int
 |[]=>vs
 |t::l=>q3v (q6y vs t) l
end
mutual
def inV(V:List Int):Te→Prop
 |.mk k n s l=>(k=0→n∈V)∧qxr V l
def qxr(V:List Int):List Te→Prop
 |[]=>True
 |t::l=>inV V t∧qxr V l
end
section
variable{f g:Int→Int}
theorem ze5:∀l,qov f l=l.map (zdg f)
 |[]=>rfl
 |t::l=>by rw[qov,ze5 l];rfl
theorem z4x:∀(l:List Te)(vs:List Int),q3v vs l=l.foldl q6y vs
 |[],_=>rfl
 |t::l,vs=>by rw[q3v,z4x l];rfl
theorem z5u:∀{l:List Te},qxr V l↔∀t∈l,inV V t
 |[]=>by simp[qxr]
 |t::l=>by rw[qxr,z5u];simp
mutual
theorem z8j(h:∀x∈V,f x=g x):∀t,inV V t→zdg f t=zdg g t
 |.mk k n s l,hi=>by
  rw[zdg,zdg,qp0 h l hi.2];by_cases hk:k=0
  ·rw[if_pos hk,if_pos hk,h n (hi.1 hk)]
  ·rw[if_neg hk,if_neg hk]
theorem qp0(h:∀x∈V,f x=g x):∀l,qxr V l→qov f l=qov g l
 |[],_=>rfl
 |t::l,hi=>by rw[qov,qov,z8j h t hi.1,qp0 h l hi.2]
end
mutual
theorem z7w{W:List Int}(h:∀x∈V,x∈W):∀t,inV V t→inV W t
 |.mk k n s l,hi=>⟨fun hk=>h n (hi.1 hk),qz8 h l hi.2⟩
theorem qz8{W:List Int}(h:∀x∈V,x∈W):∀l,qxr V l→qxr W l
 |[],_=>trivial
 |t::l,hi=>⟨z7w h t hi.1,qz8 h l hi.2⟩
end
mutual
theorem zdq:∀(t:Te)(vs:List Int),∃m,q6y vs t=vs++m
 |.mk k n s l,vs=>by
  rw[q6y];obtain⟨m,hm⟩:=qj3 l (if k=0∧n∉vs then vs++[n] else vs);rw[hm];split
  ·exact⟨[n]++m,by simp⟩
  ·exact⟨m,rfl⟩
theorem qj3:∀(l:List Te)(vs:List Int),∃m,q3v vs l=vs++m
 |[],vs=>⟨[],by simp[q3v]⟩
 |t::l,vs=>by
  rw[q3v];obtain⟨m,hm⟩:=zdq t vs;obtain⟨m',hm'⟩:=qj3 l (q6y vs t);exact⟨m++m',by rw[hm',hm];simp⟩
end
theorem qwh{t:List Te}{vs:List Int}{x:Int}(h:x∈vs):x∈q3v vs t:=by
 obtain⟨m,hm⟩:=qj3 t vs;rw[hm];exact List.mem_append_left _ h
mutual
theorem qw2:∀(t:Te)(vs:List Int),inV (q6y vs t) t
 | .mk k n s l, vs => by
  rw[q6y];refine⟨fun hk=>qwh ?_,qzy l _⟩;split
  ·simp
  ·rename_i h;exact Classical.byContradiction fun hn=>h ⟨hk,hn⟩
theorem qzy:∀(l:List Te)(vs:List Int),qxr (q3v vs l) l
 |[],vs=>trivial
 |t::l,vs=>by
  rw[q3v];exact⟨z7w (fun x hx=>qwh hx) t (qw2 t vs),qzy l _⟩
end
end
end
theorem qs3(vs:List Int)(t:Te):q6y vs t=q3v (if t.k=0∧t.n∉vs then vs++[t.n] else vs) t.l:=by cases t;rfl
def qwr(t:Te):Te:=if q01 t then t else zT
theorem qf7:FOk yi (gTT qwr):=qhx
def qhy(s:ByteArray)(l:List Te):Te:=if l.length=0 then qbd s else qwr (.mk 3 0 s l)
def gSL(f:ByteArray→List Te→Te):List D→Option (List D)
 |[s,l]=>some [eT (f s.str (l.rs.map dT))]
 |_=>none
theorem zra(l:List Te):(l.map eT).map dT=l:=by
 rw[vN];have:dT ∘ eT=id:=funext q1p;rw[this,vP]
theorem q6k:FOk yp (gSL qhy):=qpp q4u qf7 fun ds outs hw hg=>by
 obtain⟨d,r,rfl,hd,e,r',rfl,he,rfl⟩:=hw;obtain⟨s,rfl,hs⟩:=hd.str;obtain⟨l,rfl,hl,-⟩:=zw2 he;simp only[gSL,q5f,qa8,zra,uC] at hg;subst hg;have e:D.a (((D.a [.i 0,.i 0,.s ⟨#[]⟩,.r []]).fs.set 0 (.i 3)).set 2 (.s s)|>.set 3 (.r (l.map eT)))=eT (.mk 3 0 s l):=by rw[qou];rfl
 have e2:D.a (((eT zT).fs.set 0 (.i 3)).set 2 (.s s)|>.set 3 (.r (l.map eT)))=eT (.mk 3 0 s l):=e;simp only[q8e,gnZ,gnT,gSt,gTT,zv9,qhy,e,e2];refine⟨fun h=>?_,fun h=>?_⟩
 ·rw[if_pos (by omega)]
 ·rw[if_neg (by omega)]
def zh9:List D→Option (List D)
 |[n]=>some [.b (decide (0≤n.int)&&decide (n.int≤1099511627776))]
 |_=>none
theorem qwx:FOk q1h zh9:=qq3 fun ds outs hw hg=>by
 obtain⟨d,r,rfl,hd,rfl⟩:=hw;obtain⟨n,rfl,hn⟩:=wfI hd;simp only[zh9,yw,uC] at hg;subst hg;simp only[q7q,gnZ]
 congr 2
def vaT(n:Int):Te:=if 0≤n∧n≤1099511627776 then .mk 0 n ⟨#[]⟩ [] else zT
def zo9:List D→Option (List D)
 |[n]=>some [eT (vaT n.int)]
 |_=>none
theorem qfn:FOk q0b zo9:=z43 qwx fun ds outs hw hg=>by
 obtain⟨d,r,rfl,hd,rfl⟩:=hw;obtain⟨n,rfl,hn⟩:=wfI hd;simp only[zo9,yw,uC] at hg;subst hg;have e1:D.a ((D.a [.i 0,.i 0,.s ⟨#[]⟩,.r []]).fs.set 1 (.i n))=eT (.mk 0 n ⟨#[]⟩ []):=by rw[qou];rfl
 simp only[qcm,gnZ,gnT,zh9,vaT];by_cases h:0≤n∧n≤1099511627776
 ·simp[h];rw[qou];rfl
 ·have h':¬(0≤n)∨¬(n≤1099511627776):=by omega
  rw[if_neg h];rcases h' with h'|h'<;>simp[h']<;>rfl
end Go.Proofs.YtdaadonfbnedaaaGreat
