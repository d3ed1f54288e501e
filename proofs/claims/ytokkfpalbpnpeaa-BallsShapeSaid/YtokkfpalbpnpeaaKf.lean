/-
 Lemmas of the walk and plain laws, put together. No condition.
-/
import Derived.ChangeArms
import Derived.OpenShut
import Derived.ProofKit
import Derived.SizedLaws
import Derived.Test.YtokkfpalbpnpeaaRows
import Derived.Test.YtokkfpalbpnpeaaKe
namespace Go.Proofs.Ytokkfpalbpnpeaa
open Go.RowKit
set_option linter.unusedVariables false
set_option linter.unusedSimpArgs false
set_option maxRecDepth 100000
open _root_.Go.Proofs.Try renaming prog→uA,f3→uK
open _root_.List renaming getElem?_map→uB,mem_append→uG,mem_cons→uI
open _root_.Nat renaming le_trans→uC,le_refl→uE,zero_le→uJ
open _root_.Array renaming getD_eq_getD_getElem?→uD
def fcB:Nat→ByteArray
 |0=>qcd
 |1=>q6n
 |2=>q42
 |3=>qdc
 |_=>qnf
def nsB(k a:ByteArray):Nat→List ByteArray
 |0=>[]
 |1=>[k]
 |2=>[k]
 |3=>[k]
 |_=>[a,k]
theorem qyu(i:Nat):(fcB i).size≤100:=by
 unfold fcB;split<;>decide
theorem qyj{k a:ByteArray}(hk:k.size≤100)(ha:a.size≤100)(i:Nat):(nsB k a i).length≤7∧∀n∈nsB k a i,n.size≤100:=by
 unfold nsB;split<;>simp[hk,ha]
abbrev okB(k a:ByteArray)(t:Te):Prop:=k.size≤100∧a.size≤100∧qq t=true
theorem go0{k a:ByteArray}{t:Te}(h:¬okB k a t):qyp.go (qx qa5) (fun o=>o=[.b true]) [.s k,.s a,eT t] fun _ _=>False:=by
 simp only[qyp,qa5,gnZ,gnT,gTb,qg3];by_cases h1:(100:Int)<k.size
 ·simp[h1,D.tt]
 by_cases h2:(100:Int)<a.size
 ·simp[h1,h2,D.tt]
 have h3:qq t=false:=by
  cases hv:qq t with
  |false=>rfl
  |true=>exact absurd ⟨by omega,by omega,hv⟩ h
 simp[h1,h2,h3,D.tt]
theorem go1{k a:ByteArray}{t:Te}(h:okB k a t):qz0.go (qx qa5) (fun o=>o=[.i 0,eT t,eT t]) [.s k,.s a,eT t] fun _ _=>False:=by
 obtain⟨hk,ha,hv⟩:=h;have h1:¬(100:Int)<k.size:=by omega
 have h2:¬(100:Int)<a.size:=by omega
 simp only[qz0,qa5,gnZ,gnT,gTb,qg3,gTT,q66 hv,hv,h1,h2];simp[D.tt]
theorem goH{i:Nat}:qye.go (qx []) (fun o=>o=[]) [.i (i:Int)] fun _ _=>False:=by
 simp only[qye,gnZ,gnT];exact⟨fun h=>h,fun h=>by simpa using h⟩
theorem goF{i:Nat}(hi:i<5):qyv.go (qx []) (fun o=>o=[.i ((i+1:Nat):Int)]) [.i (i:Int)] fun _ _=>False:=by
 simp only[qyv,gnZ,gnT];refine⟨⟨by omega,by omega⟩,?_⟩;rw[List.cons.injEq,qn6];exact⟨by omega,rfl⟩
theorem goA{k a:ByteArray}{t:Te}(h:okB k a t){i:Nat}(hi:i<5):qz2.go (qx qsx) (fun o=>o=[.s (fcB i),.r ((nsB k a i).map .s),eT (q1a (fcB i) (nsB k a i) t)]) [.s k,.s a,eT t,.i (i:Int)] fun _ _=>False:=by
 obtain⟨hk,ha,hv⟩:=h;have e0:q25 t qcd []=q1a qcd [] t:=(q3t (by decide) (by simp) (by simp) hv).2.2;have e1:q25 t q6n [k]=q1a q6n [k] t:=(q3t (by decide) (by simp) (by simpa using hk) hv).2.2;have e2:q25 t q42 [k]=q1a q42 [k] t:=(q3t (by decide) (by simp) (by simpa using hk) hv).2.2;have e3:q25 t qdc [k]=q1a qdc [k] t:=(q3t (by decide) (by simp) (by simpa using hk) hv).2.2;have e4:q25 t qnf [a,k]=q1a qnf [a,k] t:=(q3t (by decide) (by simp) (by simp[hk,ha]) hv).2.2;simp only[qz2,qsx,gnZ,gnT,gUn,gKi,gPe,if_pos hk,if_pos (And.intro ha hk),e0,e1,e2,e3,e4];refine⟨⟨by omega,by omega⟩,⟨by omega,by omega⟩,⟨by omega,by omega⟩,?_⟩;obtain rfl|rfl|rfl|rfl|rfl:i=0∨i=1∨i=2∨i=3∨i=4:=by omega
 all_goals rfl
theorem goB{c:ByteArray}{ns:List ByteArray}{t:Te}(hc:c.size≤100)(hl:ns.length≤7)(hn:∀n∈ns,n.size≤100)(hv:qq t=true):
  qxo.go (qx qqn) (fun o=>o=[eT (q2i ns.length t)]) [.s c,.r (ns.map .s),eT (q1a c ns t),eT t] fun _ _=>False:=by
 obtain⟨v1,v2,-⟩:=q3t hc hl hn hv;obtain⟨-,-,v3⟩:=qnk (k:=ns.length) hv (by omega);generalize hb:q1a c ns t=b at v2;have b2:b.s=qjb:=by rw[←hb];rfl
 have b3:b.l=[q2e c ns t,j2 q7o]:=by rw[←hb];rfl
 have bE:q78 b=true:=by
  unfold q78;rw[v2,b2,b3,←hb];rfl
 generalize hp:q2e c ns t=p at v1 b3;have bF:qu2 b=p:=by
  unfold qu2;rw[if_pos bE,b3];exact q66 v1
 have p2:p.s=c:=by rw[←hp];rfl
 have p3:p.l=ns.map j2++[q2i ns.length t]:=by rw[←hp];rfl
 have pl:p.l.length=ns.length+1:=by rw[p3];simp
 have vN:qq (j2 q7o)=true:=by kernel_rfl
 have vD:qq (j2 q5p)=true:=by kernel_rfl
 have same:∀{x:Te},qq x=true→q5t x x=true:=fun{x}h=>by
  unfold q5t;rw[h,(q43 x x).2 rfl];rfl
 have g0:(D.r (b.l.map eT)).get 0=eT p:=by rw[b3];rfl
 have g1:(D.r (b.l.map eT)).get 1=eT (j2 q7o):=by rw[b3];rfl
 have bl:(b.l.length:Int)=2:=by rw[b3];rfl
 simp only[qxo,qqn,gnZ,gnT,qge,gTb,q6g,qky,gTi,bF,bE,v2,b2,bl,g0,g1,same v1,same vN,p2,pl];simp[D.tt];refine⟨qmn.2 ⟨by omega,by omega⟩,?_⟩;rw[q15];refine⟨fun st=>∃k,k≤ns.length∧st=[.i (k:Nat)],fun st=>ns.length - (st.getD 0 .u).int.toNat,⟨0,by omega,rfl⟩,?_⟩;rintro st - ⟨k,hk,rfl⟩;by_cases hkl:k<ns.length
 ·have q0:=qw6 hkl;have q1:(D.r (p.l.map eT)).get (k:Int)=eT (j2 (ns.getD k default)):=by
   rw[q6j (by omega),p3]
   congr 1
   rw[gnG,List.getElem?_append_left (by simpa using hkl),uB,gnG,gnK hkl];rfl
  have va:qq (j2 (ns.getD k default))=true:=q4g (hn _ (q8t hkl));simp only[gnZ,gnT,qge,gTb,q6g,qky,gTi,bF,q0,q1,same va,pl];refine⟨fun _=>⟨⟨by omega,by omega,by omega,by omega⟩,fun hh=>(by cases hh),fun _=>?_⟩,fun hh=>absurd (by omega) hh⟩;refine⟨⟨by omega,by omega⟩,?_⟩;rw[q46,if_pos rfl];refine⟨⟨k+1,by omega,?_⟩,?_⟩
  ·rw[List.cons.injEq,qn6];exact⟨by omega,rfl⟩
  ·simp[D.int];omega
 ·obtain rfl:k=ns.length:=by omega
  have q1:(D.r (p.l.map eT)).get (ns.length:Int)=eT (q2i ns.length t):=by
   rw[q6j (by omega),p3]
   congr 1
   rw[gnG,List.getElem?_append_right (by simp)];simp
  have big:(2000:Int)<min (szT t:Int) 2001+3+ns.length→q2i ns.length t=j2 q5p:=fun h=>by
   unfold q2i;rw[if_pos (by omega)]
  have small:¬(2000:Int)<min (szT t:Int) 2001+3+ns.length→q2i ns.length t=t:=fun h=>by
   unfold q2i;rw[if_neg (by omega)]
  simp only[gnZ,gnT,qge,gTb,q6g,qky,gTi,bF,q1,pl];refine⟨fun hh=>absurd hh (by omega),fun _=>?_⟩;by_cases hbig:(2000:Int)<min (szT t:Int) 2001+3+ns.length
  ·have e1:q5t (q2i ns.length t) (j2 q5p)=true:=by rw[big hbig];exact same vD
   simp only[hbig,e1];simp[D.tt];omega
  ·have e1:q5t (q2i ns.length t) t=true:=by rw[small hbig];exact same hv
   simp only[hbig,e1];simp[D.tt];omega
theorem goC{c:ByteArray}{ns:List ByteArray}{t:Te}(hc:c.size≤100)(hl:ns.length≤7):qz4.go (qx qrs) (fun o=>o=[]) [eT (q1a c ns t),.r (ns.map .s)] fun _ _=>False:=by
 have b3:(q1a c ns t).l=[q2e c ns t,j2 q7o]:=rfl;have p3:(q2e c ns t).l=ns.map j2++[q2i ns.length t]:=rfl;have g0:(D.r ((q1a c ns t).l.map eT)).get 0=eT (q2e c ns t):=by rw[b3];rfl
 have g1:(q2e c ns t).l.length=ns.length+1:=by rw[p3];simp
 simp only[qz4,qrs,gnZ,gnT,qp9,g0,g1];refine⟨by omega,by omega,?_⟩;rw[b3];simp
theorem goD(t:Te):qxf.go (qx qs7) (fun o=>o=[]) [eT t] fun _ _=>False:=by
 simp only[qxf,qs7,gnZ,gnT];exact⟨fun h=>h,fun _=>trivial⟩
theorem goE{t:Te}(hv:qq t=true):qxh.go (qx qr9) (fun o=>o=[]) [eT t,eT t] fun _ _=>False:=by
 have same:q5t t t=true:=by
  unfold q5t;rw[hv,(q43 t t).2 rfl];rfl
 simp only[qxh,qr9,gnZ,gnT,q6g,same];simp[D.tt]
theorem goZ:qz1.go (qx qa5) (fun o=>o=[.b true]) [] fun _ _=>False:=by
 simp only[qz1,qa5,gnZ,gnT,qg3]
section
theorem qh2:ym qa5:=.cons q0y (.cons qd8 (.cons qcl .nil))
theorem qv2:ym qsx:=.cons qla (.cons qru (.cons qkx (.cons qou (.cons qsa .nil))))
theorem qvp:ym qqn:=.cons q4l (.cons q0y (.cons q3k (.cons q7g (.cons q6k .nil))))
theorem qwa:FOk qs9 fun _=>none:=⟨q3h,fun A F p w vs us ds outs h=>(by cases h),fun h=>absurd rfl h⟩
theorem qum:ym qrs:=.cons qdv (.cons qwa .nil)
theorem qtx:ym qs7:=.cons qwa .nil
theorem quh:ym qr9:=.cons q3k .nil
theorem qy1:uK.body=some shC:=by kernel_rfl
theorem qqf:uK.ntmps=194:=by kernel_rfl
theorem qyb:shC=seqs [sqL shC,sqL (sqR shC),sqL (sqR (sqR shC))] (.seq (.seq (sqL (sqL (sqR (sqR (sqR shC))))) (.block 0 (.loop q7m))) shZ):=by kernel_rfl
theorem qvs:q7m=.seq (sqL q7m) (.seq (.block 1 shB) (sqR (sqR q7m))):=by kernel_rfl
theorem qx6:shB=seqs (qsz++(qps++(qte++(qra++ql5)))) qgn:=by kernel_rfl
theorem q3s{F:Fence}{n:Nat}{P:Program}{Q:Exit→Act→World→Prop}:∀(xs ys:List Code){K:Act→World→Prop}{a:Act}{w:World},q22 F n P Q xs (q22 F n P Q ys K) a w→q22 F n P Q (xs++ys) K a w
 |[],ys,K,a,w,h=>h
 | x :: xs, ys, K, a, w, h => wpIn_mono h fun e a w hq => by
   cases e with
   |normal=>exact q3s xs ys hq
   |_=>exact hq
def cxS(A:Bk)(ac:Act):Cx:=⟨evl (fun _ _=>none) [],A,.no,3,fun _ _=>True,fun _ _ _ _=>trivial,fun t=>ac.tmps.getD t Go.undef⟩
theorem q76{A:Bk}{ac:Act}{tbl:Tbl}(h:spB tbl=true→A.k=true):(∀te,(cxS A ac).F.mx te≤flM tbl te)∧(spB tbl=true→(cxS A ac).A.k=true):=⟨fun te=>uJ _,h⟩
theorem qeu{c:Cx}{p:qe}{w:World}{ac:Act}{l:List (Nat×AV)}(h:∀q x,(q,x)∈l→∃v,ac.tmps[q]? =some v∧x.pd c p w v):SF c ⟨l,[]⟩ p w ac:=⟨fun t x hx=>h t x (y3 hx),fun k e he=>by cases he⟩
section
variable{A:Bk}{S:Nat→List D→Option (List D)}{l:List D}{p:qe}{w:World}{ac a':Act}{t:Nat}{v:Value}{y:AV}{σ:St}
theorem zy(h:ac.tmps[t]? =some v)(hy:y.pd ((cxS A ac).at S l) p w v):∃v,ac.tmps[t]? =some v∧(AV.sn t y).pd ((cxS A ac).at S l) p w v:=
 ⟨v,h,by show v=ac.tmps.getD t Go.undef;simp[uD,h],hy⟩
theorem qu(hf:SF ((cxS A ac).at S l) σ p w a')(ht:lkA σ.t t=some (.sn t y))(h:ac.tmps[t]? =some v):a'.tmps[t]? =some v:=by
 obtain⟨u,h1,h2,-⟩:=hf.t t _ ht;have h2:u=ac.tmps.getD t Go.undef:=h2;rw[h1,h2];simp[uD,h]
end
theorem Lie.flat{P P':Nat→Prop}{w w':World}{v:Value}{d:D}{t:Ty}(hf:qm 8 t=true)(h:Lie P w v d t):Lie P' w' v d t:=let ⟨cs,h1,h2⟩:=h;⟨cs,h1,Rd.flat 8 _ hf h2⟩
theorem Lie.fv{P:Nat→Prop}{w:World}{v:Value}{x:X}{t:Ty}{c:Cx}{p:qe}{dep:List Nat}(hf:qm 8 t=true)(h:Lie P w v (x.ev c.v) t):(AV.v x t [] dep).pd c p w v:=let ⟨cs,h1,h2⟩:=h;⟨cs,h1,Con.of_rd (Rd.flat 8 _ hf h2)⟩
structure ShI(S0:Nat→Prop)(w0:World)(k a:ByteArray)(t:Te)(B i:Nat)(v0 v1 v5 v7 v8:Value)(ac:Act)(w:World):Prop where
 but:But S0 w0 w
 uf:Unf (fun b=>S0 b∨w0.heap.size≤b) w
 lo:w0.heap.size≤B
 hi:B≤w.heap.size
 t0:ac.tmps[0]? =some v0
 t1:ac.tmps[1]? =some v1
 t5:ac.tmps[5]? =some v5
 t7:ac.tmps[7]? =some v7
 t8:ac.tmps[8]? =some v8
 d0:Lie (fun _=>False) w v0 (.s k) .str
 d1:Lie (fun _=>False) w v1 (.s a) .str
 d5:Dat (fun b=>b<B) w v5 (eT t) zk
 d7:Dat (fun b=>b<B) w v7 (eT t) zk
 d8:Lie (fun _=>False) w v8 (.i (i:Int)) (.int .i64)
 hd:ac.defers=[]
 hz:ac.tmps.size=194
section
variable{S0:Nat→Prop}{w0:World}{k a:ByteArray}{t:Te}{B i:Nat}{v0 v1 v5 v7 v8:Value}{ac:Act}{w:World}
theorem ShI.step(h:ShI S0 w0 k a t B i v0 v1 v5 v7 v8 ac w){A:Bk}{S':Nat→Prop}{p':qe}{w':World}{a':Act}(hb:Bs A .no w S' p' w')(hS:∀b,S' b→B≤b)
  (h0:a'.tmps[0]? =some v0)(h1:a'.tmps[1]? =some v1)(h5:a'.tmps[5]? =some v5)(h7:a'.tmps[7]? =some v7)(h8:a'.tmps[8]? =some v8)(hd:a'.defers=[])(hz:a'.tmps.size=194):ShI S0 w0 k a t B i v0 v1 v5 v7 v8 a' w':=by
 have hlo:=h.lo;have hsz:=hb.but.size;refine⟨h.but.trans hb.but fun b hb' hlt=>?_,fun b cs T f hb' hc=>?_,h.lo,uC h.hi hsz,h0,h1,h5,h7,h8,h.d0.flat rfl,h.d1.flat rfl,h.d5.kept hb.but fun b hb' _ hs=>?_,h.d7.kept hb.but fun b hb' _ hs=>?_,h.d8.flat rfl,hd,hz⟩
 ·have:=hS b hb';exact .inr (by omega)
 ·by_cases hs:S' b∨w.heap.size≤b
  ·exact hb.uf b cs T f hs hc
  ·have hlt:b<w.heap.size:=by
    by_cases h:b<w.heap.size
    ·exact h
    ·exact absurd (.inr (by omega)) hs
   rw[hb.but.block b hlt fun h=>hs (.inl h)] at hc;exact h.uf b cs T f hb' hc
 ·have:=hS b hs;omega
 ·have:=hS b hs;omega
theorem ShI.step8(h:ShI S0 w0 k a t B i v0 v1 v5 v7 v8 ac w){A:Bk}{p':qe}{w':World}{a':Act}{j:Nat}{v8':Value}(hb:Bs A .no w Nil p' w')
  (h0:a'.tmps[0]? =some v0)(h1:a'.tmps[1]? =some v1)(h5:a'.tmps[5]? =some v5)(h7:a'.tmps[7]? =some v7)(h8:a'.tmps[8]? =some v8')(d8:Lie (fun _=>False) w' v8' (.i (j:Int)) (.int .i64))(hd:a'.defers=[])(hz:a'.tmps.size=194):ShI S0 w0 k a t B j v0 v1 v5 v7 v8' a' w':=by
 have hw:But Nil w w':=hb.but;refine⟨h.but.trans hw fun b hb' hlt=>hb'.elim,fun b cs T f hb' hc=>?_,h.lo,uC h.hi hw.size,h0,h1,h5,h7,h8,h.d0.flat rfl,h.d1.flat rfl,h.d5.kept hw fun b hb' _ hs=>hs.elim,h.d7.kept hw fun b hb' _ hs=>hs.elim,d8,hd,hz⟩;by_cases hlt:b<w.heap.size
 ·rw[hw.block b hlt fun h=>h.elim] at hc;exact h.uf b cs T f hb' hc
 ·exact hb.uf b cs T f (.inr (by omega)) hc
theorem ShI.up(h:ShI S0 w0 k a t B i v0 v1 v5 v7 v8 ac w):ShI S0 w0 k a t w.heap.size i v0 v1 v5 v7 v8 ac w:=⟨h.but,h.uf,h.but.size,uE _,h.t0,h.t1,h.t5,h.t7,h.t8,h.d0,h.d1,h.d5.mono fun b _ h=>h,h.d7.mono fun b _ h=>h,h.d8,h.hd,h.hz⟩
def bkO(N:Nat):Bk:=⟨fun b=>N≤b,fun b=>b<N,fun b h h'=>by omega,false⟩
def bkW(P:Nat→Prop)(N:Nat):Bk:=⟨fun b=>P b∨N≤b,fun _=>False,fun _ h=>h.elim,true⟩
def bkR:Bk:=⟨fun _=>True,fun _=>False,fun _ h=>h.elim,false⟩
theorem qro(w:World):Bs (bkO w.heap.size) .no w Nil noP w:=Bs.anew (A:=bkO 0) (F:=.no) (w0:=w) (S0:=Nil) (p:=noP) (fun b h=>h) (fun h=>by cases h) fun b cs T f hb=>hb.elim
theorem qlm(w:World):Bs bkR .no w Nil noP w:=Bs.anew (A:=bkO 0) (F:=.no) (w0:=w) (S0:=Nil) (p:=noP) (fun b h=>trivial) (fun h=>by cases h) fun b cs T f hb=>hb.elim
theorem qqe{P:Nat→Prop}(h:Unf P w):Bs (bkW P w.heap.size) .no w P noP w:=Bs.anew (A:=bkO 0) (F:=.no) (w0:=w) (S0:=Nil) (p:=noP) (fun b h=>.inr h) (fun _ b h=>h) h
theorem qsu(hB:okB k a t)(hi:i<5){Q:Exit→Act→World→Prop}(h:ShI S0 w0 k a t B i v0 v1 v5 v7 v8 ac w)
  (hk:∀v8' a' w',ShI S0 w0 k a t B (i+1) v0 v1 v5 v7 v8' a' w'→Q .normal a' w'):(Code.seq (.block 1 shB) (sqR (sqR q7m))).wpIn (FR none) 0 uA Q ac w:=by
 have hBO:=hB;obtain⟨hkk,haa,hv⟩:=hB;refine wpIn_seq (wpIn_block ?_);rw[qx6];refine q7i _ ?_;generalize hQ5:Exit.inBlock 1 (Exit.then (fun a w=>(sqR (sqR q7m)).wpIn (FR none) 0 uA Q a w) Q)=Q5
 -- the makers
 refine q3s qsz _ ?_
 refine q4f (c:=cxS (bkO w.heap.size) ac) (z:=194) (w0:=w) (S0:=Nil) (p:=noP) (σ:=qvk) (d:=[]) none 0 qv2 (q76 fun e=>by cases e) rfl qsz (n:=4) (l:=[.s k,.s a,eT t,.i (i:Int)]) (ts:=qy2) (ms:=qxt) (kill:=[]) (σk:=qsp) (ann:=q1t)
  (R:=fun o=>o=[.s (fcB i),.r ((nsB k a i).map .s),eT (q1a (fcB i) (nsB k a i) t)]) (B:=fun _ _=>False) ?_ rfl (qro w) ?_ h.hd h.hz fun st p2 w2 a2 hR hst hb2 hf2 hd2 hz2=>?_
 ·show(q3y uA qsx q1t 3 194 qsz 4 qvk (toN qy2 qxt [] qsp)).go _ _ _ _
  rw[qv8];exact goA hBO hi
 ·refine qeu fun q x hx=>?_;simp only[gnM] at hx;rcases hx with⟨rfl,rfl⟩|⟨rfl,rfl⟩|⟨rfl,rfl⟩|⟨rfl,rfl⟩|⟨rfl,rfl⟩
  ·exact zy h.t0 (Lie.fv rfl h.d0)
  ·exact zy h.t1 (Lie.fv rfl h.d1)
  ·exact zy h.t5 (Dat.rd h.d5 fun b _ hlt=>.inr (.inr ⟨by simp,hlt⟩))
  ·exact zy h.t7 trivial
  ·exact zy h.t8 (Lie.fv rfl h.d8)
 subst hR;have h2:=h.step hb2 (fun b hb'=>hb'.elim) (qu hf2 (by rfl) h.t0) (qu hf2 (by rfl) h.t1) (qu hf2 (by rfl) h.t5) (qu hf2 (by rfl) h.t7) (qu hf2 (by rfl) h.t8) hd2 hz2;obtain⟨v9,t9,d9⟩:=hf2.lie hb2 rfl (t0:=9) (t:=.str) (x:=.tok 4) (dep:=[]) (by simp) (by rfl);obtain⟨v11,t11,d11⟩:=hf2.lie hb2 rfl (t0:=11) (t:=ql8) (x:=.tok 5) (dep:=[945,977,1009,1057]) (by decide) (by rfl);obtain⟨v10,t10,d10⟩:=hf2.dat hb2 rfl (k:=10) (t0:=10) (t:=zk) (x:=.tok 6) (path:=[]) (by rfl) (by rfl) (by decide)
 replace d9:Lie (fun b=>w.heap.size≤b) w2 v9 (.s (fcB i)) .str:=d9
 replace d11:Lie (fun b=>w.heap.size≤b) w2 v11 (.r ((nsB k a i).map .s)) ql8:=d11
 replace d10:Dat (fun b=>w.heap.size≤b) w2 v10 (eT (q1a (fcB i) (nsB k a i) t)) zk:=d10
 obtain⟨nl,nn⟩:=qyj hkk haa i;have hc:=qyu i;generalize fcB i=c at hc d9 d10;generalize nsB k a i=ns at nl nn d10 d11;have hs2:=hb2.but.size;clear hf2 hb2
 -- what was made is looked at
 refine q3s qps _ ?_
 refine q4f (c:=cxS (bkO w2.heap.size) a2) (z:=194) (w0:=w2) (S0:=Nil) (p:=noP) (σ:=qxk) (d:=[]) none 0 qvp (q76 fun e=>by cases e) rfl qps (n:=4) (l:=[.s c,.r (ns.map .s),eT (q1a c ns t),eT t]) (ts:=[]) (ms:=qxc) (kill:=[]) (σk:=qqs) (ann:=q1t)
  (R:=fun o=>o=[eT (q2i ns.length t)]) (B:=fun _ _=>False) ?_ rfl (qro w2) ?_ h2.hd h2.hz fun st p3 w3 a3 hR hst hb3 hf3 hd3 hz3=>?_
 ·show(q3y uA qqn q1t 3 194 qps 4 qxk (toN [] qxc [] qqs)).go _ _ _ _
  rw[qvm];exact goB hc nl nn hv
 ·refine qeu fun q x hx=>?_;simp only[gnM] at hx;rcases hx with⟨rfl,rfl⟩|⟨rfl,rfl⟩|⟨rfl,rfl⟩|⟨rfl,rfl⟩|⟨rfl,rfl⟩|⟨rfl,rfl⟩|⟨rfl,rfl⟩|⟨rfl,rfl⟩
  ·exact zy h2.t0 trivial
  ·exact zy h2.t1 trivial
  ·exact zy h2.t5 (Dat.rd h2.d5 fun b _ hlt=>.inr (.inr ⟨by simp,hlt⟩))
  ·exact zy h2.t7 trivial
  ·exact zy h2.t8 trivial
  ·exact⟨v9,t9,Lie.fv rfl d9⟩
  ·exact zy t10 (Dat.rd d10 fun b _ hlt=>.inr (.inr ⟨by simp,hlt⟩))
  ·exact zy t11 (Lie.v d11 fun b _ hlt=>.inr (.inr ⟨by simp,hlt⟩))
 subst hR;have h3:=h2.step hb3 (fun b hb'=>hb'.elim) (qu hf3 (by rfl) h2.t0) (qu hf3 (by rfl) h2.t1) (qu hf3 (by rfl) h2.t5) (qu hf3 (by rfl) h2.t7) (qu hf3 (by rfl) h2.t8) hd3 hz3;have t10':=qu hf3 (by rfl) t10;have t11':=qu hf3 (by rfl) t11;obtain⟨v15,t15,d15⟩:=hf3.dat hb3 rfl (k:=15) (t0:=15) (t:=zk) (x:=.tok 4) (path:=[]) (by rfl) (by rfl) (by decide)
 replace d15:Dat (fun b=>w2.heap.size≤b) w3 v15 (eT (q2i ns.length t)) zk:=d15
 replace d10:=(d10.mono (P':=fun b=>w.heap.size≤b∧b<w2.heap.size) fun b h h'=>⟨h,h'⟩).kept hb3.but fun b _ _ h=>h.elim
 replace d11:Lie (fun b=>w.heap.size≤b∧b<w2.heap.size) w3 v11 (.r (ns.map .s)) ql8:=Lie.kept (P:=fun b=>w.heap.size≤b∧b<w2.heap.size) (let ⟨cs,h1,h2⟩:=d11;⟨cs,h1,h2.mono fun b _ h=>⟨⟨h.1,h.2⟩,h.2⟩⟩) hb3.but fun b _ _ h=>h.elim
 have hs3:=hb3.but.size;clear hf3 hb3
 -- the store into what was made
 have hBw:B≤w.heap.size:=h.hi;have hw0:w0.heap.size≤B:=h.lo;refine q3s qte _ ?_
 refine q4f (c:=cxS (bkW (fun b=>w.heap.size≤b∧b<w2.heap.size) w3.heap.size) a3) (z:=194) (w0:=w3) (S0:=fun b=>w.heap.size≤b∧b<w2.heap.size) (p:=noP) (σ:=qyr) (d:=[]) none 0 qum (q76 fun e=>rfl) rfl qte (n:=2) (l:=[eT (q1a c ns t),.r (ns.map .s)]) (ts:=[]) (ms:=[]) (kill:=[]) (σk:=qqp) (ann:=q1t)
  (R:=fun o=>o=[]) (B:=fun _ _=>False) ?_ rfl (qqe fun b cs T f hb' hc'=>h3.uf b cs T f (.inr (by omega)) hc') ?_ h3.hd h3.hz fun st p4 w4 a4 hR hst hb4 hf4 hd4 hz4=>?_
 ·show(q3y uA qrs q1t 3 194 qte 2 qyr (toN [] [] [] qqp)).go _ _ _ _
  rw[quv];exact goC hc nl
 ·refine qeu fun q x hx=>?_;simp only[gnM] at hx;rcases hx with⟨rfl,rfl⟩|⟨rfl,rfl⟩|⟨rfl,rfl⟩|⟨rfl,rfl⟩|⟨rfl,rfl⟩|⟨rfl,rfl⟩|⟨rfl,rfl⟩|⟨rfl,rfl⟩
  ·exact zy h3.t0 trivial
  ·exact zy h3.t1 trivial
  ·exact zy h3.t5 trivial
  ·exact zy h3.t7 trivial
  ·exact zy h3.t8 trivial
  ·exact⟨v10,t10',Dat.rd d10 fun b h _=>.inl ⟨.inl h,q53⟩⟩
  ·exact⟨v11,t11',Lie.v d11 fun b h _=>.inl ⟨.inl h,q53⟩⟩
  ·exact zy t15 trivial
 subst hR;have h4:=h3.step hb4 (fun b hb'=>uC hBw hb'.1) (qu hf4 (by rfl) h3.t0) (qu hf4 (by rfl) h3.t1) (qu hf4 (by rfl) h3.t5) (qu hf4 (by rfl) h3.t7) (qu hf4 (by rfl) h3.t8) hd4 hz4;have t15':=qu hf4 (by rfl) t15
 replace d15:=(d15.mono (P':=fun b=>w2.heap.size≤b∧b<w3.heap.size) fun b h h'=>⟨h,h'⟩).kept hb4.but fun b h _ h'=>by omega
 have hs4:=hb4.but.size;clear hf4 hb4 d10 d11
 -- the store into the last argument
 refine q3s qra _ ?_
 refine q4f (c:=cxS (bkW (fun b=>w2.heap.size≤b∧b<w3.heap.size) w4.heap.size) a4) (z:=194) (w0:=w4) (S0:=fun b=>w2.heap.size≤b∧b<w3.heap.size) (p:=noP) (σ:=qyi) (d:=[]) none 0 qtx (q76 fun e=>rfl) rfl qra (n:=1) (l:=[eT (q2i ns.length t)]) (ts:=[]) (ms:=[]) (kill:=[]) (σk:=qss) (ann:=q1t)
  (R:=fun o=>o=[]) (B:=fun _ _=>False) ?_ rfl (qqe fun b cs T f hb' hc'=>h4.uf b cs T f (.inr (by omega)) hc') ?_ h4.hd h4.hz fun st p5 w5 a5 hR hst hb5 hf5 hd5 hz5=>?_
 ·show(q3y uA qs7 q1t 3 194 qra 1 qyi (toN [] [] [] qss)).go _ _ _ _
  rw[qtn];exact goD _
 ·refine qeu fun q x hx=>?_;simp only[gnM] at hx;rcases hx with⟨rfl,rfl⟩|⟨rfl,rfl⟩|⟨rfl,rfl⟩|⟨rfl,rfl⟩|⟨rfl,rfl⟩|⟨rfl,rfl⟩
  ·exact zy h4.t0 trivial
  ·exact zy h4.t1 trivial
  ·exact zy h4.t5 trivial
  ·exact zy h4.t7 trivial
  ·exact zy h4.t8 trivial
  ·exact⟨v15,t15',Dat.rd d15 fun b h _=>.inl ⟨.inl h,q53⟩⟩
 subst hR;have h5:=h4.step hb5 (fun b hb'=>by omega) (qu hf5 (by rfl) h4.t0) (qu hf5 (by rfl) h4.t1) (qu hf5 (by rfl) h4.t5) (qu hf5 (by rfl) h4.t7) (qu hf5 (by rfl) h4.t8) hd5 hz5;clear hf5 hb5 d15
 -- the culprit is as it was
 have last:q22 (FR none) 0 uA Q5 (ql5++[qgn]) (fun a w=>(sqR (sqR q7m)).wpIn (FR none) 0 uA Q a w) a5 w5:=by
  refine q4f (c:=cxS bkR a5) (z:=194) (w0:=w5) (S0:=Nil) (p:=noP) (σ:=qp4) (d:=[]) none 0 quh (q76 fun e=>by cases e) rfl (ql5++[qgn]) (n:=2) (l:=[eT t,eT t]) (ts:=[]) (ms:=[]) (kill:=[]) (σk:=qp4) (ann:=q1t)
   (R:=fun o=>o=[]) (B:=fun _ _=>False) ?_ rfl (qlm w5) ?_ h5.hd h5.hz fun st p6 w6 a6 hR hst hb6 hf6 hd6 hz6=>?_
  ·show(q3y uA qr9 q1t 3 194 (ql5++[qgn]) 2 qp4 (toN [] [] [] qp4)).go _ _ _ _
   rw[qvo];exact goE hv
  ·refine qeu fun q x hx=>?_;simp only[gnM] at hx;rcases hx with⟨rfl,rfl⟩|⟨rfl,rfl⟩|⟨rfl,rfl⟩|⟨rfl,rfl⟩|⟨rfl,rfl⟩
   ·exact zy h5.t0 trivial
   ·exact zy h5.t1 trivial
   ·exact zy h5.t5 (Dat.rd h5.d5 fun b _ hlt=>.inl ⟨trivial,q53⟩)
   ·exact zy h5.t7 (Dat.rd h5.d7 fun b _ hlt=>.inl ⟨trivial,q53⟩)
   ·exact zy h5.t8 trivial
  subst hR;have h6:=h5.step hb6 (fun b hb'=>hb'.elim) (qu hf6 (by rfl) h5.t0) (qu hf6 (by rfl) h5.t1) (qu hf6 (by rfl) h5.t5) (qu hf6 (by rfl) h5.t7) (qu hf6 (by rfl) h5.t8) hd6 hz6;clear hf6 hb6
  -- the next round
  have nx:q22 (FR none) 0 uA Q shF (fun a w=>Q .normal a w) a6 w6:=by
   refine q4f (c:=cxS bkR a6) (z:=194) (w0:=w6) (S0:=Nil) (p:=noP) (σ:=qi6) (d:=[]) none 0 .nil (q76 fun e=>by cases e) rfl shF (n:=1) (l:=[.i (i:Int)]) (ts:=[(8,.int .i64,[],[])]) (ms:=[]) (kill:=[]) (σk:=⟨[snN 0,snN 1,snN 5,snN 7],[]⟩) (ann:=q1t)
    (R:=fun o=>o=[.i ((i+1:Nat):Int)]) (B:=fun _ _=>False) ?_ rfl (qlm w6) ?_ h6.hd h6.hz fun st p7 w7 a7 hR hst hb7 hf7 hd7 hz7=>?_
   ·show(q3y uA [] q1t 3 194 shF 1 qi6 (toN [(8,.int .i64,[],[])] [] [] ⟨[snN 0,snN 1,snN 5,snN 7],[]⟩)).go _ _ _ _
    rw[quy];exact goF hi
   ·refine qeu fun q x hx=>?_;simp only[gnM] at hx;rcases hx with⟨rfl,rfl⟩|⟨rfl,rfl⟩|⟨rfl,rfl⟩|⟨rfl,rfl⟩|⟨rfl,rfl⟩
    ·exact zy h6.t0 trivial
    ·exact zy h6.t1 trivial
    ·exact zy h6.t5 trivial
    ·exact zy h6.t7 trivial
    ·exact zy h6.t8 (Lie.fv rfl h6.d8)
   subst hR;obtain⟨v8',t8',d8'⟩:=hf7.lie hb7 rfl (t0:=8) (t:=.int .i64) (x:=.tok 1) (dep:=[]) (by simp) (by rfl)
   replace d8':Lie _ w7 v8' (.i ((i+1:Nat):Int)) (.int .i64):=d8'
   exact hk v8' a7 w7 (h6.step8 hb7 (qu hf7 (by rfl) h6.t0) (qu hf7 (by rfl) h6.t1) (qu hf7 (by rfl) h6.t5) (qu hf7 (by rfl) h6.t7) t8' (d8'.flat rfl) hd7 hz7)
  refine wpIn_mono nx fun e a w hq=>?_;cases e with
  |normal=>exact hq
  |_=>exact hq
 refine q7k (fun e a w hne hq=>hq) ql5 (fun a w hq=>?_) (q9y ql5 [qgn] last);refine wpIn_mono hq fun e a w hq=>?_;cases e with
 |normal=>
  rw[←hQ5];exact hq
 |_=>exact hq
theorem qg1{S0:Nat→Prop}{w0:World}{k a:ByteArray}{t:Te}(hB:okB k a t){v0 v1 v5 v7:Value}{Q:Exit→Act→World→Prop}(hq:∀B v8 ac w,ShI S0 w0 k a t B 5 v0 v1 v5 v7 v8 ac w→Q (.exit 0) ac w):
  ∀(m B i:Nat)(v8:Value)(ac:Act)(w:World),6≤m+i→i≤5→ShI S0 w0 k a t B i v0 v1 v5 v7 v8 ac w→Code.roundsIn (FR none) 0 uA q7m Q m ac w
 |0,B,i,v8,ac,w,h1,h2,h=>by omega
 | m + 1, B, i, v8, ac, w, hm, hi, h => by
  rw[roundsIn_succ];rw[qvs];refine wpIn_seq ?_;have hd:q22 (FR none) 0 uA (Exit.then (Code.roundsIn (FR none) 0 uA q7m Q m) Q) shH (fun a w=>(Code.seq (.block 1 shB) (sqR (sqR q7m))).wpIn (FR none) 0 uA (Exit.then (Code.roundsIn (FR none) 0 uA q7m Q m) Q) a w) ac w:=by
   refine q52 (c:=cxS bkR ac) (z:=194) (w0:=w) (S0:=Nil) (p:=noP) (σ:=qi6) (d:=[]) none 0 .nil (q76 fun e=>by cases e) rfl shH (n:=1) (k:=qxa) (l:=[.i (i:Int)]) (ann:=q1t)
    (R:=fun o=>o=[]) (B:=fun _ _=>False) ?_ rfl (qlm w) ?_ h.hd h.hz fun n' r σ' l' B' p' w' a' hl' hpre hgo hb' hf' hd' hz'=>?_
   ·show(q3y uA [] q1t 3 194 shH 1 qi6 qxa).go _ _ _ _
    rw[qtj];exact goH
   ·refine qeu fun q x hx=>?_;simp only[gnM] at hx;rcases hx with⟨rfl,rfl⟩|⟨rfl,rfl⟩|⟨rfl,rfl⟩|⟨rfl,rfl⟩|⟨rfl,rfl⟩
    ·exact zy h.t0 trivial
    ·exact zy h.t1 trivial
    ·exact zy h.t5 trivial
    ·exact zy h.t7 trivial
    ·exact zy h.t8 (Lie.fv rfl h.d8)
   have tk:l'.getD 0 .u=.i (i:Int):=by
    have:(l'.take 1).getD 0 .u=.i (i:Int):=by rw[hpre];rfl
    cases l' with
    |nil=>cases hpre
    |cons d r=>exact this
   have out:(ql9 [] [] [] qi6 n' .normal σ').go (qx []) (fun o=>o=[]) l' B'→ShI S0 w0 k a t w'.heap.size i v0 v1 v5 v7 v8 a' w':=fun hgo=>by
    obtain⟨st,p2,hR,hst,hb2,hf2⟩:=qma (c:=cxS bkR ac) (n':=n') hgo hpre rfl hb' hf';subst hR;exact(h.step hb2 (fun b hb'=>hb'.elim) (qu hf2 (by rfl) h.t0) (qu hf2 (by rfl) h.t1) (qu hf2 (by rfl) h.t5) (qu hf2 (by rfl) h.t7) (qu hf2 (by rfl) h.t8) hd' hz').up
   cases r with
   |ret=>exact hgo.elim
   |normal=>
    obtain⟨⟨hN,-⟩,hgo⟩:=hgo;have hN:(D.b (decide ((l'.getD 0 .u).int<5))).tt=true:=hN;rw[tk,qoz,gnD] at hN;have hN:(i:Int)<5:=hN;exact qsu hB (by omega) (out hgo) fun v8' a' w' h3=>qg1 hB hq m _ (i+1) v8' a' w' (by omega) (by omega) h3
   | exit j =>
    cases j with
    |succ j=>exact hgo.elim
    |zero=>
     obtain⟨⟨hN,-⟩,hgo⟩:=hgo;have hN:(D.b (!(D.b (decide ((l'.getD 0 .u).int<5))).tt)).tt=true:=hN;rw[tk,qoz,qoz,Bool.not_eq_true',decide_eq_false_iff_not] at hN;have hN:¬(i:Int)<5:=hN;obtain rfl:i=5:=by omega
     exact hq _ _ _ _ (out hgo)
  refine wpIn_mono hd fun e a w hq=>?_;cases e with
  |normal=>exact hq
  |_=>exact hq
end
theorem qek:FOk z8 fun _=>some [.b true]:=by
 refine qr7 (tbl:=qa5) uK shC rfl qy1 (by rw[qqf];decide) q48 fun ds outs hwf hg c p w a Q hlo hfz hAk hdl hb hf hd hz hfin=>?_;obtain⟨dk,r,rfl,hwk,da,r',rfl,hwa,dt,r2,rfl,hwt,rfl⟩:=hwf;obtain⟨k,rfl,hsk⟩:=hwk.str;obtain⟨an,rfl,hsa⟩:=hwa.str;obtain⟨t,rfl,hot⟩:=wfT hwt;simp only[Option.some.injEq] at hg;subst hg;have hlo:c.lo=3:=hlo;have hz:a.tmps.size=194:=hz.trans qqf;have hfm:(∀te,c.F.mx te≤flM qa5 te)∧(spB qa5=true→c.A.k=true):=⟨fun te=>by rw[hfz];exact uJ _,fun e=>by cases e⟩;have main:∀{K:Act→World→Prop},(∀a w,K a w→(Code.block 0 (.loop q7m)).wpIn (FR none) 0 uA (Exit.then (fun a w=>shZ.wpIn (FR none) 0 uA Q a w) Q) a w)→q22 (FR none) 0 uA Q qt5 K a w→shC.wpIn (FR none) 0 uA Q a w:=fun{K}hK h=>by
  rw[qyb];refine q7i _ (q7k (fun e a w _ h=>h) _ (fun a w h=>?_) (q9y [sqL shC,sqL (sqR shC),sqL (sqR (sqR shC))] [sqL (sqL (sqR (sqR (sqR shC))))] h));refine wpIn_seq (wpIn_seq (wpIn_mono h fun e a w hq=>?_));cases e with
  |normal=>exact hK _ _ hq
  |_=>exact hq
 by_cases hB:okB k an t
 ·refine main (K:=fun a' w'=>∃B v0 v1 v5 v7 v8,ShI (pinned p) w k an t B 0 v0 v1 v5 v7 v8 a' w') (fun a' w'⟨B,v0,v1,v5,v7,v8,h⟩=>?_) ?_
  ·refine wpIn_block (wpIn_loop_rounds 6 (qg1 hB (fun B v8 ac w2 h2=>?_) 6 B 0 v8 a' w' (by omega) (by omega) h))
   show shZ.wpIn (FR none) 0 uA Q ac w2
   have hbz:Bs c.A c.F w (pinned p) noP w2:=⟨fun x y b h=>(by cases h),fun x b h=>(by cases h),h2.but,fun x b h=>(by cases h),hb.new,fun x b h=>(by cases h),fun x b h=>(by cases h),Flo.of0 hfz hb.flo,hb.sp,h2.uf⟩;have hend:q22 (FR none) 0 uA Q [shZ] (fun a w=>Q .normal a w) ac w2:=by
    refine q52 (c:=c) (z:=194) (w0:=w) (S0:=pinned p) (p:=noP) (σ:=⟨[],[]⟩) (d:=[]) none 0 qh2 hfm rfl [shZ] (n:=0) (k:=z07) (l:=[]) (ann:=q1t)
     (R:=fun o=>o=[.b true]) (B:=fun _ _=>False) ?_ rfl hbz ⟨fun t x hx=>(by cases hx),fun k e he=>(by cases he)⟩ h2.hd h2.hz fun n' r σ' l' B' p' w' a' hl' hpre hgo hb' hf' hd' hz'=>?_
    ·rw[hlo];rw[qu5];exact goZ
    ·have hx:=hfin n' r σ' l' B' p' w' a' hl' hgo hb' hf' hd' (hz'.trans qqf.symm);cases r with
     |normal=>exact hx
     |ret=>exact hx
     |exit j=>exact hx
   refine wpIn_mono hend fun e a w hq=>?_;cases e with
   |normal=>exact hq
   |_=>exact hq
  ·refine q4f (c:=c) (z:=194) (w0:=w) (S0:=pinned p) (p:=p) (σ:=qkn z8) (d:=[]) none 0 qh2 hfm rfl qt5 (n:=3) (l:=[.s k,.s an,eT t]) (ts:=[(8,.int .i64,[],[])]) (ms:=qzu) (kill:=[]) (σk:=qzx) (ann:=q1t)
    (R:=fun o=>o=[.i 0,eT t,eT t]) (B:=fun _ _=>False) ?_ rfl hb hf hd hz fun st p1 w1 a1 hR hst hb1 hf1 hd1 hz1=>?_
   ·rw[hlo];rw[qvl];exact go1 hB
   subst hR;obtain⟨v0,t0,d0⟩:=hf1.lie hb1 rfl (t0:=0) (t:=.str) (x:=.tok 0) (dep:=[]) (by simp) (by rfl);obtain⟨v1,t1,d1⟩:=hf1.lie hb1 rfl (t0:=1) (t:=.str) (x:=.tok 1) (dep:=[]) (by simp) (by rfl);obtain⟨v8,t8,d8⟩:=hf1.lie hb1 rfl (t0:=8) (t:=.int .i64) (x:=.tok 3) (dep:=[]) (by simp) (by rfl);obtain⟨v5,t5,d5⟩:=hf1.dat hb1 rfl (k:=5) (t0:=5) (t:=zk) (x:=.tok 4) (path:=[]) (by rfl) (by rfl) (by decide);obtain⟨v7,t7,d7⟩:=hf1.dat hb1 rfl (k:=7) (t0:=7) (t:=zk) (x:=.tok 5) (path:=[]) (by rfl) (by rfl) (by decide)
   replace d0:Lie _ w1 v0 (.s k) .str:=d0
   replace d1:Lie _ w1 v1 (.s an) .str:=d1
   replace d8:Lie _ w1 v8 (.i ((0:Nat):Int)) (.int .i64):=d8
   replace d5:Dat _ w1 v5 (eT t) zk:=d5
   replace d7:Dat _ w1 v7 (eT t) zk:=d7
   exact⟨w1.heap.size,v0,v1,v5,v7,v8,hb1.but,hb1.uf,hb1.but.size,uE _,t0,t1,t5,t7,t8,d0.flat rfl,d1.flat rfl,d5.mono fun b _ h=>h,d7.mono fun b _ h=>h,d8.flat rfl,hd1,hz1⟩
 ·refine main (K:=fun _ _=>False) (fun a w h=>h.elim) ?_
  refine q52 (c:=c) (z:=194) (w0:=w) (S0:=pinned p) (p:=p) (σ:=qkn z8) (d:=[]) none 0 qh2 hfm rfl qt5 (n:=3) (k:=qzb) (l:=[.s k,.s an,eT t]) (ann:=q1t)
   (R:=fun o=>o=[.b true]) (B:=fun _ _=>False) ?_ rfl hb hf hd hz fun n' r σ' l' B' p' w' a' hl' hpre hgo hb' hf' hd' hz'=>?_
  ·rw[hlo];rw[qtq];exact go0 hB
  ·cases r with
   |normal=>exact hgo.elim
   |ret=>exact hfin n' .ret σ' l' B' p' w' a' hl' hgo hb' hf' hd' (hz'.trans qqf.symm)
   |exit j=>exact hfin n' (.exit j) σ' l' B' p' w' a' hl' hgo hb' hf' hd' (hz'.trans qqf.symm)
end
section
open Go.ChangeShapes Go.WideShapes Go.ChangeAt Go.RowKit
theorem qox:ownKnob uA.godebug=none:=by kernel_rfl
theorem q8v:laidOutB uA=true:=by kernel_rfl
section
variable{H:Type}{enc:TypeId×Value→H}{W:World}{base:Nat}{spare:Nat→Bool}{held:Bool}
def q4h(t:TypeId)(d:DataW H):Prop:=∀n∈d.weights uA t,n≤reachBytes
theorem q4k{e:TypeId}:∀{l:List (DataW H)}{d:DataW H},d∈l→∀n∈d.weights uA e,n∈DataW.weightsAll uA e l
 |[],_,h,_,_=>by cases h
 |x::l,d,h,n,hn=>by
  simp only[DataW.weightsAll,uG];rcases uI.1 h with rfl|h
  ·exact .inl hn
  ·exact .inr (q4k h n hn)
theorem q4h.each{ts:List TypeId}{l:List (DataW H)}{k:Nat}{t:TypeId}{d:DataW H}(h:∀n∈DataW.weightsEach uA ts l,n≤reachBytes)(ht:ts[k]? =some t)(hd:l[k]? =some d):q4h t d:=fun n hn=>
 h n (DataW.weights_mem_each ht hd n hn)
theorem qgf:reachBytes=LIM:=rfl
theorem qhj{T:TypeId}{t:Ty}(h:qc T=some t):uA.cellsOf T=t.w:=by
 obtain⟨i,hi,h1,-⟩:=q02 h;simp[Program.cellsOf,hi,h1]
theorem qyo{k:IntKind}{t:TypeId}(ht:qc t=some (.int k)){n:Int}(h:(Lit.int k n).wf=true):yy k n=true:=by
 have h0:=(q07 ht).2.1;cases k<;>first|(simp[yy] at h0;done)|(simp[Lit.wf,IntKind.min,IntKind.max,IntKind.signed,IntKind.bits] at h;simp[yy];omega)
theorem ql6{a:Addr}{v:Value}(h:W.cell? a=some v):a.spot=none:=by
 unfold World.cell? at h;split at h
 ·split at h
  ·cases h
  ·rename_i hs;simpa using hs
 ·cases h
theorem qrv{F:Nat→Prop}{cs:List Value}:∀{fl:List Field}{fs:List Ty}{o:Nat},jr fl fs o=true→(∀(j:Nat)(f:Field)(t:Ty),fl[j]? =some f→fs[j]? =some t→∃y,Rd W F y t ((cs.drop f.offset).take t.w))→cs.length=o+widths fs→∃ds,RdF W F ds fs (cs.drop o)
 |[],[],o,_,_,hl=>by
  simp[widths] at hl;exact⟨[],rfl,by rw[List.drop_eq_nil_iff];omega⟩
 |f::l,t::ts,o,hb,hf,hl=>by
  simp only[jr,gnB] at hb;obtain⟨⟨⟨h1,-⟩,-⟩,h3⟩:=hb;have ho:=gnN h1;rw[q1x] at hl;obtain⟨ds,hds⟩:=qrv h3 (fun j f' t' hj ht=>hf (j+1) f' t' (by simpa using hj) (by simpa using ht)) (by omega);obtain⟨y,hy⟩:=hf 0 f t rfl rfl;refine⟨y::ds,t,ts,(cs.drop o).take t.w,cs.drop (o+t.w),rfl,?_,by rw[←ho];exact hy,hds⟩;rw[←List.drop_drop,List.take_append_drop]
 |[],_::_,o,hb,_,_=>by cases hb
 |_::_,[],o,hb,_,_=>by cases hb
theorem qos:∀(fuel:Nat){T:TypeId}{t:Ty}(cs:List Value)(x:DataW H×List MemPlace),qc T=some t→qkm t=false→DataW.trod enc uA W base spare held fuel T cs=some x→q4h T x.1→∃y,Rd W (fun _=>True) y t cs:=by
 intro fuel
 induction fuel with
 |zero=>intro T t cs x _ _ h;simp[DataW.trod] at h
 | succ fuel ih =>
  intro T t cs x hT hM h hL;cases t with
  |map K V=>cases hM
  |fnv=>cases hM
  |int k=>
   obtain⟨n,rfl,-,hw⟩:=DataW.trod_int (q07 hT).1 h;exact⟨.i n,.inl ⟨k,rfl,rfl,qyo hT hw⟩⟩
  |bool=>
   obtain⟨b,rfl,-⟩:=DataW.trod_bool (q0e hT).1 h;exact⟨.b b,rfl,rfl⟩
  |str=>
   obtain⟨s,rfl,rfl,-⟩:=DataW.trod_string (q04 hT).1 h;have:=hL s.data.toList.length (by simp[DataW.weights]);exact⟨.s s,rfl,rfl,by rw[qgf] at this;simpa using this⟩
  | st S =>
   obtain⟨fields,fs,zc,i,hu,hfs,hfb,hi,hsz,-,-,-,-⟩:=q0j hT;obtain⟨xs,n,hn,hx,hlen,hxl,hf⟩:=DataW.trod_struct hu h;obtain rfl:fuel=n:=by omega
   have hw:∀n∈DataW.weightsEach uA (fields.toList.map (·.type)) (xs.map (·.1)),n≤reachBytes:=fun n hn=>hL n (by rw[hx];simp only[DataW.weights,hu];exact hn);have hcl:cs.length=0+widths fs:=by rw[hlen,qhj hT,(qc2 hfs).1];omega
   obtain⟨ds,hds⟩:=qrv (W:=W) (F:=fun _=>True) hfb (fun j f t hj ht=>by
    obtain⟨f',hf',ho,hty,-⟩:=q1y hfb ht;obtain rfl:=gnI (hj.symm.trans hf');have h5:=hf j f (by rw[←Array.getElem?_toList];exact hj);have hjl:j<fields.toList.length:=(gnH.1 hj).1;have hjx:j<xs.length:=by rw[hxl];simpa using hjl
    rw[qhj hty,gnK hjx] at h5;refine ih _ _ hty (qtv hfs hM (List.mem_of_getElem? ht)) h5 (q4h.each (k:=j) hw ?_ ?_)
    ·rw[uB,hj];rfl
    ·rw[uB,gnK hjx];rfl) hcl
   exact⟨.a ds,S,fs,rfl,hfs,by simpa using hds⟩
  | row E =>
   obtain⟨hu,⟨te,hte⟩,-⟩:=yi hT;rcases DataW.trod_slice hu h with⟨rfl,hx⟩|⟨a,len,cap,elems,rest,n,hn,rfl,hx,hb,hl,hm,hlen,hel,-⟩
   ·exact⟨.r [],E,te,none,0,rfl,hte,rfl,by simp,by simp,by simp[maxLen],by simp[RdE]⟩
   ·obtain rfl:fuel=n:=by omega
    have hwd:=q0c hte;rw[qhj hte] at hel;have hw:=hL;rw[hx] at hw;simp only[q4h,DataW.weights,hu,uI,uG] at hw;have hlen2:len≤LM te:=by
     have:=hw _ (.inl rfl);rw[qgf] at this;have hbe:uA.bytesOf E=te.by:=by
      obtain⟨i,hi,-⟩:=q02 hte;simp[Program.bytesOf,hi,qa6 hte hi]
     refine(Nat.le_div_iff_mul_le (qsw hte).1).2 ?_;simp[hbe] at this;have h2:len * te.by≤(elems.length+rest.length) * te.by:=Nat.mul_le_mul_right _ (by omega);exact uC h2 this
    have spot:0<len→a.spot=none:=fun h0=>by
     have h2:=hel 0 h0;rw[gnK (by omega)] at h2;cases hc0:W.cells? base (a.add (0 * te.w)) te.w with
     |none=>rw[hc0] at h2;cases h2
     |some cs0=>
      obtain⟨_,hcl0,hat0⟩:=World.cells?_some hc0;have hp:0<cs0.length:=by omega
      have:=hat0 0 (by omega);rw[gnK hp] at this;exact ql6 (a:=a) (v:=cs0[0]) (by simpa[Addr.add] using this)
    have each:∀i,i<len→∃y,qxj W (fun _=>True) y te (some a) i:=fun i hi=>by
     have h1:=hel i hi;rw[gnK (by omega)] at h1;cases hc:W.cells? base (a.add (i * te.w)) te.w with
     |none=>rw[hc] at h1;cases h1
     | some cs' =>
      rw[hc] at h1;obtain⟨_,hcl,hat⟩:=World.cells?_some hc;obtain⟨y,hy⟩:=ih cs' _ hte (qtk hT hte) h1 (fun n hn=>hw n (.inr (.inl (q4k (List.mem_map.2 ⟨_,List.getElem_mem (by omega),rfl⟩) n hn))));have hsp:=spot (by omega);obtain⟨b,o,sp⟩:=a;obtain rfl:sp=none:=hsp;have add:∀k,(Addr.add ⟨b,o,none⟩ (i * te.w)).add k=⟨b,o+i * te.w+k,none⟩:=fun k=>by
       unfold Addr.add;split<;>split<;>simp<;>omega
      refine⟨y,b,o,cs',rfl,trivial,fun j v hj=>?_,hy⟩;have hj':=(gnH.1 hj).1;have:=hat j (by omega);rw[add,hj] at this;exact this
    have pick:∀n,n≤len→∃l:List D,l.length=n∧∀i(h:i<l.length),qxj W (fun _=>True) l[i] te (some a) i:=by
     intro n
     induction n with
     |zero=>exact fun _=>⟨[],rfl,fun i hi=>by simp at hi⟩
     | succ n ihn =>
      intro hn;obtain⟨l,hl1,hl2⟩:=ihn (by omega);obtain⟨t,ht⟩:=each n (by omega);refine⟨l++[t],by simp[hl1],fun i hi=>?_⟩;by_cases hin:i<l.length
      ·rw[List.getElem_append_left hin];exact hl2 i hin
      ·obtain rfl:i=l.length:=by simp at hi;omega
       rw[List.getElem_append_right (by omega)];simp[hl1];exact ht
    obtain⟨l,hl1,hl2⟩:=pick len (uE _);exact⟨.r l,E,te,some a,cap,rfl,hte,by rw[hl1],by omega,by omega,hm,jg.2 fun j hj=>by rw[Nat.zero_add];exact hl2 j hj⟩
theorem qm4{T:TypeId}{t:Ty}(hT:qc T=some t)(hM:qkm t=false){v:Value}{d:DataW H}{p:List MemPlace}{b0:Nat}{r:Reach}(hv:Value.okWide uA W r b0 T v)(h:DataW.Trod enc uA W base spare held T v d p)(hL:q4h T d):
  ∃x cs,z4 t cs v∧Rd W (fun b=>b<W.heap.size) x t cs:=by
 obtain⟨fuel,hf⟩:=h;obtain⟨y,hy⟩:=qos fuel _ _ hT hM hf hL;refine⟨y,v.cells.toList,?_,Rd.keeps (fun b o _ ho=>⟨ho,zd ho⟩) _ hy⟩;cases t with
 |int k=>obtain⟨n,rfl⟩:=okWide_int (q07 hT).1 hv;rfl
 |bool=>obtain⟨n,rfl⟩:=okWide_bool (q0e hT).1 hv;rfl
 |str=>obtain⟨n,rfl⟩:=okWide_string (q04 hT).1 hv;rfl
 |map K V=>cases hM
 |fnv=>cases hM
 |row E=>obtain⟨A,l,c,rfl⟩:=okWide_slice (yi hT).1 hv;rfl
 |st S=>
  obtain⟨fields,fs,zc,i,hu,-⟩:=q0j hT;obtain⟨cs,rfl,-⟩:=okWide_struct hu hv;simp[z4,Value.cells]
end
def qg2(W:World):List Ar→List Value→List D→Prop
 |[],vs,ds=>vs=[]∧ds=[]
 |.val t::l,vs,ds=>∃v r d ds',vs=v::r∧ds=d::ds'∧(∃cs,z4 t cs v∧Rd W (FFD (Bk.all fun _=>True) (fun _=>none) []) d t cs)∧qg2 W l r ds'
 |_::_,_,_=>False
theorem qg2.ok{W:World}{V:List Value}:∀{i:Nat}{ar:List Ar}{vs:List Value}{ds:List D},qg2 W ar vs ds→z0 V (Bk.all fun _=>True) (fun _=>none) W (idx i ar) vs ds∧vs.length=ar.length
 |_,[],vs,ds,h=>⟨h,by rw[h.1];rfl⟩
 |i,.val t::l,vs,ds,⟨v,r,d,ds',e1,e2,h1,h⟩=>by
  obtain⟨h2,h3⟩:=qg2.ok (V:=V) (i:=i+1) h;exact⟨⟨v,r,d,ds',e1,e2,h1,h2⟩,by rw[e1];simp[h3]⟩
 |_,.ref _ _::_,_,_,h=>h.elim
 |_,.rref _::_,_,_,h=>h.elim
 |_,.own _::_,_,_,h=>h.elim
 |_,.mref _::_,_,_,h=>h.elim
 |_,.nils::_,_,_,h=>h.elim
 |_,.nilp::_,_,_,h=>h.elim
 |_,.cst _ _::_,_,_,h=>h.elim
 |_,.fn _ _::_,_,_,h=>h.elim
 |_,.cell _ _::_,_,_,h=>h.elim
 |_,.old _::_,_,_,h=>h.elim
theorem qoy{ct:Ct}{g:List D→Option (List D)}(h:FOk ct g)(hrs:ct.rs=[(.bool,false)])(hvr:ct.vr=[]){W:World}{vs:List Value}{ds:List D}(ha:qg2 W ct.ar vs ds)(hg:g ds=some [.b true]):
  Calls uA ct.f vs.toArray W fun e W'=>e=.returned (.bool true)∧But Nil W W':=by
 obtain⟨h1,h2⟩:=qg2.ok (V:=vs++[]) (i:=0) ha;refine(h.call (Bk.all fun _=>True) .no (fun _=>none) W vs [] ds _ hg (qa0.of0 fun _=>rfl) Flo.no (by constructor<;>simp[Flr.no,Bk.all]) h2 (by simpa[Ct.all,hvr,idx] using h1)).mono ?_;rintro e W'(⟨T,-,ho,-⟩|⟨rs,p',rfl,hb,hr,-⟩)
 ·cases ho
 rw[hrs] at hr;obtain⟨v,r,d,ds',rfl,hd,⟨cs,hp,hc⟩,rfl⟩:=hr;simp at hd;obtain⟨rfl,rfl⟩:=hd;obtain⟨e1,e2⟩:D.b true=.b true∧cs=[.bool true]:=⟨rfl,by
  have hc':Rd W' (FFD (Bk.all fun _=>True) p' []) (.b true) .bool cs:=hc;exact hc'.2⟩
 subst e2;have hpv:[Value.bool true]=[v]:=hp;injection hpv with hpv;subst hpv;exact⟨rfl,hb.but.mono fun i hi _=>by obtain⟨x,hx⟩:=hi;cases hx⟩
end
end Go.Proofs.Ytokkfpalbpnpeaa
