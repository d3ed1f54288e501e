/-
 Lemmas of the walk and plain laws, put together. No condition.
-/
import Derived.Test.YtbmaffphliignaaKf
namespace Go.Proofs.Ytbmaffphliignaa
open Go.RowKit
set_option linter.unusedVariables false
set_option linter.unusedSimpArgs false
set_option maxRecDepth 100000
open _root_.Option.some renaming injEq→uA
open _root_.Option renaming ite_none_right_eq_some→uB,isSome_some→uH,getD_some→uJ
open _root_.List renaming map_append→uC,getD_cons_zero→uD,getD_cons_succ→uE,length_map→uF,take_length→uK,length_cons→uL,map_cons→uM,all_eq_true→uN,length_append→uO,map_nil→uP,append_assoc→uR,mem_singleton→uT,map_map→uU,length_take→uW,map_id→uX,nil_append→uZ,mem_cons→kB,getElem_of_mem→kD,foldl_append→kF,flatten_cons→kG,not_mem_nil→kJ,cons_append→kK,length_nil→kL,foldl_cons→kM,Perm→kQ,mem_map→kR,all_eq_false→kV,append_nil→kW
open _root_.Nat renaming zero_le→uG,le_refl→uI,not_lt_zero→uQ,le_trans→uV
open _root_.Bool renaming or_eq_true→uS,or_eq_false_iff→uY,not_eq_false'→kA,false_or→kC,and_self→kE,not_eq_true'→kH,false_and→kN,and_false→kO,true_and→kP,or_true→kS
open _root_.Array renaming eq_empty_of_size_eq_zero→kI
def qlf{α:Type}[Inhabited α](f:α→α→Bool)(l m:List α):Bool:=decide (l.length=m.length)&&(List.range l.length).all fun j=>f (l.getD j default) (m.getD j default)
theorem z34(l m:List Te):q39 l m=qlf q6o l m:=rfl
theorem qy0{α:Type}[Inhabited α]{f:α→α→Bool}{l m:List α}(h:¬l.length=m.length):qlf f l m=false:=by
 unfold qlf;rw[decide_eq_false h];rfl
theorem qrp{α:Type}[Inhabited α]{f:α→α→Bool}{l m:List α}{k:Nat}(hk:k<l.length)(h:f (l.getD k default) (m.getD k default)=false):qlf f l m=false:=by
 unfold qlf;rw[z61 hk (by simpa using h),kO]
theorem qst{α:Type}[Inhabited α]{f:α→α→Bool}{l m:List α}(hn:l.length=m.length)(h:∀j,j<l.length→f (l.getD j default) (m.getD j default)=true):qlf f l m=true:=by
 unfold qlf;rw[z66 h,Bool.and_true,decide_eq_true hn]
def zcz{α:Type}(dec:D→α)(f:List α→List α→Bool):List D→Option (List D)
 |[a,b]=>some [.b (f (a.rs.map dec) (b.rs.map dec))]
 |_=>none
theorem quf:FOk q0f (z1u q39):=qbg qdd fun ds outs hw hg=>by
 obtain⟨d,r,rfl,hd,e,r',rfl,he,rfl⟩:=hw;obtain⟨l,rfl,hl,-⟩:=qib hd;obtain⟨m,rfl,hm,-⟩:=qib he;simp only[z1u,q4g,q1t,uA] at hg;subst hg;simp only[q2c,gnZ,gnT,qp,qj,qn,qc,qq,qt,qr,qo,qm,ql,qu,qk,qh,qi,qg,q6v];refine⟨fun hn=>?_,fun hn=>?_⟩
 ·rw[z34,qy0 (by simp at hn;omega)]
 have hn:l.length=m.length:=by simp at hn;omega
 rw[yp];refine⟨fun st=>∃k:Nat,k≤l.length∧st=[.b false,.i k]∧∀j,j<k→q6o (l.getD j default) (m.getD j default)=true,fun st=>l.length - (st.getD 1 .u).int.toNat,⟨0,uG _,rfl,fun j hj=>absurd hj (uQ _)⟩,?_⟩;rintro st - ⟨k,hk,rfl,hP⟩;rw[y3];refine⟨fun hlt=>?_,fun hlt=>?_⟩
 ·simp only[gnZ,gnT,qp,qj,qn,qc,qq,qt,qr,qo,qm,ql,qu,qk,qh,qi,qg] at hlt;have hkl:k<l.length:=by omega
  have hkm:k<m.length:=by omega
  simp only[gnZ,gnT,qp,qj,qn,qc,qq,qt,qr,qo,qm,ql,qu,qk,qh,qi,qg,q16 hkl,q16 hkm,q6v];refine⟨⟨by omega,by omega⟩,⟨by omega,by omega⟩,fun hx=>?_,fun hx=>⟨⟨by omega,by omega⟩,?_⟩⟩
  ·rw[z34,qrp hkl (by simpa using hx)]
  ·rw[q1u,if_pos rfl];refine⟨⟨k+1,by omega,by simp,q4y hP (by simpa using hx)⟩,?_⟩;simp[D.int];omega
 ·simp only[gnZ,gnT,qp,qj,qn,qc,qq,qt,qr,qo,qm,ql,qu,qk,qh,qi,qg] at hlt⊢;have:k=l.length:=by omega
  subst this;rw[z34,qst hn hP]
def qwl(g h:FG):Bool:=decide (g.k=h.k)&&decide (g.p=h.p)&&decide (g.v=h.v)&&q39 g.l h.l
theorem qze(f:List Te→List Te→Bool)(l m:List Te):z1u f [.r (l.map eT),.r (m.map eT)]=some [.b (f l m)]:=by
 simp only[z1u,q4g,q1t]
def eqF(a b:FC):Bool:=decide (a.p=b.p)&&q39 a.l b.l&&qlf qwl a.g b.g
def qnh(a b:FC):Bool:=q0p a&&q0p b&&eqF a b
def gFF(f:FC→FC→Bool):List D→Option (List D)
 |[a,b]=>some [.b (f (dFC a) (dFC b))]
 |_=>none
theorem qqp:FOk q1k (gFF eqF):=qow qd1 fun ds outs hw hg=>by
 obtain⟨d,r,rfl,hd,e,r',rfl,he,rfl⟩:=hw;obtain⟨a,rfl,-,-,ha,-⟩:=qzo hd;obtain⟨b,rfl,-,-,hb,-⟩:=qzo he;simp only[gFF,qg,uA] at hg;subst hg;rw[q78,y7];refine⟨by simp only[gnZ,gnT,qp,qj,qn,qc,qq,qt,qr,qo,qm,ql,qu,qk,qh,qi,qg,qze],?_⟩;rw[y3];refine⟨fun h=>?_,fun h=>?_⟩
 ·simp only[gnZ,gnT,qp,qj,qn,qc,qq,qt,qr,qo,qm,ql,qu,qk,qh,qi,qg,qze] at h;simp only[gnZ,gnT,qp,qj,qn,qc,qq,qt,qr,qo,qm,ql,qu,qk,qh,qi,qg]
  congr 2
  unfold eqF;simp only[uS,kH] at h;rcases h with(h|h)|h
  ·rw[h,kN,kN]
  ·rw[h,kO,kN]
  ·rw[qy0 (by have:=of_decide_eq_false h;omega),kO]
 ·simp only[gnZ,gnT,qp,qj,qn,qc,qq,qt,qr,qo,qm,ql,qu,qk,qh,qi,qg,qze,uY,kA] at h;have hn:a.g.length=b.g.length:=by have:=h.2;omega
  unfold eqF;rw[decide_eq_true h.1.1,h.1.2,kP,kP];rw[yp];refine⟨fun st=>∃k:Nat,k≤a.g.length∧st=[.b false,.i k]∧∀j,j<k→qwl (a.g.getD j default) (b.g.getD j default)=true,fun st=>a.g.length - (st.getD 1 .u).int.toNat,⟨0,uG _,rfl,fun j hj=>absurd hj (uQ _)⟩,?_⟩;rintro st - ⟨k,hk,rfl,hP⟩;rw[y3];refine⟨fun hlt=>?_,fun hlt=>?_⟩
  ·simp only[gnZ,gnT,qp,qj,qn,qc,qq,qt,qr,qo,qm,ql,qu,qk,qh,qi,qg] at hlt;have hkl:k<a.g.length:=by omega
   have hkm:k<b.g.length:=by omega
   simp only[gnZ,gnT,qp,qj,qn,qc,qq,qt,qr,qo,qm,ql,qu,qk,qh,qi,qg,qd9 eFG hkl,qd9 eFG hkm,qze];have hno:=fun h=>qrp (f:=qwl) (l:=a.g) (m:=b.g) hkl h;have hyes:=fun h=>q4y hP h;generalize a.g.getD k default=g at *;generalize b.g.getD k default=g' at *;have e:(!decide (g.k=g'.k)|| !decide (g.p=g'.p)|| !decide (g.v=g'.v)|| !q39 g.l g'.l)= !qwl g g':=by
    unfold qwl;cases decide (g.k=g'.k)<;>cases decide (g.p=g'.p)<;>cases decide (g.v=g'.v)<;>cases q39 g.l g'.l<;>rfl
   rw[e];refine⟨⟨by omega,by omega,by omega,by omega⟩,fun hx=>?_,fun hx=>⟨⟨by omega,by omega⟩,?_⟩⟩
   ·rw[hno (by simpa using hx)]
   ·rw[q1u,if_pos rfl];refine⟨⟨k+1,by omega,by simp,hyes (by simpa using hx)⟩,?_⟩;simp[D.int];omega
  ·simp only[gnZ,gnT,qp,qj,qn,qc,qq,qt,qr,qo,qm,ql,qu,qk,qh,qi,qg] at hlt⊢;have:k=a.g.length:=by omega
   subst this;rw[qst hn hP]
theorem qvf:FOk q23 (gFF qnh):=qt1 qff qqp fun ds outs hw hg=>by
 obtain⟨d,r,rfl,hd,e,r',rfl,he,rfl⟩:=hw;obtain⟨a,rfl,-⟩:=qzo hd;obtain⟨b,rfl,-⟩:=qzo he;simp only[gFF,qg,uA] at hg;subst hg;simp only[q8y,gnZ,gnT,qp,qj,qn,qc,qq,qt,qr,qo,qm,ql,qu,qk,qh,qi,qg,gFb,gFF,qnh]
theorem zgb{o:qer}{k:Nat}(h:k<(qdn o).length):(eRo o).get (k:Int)=eFC ((qdn o).getD k default):=by
 cases o with
 |none=>exact absurd h (uQ _)
 |some l=>exact qd9 eFC h
theorem qlq:FOk q0m (zcz dFC (qlf qnh)):=qj4 qvf fun ds outs hw hg=>by
 obtain⟨d,r,rfl,hd,e,r',rfl,he,rfl⟩:=hw;obtain⟨o,rfl,hl,-⟩:=z0w hd;obtain⟨o2,rfl,hm,-⟩:=z0w he;have gl:∀{k:Nat},k<(qdn o).length→(eRo o).get (k:Int)=eFC ((qdn o).getD k default):=fun h=>zgb h;have gm:∀{k:Nat},k<(qdn o2).length→(eRo o2).get (k:Int)=eFC ((qdn o2).getD k default):=fun h=>zgb h;have rl:=z48 o;have rm:=z48 o2;generalize qdn o=l at *;generalize qdn o2=m at *;generalize eRo o=dl at *;generalize eRo o2=dm at *;simp only[zcz,rl,rm,qzh,uA] at hg;subst hg;simp only[q5m,gnZ,gnT,qp,qj,qn,qc,qq,qt,qr,qo,qm,ql,qu,qk,qh,qi,qg,rl,rm,gFF];refine⟨fun hn=>?_,fun hn=>?_⟩
 ·rw[qy0 (by simp at hn;omega)]
 have hn:l.length=m.length:=by simp at hn;omega
 rw[yp];refine⟨fun st=>∃k:Nat,k≤l.length∧st=[.b false,.i k]∧∀j,j<k→qnh (l.getD j default) (m.getD j default)=true,fun st=>l.length - (st.getD 1 .u).int.toNat,⟨0,uG _,rfl,fun j hj=>absurd hj (uQ _)⟩,?_⟩;rintro st - ⟨k,hk,rfl,hP⟩;rw[y3];refine⟨fun hlt=>?_,fun hlt=>?_⟩
 ·simp only[gnZ,gnT,qp,qj,qn,qc,qq,qt,qr,qo,qm,ql,qu,qk,qh,qi,qg,rl,rm] at hlt;have hkl:k<l.length:=by omega
  have hkm:k<m.length:=by omega
  simp only[gnZ,gnT,qp,qj,qn,qc,qq,qt,qr,qo,qm,ql,qu,qk,qh,qi,qg,rl,rm,gl hkl,gm hkm,gFF];refine⟨⟨by omega,by omega,by omega,by omega⟩,fun hx=>?_,fun hx=>⟨⟨by omega,by omega⟩,?_⟩⟩
  ·rw[qrp hkl (by simpa using hx)]
  ·rw[q1u,if_pos rfl];refine⟨⟨k+1,by omega,by simp,q4y hP (by simpa using hx)⟩,?_⟩;simp[D.int];omega
 ·simp only[gnZ,gnT,qp,qj,qn,qc,qq,qt,qr,qo,qm,ql,qu,qk,qh,qi,qg,rl,rm] at hlt⊢;have:k=l.length:=by omega
  subst this;rw[qst hn hP]
def q8i:ByteArray:=⟨#[116,114,117,101]⟩
def qa0:ByteArray:=⟨#[102,97,105,108]⟩
def qlv:ByteArray:=⟨#[33]⟩
def qdo:ByteArray:=⟨#[92,43]⟩
def q8r:ByteArray:=⟨#[111,110,99,101]⟩
abbrev ag(t:Te)(j:Nat):Te:=t.l.getD j default
def qpb(t:Te):Bool:=isT t q3b 2||isT t q3s 2||isT t q02 2||isT t qdo 1||isT t q8r 1
mutual
/-- How many goals the parts of a goal are, at most. -/
def rho:Te→Nat
 |.mk k n s l=>if qpb (.mk k n s l) then rhos l+1 else 1
def rhos:List Te→Nat
 |[]=>0
 |t::l=>rho t+rhos l
end
theorem z1c(t:Te):rho t=if qpb t then rhos t.l+1 else 1:=by cases t;rw[rho];rfl
theorem zm(t:Te):1≤rho t:=by rw[z1c];split<;>omega
mutual
theorem z3c:∀t:Te,rho t≤szT t
 |.mk k n s l=>by
  rw[rho,szT];have:=z51 l;split<;>omega
theorem z51:∀l:List Te,rhos l≤q28 l
 |[]=>uI _
 |t::l=>by
  have h1:=z3c t;have h2:=z51 l;rw[rhos,q28];omega
end
theorem z6f{t:Te}{s:ByteArray}{n:Int}(h:isT t s n=true):(t.l.length:Int)=n:=by
 simp only[isT,gnB,gnD] at h;exact h.2
theorem z91{t:Te}{s:ByteArray}{n:Int}(h:isT t s n=true):t.s=s:=by
 simp only[isT,gnB,gnD] at h;exact h.1.2
theorem q3x{t:Te}(h:isT t q3b 2=true∨isT t q3s 2=true∨isT t q02 2=true):rho t=rho (ag t 0)+rho (ag t 1)+1∧t.l.length=2:=by
 have hl:t.l.length=2:=by rcases h with h|h|h<;>(have:=z6f h;omega)
 have hc:qpb t=true:=by
  unfold qpb;rcases h with h|h|h<;>simp[h]
 refine⟨?_,hl⟩;rw[z1c,if_pos hc];have e:=zbl hl;unfold ag;generalize t.l.getD 0 default=a at *;generalize t.l.getD 1 default=b at *;rw[e];simp only[rhos];omega
theorem qbl{t:Te}(h:isT t qdo 1=true∨isT t q8r 1=true):rho t=rho (ag t 0)+1∧t.l.length=1:=by
 have hl:t.l.length=1:=by rcases h with h|h<;>(have:=z6f h;omega)
 have hc:qpb t=true:=by
  unfold qpb;rcases h with h|h<;>simp[h]
 refine⟨?_,hl⟩;rw[z1c,if_pos hc];unfold ag
 match ht:t.l,hl with
 |[a],_=>simp[rhos]
theorem z18(a:Te):rho (.mk 3 0 qna [a])=1:=by
 rw[z1c,if_neg];simp[qpb,isT,Te.k,Te.s,Te.l,qna,q3b,q3s,q02,qdo,q8r]
theorem z2o{t:Te}(h:q19 t=true):isT t q3b 2=true∨isT t q3s 2=true∨isT t q02 2=true:=by
 simp only[q19,gnB,uS,gnD] at h;obtain⟨⟨h1,h2⟩,(h3|h3)|h3⟩:=h
 ·exact .inl (by simp[isT,h1,h2,h3])
 ·exact .inr (.inl (by simp[isT,h1,h2,h3]))
 ·exact .inr (.inr (by simp[isT,h1,h2,h3]))
mutual
theorem qw2:∀(t u:Te),jq t=some u→rho u=rho t
 | .mk k n s l, u, h => by
  rw[jq] at h;split at h
  ·rename_i hk;injection h with h;subst h;rw[z18,z1c,if_neg];simp[qpb,isT,Te.k,hk]
  ·split at h
   ·rename_i hb;split at h
    ·rename_i m hm;injection h with h;subst h;obtain⟨e1,e2⟩:=qtf l m hm;have hc:=z2o hb;have hc1:qpb (.mk k n s l)=true:=by
      unfold qpb;rcases hc with h|h|h<;>simp[h]
     have hk3:k=3:=(q4i hb).2;have hc2:qpb (.mk 3 0 s m)=true:=by
      have:∀q z,isT (.mk 3 0 s m) q z=isT (.mk k n s l) q z:=fun q z=>by
       subst hk3
       show(((decide ((3:Int)=2)||decide ((3:Int)=3))&&decide (s=q))&&decide ((m.length:Int)=z))=(((decide ((3:Int)=2)||decide ((3:Int)=3))&&decide (s=q))&&decide ((l.length:Int)=z))
       rw[e2]
      unfold qpb at hc1⊢;rw[this,this,this,this,this];exact hc1
     rw[rho,rho,if_pos hc1,if_pos hc2,e1]
    ·cases h
   ·split at h
    ·injection h with h;subst h;rfl
    ·cases h
theorem qtf:∀(l m:List Te),q2k l=some m→rhos m=rhos l∧m.length=l.length
 |[],m,h=>by
  rw[q2k] at h;injection h with h;subst h;exact⟨rfl,rfl⟩
 | t :: l, m, h => by
  rw[q2k] at h;split at h
  ·rename_i x y hx hy;injection h with h;subst h;obtain⟨e1,e2⟩:=qtf l y hy;have e3:=qw2 t x hx;exact⟨by rw[rhos,rhos,e1,e3],by simp[e2]⟩
  ·cases h
end
def zi(a:Te):Te:=if(q3l a).2 then(q3l a).1 else .mk 3 0 qna [a]
theorem qig{a:Te}(h:(q3l a).2=true):jq a=some (q3l a).1:=by
 unfold q3l at h⊢;cases hv:zb a with
 |false=>rw[hv] at h;cases h
 | true =>
  rw[hv] at h;simp only[if_true] at h⊢;cases hb:jq a with
  |none=>rw[hb] at h;cases h
  |some u=>
   rw[hb] at h;simp only at h⊢;by_cases hs:2000<szT u
   ·rw[if_pos hs] at h;cases h
   ·rw[if_neg hs]
theorem q2t(a:Te):rho (zi a)≤rho a:=by
 unfold zi;have:=zm a;split
 ·rename_i h;rw[qw2 a _ (qig h)];exact uI _
 ·rw[z18];exact this
structure X24 where
 nv:Int
 na:Int
 tr:Bool
 aux:List qer
abbrev Rec:=X24→Te→Int→List FG×X24
def opG(k v:Int):FG:=⟨k,zPr,[],v⟩
def q1p(p:Pr)(l:List Te):FG:=⟨1,p,l.map yv,0⟩
def X24.var(x:X24):X24:=⟨x.nv+1,x.na,x.tr,x.aux⟩
def X24.pred(x:X24):X24:=⟨x.nv,x.na+1,x.tr,x.aux++[none]⟩
def X24.put(x:X24)(n:Nat)(l:List FC):X24:=⟨x.nv,x.na,x.tr,x.aux.set n (some l)⟩
def q3n(r:List FG×X24)(f:X24→List FG×X24):List FG×X24:=(r.1++(f r.2).1,(f r.2).2)
def qvs(r:List FG×X24)(f:X24→List FG×X24):List (List FG)×X24:=([r.1,(f r.2).1],(f r.2).2)
def qus(r:List FG×X24):List (List FG)×X24:=([r.1],r.2)
def noX(r:List FG×X24):List (List FG)×X24:=([r.1,[]],r.2)
def qya(rec:Rec)(x:X24)(a b:Te)(cut:Int):List FG×X24:=
 q3n (q3n (q3n ([opG 2 x.nv,opG 3 (x.nv+1)],x.var.var) fun y=>rec y a (x.nv+1)) fun y=>([opG 4 x.nv],y)) fun y=>rec y b cut
def q0o(rec:Rec)(x:X24)(g:Te)(cut:Int):List (List FG)×X24:=
 if isT (ag g 0) q02 2 then qvs (qya rec x (ag (ag g 0) 0) (ag (ag g 0) 1) cut) fun y=>rec y (ag g 1) cut
 else qvs (rec x (ag g 0) cut) fun y=>rec y (ag g 1) cut
def q5c(rec:Rec)(x:X24)(g:Te):List FG×X24:=
 q3n (q3n ([opG 3 x.nv],x.var) fun y=>rec y g x.nv) fun y=>([opG 4 x.nv],y)
def q8c(rec:Rec)(x:X24)(g:Te)(cut:Int):List (List FG)×X24:=
 qus (q3n (q5c rec x (ag g 0)) fun y=>rec y (ag g 1) cut)
def qfj(rec:Rec)(x:X24)(g:Te):List (List FG)×X24:=
 noX (q3n (q3n ([opG 2 x.nv,opG 3 (x.nv+1)],x.var.var) fun y=>rec y (zi (ag g 0)) (x.nv+1)) fun y=>([opG 4 x.nv,opG 5 0],y))
def q88(rec:Rec)(x:X24)(g:Te):List (List FG)×X24:=qus (q5c rec x (zi (ag g 0)))
def q15(g:Te)(cut:Int):List Te:=(q45 g).map q1d++(if q07 g then[q1d cut] else[])
def q53(g:Te)(cut:Int)(x:X24):Pr:=⟨⟨#[]⟩,((q15 g cut).length:Nat),x.na⟩
def q2v(g:Te)(cut:Int)(x:X24)(l:List (List FG)):List FC:=l.map fun gs=>⟨q53 g cut x,q15 g cut,gs⟩
def q1r(bodies:X24→List (List FG)×X24)(x:X24)(g:Te)(cut:Int):FG×X24:=
 (q1p (q53 g cut x) (q15 g cut),(bodies x.pred).2.put x.aux.length (q2v g cut x (bodies x.pred).1))
def onR(r:FG×X24):List FG×X24:=([r.1],r.2)
def zar:ByteArray:=⟨#[99,97,108,108]⟩
def qxt(g:Te):Bool:=if g.s=⟨#[]⟩ then true
 else if g.s=zar then(decide ((g.l.length:Int)<1)||decide (8<(g.l.length:Int)))
 else if g.s=⟨#[99,97,116,99,104]⟩∨g.s=⟨#[102,105,110,100,97,108,108]⟩∨g.s=⟨#[98,97,103,111,102]⟩∨g.s=⟨#[115,101,116,111,102]⟩ then !decide ((g.l.length:Int)=3)
 else !decide (((g.s.data.getD 0 0).toNat:Int)=36)
def qde(g:Te):FG:=q1p ⟨g.s,(g.l.length:Nat),0⟩ g.l
def qdw(x:X24)(g:Te):List FG×X24:=
 if !x.tr|| !qxt g then([qde g],x) else([q1p ⟨⟨#[]⟩,2,1099511627776⟩ [q1d x.nv,g],qde g,q1p ⟨⟨#[]⟩,2,1099511627775⟩ [q1d x.nv,g]],x.var)
def q34(rec:Rec):Rec:=fun x g cut=>
 if isT g q8i 0 then([],x) else if isT g qa0 0 then([opG 5 0],x) else if isT g qlv 0 then([opG 4 cut],x)
 else if isT g q3b 2 then q3n (rec x (ag g 0) cut) fun y=>rec y (ag g 1) cut
 else if isT g q3s 2 then onR (q1r (fun y=>q0o rec y g cut) x g cut)
 else if isT g q02 2 then onR (q1r (fun y=>q8c rec y g cut) x g cut)
 else if isT g qdo 1 then onR (q1r (fun y=>qfj rec y g) x g cut)
 else if isT g q8r 1 then onR (q1r (fun y=>q88 rec y g) x g cut)
 else qdw x g
def qng:Nat→Rec
 |0=>fun x _ _=>([],x)
 |n+1=>q34 (qng n)
def zg:Rec:=fun x g cut=>qng (rho g) x g cut
theorem qz5{r r':Rec}{g:Te}(hg:isT g q3s 2=true)(h:∀g',rho g'<rho g→∀x c,r x g' c=r' x g' c)(x:X24)(c:Int):q0o r x g c=q0o r' x g c:=by
 have hr:=(q3x (.inr (.inl hg))).1;unfold q0o;split
 ·rename_i ha;have hr2:=(q3x (.inr (.inr ha))).1;simp only[qya,q3n,qvs,h _ (show rho (ag (ag g 0) 0)<rho g by omega),h _ (show rho (ag (ag g 0) 1)<rho g by omega),h _ (show rho (ag g 1)<rho g by omega)]
 ·simp only[qvs,h _ (show rho (ag g 0)<rho g by omega),h _ (show rho (ag g 1)<rho g by omega)]
theorem z3l{r r':Rec}{g:Te}(hg:isT g q02 2=true)(h:∀g',rho g'<rho g→∀x c,r x g' c=r' x g' c)(x:X24)(c:Int):q8c r x g c=q8c r' x g c:=by
 have hr:=(q3x (.inr (.inr hg))).1;simp only[q8c,q5c,q3n,qus,h _ (show rho (ag g 0)<rho g by omega),h _ (show rho (ag g 1)<rho g by omega)]
theorem not_congr{r r':Rec}{g:Te}(hg:isT g qdo 1=true)(h:∀g',rho g'<rho g→∀x c,r x g' c=r' x g' c)(x:X24):qfj r x g=qfj r' x g:=by
 have hr:=(qbl (.inl hg)).1;have hi:=q2t (ag g 0);simp only[qfj,q3n,noX,h _ (show rho (zi (ag g 0))<rho g by omega)]
theorem z3m{r r':Rec}{g:Te}(hg:isT g q8r 1=true)(h:∀g',rho g'<rho g→∀x c,r x g' c=r' x g' c)(x:X24):q88 r x g=q88 r' x g:=by
 have hr:=(qbl (.inr hg)).1;have hi:=q2t (ag g 0);simp only[q88,q5c,q3n,qus,h _ (show rho (zi (ag g 0))<rho g by omega)]
theorem qr1{r r':Rec}{g:Te}(h:∀g',rho g'<rho g→∀x c,r x g' c=r' x g' c)(x:X24)(c:Int):q34 r x g c=q34 r' x g c:=by
 unfold q34;split
 ·rfl
 split
 ·rfl
 split
 ·rfl
 split
 ·rename_i hg;have hr:=(q3x (.inl hg)).1;simp only[q3n,h _ (show rho (ag g 0)<rho g by omega),h _ (show rho (ag g 1)<rho g by omega)]
 split
 ·rename_i hg;simp only[qz5 hg h]
 split
 ·rename_i hg;simp only[z3l hg h]
 split
 ·rename_i hg;simp only[not_congr hg h]
 split
 ·rename_i hg;simp only[z3m hg h]
 ·rfl
theorem qsn:∀(n m:Nat)(g:Te),rho g≤n→rho g≤m→∀x c,qng n x g c=qng m x g c
 |0,_,g,h,_,_,_=>by have:=zm g;omega
 |_,0,g,_,h,_,_=>by have:=zm g;omega
 |n+1,m+1,g,h1,h2,x,c=>qr1 (fun g' hg' x c=>qsn n m g' (by omega) (by omega) x c) x c
theorem qqf(x:X24)(g:Te)(c:Int):zg x g c=q34 zg x g c:=by
 have h:=zm g
 show qng (rho g) x g c=_
 obtain⟨n,hn⟩:∃n,rho g=n+1:=⟨rho g - 1,by omega⟩;rw[hn];exact qr1 (fun g' hg' x c=>qsn n (rho g') g' (by omega) (uI _) x c) x c
structure Grw(x y:X24)(v a:Nat):Prop where
 v0:x.nv≤y.nv
 v1:y.nv≤x.nv+v
 tr:y.tr=x.tr
 na:y.na - x.na=(y.aux.length:Int) - x.aux.length
 a0:x.aux.length≤y.aux.length
 a1:y.aux.length≤x.aux.length+a
theorem Grw.refl(x:X24):Grw x x 0 0:=⟨Int.le_refl _,by simp,rfl,by omega,uI _,uI _⟩
theorem Grw.trans{x y z:X24}{v a v' a':Nat}(h:Grw x y v a)(h':Grw y z v' a'):Grw x z (v+v') (a+a'):=by
 obtain⟨h1,h2,h3,h4,h5,h6⟩:=h;obtain⟨g1,g2,g3,g4,g5,g6⟩:=h';exact⟨by omega,by push_cast;omega,g3.trans h3,by omega,by omega,by omega⟩
theorem Grw.mono{x y:X24}{v a v' a':Nat}(h:Grw x y v a)(hv:v≤v')(ha:a≤a'):Grw x y v' a':=⟨h.v0,by have:=h.v1;omega,h.tr,h.na,h.a0,by have:=h.a1;omega⟩
theorem Grw.var(x:X24):Grw x x.var 1 0:=⟨by show x.nv≤x.nv+1;omega,by show x.nv+1≤_;simp,rfl,by show x.na - x.na=(x.aux.length:Int) - x.aux.length;omega,uI _,uI _⟩
def Bnd(r:List FG×X24)(x:X24)(v a L:Nat):Prop:=Grw x r.2 v a∧r.1.length≤L
theorem q4x{r:List FG×X24}{f:X24→List FG×X24}{x:X24}{v a L v' a' L':Nat}(h:Bnd r x v a L)(h':Bnd (f r.2) r.2 v' a' L'):Bnd (q3n r f) x (v+v') (a+a') (L+L'):=⟨h.1.trans h'.1,by
 have h1:=h.2;have h2:=h'.2
 show(r.1++(f r.2).1).length≤_
 rw[uO];omega⟩
def qew(r:Rec)(g:Te):Prop:=∀x c,Bnd (r x g c) x (2 * rho g) (rho g) (3 * rho g)
theorem z5k{r:Rec}{a b:Te}(ha:qew r a)(hb:qew r b)(x:X24)(c:Int):Bnd (qya r x a b c) x (2+2 * rho a+2 * rho b) (rho a+rho b) (3+3 * rho a+3 * rho b):=by
 have h:=q4x (f:=fun y=>r y b c) (q4x (f:=fun y=>([opG 4 x.nv],y)) (v':=0) (a':=0) (L':=1) (q4x (f:=fun y=>r y a (x.nv+1)) (v:=2) (a:=0) (L:=2) (r:=([opG 2 x.nv,opG 3 (x.nv+1)],x.var.var)) ⟨(Grw.var x).trans (Grw.var _),uI _⟩ (ha _ _)) ⟨Grw.refl _,uI _⟩) (hb _ _);exact⟨h.1.mono (by omega) (by omega),by have:=h.2;unfold qya;omega⟩
theorem qd0{r:Rec}{a:Te}(ha:qew r a)(x:X24):Bnd (q5c r x a) x (1+2 * rho a) (rho a) (2+3 * rho a):=by
 have h:=q4x (f:=fun y=>([opG 4 x.nv],y)) (v':=0) (a':=0) (L':=1) (q4x (f:=fun y=>r y a x.nv) (v:=1) (a:=0) (L:=1) (r:=([opG 3 x.nv],x.var)) ⟨Grw.var x,uI _⟩ (ha _ _)) ⟨Grw.refl _,uI _⟩;exact⟨h.1.mono (by omega) (by omega),by have:=h.2;unfold q5c;omega⟩
theorem qjp{b:X24→List (List FG)×X24}{x:X24}{g:Te}{c:Int}{v a:Nat}(h:Grw x.pred (b x.pred).2 v a):Bnd (onR (q1r b x g c)) x v (a+1) 1:=by
 obtain⟨h1,h2,h3,h4,h5,h6⟩:=h;have e:x.pred.aux.length=x.aux.length+1:=by simp[X24.pred]
 have e2:((b x.pred).2.put x.aux.length (q2v g c x (b x.pred).1)).aux.length=(b x.pred).2.aux.length:=by simp[X24.put]
 rw[e] at h4 h5 h6;refine⟨⟨h1,h2,h3,?_,?_,?_⟩,uI _⟩
 ·show(b x.pred).2.na - x.na=(((b x.pred).2.put x.aux.length (q2v g c x (b x.pred).1)).aux.length:Int) - x.aux.length
  rw[e2];have:x.pred.na=x.na+1:=rfl
  push_cast at h4
  omega
 ·show x.aux.length≤((b x.pred).2.put x.aux.length (q2v g c x (b x.pred).1)).aux.length
  omega
 ·show((b x.pred).2.put x.aux.length (q2v g c x (b x.pred).1)).aux.length≤_
  omega
theorem qqq{r:Rec}{g:Te}(hg:isT g q3s 2=true)(h:∀g',rho g'<rho g→qew r g')(x:X24)(c:Int):Grw x (q0o r x g c).2 (2 * rho g) (rho g - 1):=by
 have hr:=(q3x (.inr (.inl hg))).1;unfold q0o;split
 ·rename_i ha;have hr2:=(q3x (.inr (.inr ha))).1;exact((z5k (h _ (by omega)) (h _ (by omega)) x c).1.trans (h (ag g 1) (by omega) _ c).1).mono (by omega) (by omega)
 ·exact((h (ag g 0) (by omega) x c).1.trans (h (ag g 1) (by omega) _ c).1).mono (by omega) (by omega)
theorem z26{r:Rec}{g:Te}(hg:isT g q02 2=true)(h:∀g',rho g'<rho g→qew r g')(x:X24)(c:Int):Grw x (q8c r x g c).2 (2 * rho g) (rho g - 1):=by
 have hr:=(q3x (.inr (.inr hg))).1;exact((qd0 (h (ag g 0) (by omega)) x).1.trans (h (ag g 1) (by omega) _ c).1).mono (by omega) (by omega)
theorem z4i{r:Rec}{a:Te}(ha:qew r a)(x:X24):Bnd (q3n (q3n ([opG 2 x.nv,opG 3 (x.nv+1)],x.var.var) fun y=>r y a (x.nv+1)) fun y=>([opG 4 x.nv,opG 5 0],y)) x (2+2 * rho a) (rho a) (4+3 * rho a):=by
 have h:=q4x (f:=fun y=>([opG 4 x.nv,opG 5 0],y)) (v':=0) (a':=0) (L':=2) (q4x (f:=fun y=>r y a (x.nv+1)) (v:=2) (a:=0) (L:=2) (r:=([opG 2 x.nv,opG 3 (x.nv+1)],x.var.var)) ⟨(Grw.var x).trans (Grw.var _),uI _⟩ (ha _ _)) ⟨Grw.refl _,uI _⟩;exact⟨h.1.mono (by omega) (by omega),by have:=h.2;omega⟩
theorem z5d{r:Rec}{g:Te}(hg:isT g qdo 1=true)(h:∀g',rho g'<rho g→qew r g')(x:X24):Grw x (qfj r x g).2 (2 * rho g) (rho g - 1):=by
 have hr:=(qbl (.inl hg)).1;have hi:=q2t (ag g 0);exact(z4i (h (zi (ag g 0)) (by omega)) x).1.mono (by omega) (by omega)
theorem z1k{r:Rec}{g:Te}(hg:isT g q8r 1=true)(h:∀g',rho g'<rho g→qew r g')(x:X24):Grw x (q88 r x g).2 (2 * rho g) (rho g - 1):=by
 have hr:=(qbl (.inr hg)).1;have hi:=q2t (ag g 0);exact(qd0 (h (zi (ag g 0)) (by omega)) x).1.mono (by omega) (by omega)
theorem Bnd.mono{r:List FG×X24}{x:X24}{v a L v' a' L':Nat}(h:Bnd r x v a L)(hv:v≤v')(ha:a≤a')(hl:L≤L'):Bnd r x v' a' L':=⟨h.1.mono hv ha,uV h.2 hl⟩
theorem zb9{r:Rec}{g:Te}(h:∀g',rho g'<rho g→qew r g'):qew (q34 r) g:=fun x c=>by
 have hp:=zm g;unfold q34;split
 ·exact⟨(Grw.refl x).mono (by omega) (by omega),uG _⟩
 split
 ·exact⟨(Grw.refl x).mono (by omega) (by omega),by show 1≤_;omega⟩
 split
 ·exact⟨(Grw.refl x).mono (by omega) (by omega),by show 1≤_;omega⟩
 split
 ·rename_i hg;have hr:=(q3x (.inl hg)).1;exact(q4x (f:=fun y=>r y (ag g 1) c) (h (ag g 0) (by omega) x c) (h (ag g 1) (by omega) _ c)).mono (by omega) (by omega) (by omega)
 split
 ·rename_i hg;exact(qjp (qqq hg h _ _)).mono (by omega) (by omega) (by omega)
 split
 ·rename_i hg;exact(qjp (z26 hg h _ _)).mono (by omega) (by omega) (by omega)
 split
 ·rename_i hg;exact(qjp (z5d hg h _)).mono (by omega) (by omega) (by omega)
 split
 ·rename_i hg;exact(qjp (z1k hg h _)).mono (by omega) (by omega) (by omega)
 ·unfold qdw;split
  ·exact⟨(Grw.refl x).mono (by omega) (by omega),by show 1≤_;omega⟩
  ·exact⟨(Grw.var x).mono (by omega) (by omega),by show 3≤_;omega⟩
theorem qle:∀(n:Nat)(g:Te),rho g≤n→qew (qng n) g
 |0,g,h=>by have:=zm g;omega
 |n+1,g,h=>zb9 fun g' hg'=>qle n g' (by omega)
theorem y5(g:Te):qew zg g:=fun x c=>qle (rho g) g (uI _) x c
section
def q7a(l:List FC):D:=.r (l.map eFC)
def eN(v a:Int):D:=.a [.i v,.i a]
def dRo(d:D):qer:=match d with
 |.u=>none
 |_=>some (d.rs.map dFC)
theorem zcj(o:qer):dRo (eRo o)=o:=by
 cases o with
 |none=>rfl
 |some l=>exact congrArg some (qzh l)
def eX(x:X24):D:=.a [eN x.nv x.na,.b x.tr,.r (x.aux.map eRo)]
def dX(d:D):X24:=⟨((d.fld 0).fld 0).int,((d.fld 0).fld 1).int,(d.fld 1).tt,(d.fld 2).rs.map dRo⟩
theorem zf(x:X24):dX (eX x)=x:=by
 show(⟨x.nv,x.na,x.tr,(x.aux.map eRo).map dRo⟩:X24)=x
 rw[uU];have:(dRo ∘ eRo)=id:=funext fun l=>zcj l;rw[this,uX]
theorem zo(v a:Int):(eN v a).fld 0=.i v:=rfl
theorem zr(v a:Int):(eN v a).fld 1=.i a:=rfl
theorem zs(x:X24):(eX x).fld 0=eN x.nv x.na:=rfl
theorem zq(x:X24):(eX x).fld 1=.b x.tr:=rfl
theorem zp(x:X24):(eX x).fld 2=.r (x.aux.map eRo):=rfl
def X24.incA(x:X24):X24:=⟨x.nv,x.na+1,x.tr,x.aux⟩
theorem qw(x:X24):D.a ((eX x).fs.set 0 (D.a ((eN x.nv x.na).fs.set 0 (.i (x.nv+1)))))=eX x.var:=rfl
theorem z0(x:X24):D.a ((eX x).fs.set 0 (D.a ((eN x.nv x.na).fs.set 1 (.i (x.na+1)))))=eX x.incA:=rfl
theorem qe(x:X24):D.a ((eX x.incA).fs.set 2 (.r (x.incA.aux.map eRo++[.u])))=eX x.pred:=by
 show _=D.a [_,_,.r ((x.aux++[none]).map eRo)]
 rw[uC];rfl
theorem qv(x:X24)(n:Nat)(l:List FC):D.a ((eX x).fs.set 2 (.r ((x.aux.map eRo).set n (.r (l.map eFC)))))=eX (x.put n l):=by
 show _=D.a [_,_,.r ((x.aux.set n (some l)).map eRo)]
 rw[List.map_set];rfl
abbrev TX:Ty:=.st 52
theorem wfX{d:D}(h:Wf d TX):∃x:X24,d=eX x∧x.aux.length≤5864062014634:=by
 obtain⟨ds,rfl,hl⟩:=h.st_of (fs:=[.st 49,.bool,.row 27]) rfl;obtain⟨d0,r,rfl,h0,hl⟩:=q62 hl;obtain⟨d1,d2,rfl,h1,h2⟩:=z0y hl;obtain⟨es,rfl,hl0⟩:=h0.st_of (fs:=[.int .i64,.int .i64]) rfl;obtain⟨e0,e1,rfl,g0,g1⟩:=z0y hl0;obtain⟨v,rfl,-⟩:=wfI g0;obtain⟨a,rfl,-⟩:=wfI g1;obtain⟨b,rfl⟩:=h1.bool;obtain⟨l,rfl,hl1,hl2⟩:=h2.row_of (te:=qdv) rfl;obtain⟨m,rfl,-⟩:=qi3 (e:=eRo) (P:=fun _=>True) fun x hx=>by
  obtain⟨z,rfl,-⟩:=z0w (hl2 x hx);exact⟨z,rfl,trivial⟩
 have e:LM qdv=5864062014634:=by kernel_rfl
 rw[uF] at hl1;exact⟨⟨v,a,b,m⟩,rfl,by show m.length≤_;omega⟩
def gOp:List D→Option (List D)
 |[k,v]=>some [eFG (opG k.int v.int)]
 |_=>none
theorem qa8:FOk jc gOp:=z10 fun ds outs hw hg=>by
 obtain⟨d,r,rfl,hd,e,r',rfl,he,rfl⟩:=hw;obtain⟨k,rfl,-⟩:=wfI hd;obtain⟨v,rfl,-⟩:=wfI he;simp only[gOp,j6,uA] at hg;subst hg;simp only[qdk,gnZ,gnT,qp,qj,qn,qc,qq,qt,qr,qo,qm,ql,qu,qk,qh,qi,qg];rfl
theorem qqv:FOk q2e gIs:=z23 fun ds outs hw hg=>by
 obtain⟨d,r,rfl,hd,e,r',rfl,he,e2,r2,rfl,he2,rfl⟩:=hw;obtain⟨t,rfl,ht⟩:=wfT hd;obtain⟨s,rfl,hs⟩:=he.str;obtain⟨n,rfl,hn⟩:=wfI he2;simp only[gIs,z9,qh3,j6,uA] at hg;subst hg;simp only[qdp,gnZ,gnT,qp,qj,qn,qc,qq,qt,qr,qo,qm,ql,qu,qk,qh,qi,qg,isT]
def qa6:List D→Option (List D)
 |[p,l]=>some [eFG (q1p (dPr p) (l.rs.map dT))]
 |_=>none
theorem qj0(f:Te→Te)(t:Te):gTT f [eT t]=some [eT (f t)]:=by simp only[gTT,z9]
theorem zak(k:Int)(p:Pr)(l:List Te)(v:Int)(t:Te):D.a ((eFG ⟨k,p,l,v⟩).fs.set 2 (.r (l.map eT++[eT t])))=eFG ⟨k,p,l++[t],v⟩:=by
 show _=D.a [_,_,.r ((l++[t]).map eT),_]
 rw[uC];rfl
theorem q63:FOk yd qa6:=qu9 q6l fun ds outs hw hg=>by
 obtain⟨d,r,rfl,hd,e,r',rfl,he,rfl⟩:=hw;obtain⟨p,rfl,hp⟩:=z89 hd;obtain⟨l,rfl,hl,-⟩:=qib he;simp only[qa6,qh,q4g,q1t,uA] at hg;subst hg;rw[qb2,yp];refine⟨fun st=>∃k:Nat,k≤l.length∧st=[.i k,eFG ⟨1,p,(l.take k).map yv,0⟩],fun st=>l.length - (st.getD 0 .u).int.toNat,⟨0,uG _,rfl⟩,?_⟩;rintro st - ⟨k,hk,rfl⟩;rw[y3];refine⟨fun hlt=>?_,fun hlt=>?_⟩
 ·simp only[gnZ,gnT,qp,qj,qn,qc,qq,qt,qr,qo,qm,ql,qu,qk,qh,qi,qg] at hlt;have hkl:k<l.length:=by omega
  simp only[gnZ,gnT,qp,qj,qn,qc,qq,qt,qr,qo,qm,ql,qu,qk,qh,qi,qg,q16 hkl,qj0,uW];refine⟨⟨by omega,by omega⟩,by omega,⟨by omega,by omega⟩,?_⟩;rw[q1u,if_pos rfl];refine⟨⟨k+1,by omega,?_⟩,?_⟩
  ·rw[jr hkl,uC,zak];rfl
  ·simp[D.int];omega
 ·simp only[gnZ,gnT,qp,qj,qn,qc,qq,qt,qr,qo,qm,ql,qu,qk,qh,qi,qg] at hlt⊢;have:k=l.length:=by omega
  subst this;rw[uK];rfl
def q5g(t:Te):List Te:=(q45 t).map q1d
def qtb(f:Te→List Te):List D→Option (List D)
 |[t]=>some [.r ((f (dT t)).map eT)]
 |_=>none
theorem q6f:FOk yg (qtb q5g):=qub qk2 q5u fun ds outs hw hg=>by
 obtain⟨d,r,rfl,hd,rfl⟩:=hw;obtain⟨t,rfl,ht⟩:=wfT hd;simp only[qtb,z9,uA] at hg;subst hg;have hlen:=qg8 t;unfold q5g;generalize hvs:q45 t=vs at *;rw[qa3,y7];refine⟨by simp only[gnZ,gnT,qp,qj,qn,qc,qq,qt,qr,qo,qm,ql,qu,qk,qh,qi,qg,z1l],?_⟩;rw[yp];refine⟨fun st=>∃k:Nat,k≤vs.length∧st=[.r (((vs.take k).map q1d).map eT),.i k],fun st=>vs.length - (st.getD 1 .u).int.toNat,⟨0,uG _,rfl⟩,?_⟩;rintro st - ⟨k,hk,rfl⟩;rw[y3];refine⟨fun hlt=>?_,fun hlt=>?_⟩
 ·simp only[gnZ,gnT,qp,qj,qn,qc,qq,qt,qr,qo,qm,ql,qu,qk,qh,qi,qg,z1l,hvs,q1w] at hlt;have hkl:k<vs.length:=by omega
  simp only[gnZ,gnT,qp,qj,qn,qc,qq,qt,qr,qo,qm,ql,qu,qk,qh,qi,qg,z1l,hvs,q1w,qiv hkl,gNT,uW];refine⟨⟨by omega,by omega⟩,by omega,⟨by omega,by omega⟩,?_⟩;rw[q1u,if_pos rfl];refine⟨⟨k+1,by omega,?_⟩,?_⟩
  ·rw[jr hkl,uC,uC];rfl
  ·simp[D.int];omega
 ·simp only[gnZ,gnT,qp,qj,qn,qc,qq,qt,qr,qo,qm,ql,qu,qk,qh,qi,qg,z1l,hvs,q1w] at hlt⊢;have:k=vs.length:=by omega
  subst this;rw[uK]
theorem qgw:FOk q0c (gTT zi):=qqu qdh fun ds outs hw hg=>by
 obtain⟨d,r,rfl,hd,rfl⟩:=hw;obtain⟨t,rfl,ht⟩:=wfT hd;simp only[gTT,z9,uA] at hg;subst hg;rw[q8w,y7,y3];refine⟨by simp only[gnZ,gnT,qp,qj,qn,qc,qq,qt,qr,qo,qm,ql,qu,qk,qh,qi,qg,qce],fun h=>?_,fun h=>?_⟩
 ·simp only[gnZ,gnT,qp,qj,qn,qc,qq,qt,qr,qo,qm,ql,qu,qk,qh,qi,qg,qce] at h;unfold zi;rw[if_pos h];simp only[gnZ,gnT,qp,qj,qn,qc,qq,qt,qr,qo,qm,ql,qu,qk,qh,qi,qg,qce]
 ·simp only[gnZ,gnT,qp,qj,qn,qc,qq,qt,qr,qo,qm,ql,qu,qk,qh,qi,qg,qce] at h;unfold zi;rw[if_neg (by rw[h];decide)];simp only[gnZ,gnT,qp,qj,qn,qc,qq,qt,qr,qo,qm,ql,qu,qk,qh,qi,qg,qce,q6c];rfl
theorem qum:FOk q21 (gTb qxt):=qtj fun ds outs hw hg=>by
 obtain⟨d,r,rfl,hd,rfl⟩:=hw;obtain⟨t,rfl,ht⟩:=wfT hd;simp only[gTb,z9,uA] at hg;subst hg;have hpos:t.s≠⟨#[]⟩→0<(t.s.size:Int):=fun h=>by
  have:t.s.size≠0:=fun e=>h (by
   cases hs:t.s with
   |mk data=>
    rw[hs] at e;have:data= #[]:=kI e;rw[this])
  omega
 unfold qxt zar;simp only[q8u,gnZ,gnT,qp,qj,qn,qc,qq,qt,qr,qo,qm,ql,qu,qk,qh,qi,qg,z5q];refine⟨fun h=>?_,fun h=>?_⟩
 ·rw[if_pos h]
 rw[if_neg h];have hp:=hpos h;refine⟨fun h1=>?_,fun h1=>?_⟩
 ·rw[if_pos h1]
 rw[if_neg h1];have yes:∀(P:Prop)[Decidable P](a b:Bool),P→[D.b a]=[D.b (if P then a else b)]:=fun P _ a b h=>by rw[if_pos h]
 have no:∀(P:Prop)[Decidable P](a b:Bool),¬P→[D.b b]=[D.b (if P then a else b)]:=fun P _ a b h=>by rw[if_neg h]
 refine⟨fun h2=>⟨fun _=>yes _ _ _ (.inl h2),fun q=>absurd h2 q⟩,fun h2=>⟨fun h3=>⟨fun _=>yes _ _ _ (.inr (.inl h3)),fun q=>absurd h3 q⟩,fun h3=>⟨fun h4=>⟨fun _=>yes _ _ _ (.inr (.inr (.inl h4))),fun q=>absurd h4 q⟩,fun h4=>⟨fun h5=>yes _ _ _ (.inr (.inr (.inr h5))),fun h5=>⟨hp,no _ _ _ fun q=>?_⟩⟩⟩⟩⟩;rcases q with q|q|q|q
 ·exact h2 q
 ·exact h3 q
 ·exact h4 q
 ·exact h5 q
def qak(v a:Nat)(x:X24):Bool:=decide (-4611686018427387904≤x.nv)&&decide (x.nv+v≤4611686018427387904)&&decide (-4611686018427387904≤x.na)&&decide (x.na+a≤4611686018427387904)&&decide (x.aux.length+a≤1000000000000)&&decide (v≤100000000000)
theorem q1b{v a:Nat}{x:X24}:qak v a x=true↔-4611686018427387904≤x.nv∧x.nv+v≤4611686018427387904∧-4611686018427387904≤x.na∧x.na+a≤4611686018427387904∧x.aux.length+a≤1000000000000∧v≤100000000000:=by
 simp only[qak,gnB,gnD];constructor
 ·rintro⟨⟨⟨⟨⟨h1,h2⟩,h3⟩,h4⟩,h5⟩,h6⟩;exact⟨h1,h2,h3,h4,h5,h6⟩
 ·rintro⟨h1,h2,h3,h4,h5,h6⟩;exact⟨⟨⟨⟨⟨h1,h2⟩,h3⟩,h4⟩,h5⟩,h6⟩
theorem q2i{v a v1 a1 v2 a2:Nat}{x y:X24}(h:qak v a x=true)(g:Grw x y v1 a1)(hv:v1+v2≤v)(ha:a1+a2≤a):qak v2 a2 y=true:=by
 rw[q1b] at h⊢;obtain⟨g1,g2,g3,g4,g5,g6⟩:=g;obtain⟨h1,h2,h3,h4,h5,h6⟩:=h;exact⟨by omega,by omega,by omega,by omega,by omega,by omega⟩
theorem qx4{v a:Nat}{x:X24}(h:qak v (a+1) x=true):qak v a x.pred=true:=by
 rw[q1b] at h⊢;obtain⟨h1,h2,h3,h4,h5,h6⟩:=h;have e:x.pred.aux.length=x.aux.length+1:=by simp[X24.pred]
 have e2:x.pred.nv=x.nv:=rfl;have e3:x.pred.na=x.na+1:=rfl;exact⟨by omega,by omega,by omega,by omega,by omega,by omega⟩
def mG(ds:List D):Nat:=rho (dT (ds.getD 1 .u))
def gGo:List D→Option (List D)
 |[x,g,c]=>if qak (2 * rho (dT g)) (rho (dT g)) (dX x) then some [.r ((zg (dX x) (dT g) c.int).1.map eFG),eX (zg (dX x) (dT g) c.int).2] else none
 |_=>none
theorem qgv{N:Nat}{x:X24}{g:Te}(c:Int)(h1:rho g<N)(h2:qak (2 * rho g) (rho g) x=true):yu mG N gGo [eX x,eT g,.i c]=some [.r ((zg x g c).1.map eFG),eX (zg x g c).2]:=by
 simp only[yu,mG,gGo,uD,uE,z9,zf,j6,if_pos h1,if_pos h2]
def zdp(N:Nat):List D→Option (List D)
 |[x,g]=>if rho (dT g)<N∧qak (1+2 * rho (dT g)) (rho (dT g)) (dX x)=true then some [.r ((q5c zg (dX x) (dT g)).1.map eFG),eX (q5c zg (dX x) (dT g)).2] else none
 |_=>none
theorem zc4{N:Nat}{x:X24}{g:Te}(h1:rho g<N)(h2:qak (1+2 * rho g) (rho g) x=true):zdp N [eX x,eT g]=some [.r ((q5c zg x g).1.map eFG),eX (q5c zg x g).2]:=by
 simp only[zdp,z9,zf,if_pos (show rho g<N∧qak (1+2 * rho g) (rho g) x=true from⟨h1,h2⟩)]
theorem eOp(k v:Int):gOp [.i k,.i v]=some [eFG (opG k v)]:=rfl
theorem qjz:FOk z7 fun _=>none:=FOk.none q9m
theorem qg9:FOk z5 fun _=>none:=FOk.none q93
theorem qh2{N:Nat}(ih:FOk qd (yu mG N gGo)):FOk zk (zdp N):=qb8 qjz qa8 ih fun ds outs hw hg=>by
 obtain⟨d,r,rfl,hd,e,r',rfl,he,rfl⟩:=hw;obtain⟨x,rfl,hx⟩:=wfX hd;obtain⟨t,rfl,ht⟩:=wfT he;simp only[zdp,z9,zf,uB,uA] at hg;obtain⟨⟨h1,h2⟩,rfl⟩:=hg;have hp:=q1b.1 h2;have hc:=qgv (x:=x.var) x.nv h1 (q2i h2 (Grw.var x) (by omega) (by omega));have hb:=(y5 t x.var x.nv).2;simp only[q2g,gnZ,gnT,qp,qj,qn,qc,qq,qt,qr,qo,qm,ql,qu,qk,qh,qi,qg,zf,zs,zq,zp,zo,zr,qw,z0,qe,qv,eOp,hc];refine⟨⟨by omega,by omega⟩,by omega,by simp only[uL,uF];omega,?_⟩;simp[q5c,q3n]
def eGs(l:List FG):D:=.r (l.map eFG)
theorem ziq(x:X24):D.a ((eX x.var).fs.set 0 (D.a ((eN (x.nv+1) x.var.na).fs.set 0 (D.i (x.nv+1+1)))))=eX x.var.var:=rfl
def qhq(ok:Te→Bool)(N:Nat)(f:X24→Te→Int→List (List FG)×X24):List D→Option (List D)
 |[x,g,c]=>if ok (dT g)=true∧rho (dT g)≤N∧qak (2 * rho (dT g)) (rho (dT g) - 1) (dX x)=true then some [.r ((f (dX x) (dT g) c.int).1.map eGs),eX (f (dX x) (dT g) c.int).2] else none
 |_=>none
theorem z9h{ok:Te→Bool}{N:Nat}{f:X24→Te→Int→List (List FG)×X24}{x:X24}{g:Te}(c:Int)(h0:ok g=true)(h1:rho g≤N)(h2:qak (2 * rho g) (rho g - 1) x=true):qhq ok N f [eX x,eT g,.i c]=some [.r ((f x g c).1.map eGs),eX (f x g c).2]:=by
 simp only[qhq,z9,zf,j6,if_pos (show ok g=true∧rho g≤N∧qak (2 * rho g) (rho g - 1) x=true from⟨h0,h1,h2⟩)]
theorem q5v{t:Te}{k:Nat}(h:k<t.l.length):(D.r (t.l.map eT)).get (k:Int)=eT (ag t k):=q16 h
theorem qyy{N:Nat}(ih:FOk qd (yu mG N gGo)):FOk yq (qhq (fun g=>isT g q02 2) N (q8c zg)):=qch (qh2 ih) ih fun ds outs hw hg=>by
 obtain⟨d,r,rfl,hd,e,r',rfl,he,f,r2,rfl,hf,rfl⟩:=hw;obtain⟨x,rfl,hx⟩:=wfX hd;obtain⟨g,rfl,ht⟩:=wfT he;obtain⟨c,rfl,-⟩:=wfI hf;simp only[qhq,z9,zf,j6,uB,uA] at hg;obtain⟨⟨h0,h1,h2⟩,rfl⟩:=hg;obtain⟨hr,hl⟩:=q3x (.inr (.inr h0));have hp:=q1b.1 h2;have p0:=zm (ag g 0);have p1:=zm (ag g 1);have e0:(D.r (g.l.map eT)).get 0=eT (ag g 0):=q5v (k:=0) (by omega);have e1:(D.r (g.l.map eT)).get 1=eT (ag g 1):=q5v (k:=1) (by omega);have hb0:=qd0 (y5 (ag g 0)) x;have c0:=zc4 (N:=N) (x:=x) (g:=ag g 0) (by omega) (q2i h2 (Grw.refl x) (by omega) (by omega));have c1:=qgv (N:=N) (x:=(q5c zg x (ag g 0)).2) (g:=ag g 1) c (by omega) (q2i h2 hb0.1 (by omega) (by omega));have hb1:=(y5 (ag g 1) (q5c zg x (ag g 0)).2 c).2;have hb2:=hb0.2;have hl2:(g.l.length:Int)=2:=by omega
 simp only[q2r,gnZ,gnT,qp,qj,qn,qc,qq,qt,qr,qo,qm,ql,qu,qk,qh,qi,qg,zf,zs,zq,zp,zo,zr,qw,z0,qe,qv,e0,e1,c0,c1,hl2];refine⟨by decide,⟨by decide,by omega⟩,?_⟩;simp[q8c,qus,q3n,eGs]
theorem z0n{N:Nat}(ih:FOk qd (yu mG N gGo)):FOk j2 (qhq (fun g=>isT g qdo 1) N (fun x g _=>qfj zg x g)):=qco qjz qa8 qgw ih fun ds outs hw hg=>by
 obtain⟨d,r,rfl,hd,e,r',rfl,he,f,r2,rfl,hf,rfl⟩:=hw;obtain⟨x,rfl,hx⟩:=wfX hd;obtain⟨g,rfl,ht⟩:=wfT he;obtain⟨c,rfl,-⟩:=wfI hf;simp only[qhq,z9,zf,j6,uB,uA] at hg;obtain⟨⟨h0,h1,h2⟩,rfl⟩:=hg;obtain⟨hr,hl⟩:=qbl (.inl h0);have hi:=q2t (ag g 0);have hp:=q1b.1 h2;have e0:(D.r (g.l.map eT)).get 0=eT (ag g 0):=q5v (k:=0) (by omega);have ei:gTT zi [eT (ag g 0)]=some [eT (zi (ag g 0))]:=qj0 _ _;have ev:x.var.nv=x.nv+1:=rfl;have c0:=qgv (N:=N) (x:=x.var.var) (g:=zi (ag g 0)) (x.nv+1) (by omega) (q2i h2 ((Grw.var x).trans (Grw.var _)) (by omega) (by omega));have hb0:=(y5 (zi (ag g 0)) x.var.var (x.nv+1)).2;have hl2:(g.l.length:Int)=1:=by omega
 simp only[q32,gnZ,gnT,qp,qj,qn,qc,qq,qt,qr,qo,qm,ql,qu,qk,qh,qi,qg,zf,zs,zq,zp,zo,zr,qw,z0,qe,qv,e0,ei,eOp,ev,ziq,c0,hl2];refine⟨⟨by omega,by omega⟩,⟨by omega,by omega⟩,⟨by decide,by omega⟩,by simp only[uL,uF];omega,?_⟩;simp[qfj,noX,q3n,eGs]
theorem qzq{N:Nat}(ih:FOk qd (yu mG N gGo)):FOk yr (qhq (fun g=>isT g q8r 1) N (fun x g _=>q88 zg x g)):=qcd qgw (qh2 ih) fun ds outs hw hg=>by
 obtain⟨d,r,rfl,hd,e,r',rfl,he,f,r2,rfl,hf,rfl⟩:=hw;obtain⟨x,rfl,hx⟩:=wfX hd;obtain⟨g,rfl,ht⟩:=wfT he;obtain⟨c,rfl,-⟩:=wfI hf;simp only[qhq,z9,zf,j6,uB,uA] at hg;obtain⟨⟨h0,h1,h2⟩,rfl⟩:=hg;obtain⟨hr,hl⟩:=qbl (.inr h0);have hi:=q2t (ag g 0);have hp:=q1b.1 h2;have e0:(D.r (g.l.map eT)).get 0=eT (ag g 0):=q5v (k:=0) (by omega);have ei:gTT zi [eT (ag g 0)]=some [eT (zi (ag g 0))]:=qj0 _ _;have c0:=zc4 (N:=N) (x:=x) (g:=zi (ag g 0)) (by omega) (q2i h2 (Grw.refl x) (by omega) (by omega));have hl2:(g.l.length:Int)=1:=by omega
 simp only[q2o,gnZ,gnT,qp,qj,qn,qc,qq,qt,qr,qo,qm,ql,qu,qk,qh,qi,qg,zf,zs,zq,zp,zo,zr,qw,z0,qe,qv,e0,ei,c0,hl2];refine⟨by decide,?_⟩;simp[q88,qus,eGs]
theorem qth{N:Nat}(ih:FOk qd (yu mG N gGo)):FOk yi (qhq (fun g=>isT g q3s 2) N (q0o zg)):=qai qqv qjz qa8 ih fun ds outs hw hg=>by
 obtain⟨d,r,rfl,hd,e,r',rfl,he,f,r2,rfl,hf,rfl⟩:=hw;obtain⟨x,rfl,hx⟩:=wfX hd;obtain⟨g,rfl,ht⟩:=wfT he;obtain⟨c,rfl,-⟩:=wfI hf;simp only[qhq,z9,zf,j6,uB,uA] at hg;obtain⟨⟨h0,h1,h2⟩,rfl⟩:=hg;obtain⟨hr,hl⟩:=q3x (.inr (.inl h0));have hp:=q1b.1 h2;have p0:=zm (ag g 0);have p1:=zm (ag g 1);have e0:(D.r (g.l.map eT)).get 0=eT (ag g 0):=q5v (k:=0) (by omega);have e1:(D.r (g.l.map eT)).get 1=eT (ag g 1):=q5v (k:=1) (by omega);have hl2:(g.l.length:Int)=2:=by omega
 have es:gIs [eT (ag g 0),.s ⟨#[45,62]⟩,.i 2]=some [.b (isT (ag g 0) q02 2)]:=by
  simp only[gIs,z9,qh3,j6,q02]
 rw[q1v];simp only[y7,y3];simp only[gnZ,gnT,qp,qj,qn,qc,qq,qt,qr,qo,qm,ql,qu,qk,qh,qi,qg,zf,zs,zq,zp,zo,zr,qw,z0,qe,qv,e0,e1,es,hl2];refine⟨by decide,fun ha=>?_,fun ha=>?_⟩
 ·obtain⟨hr2,hla⟩:=q3x (.inr (.inr ha));have q0:=zm (ag (ag g 0) 0);have q1:=zm (ag (ag g 0) 1);have d0:(D.r ((ag g 0).l.map eT)).get 0=eT (ag (ag g 0) 0):=q5v (k:=0) (by omega);have d1:(D.r ((ag g 0).l.map eT)).get 1=eT (ag (ag g 0) 1):=q5v (k:=1) (by omega);have hla2:((ag g 0).l.length:Int)=2:=by omega
  have g2:Grw x x.var.var 2 0:=(Grw.var x).trans (Grw.var _);have b0:=y5 (ag (ag g 0) 0) x.var.var x.var.nv;have c0:=qgv (N:=N) (x:=x.var.var) (g:=ag (ag g 0) 0) x.var.nv (by omega) (q2i h2 g2 (by omega) (by omega));generalize hy:zg x.var.var (ag (ag g 0) 0) x.var.nv=r1 at *;have b1:=y5 (ag (ag g 0) 1) r1.2 c;have c1:=qgv (N:=N) (x:=r1.2) (g:=ag (ag g 0) 1) c (by omega) (q2i h2 (g2.trans b0.1) (by omega) (by omega));generalize hy1:zg r1.2 (ag (ag g 0) 1) c=r2 at *;have b2:=y5 (ag g 1) r2.2 c;have c2:=qgv (N:=N) (x:=r2.2) (g:=ag g 1) c (by omega) (q2i h2 ((g2.trans b0.1).trans b1.1) (by omega) (by omega));have l0:=b0.2;have l1:=b1.2;simp only[eOp,d0,d1,hla2,c0,c1,c2,uH,uJ,uD,uE,q4g,uF,true_and];refine⟨⟨by omega,by omega⟩,⟨by show _≤x.nv+1+1;omega,by show x.nv+1+1≤_;omega⟩,⟨by decide,by omega⟩,by simp only[uL,uF];omega,⟨by decide,?_⟩,by decide,?_⟩
  ·simp only[uL,uO,uF,kL];omega
  ·have ev:x.var.nv=x.nv+1:=rfl;rw[ev] at hy;unfold q0o;rw[if_pos ha];simp only[qya,q3n,qvs,hy,hy1,eGs,ev,uM,uP,uC,kK,uZ,uR]
 ·have b0:=y5 (ag g 0) x c;have c0:=qgv (N:=N) (x:=x) (g:=ag g 0) c (by omega) (q2i h2 (Grw.refl x) (by omega) (by omega));generalize hy:zg x (ag g 0) c=r1 at *;have c1:=qgv (N:=N) (x:=r1.2) (g:=ag g 1) c (by omega) (q2i h2 b0.1 (by omega) (by omega));simp only[c0,c1,uH,uJ,uD,uE,q4g,uF,true_and,and_true];refine⟨by decide,?_⟩;unfold q0o;rw[if_neg (by rw[ha];decide)];simp only[qvs,hy,eGs,uM,uP]
def z01(ok:Te→Bool)(N:Nat)(f:X24→Te→Int→List (List FG)×X24):List D→Option (List D)
 |[x,g,c]=>if ok (dT g)=true∧rho (dT g)≤N∧qak (2 * rho (dT g)) (rho (dT g)) (dX x)=true then some [eFG (q1r (fun y=>f y (dT g) c.int) (dX x) (dT g) c.int).1,eX (q1r (fun y=>f y (dT g) c.int) (dX x) (dT g) c.int).2] else none
 |_=>none
theorem qz4{ok:Te→Bool}{N:Nat}{f:X24→Te→Int→List (List FG)×X24}{x:X24}{g:Te}(c:Int)(h0:ok g=true)(h1:rho g≤N)(h2:qak (2 * rho g) (rho g) x=true):z01 ok N f [eX x,eT g,.i c]=some [eFG (q1r (fun y=>f y g c) x g c).1,eX (q1r (fun y=>f y g c) x g c).2]:=by
 simp only[z01,z9,zf,j6,if_pos (show ok g=true∧rho g≤N∧qak (2 * rho g) (rho g) x=true from⟨h0,h1,h2⟩)]
def zhc(xa:X):Tree:=(.loop 9 3 [(.lit (.r [])),(.lit (.i 0))] (.br (.lt (.tok 4) (.len (.call 0 0 [(.set (.set (.tok 0) 0 (.set (.fld (.tok 0) 0) 1 (.add (.fld (.fld (.tok 0) 0) 1) (.lit (.i 1))))) 2 (.app (.fld (.set (.tok 0) 0 (.set (.fld (.tok 0) 0) 1 (.add (.fld (.fld (.tok 0) 0) 1) (.lit (.i 1))))) 2) (.row [(.lit .u)]))),(.tok 1),(.tok 2)]))) (.need [(.le (.lit (.i 0)) (.tok 4)),(.lt (.tok 4) (.len (.call 0 0 [(.set (.set (.tok 0) 0 (.set (.fld (.tok 0) 0) 1 (.add (.fld (.fld (.tok 0) 0) 1) (.lit (.i 1))))) 2 (.app (.fld (.set (.tok 0) 0 (.set (.fld (.tok 0) 0) 1 (.add (.fld (.fld (.tok 0) 0) 1) (.lit (.i 1))))) 2) (.row [(.lit .u)]))),(.tok 1),(.tok 2)])))] (.need [(.le (.add (.len (.tok 3)) (.lit (.i 1))) (.lit (.i 1759218604390))),(.ok 5 [xa])] (.need [(.rng .i64 (.add (.tok 4) (.lit (.i 1))))] (.back 9 [(.app (.tok 3) (.row [(.mk [(.set (.set (.lit (.a [(.s ⟨#[]⟩),(.i 0),(.i 0)])) 1 (.len xa)) 2 (.fld (.fld (.tok 0) 0) 1)),(.call 5 0 [xa]),(.get (.call 0 0 [(.set (.set (.tok 0) 0 (.set (.fld (.tok 0) 0) 1 (.add (.fld (.fld (.tok 0) 0) 1) (.lit (.i 1))))) 2 (.app (.fld (.set (.tok 0) 0 (.set (.fld (.tok 0) 0) 1 (.add (.fld (.fld (.tok 0) 0) 1) (.lit (.i 1))))) 2) (.row [(.lit .u)]))),(.tok 1),(.tok 2)]) (.tok 4))])])),(.add (.tok 4) (.lit (.i 1)))])))) (.need [(.le (.lit (.i 0)) (.len (.fld (.set (.tok 0) 0 (.set (.fld (.tok 0) 0) 1 (.add (.fld (.fld (.tok 0) 0) 1) (.lit (.i 1))))) 2))),(.lt (.len (.fld (.set (.tok 0) 0 (.set (.fld (.tok 0) 0) 1 (.add (.fld (.fld (.tok 0) 0) 1) (.lit (.i 1))))) 2)) (.len (.fld (.call 0 1 [(.set (.set (.tok 0) 0 (.set (.fld (.tok 0) 0) 1 (.add (.fld (.fld (.tok 0) 0) 1) (.lit (.i 1))))) 2 (.app (.fld (.set (.tok 0) 0 (.set (.fld (.tok 0) 0) 1 (.add (.fld (.fld (.tok 0) 0) 1) (.lit (.i 1))))) 2) (.row [(.lit .u)]))),(.tok 1),(.tok 2)]) 2)))] (.need [(.ok 6 [(.set (.set (.lit (.a [(.s ⟨#[]⟩),(.i 0),(.i 0)])) 1 (.len xa)) 2 (.fld (.fld (.tok 0) 0) 1)),xa])] (.leaf [(.call 6 0 [(.set (.set (.lit (.a [(.s ⟨#[]⟩),(.i 0),(.i 0)])) 1 (.len xa)) 2 (.fld (.fld (.tok 0) 0) 1)),xa]),(.set (.call 0 1 [(.set (.set (.tok 0) 0 (.set (.fld (.tok 0) 0) 1 (.add (.fld (.fld (.tok 0) 0) 1) (.lit (.i 1))))) 2 (.app (.fld (.set (.tok 0) 0 (.set (.fld (.tok 0) 0) 1 (.add (.fld (.fld (.tok 0) 0) 1) (.lit (.i 1))))) 2) (.row [(.lit .u)]))),(.tok 1),(.tok 2)]) 2 (.put (.fld (.call 0 1 [(.set (.set (.tok 0) 0 (.set (.fld (.tok 0) 0) 1 (.add (.fld (.fld (.tok 0) 0) 1) (.lit (.i 1))))) 2 (.app (.fld (.set (.tok 0) 0 (.set (.fld (.tok 0) 0) 1 (.add (.fld (.fld (.tok 0) 0) 1) (.lit (.i 1))))) 2) (.row [(.lit .u)]))),(.tok 1),(.tok 2)]) 2) (.len (.fld (.set (.tok 0) 0 (.set (.fld (.tok 0) 0) 1 (.add (.fld (.fld (.tok 0) 0) 1) (.lit (.i 1))))) 2)) (.tok 3)))])))))
theorem zja(l:List Te):gLL id [.r (l.map eT)]=some [.r (l.map eT)]:=by simp only[gLL,q4g,q1t,id]
theorem qq7(p:Pr)(l:List Te):qa6 [ePr p,.r (l.map eT)]=some [eFG (q1p p l)]:=by simp only[qa6,q4g,q1t,qh]
section
variable{ok:Te→Bool}{N:Nat}{f:X24→Te→Int→List (List FG)×X24}{t0 t1 t2 t3 t4 t5 t6:Ct}{x:X24}{g:Te}{c:Int}
theorem qzx(hf:∀x g c,ok g=true→Grw x (f x g c).2 (2 * rho g) (rho g - 1)∧(f x g c).1.length≤2)(h0:ok g=true)(h1:rho g≤N)(h2:qak (2 * rho g) (rho g) x=true){xa:X}
  (hxa:∀s0 s1,xa.ev (evl (ym [(t0,qhq ok N f),(t1,qtb q5g),(t2,gTb q07),(t3,gNT q1d),(t4,fun _=>none),(t5,gLL id),(t6,qa6)]) [eX x,eT g,.i c,s0,s1])=.r ((q15 g c).map eT))
  (hxb:xa.ev (evl (ym [(t0,qhq ok N f),(t1,qtb q5g),(t2,gTb q07),(t3,gNT q1d),(t4,fun _=>none),(t5,gLL id),(t6,qa6)]) [eX x,eT g,.i c])=.r ((q15 g c).map eT)):
  (zhc xa).go (ym [(t0,qhq ok N f),(t1,qtb q5g),(t2,gTb q07),(t3,gNT q1d),(t4,fun _=>none),(t5,gLL id),(t6,qa6)]) (fun o=>o=[eFG (q1r (fun y=>f y g c) x g c).1,eX (q1r (fun y=>f y g c) x g c).2]) [eX x,eT g,.i c] fun _ _=>False:=by
 simp only[evl] at hxa hxb;have hp:=q1b.1 h2;have hr:=zm g;have hb:=z9h (f:=f) (ok:=ok) (N:=N) (x:=x.pred) c h0 h1 (qx4 (by rw[show rho g - 1+1=rho g by omega];exact h2));obtain⟨hg,hl⟩:=hf x.pred g c h0;have ha0:=hg.a0;have e:x.pred.aux.length=x.aux.length+1:=by simp[X24.pred]
 have e9:x.incA.aux.length=x.aux.length:=rfl;unfold q1r
 show(zhc xa).go _ (fun o=>o=[eFG (q1p (q53 g c x) (q15 g c)),eX ((f x.pred g c).2.put x.aux.length (q2v g c x (f x.pred g c).1))]) _ _
 generalize f x.pred g c=R at *;unfold zhc;rw[yp];refine⟨fun st=>∃k:Nat,k≤R.1.length∧st=[.r ((q2v g c x (R.1.take k)).map eFC),.i k],fun st=>R.1.length - (st.getD 1 .u).int.toNat,⟨0,uG _,rfl⟩,?_⟩;rintro st - ⟨k,hk,rfl⟩;rw[y3];refine⟨fun hlt=>?_,fun hlt=>?_⟩
 ·simp only[gnZ,gnT,qp,qj,qn,qc,qq,qt,qr,qo,qm,ql,qu,qk,qh,qi,qg,zf,zs,zq,zp,zo,zr,qw,z0,qe,qv,hb] at hlt;have hkl:k<R.1.length:=by omega
  simp only[gnZ,gnT,qp,qj,qn,qc,qq,qt,qr,qo,qm,ql,qu,qk,qh,qi,qg,zf,zs,zq,zp,zo,zr,qw,z0,qe,qv,hb,hxa,zja,qd9 eGs hkl];refine⟨⟨by omega,by omega⟩,?_,⟨by omega,by omega⟩,?_⟩
  ·simp only[q2v,uF,uW];omega
  rw[q1u,if_pos rfl];refine⟨⟨k+1,by omega,?_⟩,?_⟩
  ·rw[jr hkl]
   show _=[D.r ((q2v g c x (R.1.take k++[R.1.getD k default])).map eFC),_]
   simp only[q2v,uC];rfl
  ·simp[D.int];omega
 ·simp only[gnZ,gnT,qp,qj,qn,qc,qq,qt,qr,qo,qm,ql,qu,qk,qh,qi,qg,zf,zs,zq,zp,zo,zr,qw,z0,qe,qv,hb] at hlt;have:k=R.1.length:=by omega
  subst this;have e3:D.a ((D.a ((ePr zPr).fs.set 1 (.i ((q15 g c).length:Nat)))).fs.set 2 (.i x.na))=ePr (q53 g c x):=rfl;simp only[gnZ,gnT,qp,qj,qn,qc,qq,qt,qr,qo,qm,ql,qu,qk,qh,qi,qg,zf,zs,zq,zp,zo,zr,qw,z0,qe,qv,hb,hxa,e3,qq7,uK,Int.toNat_natCast,e9];exact⟨by omega,by omega⟩
theorem zfm(hf:∀x g c,ok g=true→Grw x (f x g c).2 (2 * rho g) (rho g - 1)∧(f x g c).1.length≤2)(h0:ok g=true)(h1:rho g≤N)(h2:qak (2 * rho g) (rho g) x=true):
  j9.go (ym [(t0,qhq ok N f),(t1,qtb q5g),(t2,gTb q07),(t3,gNT q1d),(t4,fun _=>none),(t5,gLL id),(t6,qa6)]) (fun o=>o=[eFG (q1r (fun y=>f y g c) x g c).1,eX (q1r (fun y=>f y g c) x g c).2]) [eX x,eT g,.i c] fun _ _=>False:=by
 have hp:=q1b.1 h2;have hr:=zm g;have hb:=z9h (f:=f) (ok:=ok) (N:=N) (x:=x.pred) c h0 h1 (qx4 (by rw[show rho g - 1+1=rho g by omega];exact h2));have e1:qtb q5g [eT g]=some [.r ((q5g g).map eT)]:=by simp only[qtb,z9]
 have e2:gTb q07 [eT g]=some [.b (q07 g)]:=by simp only[gTb,z9]
 have e3:gNT q1d [.i c]=some [eT (q1d c)]:=rfl;have hvl:(q5g g).length≤2000:=by
  unfold q5g;rw[uF];exact qg8 g
 have e9:x.incA.aux.length=x.aux.length:=rfl;rw[j9];simp only[y7,y3];refine⟨by simp only[gnZ,gnT,qp,qj,qn,qc,qq,qt,qr,qo,qm,ql,qu,qk,qh,qi,qg,zf,zs,zq,zp,zo,zr,qw,z0,qe,qv,e1],by simp only[gnZ,gnT,qp,qj,qn,qc,qq,qt,qr,qo,qm,ql,qu,qk,qh,qi,qg,zf,zs,zq,zp,zo,zr,qw,z0,qe,qv,e2],fun h=>?_,fun h=>?_⟩
 ·simp only[gnZ,gnT,qp,qj,qn,qc,qq,qt,qr,qo,qm,ql,qu,qk,qh,qi,qg,zf,zs,zq,zp,zo,zr,qw,z0,qe,qv,e2] at h;refine⟨by simp only[gnZ,gnT,qp,qj,qn,qc,qq,qt,qr,qo,qm,ql,qu,qk,qh,qi,qg,zf,zs,zq,zp,zo,zr,qw,z0,qe,qv,e1,e3];omega,by simp only[gnZ,gnT,qp,qj,qn,qc,qq,qt,qr,qo,qm,ql,qu,qk,qh,qi,qg,zf,zs,zq,zp,zo,zr,qw,z0,qe,qv];omega,by simp only[gnZ,gnT,qp,qj,qn,qc,qq,qt,qr,qo,qm,ql,qu,qk,qh,qi,qg,zf,zs,zq,zp,zo,zr,qw,z0,qe,qv,e9];omega,by simp only[gnZ,gnT,qp,qj,qn,qc,qq,qt,qr,qo,qm,ql,qu,qk,qh,qi,qg,zf,zs,zq,zp,zo,zr,qw,z0,qe,qv,hb],?_⟩;refine qzx hf h0 h1 h2 (xa:=(.app (.call 1 0 [(.tok 1)]) (.row [(.call 3 0 [(.tok 2)])]))) (fun s0 s1=>?_) ?_
  ·simp only[gnZ,gnT,qp,qj,qn,qc,qq,qt,qr,qo,qm,ql,qu,qk,qh,qi,qg,zf,zs,zq,zp,zo,zr,qw,z0,qe,qv,e1,e3,q15,h,if_true,uC,q5g,uM,uP]
  ·simp only[gnZ,gnT,qp,qj,qn,qc,qq,qt,qr,qo,qm,ql,qu,qk,qh,qi,qg,zf,zs,zq,zp,zo,zr,qw,z0,qe,qv,e1,e3,q15,h,if_true,uC,q5g,uM,uP]
 ·simp only[gnZ,gnT,qp,qj,qn,qc,qq,qt,qr,qo,qm,ql,qu,qk,qh,qi,qg,zf,zs,zq,zp,zo,zr,qw,z0,qe,qv,e2] at h;refine⟨by simp only[gnZ,gnT,qp,qj,qn,qc,qq,qt,qr,qo,qm,ql,qu,qk,qh,qi,qg,zf,zs,zq,zp,zo,zr,qw,z0,qe,qv];omega,by simp only[gnZ,gnT,qp,qj,qn,qc,qq,qt,qr,qo,qm,ql,qu,qk,qh,qi,qg,zf,zs,zq,zp,zo,zr,qw,z0,qe,qv,e9];omega,by simp only[gnZ,gnT,qp,qj,qn,qc,qq,qt,qr,qo,qm,ql,qu,qk,qh,qi,qg,zf,zs,zq,zp,zo,zr,qw,z0,qe,qv,hb],?_⟩;refine qzx hf h0 h1 h2 (xa:=(.call 1 0 [(.tok 1)])) (fun s0 s1=>?_) ?_
  ·simp only[gnZ,gnT,qp,qj,qn,qc,qq,qt,qr,qo,qm,ql,qu,qk,qh,qi,qg,zf,zs,zq,zp,zo,zr,qw,z0,qe,qv,e1,q15,h,gnF,if_false,kW,q5g]
  ·simp only[gnZ,gnT,qp,qj,qn,qc,qq,qt,qr,qo,qm,ql,qu,qk,qh,qi,qg,zf,zs,zq,zp,zo,zr,qw,z0,qe,qv,e1,q15,h,gnF,if_false,kW,q5g]
end
theorem qqb{ok:Te→Bool}{N:Nat}{f:X24→Te→Int→List (List FG)×X24}{t0 t1 t2 t3 t4 t5 t6:Ct}(hf:∀x g c,ok g=true→Grw x (f x g c).2 (2 * rho g) (rho g - 1)∧(f x g c).1.length≤2):∀ds outs,WfA zn.ars ds→z01 ok N f ds=some outs→j9.go (ym [(t0,qhq ok N f),(t1,qtb q5g),(t2,gTb q07),(t3,gNT q1d),(t4,fun _=>none),(t5,gLL id),(t6,qa6)]) (fun o=>o=outs) ds fun _ _=>False:=fun ds outs hw hg=>by
 obtain⟨d,r,rfl,hd,e,r',rfl,he,f,r2,rfl,hf,rfl⟩:=hw;obtain⟨x,rfl,hx⟩:=wfX hd;obtain⟨g,rfl,ht⟩:=wfT he;obtain⟨c,rfl,-⟩:=wfI hf;simp only[z01,z9,zf,j6,uB,uA] at hg;obtain⟨⟨h0,h1,h2⟩,rfl⟩:=hg;exact zfm (by assumption) h0 h1 h2
theorem qvc{N:Nat}(ih:FOk qd (yu mG N gGo)):FOk zn (z01 (fun g=>isT g q3s 2) N (q0o zg)):=q8b (qth ih) q6f q6n q5u qg9 q2w q63 (qqb fun x g c h=>⟨qqq h (fun g' _=>y5 g') x c,by
 unfold q0o;split<;>exact uI _⟩)
theorem que{N:Nat}(ih:FOk qd (yu mG N gGo)):FOk zz (z01 (fun g=>isT g q02 2) N (q8c zg)):=q8m (qyy ih) q6f q6n q5u qg9 q2w q63 (qqb fun x g c h=>⟨z26 h (fun g' _=>y5 g') x c,by show 1≤2;omega⟩)
theorem qvr{N:Nat}(ih:FOk qd (yu mG N gGo)):FOk y2 (z01 (fun g=>isT g qdo 1) N (fun x g _=>qfj zg x g)):=q8p (z0n ih) q6f q6n q5u qg9 q2w q63 (qqb fun x g c h=>⟨z5d h (fun g' _=>y5 g') x,by show 2≤2;omega⟩)
theorem quc{N:Nat}(ih:FOk qd (yu mG N gGo)):FOk zy (z01 (fun g=>isT g q8r 1) N (fun x g _=>q88 zg x g)):=q8e (qzq ih) q6f q6n q5u qg9 q2w q63 (qqb fun x g c h=>⟨z1k h (fun g' _=>y5 g') x,by show 1≤2;omega⟩)
theorem zis:((D.r [D.a [D.s ⟨#[59]⟩,D.i 2,D.i 96],D.a [D.s ⟨#[45,62]⟩,D.i 2,D.i 97],D.a [D.s ⟨#[92,43]⟩,D.i 1,D.i 98],D.a [D.s ⟨#[111,110,99,101]⟩,D.i 1,D.i 99]]).get 0).fld 0=.s ⟨#[59]⟩:=rfl
theorem ziv:((D.r [D.a [D.s ⟨#[59]⟩,D.i 2,D.i 96],D.a [D.s ⟨#[45,62]⟩,D.i 2,D.i 97],D.a [D.s ⟨#[92,43]⟩,D.i 1,D.i 98],D.a [D.s ⟨#[111,110,99,101]⟩,D.i 1,D.i 99]]).get 0).fld 1=.i 2:=rfl
theorem zju:((D.r [D.a [D.s ⟨#[59]⟩,D.i 2,D.i 96],D.a [D.s ⟨#[45,62]⟩,D.i 2,D.i 97],D.a [D.s ⟨#[92,43]⟩,D.i 1,D.i 98],D.a [D.s ⟨#[111,110,99,101]⟩,D.i 1,D.i 99]]).get 1).fld 0=.s ⟨#[45,62]⟩:=rfl
theorem ziu:((D.r [D.a [D.s ⟨#[59]⟩,D.i 2,D.i 96],D.a [D.s ⟨#[45,62]⟩,D.i 2,D.i 97],D.a [D.s ⟨#[92,43]⟩,D.i 1,D.i 98],D.a [D.s ⟨#[111,110,99,101]⟩,D.i 1,D.i 99]]).get 1).fld 1=.i 2:=rfl
theorem zio:((D.r [D.a [D.s ⟨#[59]⟩,D.i 2,D.i 96],D.a [D.s ⟨#[45,62]⟩,D.i 2,D.i 97],D.a [D.s ⟨#[92,43]⟩,D.i 1,D.i 98],D.a [D.s ⟨#[111,110,99,101]⟩,D.i 1,D.i 99]]).get 2).fld 0=.s ⟨#[92,43]⟩:=rfl
theorem zji:((D.r [D.a [D.s ⟨#[59]⟩,D.i 2,D.i 96],D.a [D.s ⟨#[45,62]⟩,D.i 2,D.i 97],D.a [D.s ⟨#[92,43]⟩,D.i 1,D.i 98],D.a [D.s ⟨#[111,110,99,101]⟩,D.i 1,D.i 99]]).get 2).fld 1=.i 1:=rfl
theorem zjb:((D.r [D.a [D.s ⟨#[59]⟩,D.i 2,D.i 96],D.a [D.s ⟨#[45,62]⟩,D.i 2,D.i 97],D.a [D.s ⟨#[92,43]⟩,D.i 1,D.i 98],D.a [D.s ⟨#[111,110,99,101]⟩,D.i 1,D.i 99]]).get 3).fld 0=.s ⟨#[111,110,99,101]⟩:=rfl
theorem zj4:((D.r [D.a [D.s ⟨#[59]⟩,D.i 2,D.i 96],D.a [D.s ⟨#[45,62]⟩,D.i 2,D.i 97],D.a [D.s ⟨#[92,43]⟩,D.i 1,D.i 98],D.a [D.s ⟨#[111,110,99,101]⟩,D.i 1,D.i 99]]).get 3).fld 1=.i 1:=rfl
theorem qye:FOk qd gGo:=q2l (m:=mG) q4h fun N ih=>qc7 (qvc ih) (que ih) (qvr ih) (quc ih) qqv qa8 ih q63 qum q5u fun ds outs hw hg=>by
 obtain⟨d,r,rfl,hd,e,r',rfl,he,f,r2,rfl,hf,rfl⟩:=hw;obtain⟨x,rfl,hx⟩:=wfX hd;obtain⟨g,rfl,ht⟩:=wfT he;obtain⟨c,rfl,-⟩:=wfI hf;simp only[yu,mG,gGo,uD,uE,z9,zf,j6,uB,uA] at hg;obtain⟨h1,h2,rfl⟩:=hg;have hp:=q1b.1 h2;have hr:=zm g;rw[qqf];have eis:∀(s:ByteArray)(n:Int),gIs [eT g,.s s,.i n]=some [.b (isT g s n)]:=fun s n=>by
  simp only[gIs,z9,qh3,j6]
 have ebx:gTb qxt [eT g]=some [.b (qxt g)]:=by simp only[gTb,z9]
 have ent:gNT q1d [.i x.nv]=some [eT (q1d x.nv)]:=rfl;have hN:rho g≤N:=by omega
 rw[q2q];simp only[y7,y3,qbz];simp only[gnZ,gnT,qp,qj,qn,qc,qq,qt,qr,qo,qm,ql,qu,qk,qh,qi,qg,zf,zs,zq,zp,zo,zr,qw,z0,qe,qv,zis,ziv,zju,ziu,zio,zji,zjb,zj4,eis,eOp];refine⟨fun h=>?_,fun n1=>⟨fun h=>?_,fun n2=>⟨fun h=>?_,fun n3=>⟨fun h=>?_,fun n4=>⟨fun h=>?_,fun n5=>⟨by decide,fun h=>?_,fun n6=>⟨by decide,fun h=>?_,fun n7=>⟨by decide,fun h=>?_,fun n8=>⟨by decide,?_⟩⟩⟩⟩⟩⟩⟩⟩⟩
 ·simp only[q34,show isT g q8i 0=true from h,if_true,gnF,if_false];rfl
 ·simp only[q34,show isT g q8i 0=false from n1,show isT g qa0 0=true from h,if_true,gnF,if_false];rfl
 ·simp only[q34,show isT g q8i 0=false from n1,show isT g qa0 0=false from n2,show isT g qlv 0=true from h,if_true,gnF,if_false];rfl
 ·obtain⟨hq,hl⟩:=q3x (.inl h);have p0:=zm (ag g 0);have p1:=zm (ag g 1);have e0:(D.r (g.l.map eT)).get 0=eT (ag g 0):=q5v (k:=0) (by omega);have e1:(D.r (g.l.map eT)).get 1=eT (ag g 1):=q5v (k:=1) (by omega);have hl2:(g.l.length:Int)=2:=by omega
  have b0:=y5 (ag g 0) x c;have c0:=qgv (N:=N) (x:=x) (g:=ag g 0) c (by omega) (q2i h2 (Grw.refl x) (by omega) (by omega));simp only[q34,show isT g q8i 0=false from n1,show isT g qa0 0=false from n2,show isT g qlv 0=false from n3,show isT g q3b 2=true from h,if_true,gnF,if_false];generalize hy:zg x (ag g 0) c=r1 at *;have b1:=y5 (ag g 1) r1.2 c;have c1:=qgv (N:=N) (x:=r1.2) (g:=ag g 1) c (by omega) (q2i h2 b0.1 (by omega) (by omega));have l0:=b0.2;have l1:=b1.2;simp only[e0,e1,hl2,c0,c1,uH,uJ,uD,uE,q4g,uF,true_and,and_true];refine⟨by decide,⟨by decide,by omega⟩,?_⟩;simp only[q3n,uC]
 ·have e:=qz4 (ok:=fun g=>isT g q3s 2) (N:=N) (f:=q0o zg) (x:=x) c h hN h2;simp only[e,q34,show isT g q8i 0=false from n1,show isT g qa0 0=false from n2,show isT g qlv 0=false from n3,show isT g q3b 2=false from n4,show isT g q3s 2=true from h,if_true,gnF,if_false,onR,uH,uJ,uD,uE,true_and,uM,uP]
 ·have e:=qz4 (ok:=fun g=>isT g q02 2) (N:=N) (f:=q8c zg) (x:=x) c h hN h2;simp only[e,q34,show isT g q8i 0=false from n1,show isT g qa0 0=false from n2,show isT g qlv 0=false from n3,show isT g q3b 2=false from n4,show isT g q3s 2=false from n5,show isT g q02 2=true from h,if_true,gnF,if_false,onR,uH,uJ,uD,uE,true_and,uM,uP]
 ·have e:=qz4 (ok:=fun g=>isT g qdo 1) (N:=N) (f:=fun x g _=>qfj zg x g) (x:=x) c h hN h2;simp only[e,q34,show isT g q8i 0=false from n1,show isT g qa0 0=false from n2,show isT g qlv 0=false from n3,show isT g q3b 2=false from n4,show isT g q3s 2=false from n5,show isT g q02 2=false from n6,show isT g qdo 1=true from h,if_true,gnF,if_false,onR,uH,uJ,uD,uE,true_and,uM,uP]
 ·have e:=qz4 (ok:=fun g=>isT g q8r 1) (N:=N) (f:=fun x g _=>q88 zg x g) (x:=x) c h hN h2;simp only[e,q34,show isT g q8i 0=false from n1,show isT g qa0 0=false from n2,show isT g qlv 0=false from n3,show isT g q3b 2=false from n4,show isT g q3s 2=false from n5,show isT g q02 2=false from n6,show isT g qdo 1=false from n7,show isT g q8r 1=true from h,if_true,gnF,if_false,onR,uH,uJ,uD,uE,true_and,uM,uP]
 ·have ec:=qq7 ⟨g.s,(g.l.length:Nat),0⟩ g.l;simp only[q34,show isT g q8i 0=false from n1,show isT g qa0 0=false from n2,show isT g qlv 0=false from n3,show isT g q3b 2=false from n4,show isT g q3s 2=false from n5,show isT g q02 2=false from n6,show isT g qdo 1=false from n7,show isT g q8r 1=false from n8,if_true,gnF,if_false,qdw,qde];have q0:D.a ((D.a ((ePr zPr).fs.set 0 (.s g.s))).fs.set 1 (.i (g.l.length:Nat)))=ePr ⟨g.s,(g.l.length:Nat),0⟩:=rfl;have q1:D.a ((D.a ((ePr zPr).fs.set 1 (.i 2))).fs.set 2 (.i 1099511627775))=ePr ⟨⟨#[]⟩,2,1099511627775⟩:=rfl;have q2:D.a ((D.a ((ePr zPr).fs.set 1 (.i 2))).fs.set 2 (.i 1099511627776))=ePr ⟨⟨#[]⟩,2,1099511627776⟩:=rfl;have c1:qa6 [ePr ⟨⟨#[]⟩,2,1099511627775⟩,.r [eT (q1d x.nv),eT g]]=_:=qq7 ⟨⟨#[]⟩,2,1099511627775⟩ [q1d x.nv,g];have c2:qa6 [ePr ⟨⟨#[]⟩,2,1099511627776⟩,.r [eT (q1d x.nv),eT g]]=_:=qq7 ⟨⟨#[]⟩,2,1099511627776⟩ [q1d x.nv,g];simp only[q0,q1,q2,ec,ebx,ent,uH,uJ,uD,uE,c1,c2,kS,qbb,true_and,and_true];refine⟨fun h=>?_,fun h=>⟨⟨by omega,by omega⟩,?_⟩⟩
  ·rw[if_pos h];rfl
  ·rw[if_neg (by rw[h];decide)];rfl
end
def zd0:List D→Option (List D)
 |[n]=>if decide (0≤n.int)&&decide (n.int≤1000000) then some [.r []] else none
 |_=>none
theorem qgs:FOk jl zd0:=qem fun ds outs hw hg=>by
 obtain⟨d,r,rfl,hd,rfl⟩:=hw;obtain⟨n,rfl,hn⟩:=wfI hd;unfold zd0 at hg;simp only at hg;split at hg
 ·rename_i hc;rw[gnB,gnD,gnD] at hc;obtain⟨h0,h1⟩:0≤n∧n≤1000000:=hc;injection hg with hg;subst hg;have e1:¬n<0:=by omega
  simp only[q49,gnZ,gnT,qp,qj,qn,qc,qq,qt,qr,qo,qm,ql,qu,qk,qh,qi,qg,e1,Int.sub_zero];refine⟨fun q=>(by first|exact q.elim|cases q),fun _=>⟨⟨by omega,by omega⟩,fun h2=>⟨⟨by omega,by omega,by omega,by omega⟩,by simp⟩,fun h2=>by first|trivial|rfl⟩⟩
 ·cases hg
def q9d(l:List qer):Nat:=(l.map fun o=>(qdn o).length).sum
def q3v(l:List qer):List FC:=(l.map qdn).flatten
theorem qwi(l m:List qer):q3v (l++m)=q3v l++q3v m:=by simp[q3v]
theorem qm2(l:List qer):(q3v l).length=q9d l:=by
 unfold q3v q9d;rw[List.length_flatten,uU];rfl
theorem qtv(l:List (List FC)):q3v (l.map some)=l.flatten:=by
 unfold q3v;rw[uU];have:(qdn ∘ some)=id:=funext fun l=>rfl;rw[this,uX]
theorem qfw{l:List qer}{k:Nat}(h:k<l.length):q9d (l.take (k+1))=q9d (l.take k)+(qdn (l.getD k none)).length:=by
 rw[show l.take (k+1)=l.take k++[l.getD k none] from jr h];simp[q9d]
theorem qfq(l:List qer)(k:Nat):q9d (l.take k)≤q9d l:=by
 have:q9d l=q9d (l.take k)+q9d (l.drop k):=by
  unfold q9d;rw[←List.sum_append,←uC,List.take_append_drop]
 omega
def z3d:List D→Option (List D)
 |[r]=>if q9d (r.rs.map dRo)≤1000000 then some [q7a (q3v (r.rs.map dRo))] else none
 |_=>none
theorem zj7(l:List qer):((D.r (l.map eRo)).rs.map dRo)=l:=by
 show((l.map eRo).map dRo)=l
 rw[uU];have:(dRo ∘ eRo)=id:=funext fun l=>zcj l;rw[this,uX]
theorem zci{l:List qer}(h:q9d l≤1000000):z3d [.r (l.map eRo)]=some [q7a (q3v l)]:=by
 simp only[z3d,zj7,if_pos h]
theorem qed:FOk j8 z3d:=qdt qgs fun ds outs hw hg=>by
 obtain⟨d,r,rfl,hd,rfl⟩:=hw;obtain⟨l0,rfl,hl1,hl2⟩:=hd.row_of (te:=qdv) rfl;obtain⟨l,rfl,-⟩:=qi3 (e:=eRo) (P:=fun _=>True) fun x hx=>by
  obtain⟨z,rfl,-⟩:=z0w (hl2 x hx);exact⟨z,rfl,trivial⟩
 have e:LM qdv=5864062014634:=by kernel_rfl
 rw[uF,e] at hl1;simp only[z3d,zj7,uB,uA] at hg;obtain⟨hs,rfl⟩:=hg;rw[q3k,yp];refine⟨fun st=>∃k:Nat,k≤l.length∧st=[.i (q9d (l.take k):Nat),.i k],fun st=>l.length - (st.getD 1 .u).int.toNat,⟨0,uG _,by simp[X.evs,X.ev,q9d]⟩,?_⟩;rintro st - ⟨k,hk,rfl⟩;have hle:=qfq l k;rw[y3];refine⟨fun hlt=>?_,fun hlt=>?_⟩
 ·simp only[gnZ,gnT,qp,qj,qn,qc,qq,qt,qr,qo,qm,ql,qu,qk,qh,qi,qg,zf,zs,zq,zp,zo,zr,qw,z0,qe,qv] at hlt;have hkl:k<l.length:=by omega
  have hle2:=qfq l (k+1);rw[qfw hkl] at hle2;have e0:(D.r (l.map eRo)).get (k:Int)=eRo (l.getD k none):=qd9 eRo hkl;have e1:(eRo (l.getD k none)).rs.length=(qdn (l.getD k none)).length:=by rw[z48,uF]
  simp only[gnZ,gnT,qp,qj,qn,qc,qq,qt,qr,qo,qm,ql,qu,qk,qh,qi,qg,zf,zs,zq,zp,zo,zr,qw,z0,qe,qv,e0,e1];refine⟨⟨by omega,by omega⟩,⟨by omega,by omega⟩,fun q=>by omega,fun _=>⟨⟨by omega,by omega⟩,?_⟩⟩;rw[q1u,if_pos rfl];refine⟨⟨k+1,by omega,?_⟩,by simp[D.int];omega⟩;rw[qfw hkl];simp
 ·simp only[gnZ,gnT,qp,qj,qn,qc,qq,qt,qr,qo,qm,ql,qu,qk,qh,qi,qg,zf,zs,zq,zp,zo,zr,qw,z0,qe,qv] at hlt;obtain rfl:k=l.length:=by omega
  rw[uK] at *;have hgr:zd0 [.i (q9d l:Nat)]=some [.r []]:=by
   have q1:decide ((0:Int)≤(q9d l:Nat))=true:=decide_eq_true (by omega);have q2:decide (((q9d l:Nat):Int)≤1000000)=true:=decide_eq_true (by omega);unfold zd0;simp only;rw[if_pos (by rw[gnB];exact⟨q1,q2⟩)]
  rw[y7];refine⟨by simp only[gnZ,gnT,qp,qj,qn,qc,qq,qt,qr,qo,qm,ql,qu,qk,qh,qi,qg,zf,zs,zq,zp,zo,zr,qw,z0,qe,qv,hgr],?_⟩;rw[yp];refine⟨fun st=>∃k:Nat,k≤l.length∧st=[q7a (q3v (l.take k)),.i k],fun st=>l.length - (st.getD 1 .u).int.toNat,⟨0,uG _,by simp[X.evs,X.ev,evl,ym,hgr,q7a,q4g,q3v]⟩,?_⟩;rintro st - ⟨k,hk,rfl⟩;have hle:=qfq l k;rw[y3];refine⟨fun hlt=>?_,fun hlt=>?_⟩
  ·simp only[gnZ,gnT,qp,qj,qn,qc,qq,qt,qr,qo,qm,ql,qu,qk,qh,qi,qg,zf,zs,zq,zp,zo,zr,qw,z0,qe,qv] at hlt;have hkl:k<l.length:=by omega
   have hle2:=qfq l (k+1);rw[qfw hkl] at hle2;have e0:(D.r (l.map eRo)).get (k:Int)=eRo (l.getD k none):=qd9 eRo hkl;have e1:(eRo (l.getD k none)).rs.length=(qdn (l.getD k none)).length:=by rw[z48,uF]
   have e2:(q7a (q3v (l.take k))).rs.length=q9d (l.take k):=by
    show((q3v (l.take k)).map eFC).length=_
    rw[uF,qm2]
   simp only[gnZ,gnT,qp,qj,qn,qc,qq,qt,qr,qo,qm,ql,qu,qk,qh,qi,qg,zf,zs,zq,zp,zo,zr,qw,z0,qe,qv,e0,e1,e2];refine⟨⟨by omega,by omega⟩,by omega,⟨by omega,by omega⟩,?_⟩;rw[q1u,if_pos rfl];refine⟨⟨k+1,by omega,?_⟩,by simp[D.int];omega⟩;rw[show l.take (k+1)=l.take k++[l.getD k none] from jr hkl,qwi];simp[q7a,q4g,z48,q3v]
  ·simp only[gnZ,gnT,qp,qj,qn,qc,qq,qt,qr,qo,qm,ql,qu,qk,qh,qi,qg,zf,zs,zq,zp,zo,zr,qw,z0,qe,qv] at hlt⊢;obtain rfl:k=l.length:=by omega
   rw[uK]
def mxI(m v:Int):Int:=if m<v+1 then v+1 else m
def qhd(m:Int)(t:Te):Int:=(q45 t).foldl mxI m
def q1x(l:List Te):Int:=l.foldl qhd 0
def qt5(t:Te):Bool:=(q45 t).all fun v=>decide (-1≤v)&&decide (v≤1099511627776)
def z7u:List D→Option (List D)
 |[l]=>if(l.rs.map dT).all qt5 then some [.i (q1x (l.rs.map dT))] else none
 |_=>none
theorem zbw{l:List Te}(h:l.all qt5=true):z7u [.r (l.map eT)]=some [.i (q1x l)]:=by
 simp only[z7u,q4g,q1t,if_pos h]
theorem gmem{α:Type}{l:List α}{k:Nat}{d:α}(h:k<l.length):l.getD k d∈l:=by
 rw[gnG,gnK h];exact List.getElem_mem h
theorem qgx:FOk q0d z7u:=qs1 qk2 fun ds outs hw hg=>by
 obtain⟨d,r,rfl,hd,rfl⟩:=hw;obtain⟨l,rfl,hl,-⟩:=qib hd;simp only[z7u,q4g,q1t,uB,uA] at hg;obtain⟨hv,rfl⟩:=hg;rw[q90,yp];refine⟨fun st=>∃k:Nat,k≤l.length∧st=[.i ((l.take k).foldl qhd 0),.i k],fun st=>l.length - (st.getD 1 .u).int.toNat,⟨0,uG _,rfl⟩,?_⟩;rintro st - ⟨k,hk,rfl⟩;rw[y3];refine⟨fun hlt=>?_,fun hlt=>?_⟩
 ·simp only[gnZ,gnT,qp,qj,qn,qc,qq,qt,qr,qo,qm,ql,qu,qk,qh,qi,qg,zf,zs,zq,zp,zo,zr,qw,z0,qe,qv] at hlt;have hkl:k<l.length:=by omega
  have hvs:=qg8 (l.getD k default);have e0:(D.r (l.map eT)).get (k:Int)=eT (l.getD k default):=q16 hkl;have e1:z1l q45 [eT (l.getD k default)]=some [eIs (q45 (l.getD k default))]:=by simp only[z1l,z9]
  have hok:=uN.1 hv _ (gmem (d:=default) hkl);unfold qt5 at hok;have hfold:(l.take (k+1)).foldl qhd 0=(q45 (l.getD k default)).foldl mxI ((l.take k).foldl qhd 0):=by
   rw[jr hkl,kF];rfl
  generalize (l.take k).foldl qhd 0=m at *;generalize q45 (l.getD k default)=vs at *;simp only[y7,gnZ,gnT,qp,qj,qn,qc,qq,qt,qr,qo,qm,ql,qu,qk,qh,qi,qg,zf,zs,zq,zp,zo,zr,qw,z0,qe,qv,e0,e1];refine⟨⟨by omega,by omega⟩,?_⟩;rw[yp];refine⟨fun st=>∃j:Nat,j≤vs.length∧st=[.i ((vs.take j).foldl mxI m),.i j],fun st=>vs.length - (st.getD 1 .u).int.toNat,⟨0,uG _,rfl⟩,?_⟩;rintro st - ⟨j,hj,rfl⟩;rw[y3];refine⟨fun hlt2=>?_,fun hlt2=>?_⟩
  ·simp only[gnZ,gnT,qp,qj,qn,qc,qq,qt,qr,qo,qm,ql,qu,qk,qh,qi,qg,zf,zs,zq,zp,zo,zr,qw,z0,qe,qv,e0,e1,q1w] at hlt2;have hjl:j<vs.length:=by omega
   have hb:=uN.1 hok _ (gmem (d:=0) hjl);simp only[gnB,gnD] at hb;simp only[gnZ,gnT,qp,qj,qn,qc,qq,qt,qr,qo,qm,ql,qu,qk,qh,qi,qg,zf,zs,zq,zp,zo,zr,qw,z0,qe,qv,e0,e1,q1w,qiv hjl];refine⟨⟨by omega,by omega⟩,⟨by omega,by omega⟩,⟨by omega,by omega⟩,?_⟩;rw[q1u,if_pos rfl];refine⟨⟨j+1,by omega,?_⟩,by simp[D.int];omega⟩;rw[show vs.take (j+1)=vs.take j++[vs.getD j 0] from jr hjl,kF]
   show _=[D.i (if _<_ then _ else _),_]
   split<;>rfl
  ·simp only[gnZ,gnT,qp,qj,qn,qc,qq,qt,qr,qo,qm,ql,qu,qk,qh,qi,qg,zf,zs,zq,zp,zo,zr,qw,z0,qe,qv,e0,e1,q1w] at hlt2;obtain rfl:j=vs.length:=by omega
   rw[uK];simp only[gnZ,gnT,qp,qj,qn,qc,qq,qt,qr,qo,qm,ql,qu,qk,qh,qi,qg,zf,zs,zq,zp,zo,zr,qw,z0,qe,qv];refine⟨by omega,?_⟩;rw[q1u,if_neg (by decide),q1u,if_pos rfl];refine⟨⟨k+1,by omega,?_⟩,by simp[D.int];omega⟩;rw[hfold];rfl
 ·simp only[gnZ,gnT,qp,qj,qn,qc,qq,qt,qr,qo,qm,ql,qu,qk,qh,qi,qg,zf,zs,zq,zp,zo,zr,qw,z0,qe,qv] at hlt⊢;obtain rfl:k=l.length:=by omega
  rw[uK];rfl
section
def q5b(x:X24)(h:FC)(b:Te):List FG×X24:=if q07 b then q3n (h.g++[opG 2 x.nv],x.var) (fun y=>zg y b x.nv) else zg x b 0
def q8h(x:X24)(h:FC)(b:Te):List FC:=⟨h.p,h.l,(q5b x h b).1⟩::q3v (q5b x h b).2.aux
def q54(x:X24)(h:FC)(b:Te):List FC×Int×X24:=if(q8h x h b).all q0p then(q8h x h b,0,(q5b x h b).2) else([],2,(q5b x h b).2)
def okW(x:X24)(h:FC)(b:Te):Bool:=qak (1+2 * rho b) (rho b) x&&decide (h.g.length≤1000000)&&decide (q9d (q5b x h b).2.aux≤1000000)
def zfh:List D→Option (List D)
 |[x,h,b]=>if okW (dX x) (dFC h) (dT b) then some [q7a (q54 (dX x) (dFC h) (dT b)).1,.i (q54 (dX x) (dFC h) (dT b)).2.1,eX (q54 (dX x) (dFC h) (dT b)).2.2] else none
 |_=>none
theorem z9n{x:X24}{h:FC}{b:Te}(hk:okW x h b=true):zfh [eX x,eFC h,eT b]=some [q7a (q54 x h b).1,.i (q54 x h b).2.1,eX (q54 x h b).2.2]:=by
 simp only[zfh,zf,qg,z9,if_pos hk]
theorem zfx{x:X24}{g:Te}(c:Int)(h2:qak (2 * rho g) (rho g) x=true):gGo [eX x,eT g,.i c]=some [.r ((zg x g c).1.map eFG),eX (zg x g c).2]:=by
 simp only[gGo,z9,zf,j6,if_pos h2]
theorem qzw(h:FC)(a:FG):D.a ((eFC h).fs.set 2 (.r (h.g.map eFG++[eFG a])))=eFC ⟨h.p,h.l,h.g++[a]⟩:=by
 show _=D.a [_,_,.r ((h.g++[a]).map eFG)]
 rw[uC];rfl
theorem zfc(h:FC)(m:List FG):D.a ((eFC h).fs.set 2 (.r (h.g.map eFG++m.map eFG)))=eFC ⟨h.p,h.l,h.g++m⟩:=by
 show _=D.a [_,_,.r ((h.g++m).map eFG)]
 rw[uC];rfl
theorem zaa(p:Pr)(l:List Te)(g m:List FG):D.a ((eFC ⟨p,l,g⟩).fs.set 2 (.r (g.map eFG++m.map eFG)))=eFC ⟨p,l,g++m⟩:=zfc ⟨p,l,g⟩ m
theorem zd8(h:FC)(m:List FG):D.a ((eFC h).fs.set 2 (.r (m.map eFG)))=eFC ⟨h.p,h.l,m⟩:=rfl
def zk3(xr xx:X):Tree:=(.loop 8 3 [(.lit (.r [])),(.lit (.i 0)),(.lit (.i 0))] (.br (.lt (.tok 5) (.len xr)) (.need [(.le (.lit (.i 0)) (.tok 5)),(.lt (.tok 5) (.len xr))] (.need [(.ok 5 [(.get xr (.tok 5))])] (.br (.not (.call 5 0 [(.get xr (.tok 5))])) (.leaf [(.lit (.r [])),(.lit (.i 2)),xx]) (.need [(.rng .i64 (.add (.tok 5) (.lit (.i 1))))] (.back 8 [(.tok 3),(.tok 4),(.add (.tok 5) (.lit (.i 1)))]))))) (.leaf [xr,(.lit (.i 0)),xx])))
theorem zfy(f:FC→Bool)(c:FC):gFb f [eFC c]=some [.b (f c)]:=by simp only[gFb,qg]
section
variable{t0 t1 t2 t3 t4 t5:Ct}
theorem qzu{d0 d1 d2:D}{rows:List FC}{dx:D}{xr xx:X}{R:List D→Prop}
  (hr:∀s0 s1 s2,xr.ev (evl (ym [(t0,gTb q07),(t1,fun _=>none),(t2,gOp),(t3,gGo),(t4,z3d),(t5,gFb q0p)]) [d0,d1,d2,s0,s1,s2])=.r (rows.map eFC))
  (hx:∀s0 s1 s2,xx.ev (evl (ym [(t0,gTb q07),(t1,fun _=>none),(t2,gOp),(t3,gGo),(t4,z3d),(t5,gFb q0p)]) [d0,d1,d2,s0,s1,s2])=dx)(hl:rows.length≤4000000)
  (hR:R [.r ((if rows.all q0p then rows else[]).map eFC),.i (if rows.all q0p then 0 else 2),dx]):(zk3 xr xx).go (ym [(t0,gTb q07),(t1,fun _=>none),(t2,gOp),(t3,gGo),(t4,z3d),(t5,gFb q0p)]) R [d0,d1,d2] fun _ _=>False:=by
 unfold zk3;simp only[evl] at hr hx;rw[yp];refine⟨fun st=>∃k:Nat,k≤rows.length∧(∀j,j<k→q0p (rows.getD j default)=true)∧st=[.r [],.i 0,.i k],fun st=>rows.length - (st.getD 2 .u).int.toNat,⟨0,uG _,fun j hj=>absurd hj (uQ _),rfl⟩,?_⟩;rintro st - ⟨k,hk,hP,rfl⟩;rw[y3];refine⟨fun hlt=>?_,fun hlt=>?_⟩
 ·simp only[gnZ,gnT,qp,qj,qn,qc,qq,qt,qr,qo,qm,ql,qu,qk,qh,qi,qg,zf,zs,zq,zp,zo,zr,qw,z0,qe,qv,hr] at hlt;have hkl:k<rows.length:=by omega
  simp only[gnZ,gnT,qp,qj,qn,qc,qq,qt,qr,qo,qm,ql,qu,qk,qh,qi,qg,zf,zs,zq,zp,zo,zr,qw,z0,qe,qv,hr,hx,qd9 eFC hkl,zfy];refine⟨⟨by omega,by omega⟩,fun hv=>?_,fun hv=>⟨⟨by omega,by omega⟩,?_⟩⟩
  ·simp only[kH] at hv;have:rows.all q0p=false:=by
    rw[kV];exact⟨_,gmem hkl,by rw[hv];decide⟩
   rw[this] at hR;exact hR
  ·simp only[kA] at hv;rw[q1u,if_pos rfl];refine⟨⟨k+1,by omega,fun j hj=>?_,rfl⟩,by simp[D.int];omega⟩;by_cases h:j<k
   ·exact hP j h
   ·obtain rfl:j=k:=by omega
    exact hv
 ·simp only[gnZ,gnT,qp,qj,qn,qc,qq,qt,qr,qo,qm,ql,qu,qk,qh,qi,qg,zf,zs,zq,zp,zo,zr,qw,z0,qe,qv,hr] at hlt;simp only[gnZ,gnT,qp,qj,qn,qc,qq,qt,qr,qo,qm,ql,qu,qk,qh,qi,qg,zf,zs,zq,zp,zo,zr,qw,z0,qe,qv,hr,hx];obtain rfl:k=rows.length:=by omega
  have:rows.all q0p=true:=uN.2 fun t ht=>by
   obtain⟨j,hj,rfl⟩:=kD ht;have:=hP j hj;rwa [gnG,gnK hj] at this
  rw[this] at hR;exact hR
end
theorem qcp(l:List qer):(q3v l).length=q9d l:=qm2 l
theorem qgt:FOk zl zfh:=qba q6n qjz qa8 qye qed qv6 fun ds outs hw hg=>by
 obtain⟨d,r,rfl,hd,e,r',rfl,he,f,r2,rfl,hf,rfl⟩:=hw;obtain⟨x,rfl,hx⟩:=wfX hd;obtain⟨h,rfl,hh⟩:=qzo he;obtain⟨b,rfl,hb⟩:=wfT hf;simp only[zfh,zf,qg,z9,uB,uA] at hg;obtain⟨hk,rfl⟩:=hg;simp only[okW,gnB,gnD] at hk;obtain⟨⟨h2,hgl⟩,hs⟩:=hk;have hp:=q1b.1 h2;have ec:gTb q07 [eT b]=some [.b (q07 b)]:=by simp only[gTb,z9]
 have fin:∀dx,dx=(q5b x h b).2→(fun o=>o=[q7a (q54 x h b).1,.i (q54 x h b).2.1,eX (q54 x h b).2.2]) [D.r ((if(q8h x h b).all q0p then q8h x h b else[]).map eFC),.i (if(q8h x h b).all q0p then 0 else 2),eX dx]:=fun dx hdx=>by
  subst hdx;unfold q54;cases hv:(q8h x h b).all q0p<;>rfl
 have hrl:(q8h x h b).length≤4000000:=by
  unfold q8h;rw[uL,qcp];omega
 rw[q2a,y7,y3];refine⟨by simp only[gnZ,gnT,qp,qj,qn,qc,qq,qt,qr,qo,qm,ql,qu,qk,qh,qi,qg,zf,zs,zq,zp,zo,zr,qw,z0,qe,qv,ec],fun hc=>?_,fun hc=>?_⟩
 ·simp only[gnZ,gnT,qp,qj,qn,qc,qq,qt,qr,qo,qm,ql,qu,qk,qh,qi,qg,zf,zs,zq,zp,zo,zr,qw,z0,qe,qv,ec] at hc;have c0:=zfx (x:=x.var) (g:=b) x.nv (q2i h2 (Grw.var x) (by omega) (by omega));have b0:=y5 b x.var x.nv;have hraw:q5b x h b=(h.g++[opG 2 x.nv]++(zg x.var b x.nv).1,(zg x.var b x.nv).2):=by
   unfold q5b;rw[if_pos hc];rfl
  have hb1:=b0.2;rw[hraw] at hs;have hs:q9d (zg x.var b x.nv).2.aux≤1000000:=hs;have hcc:=zci hs;simp only[y7];refine⟨by simp only[gnZ,gnT,qp,qj,qn,qc,qq,qt,qr,qo,qm,ql,qu,qk,qh,qi,qg,zf,zs,zq,zp,zo,zr,qw,z0,qe,qv];omega,by simp only[gnZ,gnT,qp,qj,qn,qc,qq,qt,qr,qo,qm,ql,qu,qk,qh,qi,qg,zf,zs,zq,zp,zo,zr,qw,z0,qe,qv,eOp];omega,by simp only[gnZ,gnT,qp,qj,qn,qc,qq,qt,qr,qo,qm,ql,qu,qk,qh,qi,qg,zf,zs,zq,zp,zo,zr,qw,z0,qe,qv,eOp,c0,qzw,uO,uL,kL];omega,by simp only[gnZ,gnT,qp,qj,qn,qc,qq,qt,qr,qo,qm,ql,qu,qk,qh,qi,qg,zf,zs,zq,zp,zo,zr,qw,z0,qe,qv,c0,hcc,q7a,qcp];omega,?_⟩;refine qzu (rows:=q8h x h b) (dx:=eX (q5b x h b).2) (fun s0 s1 s2=>?_) (fun s0 s1 s2=>?_) hrl (fin _ rfl)
  ·simp only[gnZ,gnT,qp,qj,qn,qc,qq,qt,qr,qo,qm,ql,qu,qk,qh,qi,qg,zf,zs,zq,zp,zo,zr,qw,z0,qe,qv,eOp,c0,qzw,zaa,hcc,q8h,hraw,q7a];rfl
  ·simp only[gnZ,gnT,qp,qj,qn,qc,qq,qt,qr,qo,qm,ql,qu,qk,qh,qi,qg,zf,zs,zq,zp,zo,zr,qw,z0,qe,qv,c0,hraw]
 ·simp only[gnZ,gnT,qp,qj,qn,qc,qq,qt,qr,qo,qm,ql,qu,qk,qh,qi,qg,zf,zs,zq,zp,zo,zr,qw,z0,qe,qv,ec] at hc;have c0:=zfx (x:=x) (g:=b) 0 (q2i h2 (Grw.refl x) (by omega) (by omega));have hraw:q5b x h b=zg x b 0:=by
   unfold q5b;rw[if_neg (by rw[hc];decide)]
  rw[hraw] at hs;have hcc:=zci hs;simp only[y7];refine⟨by simp only[gnZ,gnT,qp,qj,qn,qc,qq,qt,qr,qo,qm,ql,qu,qk,qh,qi,qg,zf,zs,zq,zp,zo,zr,qw,z0,qe,qv,c0],by simp only[gnZ,gnT,qp,qj,qn,qc,qq,qt,qr,qo,qm,ql,qu,qk,qh,qi,qg,zf,zs,zq,zp,zo,zr,qw,z0,qe,qv,c0,hcc,q7a,qcp];omega,?_⟩;refine qzu (rows:=q8h x h b) (dx:=eX (q5b x h b).2) (fun s0 s1 s2=>?_) (fun s0 s1 s2=>?_) hrl (fin _ rfl)
  ·simp only[gnZ,gnT,qp,qj,qn,qc,qq,qt,qr,qo,qm,ql,qu,qk,qh,qi,qg,zf,zs,zq,zp,zo,zr,qw,z0,qe,qv,eOp,c0,zd8,hcc,q8h,hraw,q7a];rfl
  ·simp only[gnZ,gnT,qp,qj,qn,qc,qq,qt,qr,qo,qm,ql,qu,qk,qh,qi,qg,zf,zs,zq,zp,zo,zr,qw,z0,qe,qv,c0,hraw]
end
def q3r(h:Te):FC:=⟨⟨h.s,(h.l.length:Nat),0⟩,h.l.map yv,[]⟩
def jm(c:Cla)(f:Int)(tr:Bool):X24:=⟨q1x [c.1,c.2],f,tr,[]⟩
def q2j(c:Cla)(f:Int)(tr:Bool):List FC×Int:=
 if(!q03 c||decide (f<1))||decide (1099511623776<f) then([],1) else((q54 (jm c f tr) (q3r c.1) c.2).1,(q54 (jm c f tr) (q3r c.1) c.2).2.1)
def okC(c:Cla)(f:Int)(tr:Bool):Bool:=((!q03 c||decide (f<1))||decide (1099511623776<f))||((qt5 c.1&&qt5 c.2)&&okW (jm c f tr) (q3r c.1) c.2)
def zbt:List D→Option (List D)
 |[c,f,t]=>if okC (dK c) f.int t.tt then some [q7a (q2j (dK c) f.int t.tt).1,.i (q2j (dK c) f.int t.tt).2] else none
 |_=>none
theorem zco(p:Pr)(l:List Te)(t:Te):D.a ((eFC ⟨p,l,[]⟩).fs.set 1 (.r (l.map eT++[eT t])))=eFC ⟨p,l++[t],[]⟩:=by
 show _=D.a [_,.r ((l++[t]).map eT),_]
 rw[uC];rfl
theorem qf8:FOk q0u zbt:=qpj quk qgx q6l qgt fun ds outs hw hg=>by
 obtain⟨d,r,rfl,hd,e,r',rfl,he,f,r2,rfl,hf,rfl⟩:=hw;obtain⟨c,rfl,hc1,hc2⟩:=wfK hd;obtain⟨n,rfl,-⟩:=wfI he;obtain⟨t,rfl⟩:=hf.bool;simp only[zbt,qe1,j6,qbb,uB,uA] at hg;obtain⟨hk,rfl⟩:=hg;have ev:gKb q03 [eK c]=some [.b (q03 c)]:=by simp only[gKb,qe1]
 rw[q83,y7,y3,qbz,y7];refine⟨by simp only[gnZ,gnT,qp,qj,qn,qc,qq,qt,qr,qo,qm,ql,qu,qk,qh,qi,qg,zf,zs,zq,zp,zo,zr,qw,z0,qe,qv,ev],fun hc=>?_,fun hc=>?_⟩
 ·simp only[gnZ,gnT,qp,qj,qn,qc,qq,qt,qr,qo,qm,ql,qu,qk,qh,qi,qg,zf,zs,zq,zp,zo,zr,qw,z0,qe,qv,ev] at hc;unfold q2j;rw[if_pos hc];rfl
 ·simp only[gnZ,gnT,qp,qj,qn,qc,qq,qt,qr,qo,qm,ql,qu,qk,qh,qi,qg,zf,zs,zq,zp,zo,zr,qw,z0,qe,qv,ev] at hc;unfold q2j;rw[if_neg (by rw[hc];decide)];unfold okC at hk;rw[hc,kC,gnB,gnB] at hk;obtain⟨⟨v1,v2⟩,hk⟩:=hk;have ha:z7u [.r [eT c.1,eT c.2]]=some [.i (q1x [c.1,c.2])]:=zbw (l:=[c.1,c.2]) (by simp[v1,v2]);refine⟨by simp only[gnZ,gnT,qp,qj,qn,qc,qq,qt,qr,qo,qm,ql,qu,qk,qh,qi,qg,zf,zs,zq,zp,zo,zr,qw,z0,qe,qv,q8v,qc4,ha],?_⟩;rw[yp];refine⟨fun st=>∃k:Nat,k≤c.1.l.length∧st=[.i k,eFC ⟨⟨c.1.s,(c.1.l.length:Nat),0⟩,(c.1.l.take k).map yv,[]⟩],fun st=>c.1.l.length - (st.getD 0 .u).int.toNat,⟨0,uG _,?_⟩,?_⟩
  ·simp only[gnZ,gnT,qp,qj,qn,qc,qq,qt,qr,qo,qm,ql,qu,qk,qh,qi,qg,zf,zs,zq,zp,zo,zr,qw,z0,qe,qv,q8v];rfl
  rintro st - ⟨k,hkk,rfl⟩;rw[y3];have hln:=hc1.l;refine⟨fun hlt=>?_,fun hlt=>?_⟩
  ·simp only[gnZ,gnT,qp,qj,qn,qc,qq,qt,qr,qo,qm,ql,qu,qk,qh,qi,qg,zf,zs,zq,zp,zo,zr,qw,z0,qe,qv,q8v] at hlt;have hkl:k<c.1.l.length:=by omega
   simp only[gnZ,gnT,qp,qj,qn,qc,qq,qt,qr,qo,qm,ql,qu,qk,qh,qi,qg,zf,zs,zq,zp,zo,zr,qw,z0,qe,qv,q8v,q16 hkl,qj0,uW];refine⟨⟨by omega,by omega⟩,by omega,⟨by omega,by omega⟩,?_⟩;rw[q1u,if_pos rfl];refine⟨⟨k+1,by omega,?_⟩,by simp[D.int];omega⟩;rw[jr hkl,uC,zco];rfl
  ·simp only[gnZ,gnT,qp,qj,qn,qc,qq,qt,qr,qo,qm,ql,qu,qk,qh,qi,qg,zf,zs,zq,zp,zo,zr,qw,z0,qe,qv,q8v] at hlt;obtain rfl:k=c.1.l.length:=by omega
   have hw:=z9n hk;have e1:D.a (((D.a [D.a [D.i 0,D.i 0],D.b false,D.r []]).fs.set 0 (D.a [D.i (q1x [c.1,c.2]),D.i n])).set 1 (D.b t))=eX (jm c n t):=rfl;have e2:eFC ⟨⟨c.1.s,(c.1.l.length:Nat),0⟩,c.1.l.map yv,[]⟩=eFC (q3r c.1):=rfl;rw[uK,e2];have e3:D.a ((D.a ((D.a [D.a [D.i 0,D.i 0],D.b false,D.r []]).fs.set 0 (D.a [D.i (q1x [c.1,c.2]),D.i n]))).fs.set 1 (D.b t))=eX (jm c n t):=rfl;simp only[gnZ,gnT,qp,qj,qn,qc,qq,qt,qr,qo,qm,ql,qu,qk,qh,qi,qg,zf,zs,zq,zp,zo,zr,qw,z0,qe,qv,q8v,qc4,ha,e3,hw]
def z5r(g:Te)(f:Int):FC:=⟨⟨⟨#[]⟩,((q5g g).length:Nat),f⟩,q5g g,[]⟩
def z8y(g:Te)(f:Int):Bool:=((!(q3l g).2|| !q6o g (q3l g).1)||decide (f<1))||decide (1099511623776<f)
def qyg(g:Te)(f:Int)(tr:Bool):X24:=⟨q1x [g],f+1,tr,[]⟩
def z5c(g:Te)(f:Int)(tr:Bool):List FC×Int:=
 if z8y g f then([],1) else if 1099511625777<q1x [g] then([],2) else((q54 (qyg g f tr) (z5r g f) g).1,(q54 (qyg g f tr) (z5r g f) g).2.1)
def okG(g:Te)(f:Int)(tr:Bool):Bool:=z8y g f||(qt5 g&&(decide (1099511625777<q1x [g])||okW (qyg g f tr) (z5r g f) g))
def zi0:List D→Option (List D)
 |[g,f,t]=>if okG (dT g) f.int t.tt then some [q7a (z5c (dT g) f.int t.tt).1,.i (z5c (dT g) f.int t.tt).2] else none
 |_=>none
theorem qza:FOk q51 zi0:=quy qdh qdd qgx q6f qgt fun ds outs hw hg=>by
 obtain⟨d,r,rfl,hd,e,r',rfl,he,f,r2,rfl,hf,rfl⟩:=hw;obtain⟨g,rfl,hgg⟩:=wfT hd;obtain⟨n,rfl,-⟩:=wfI he;obtain⟨t,rfl⟩:=hf.bool;simp only[zi0,z9,j6,qbb,uB,uA] at hg;obtain⟨hk,rfl⟩:=hg;have e1:qce q3l [eT g]=some [eT (q3l g).1,.b (q3l g).2]:=by simp only[qce,z9]
 have e2:q6v q6o [eT g,eT (q3l g).1]=some [.b (q6o g (q3l g).1)]:=by simp only[q6v,z9]
 have e4:qtb q5g [eT g]=some [.r ((q5g g).map eT)]:=by simp only[qtb,z9]
 rw[qaq];simp only[y7,y3,qbz];refine⟨by simp only[gnZ,gnT,qp,qj,qn,qc,qq,qt,qr,qo,qm,ql,qu,qk,qh,qi,qg,zf,zs,zq,zp,zo,zr,qw,z0,qe,qv,e1],by simp only[gnZ,gnT,qp,qj,qn,qc,qq,qt,qr,qo,qm,ql,qu,qk,qh,qi,qg,zf,zs,zq,zp,zo,zr,qw,z0,qe,qv,e1,e2],fun hc=>?_,fun hc=>?_⟩
 ·simp only[gnZ,gnT,qp,qj,qn,qc,qq,qt,qr,qo,qm,ql,qu,qk,qh,qi,qg,zf,zs,zq,zp,zo,zr,qw,z0,qe,qv,e1,e2] at hc;have hc:z8y g n=true:=hc;unfold z5c;rw[if_pos hc];rfl
 ·simp only[gnZ,gnT,qp,qj,qn,qc,qq,qt,qr,qo,qm,ql,qu,qk,qh,qi,qg,zf,zs,zq,zp,zo,zr,qw,z0,qe,qv,e1,e2] at hc;have hc:z8y g n=false:=hc;unfold okG at hk;rw[hc,kC,gnB] at hk;obtain⟨v1,hk⟩:=hk;have hn:1≤n∧n≤1099511623776:=by
   simp only[z8y,uY,decide_eq_false_iff_not] at hc;omega
  have ha:z7u [.r [eT g]]=some [.i (q1x [g])]:=zbw (l:=[g]) (by simp[v1]);unfold z5c;rw[if_neg (by rw[hc];decide)];refine⟨by simp only[gnZ,gnT,qp,qj,qn,qc,qq,qt,qr,qo,qm,ql,qu,qk,qh,qi,qg,zf,zs,zq,zp,zo,zr,qw,z0,qe,qv,ha],fun h3=>?_,fun h3=>?_⟩
  ·simp only[gnZ,gnT,qp,qj,qn,qc,qq,qt,qr,qo,qm,ql,qu,qk,qh,qi,qg,zf,zs,zq,zp,zo,zr,qw,z0,qe,qv,ha] at h3;rw[if_pos h3];rfl
  ·simp only[gnZ,gnT,qp,qj,qn,qc,qq,qt,qr,qo,qm,ql,qu,qk,qh,qi,qg,zf,zs,zq,zp,zo,zr,qw,z0,qe,qv,ha] at h3;rw[if_neg h3];rw[decide_eq_false h3,kC] at hk;have hw:=z9n hk;have e5:D.a ((D.a ((D.a [D.a [D.i 0,D.i 0],D.b false,D.r []]).fs.set 0 (D.a [D.i (q1x [g]),D.i (n+1)]))).fs.set 1 (D.b t))=eX (qyg g n t):=rfl;have e6:D.a ((D.a ((D.a [ePr zPr,D.r [],D.r []]).fs.set 0 (D.a ((D.a ((ePr zPr).fs.set 1 (.i ((q5g g).length:Nat)))).fs.set 2 (.i n))))).fs.set 1 (.r ((q5g g).map eT)))=eFC (z5r g n):=rfl;simp only[gnZ,gnT,qp,qj,qn,qc,qq,qt,qr,qo,qm,ql,qu,qk,qh,qi,qg,zf,zs,zq,zp,zo,zr,qw,z0,qe,qv,e4,ha,e5,e6,hw];exact⟨by omega,by omega⟩
def q3p:Ct:=⟨9,[],[(.bool,false)],[],none,[],[]⟩
theorem qjt:EnZ q3p:=fun _ _=>by kernel_rfl
def qe2:Ann:=⟨[0,1,2,82,161,223],[]⟩
def zhr:List D→Option (List D)
 |[n]=>some [eT (.mk 0 n.int ⟨#[]⟩ [])]
 |_=>none
theorem z3q:FOk q7m zhr:=z1p fun ds outs hw hg=>by
 obtain⟨d,r,rfl,hd,rfl⟩:=hw;obtain⟨n,rfl,hn⟩:=wfI hd;simp only[zhr,j6,uA] at hg;subst hg;simp only[qdi,gnZ,gnT];rfl
def zid:List D→Option (List D)
 |[s]=>some [eT (.mk 2 0 s.str [])]
 |_=>none
theorem z2s:FOk q7o zid:=z11 fun ds outs hw hg=>by
 obtain⟨d,r,rfl,hd,rfl⟩:=hw;obtain⟨s,rfl,hs⟩:=hd.str;simp only[zid,qh3,uA] at hg;subst hg;simp only[qdc,gnZ,gnT];rfl
def zhs:List D→Option (List D)
 |[s,l]=>some [eT (.mk 3 0 s.str (l.rs.map dT))]
 |_=>none
theorem z36:FOk q74 zhs:=z1x fun ds outs hw hg=>by
 obtain⟨d,r,rfl,hd,e,r',rfl,he,rfl⟩:=hw;obtain⟨s,rfl,hs⟩:=hd.str;obtain⟨l,rfl,hl,-⟩:=qib he;simp only[zhs,qh3,q4g,q1t,uA] at hg;subst hg;simp only[qdl,gnZ,gnT,q6c];rfl
theorem z49{ct:Ct}{tbl:Tbl}{outs:List D}{fuel:Nat}(ann:Ann)(fn:Func)(cd:Code)(htb:q35 tbl)(hf:Try.prog.funcs[ct.f]? =some fn)(hb:fn.body=some cd)
  (hen:∀args w,(callFunc ct.f args).run Try.prog w=.ok (.enter ct.f args) w)(hsz:ct.ar.length≤fn.ntmps)(har:ct.ars=[])(hden:zh1 tbl fuel (qf3 Try.prog tbl ann ct fn cd) []=some outs)(hnp:z64 tbl=true)(hkp:ct.kp=[])(hfl:ct.fl=[]):FOk ct fun _=>some outs:=
 zc8 ann fn cd htb hf hb hen hsz (fun ds o hw hg=>by
  rw[har] at hw;obtain rfl:ds=[]:=hw;injection hg with hg;subst hg;exact zf9 hden) hnp hkp hfl
def z4p:Ct:=⟨29,[],[(.st 4242424242,true)],[],none,[],[]⟩
theorem zev:FOk z4p fun _=>none:=FOk.none qh4
noncomputable def awC:Code:=match Try.f9.body with
 |some c=>c
 |none=>.skip
def zh3:Tbl:=[(z4p,fun _=>none),(q7o,zid),(q74,zhs),(q0u,zbt),(q7m,zhr),(q51,zi0),(q01,q6v q6o)]
theorem zdk:q35 zh3:=.cons zev (.cons z2s (.cons z36 (.cons qf8 (.cons z3q (.cons qza (.cons qcf .nil))))))
theorem zgu:zh1 zh3 12 (qf3 Try.prog zh3 qe2 q3p Try.f9 awC) []=some [.b true]:=by kernel_rfl
theorem qtd:FOk q3p fun _=>some [.b true]:=z49 qe2 Try.f9 awC zdk (by kernel_rfl) (by kernel_rfl) qjt (by decide) (by kernel_rfl) zgu (by kernel_rfl) (by kernel_rfl) (by kernel_rfl)
mutual
theorem qfl:∀(t:Te){u:Te},j4 t=true→jq t=some u→j4 u=true
 | .mk k n s l, u, hn, hb => by
  rw[jq] at hb;split at hb
  ·injection hb with hb;subst hb;exact qmv (by decide) (by simp) (by simp) fun t ht=>by rw[uT.1 ht];exact hn
  split at hb
  ·rename_i hbr;split at hb
   ·rename_i m hm;injection hb with hb;subst hb;rw[j4,gnB] at hn;have hl:=(q4i hbr).1;have hk:=(q4i hbr).2;have hl:l.length=2:=hl;have hk:k=3:=hk;obtain⟨h1,h2⟩:=qj6 l hn.2 hm;have hs:s.size≤100:=by
     have:=hn.1;rw[qd4,hk,if_neg (by decide),if_neg (by decide),if_neg (by decide),if_pos rfl] at this;simp only[gnB,gnD] at this;omega
    exact qmv hs (by omega) (by omega) (q5w.1 h2)
   ·cases hb
  split at hb
  ·injection hb with hb;subst hb;exact hn
  ·cases hb
theorem qj6:∀(l:List Te){m:List Te},q36 l=true→q2k l=some m→m.length=l.length∧q36 m=true
 |[],m,_,hb=>by
  rw[q2k] at hb;injection hb with hb;subst hb;exact⟨rfl,rfl⟩
 | t :: l, m, hn, hb => by
  rw[q2k] at hb;rw[q36,gnB] at hn;split at hb
  ·rename_i x y hx hy;injection hb with hb;subst hb;obtain⟨h1,h2⟩:=qj6 l hn.2 hy;exact⟨by simp[h1],by rw[q36,qfl t hn.1 hx,h2];rfl⟩
  ·cases hb
end
def Gdl(b:Te):Prop:=j4 b=true∧∃a,jq a=some b
theorem Gdl.kind{b:Te}(h:Gdl b):b.k=2∨b.k=3:=by
 obtain⟨-,a,ha⟩:=h;rw[qcr] at ha;split at ha
 ·injection ha with ha;subst ha;exact .inr rfl
 split at ha
 ·split at ha
  ·injection ha with ha;subst ha;exact .inr rfl
  ·cases ha
 split at ha
 ·rename_i hc;injection ha with ha;subst ha;simpa only[qas,uS,gnD] using hc
 ·cases ha
theorem qg6{b:Te}(h:j4 b=true){j:Nat}(hj:j<b.l.length):j4 (ag b j)=true:=by
 cases b with
 |mk k n s l=>
  rw[j4,gnB] at h;exact q5w.1 h.2 _ (gmem hj)
theorem qre:∀{l m:List Te}{j:Nat},q2k l=some m→j<m.length→∃a,jq a=some (m.getD j default)
 |[],m,j,h,hj=>by
  rw[q2k] at h;injection h with h;subst h;exact absurd hj (uQ _)
 | t :: l, m, j, h, hj => by
  rw[q2k] at h;split at h
  ·rename_i x y hx hy;injection h with h;subst h;cases j with
   |zero=>exact⟨t,hx⟩
   |succ j=>exact qre (j:=j) hy (by simpa using hj)
  ·cases h
theorem Gdl.arg{b:Te}(h:Gdl b)(hc:isT b q3b 2=true∨isT b q3s 2=true∨isT b q02 2=true){j:Nat}(hj:j<2):Gdl (ag b j):=by
 have hl:=(q3x hc).2;refine⟨qg6 h.1 (by omega),?_⟩;obtain⟨hn,a,ha⟩:=h;have hk3:b.k=3:=by
  have hk:b.k=2∨b.k=3:=by
   rcases hc with h|h|h<;>(simp only[isT,gnB,uS,gnD] at h;exact h.1.1)
  rcases hk with hk|hk
  ·exfalso;rw[qhp,gnB] at hn;have h1:=hn.1;cases b with
   |mk k n s l=>
    have hk:k=2:=hk;have hl:l.length=2:=hl;rw[qd4,hk] at h1;simp at h1;have:l=[]:=by first|exact h1.1.2|exact h1.2|simp_all
    rw[this] at hl;cases hl
  ·exact hk
 rw[qcr] at ha;split at ha
 ·injection ha with ha;subst ha;cases hl
 split at ha
 ·split at ha
  ·rename_i m hm;injection ha with ha;subst ha;exact qre hm (by have:m.length=2:=hl;omega)
  ·cases ha
 split at ha
 ·rename_i hnb _;injection ha with ha;subst ha;exfalso;apply hnb;have hs:a.s=q3b∨a.s=q3s∨a.s=q02:=by
   rcases hc with h|h|h
   ·exact .inl (z91 h)
   ·exact .inr (.inl (z91 h))
   ·exact .inr (.inr (z91 h))
  simp only[q19,hk3,hl,gnB,uS,gnD];refine⟨⟨trivial,by decide⟩,?_⟩;rcases hs with h|h|h
  ·exact .inl (.inl h)
  ·exact .inl (.inr h)
  ·exact .inr h
 ·cases ha
theorem Gdl.inner{a:Te}(h:j4 a=true):Gdl (zi a):=by
 unfold zi;split
 ·rename_i hg;have hb:=qig hg;exact⟨qfl a h hb,a,hb⟩
 ·refine⟨qmv (by decide) (by simp) (by simp) fun t ht=>by rw[uT.1 ht];exact h,.mk 3 0 qna [a],?_⟩;rw[qcr,if_neg (by simp[Te.k]),if_neg (by simp[q19,Te.k,Te.l]),if_pos (by simp[qas,Te.k])]
def qea(tr:Bool)(g:FG):Bool:=decide (g.k=1)&&(!decide (g.p.x=0)&&(!tr||decide (g.p.x<1099511627775)))
def okg(g:FG):Bool:= !(decide (g.k=1)&&decide (g.p.x=0)&&zd4 g.p.s g.p.a)
def q8x(tr:Bool)(gs:List FG):List Pr:=(gs.filter (qea tr)).map (·.p)
def qdf(tr:Bool)(cs:List FC):List Pr:=q8x tr (cs.map (·.g)).flatten
theorem z44(tr:Bool)(a b:List FG):q8x tr (a++b)=q8x tr a++q8x tr b:=by simp[q8x]
theorem qqh(tr:Bool)(a b:List FC):qdf tr (a++b)=qdf tr a++qdf tr b:=by simp[qdf,q8x]
def hP(e:List FC):Pr:=(e.getD 0 default).p
structure Ety(n:Int)(e:List FC):Prop where
 len:e.length=1∨e.length=2
 x:(hP e).x=n
 pr:∀r∈e,r.p=hP e
 ok:∀r∈e,r.g.all okg=true
 gl:∀r∈e,r.g.length≤9000000000000
def quj:Int→List (List FC)→Prop
 |_,[]=>True
 |n,e::l=>Ety n e∧quj (n+1) l
theorem quj.app:∀{l:List (List FC)}{m:List (List FC)}{n:Int},quj n l→quj (n+l.length) m→quj n (l++m)
 |[],m,n,_,h=>by simpa using h
 |e::l,m,n,h1,h2=>⟨h1.1,quj.app h1.2 (by
  have:n+((e::l).length:Int)=n+1+(l.length:Int):=by simp;omega
  rwa [this] at h2)⟩
structure Dfn(tr:Bool)(x:X24)(gs:List FG)(y:X24)(m:Nat):Prop where
 xt:x.tr=tr
 yt:y.tr=tr
 ok:gs.all okg=true
 ex:∃new:List (List FC),y.aux=x.aux++new.map some∧y.na=x.na+new.length∧new.length≤m∧quj x.na new∧(q8x tr gs++qdf tr new.flatten).Perm (new.map hP)
theorem Dfn.mono{tr:Bool}{x y:X24}{gs:List FG}{m m':Nat}(h:Dfn tr x gs y m)(hm:m≤m'):Dfn tr x gs y m':=⟨h.xt,h.yt,h.ok,by
 obtain⟨new,a,b,c,d,e⟩:=h.ex;exact⟨new,a,b,uV c hm,d,e⟩⟩
theorem Dfn.na{tr:Bool}{x y:X24}{gs:List FG}{m:Nat}(h:Dfn tr x gs y m):x.na≤y.na∧y.na≤x.na+m:=by
 obtain⟨new,a,b,c,d,e⟩:=h.ex;omega
theorem Dfn.app{tr:Bool}{x y z:X24}{a b:List FG}{m k:Nat}(h:Dfn tr x a y m)(h':Dfn tr y b z k):Dfn tr x (a++b) z (m+k):=⟨h.xt,h'.yt,by rw[List.all_append,h.ok,h'.ok];rfl,by
 obtain⟨n1,a1,a2,a3,a4,a5⟩:=h.ex;obtain⟨n2,b1,b2,b3,b4,b5⟩:=h'.ex;refine⟨n1++n2,by rw[b1,a1,uR,uC],by rw[b2,a2,uO];push_cast;omega,by rw[uO];omega,a4.app (by rw[←a2];exact b4),?_⟩;rw[List.flatten_append,z44,qqh,uC];refine kQ.trans ?_ (a5.append b5);rw[uR,uR];refine kQ.append_left _ ?_;rw[←uR,←uR];exact kQ.append_right _ List.perm_append_comm⟩
theorem Dfn.ops{tr:Bool}{x y:X24}{gs:List FG}(hx:x.tr=tr)(hy:y.tr=tr)(ha:y.aux=x.aux)(hn:y.na=x.na)(h1:gs.all okg=true)(h2:gs.filter (qea tr)=[]):Dfn tr x gs y 0:=
 ⟨hx,hy,h1,[],by simp[ha],by simp[hn],uI _,trivial,by simp[q8x,qdf,h2]⟩
def qnu(tr:Bool)(r:Rec)(g:Te):Prop:=∀(x:X24)(c:Int),x.tr=tr→1≤x.na→x.na+(rho g:Int)≤1099511627775→Dfn tr x (r x g c).1 (r x g c).2 (rho g - 1)
def Bod(tr:Bool)(r:List (List FG)×X24)(x:X24)(m:Nat):Prop:=Dfn tr x r.1.flatten r.2 m∧(r.1.length=1∨r.1.length=2)
theorem qmz(k v:Int)(hk:k≠1)(tr:Bool):okg (opG k v)=true∧qea tr (opG k v)=false:=by
 simp[okg,qea,opG,hk]
theorem zhh{tr:Bool}{x y:X24}{k v k' v':Int}(hk:k≠1)(hk':k'≠1)(hx:x.tr=tr)(hy:y.tr=tr)(ha:y.aux=x.aux)(hn:y.na=x.na):Dfn tr x [opG k v,opG k' v'] y 0:=
 Dfn.ops hx hy ha hn (by simp[qmz _ _ hk tr,qmz _ _ hk' tr]) (by simp[qmz _ _ hk tr,qmz _ _ hk' tr])
theorem z7l{tr:Bool}{x y:X24}{k v:Int}(hk:k≠1)(hx:x.tr=tr)(hy:y.tr=tr)(ha:y.aux=x.aux)(hn:y.na=x.na):Dfn tr x [opG k v] y 0:=
 Dfn.ops hx hy ha hn (by simp[qmz _ _ hk tr]) (by simp[qmz _ _ hk tr])
theorem qc1{tr:Bool}{r:Rec}{g:Te}(h:qnu tr r g){x0 x:X24}{gs:List FG}{m:Nat}(h0:Dfn tr x0 gs x m)(h1:1≤x0.na)(h2:x0.na+m+rho g≤1099511627775)(c:Int):Dfn tr x (r x g c).1 (r x g c).2 (rho g - 1):=by
 have:=h0.na;exact h x c h0.yt (by omega) (by omega)
theorem zfd{tr:Bool}{r:Rec}{a b:Te}(ha:qnu tr r a)(hb:qnu tr r b){x:X24}(hx:x.tr=tr)(h1:1≤x.na)(h2:x.na+rho a+rho b≤1099511627775)(c:Int):Dfn tr x (qya r x a b c).1 (qya r x a b c).2 (rho a - 1+(rho b - 1)):=by
 have p:=zm a;have q:=zm b;have d0:Dfn tr x [opG 2 x.nv,opG 3 (x.nv+1)] x.var.var 0:=zhh (by decide) (by decide) hx hx rfl rfl;have d1:=d0.app (qc1 ha d0 h1 (by omega) (x.nv+1));have d2:=d1.app (z7l (k:=4) (v:=x.nv) (by decide) d1.yt d1.yt rfl rfl);have d3:=d2.app (qc1 hb d2 h1 (by omega) c);exact d3.mono (by omega)
theorem qw5{tr:Bool}{r:Rec}{a:Te}(ha:qnu tr r a){x:X24}(hx:x.tr=tr)(h1:1≤x.na)(h2:x.na+rho a≤1099511627775):Dfn tr x (q5c r x a).1 (q5c r x a).2 (rho a - 1):=by
 have d0:Dfn tr x [opG 3 x.nv] x.var 0:=z7l (by decide) hx hx rfl rfl;have d1:=d0.app (qc1 ha d0 h1 (by omega) x.nv);have d2:=d1.app (z7l (k:=4) (v:=x.nv) (by decide) d1.yt d1.yt rfl rfl);exact d2.mono (by omega)
theorem z2j{tr:Bool}{r:Rec}{g:Te}(hg:isT g q3s 2=true)(gd:Gdl g)(h:∀g',Gdl g'→rho g'<rho g→qnu tr r g'){x:X24}(hx:x.tr=tr)(h1:1≤x.na)(h2:x.na+rho g≤1099511627776)(c:Int):Bod tr (q0o r x g c) x (rho g - 2):=by
 have hr:=(q3x (.inr (.inl hg))).1;have p0:=zm (ag g 0);have p1:=zm (ag g 1);have g0:=gd.arg (.inr (.inl hg)) (j:=0) (by omega);have g1:=gd.arg (.inr (.inl hg)) (j:=1) (by omega);unfold q0o;split
 ·rename_i ha;have hr2:=(q3x (.inr (.inr ha))).1;have q0:=zm (ag (ag g 0) 0);have q1:=zm (ag (ag g 0) 1);have d:=zfd (h _ (g0.arg (.inr (.inr ha)) (j:=0) (by omega)) (by omega)) (h _ (g0.arg (.inr (.inr ha)) (j:=1) (by omega)) (by omega)) hx h1 (by omega) c;have d2:=d.app (qc1 (h _ g1 (by omega)) d h1 (by omega) c);exact⟨by simpa[qvs] using d2.mono (by omega),.inr rfl⟩
 ·have d:=h _ g0 (by omega) x c hx h1 (by omega);have d2:=d.app (qc1 (h _ g1 (by omega)) d h1 (by omega) c);exact⟨by simpa[qvs] using d2.mono (by omega),.inr rfl⟩
theorem zbb{tr:Bool}{r:Rec}{g:Te}(hg:isT g q02 2=true)(gd:Gdl g)(h:∀g',Gdl g'→rho g'<rho g→qnu tr r g'){x:X24}(hx:x.tr=tr)(h1:1≤x.na)(h2:x.na+rho g≤1099511627776)(c:Int):Bod tr (q8c r x g c) x (rho g - 2):=by
 have hr:=(q3x (.inr (.inr hg))).1;have p0:=zm (ag g 0);have p1:=zm (ag g 1);have g0:=gd.arg (.inr (.inr hg)) (j:=0) (by omega);have g1:=gd.arg (.inr (.inr hg)) (j:=1) (by omega);have d:=qw5 (h _ g0 (by omega)) hx h1 (by omega);have d2:=d.app (qc1 (h _ g1 (by omega)) d h1 (by omega) c);exact⟨by simpa[q8c,qus,q3n] using d2.mono (by omega),.inl rfl⟩
theorem zef{tr:Bool}{r:Rec}{g:Te}(hg:isT g qdo 1=true)(gd:Gdl g)(h:∀g',Gdl g'→rho g'<rho g→qnu tr r g'){x:X24}(hx:x.tr=tr)(h1:1≤x.na)(h2:x.na+rho g≤1099511627776):Bod tr (qfj r x g) x (rho g - 2):=by
 obtain⟨hr,hl⟩:=qbl (.inl hg);have p0:=zm (zi (ag g 0));have hi:=q2t (ag g 0);have g0:Gdl (zi (ag g 0)):=Gdl.inner (qg6 gd.1 (by omega));have d0:Dfn tr x [opG 2 x.nv,opG 3 (x.nv+1)] x.var.var 0:=zhh (by decide) (by decide) hx hx rfl rfl;have d1:=d0.app (qc1 (h _ g0 (by omega)) d0 h1 (by omega) (x.nv+1));have d2:=d1.app (zhh (k:=4) (v:=x.nv) (k':=5) (v':=0) (by decide) (by decide) d1.yt d1.yt rfl rfl);exact⟨by simpa[qfj,noX,q3n] using d2.mono (by omega),.inr rfl⟩
theorem zao{tr:Bool}{r:Rec}{g:Te}(hg:isT g q8r 1=true)(gd:Gdl g)(h:∀g',Gdl g'→rho g'<rho g→qnu tr r g'){x:X24}(hx:x.tr=tr)(h1:1≤x.na)(h2:x.na+rho g≤1099511627776):Bod tr (q88 r x g) x (rho g - 2):=by
 obtain⟨hr,hl⟩:=qbl (.inr hg);have p0:=zm (zi (ag g 0));have hi:=q2t (ag g 0);have g0:Gdl (zi (ag g 0)):=Gdl.inner (qg6 gd.1 (by omega));have d:=qw5 (h _ g0 (by omega)) hx h1 (by omega);exact⟨by simpa[q88,qus] using d.mono (by omega),.inl rfl⟩
theorem zh4(g:Te)(c:Int)(x:X24)(l:List (List FG)):(q2v g c x l).map (·.g)=l:=by
 unfold q2v;rw[uU];exact uX l
theorem qin{tr:Bool}{b:X24→List (List FG)×X24}{x:X24}{g:Te}{c:Int}{m:Nat}(h:Bod tr (b x.pred) x.pred m)(h1:1≤x.na)(h2:x.na<1099511627775)(hgl:∀gs∈(b x.pred).1,gs.length≤9000000000000):Dfn tr x (onR (q1r b x g c)).1 (onR (q1r b x g c)).2 (m+1):=by
 obtain⟨hd,hl⟩:=h;obtain⟨hx,hy,hok,new,a1,a2,a3,a4,a5⟩:=hd;unfold q1r onR;generalize b x.pred=R at *;have e0:x.pred.na=x.na+1:=rfl;have e1:x.pred.aux=x.aux++[none]:=rfl;rw[e0] at a2 a4;rw[e1] at a1;refine⟨hx,hy,by simp[okg,q1p,q53,show ¬x.na=0 by omega],q2v g c x R.1::new,?_,?_,by simp;omega,⟨⟨by simpa[q2v] using hl,?_,?_,?_,?_⟩,a4⟩,?_⟩
 ·show R.2.aux.set x.aux.length (some (q2v g c x R.1))=_
  rw[a1];simp
 ·show R.2.na=_
  rw[a2,uL]
  push_cast
  omega
 ·have:hP (q2v g c x R.1)=q53 g c x:=by
   unfold hP q2v;have:0<R.1.length:=by omega
   simp[gnG,this]
  rw[this];rfl
 ·have:hP (q2v g c x R.1)=q53 g c x:=by
   unfold hP q2v;have:0<R.1.length:=by omega
   simp[gnG,this]
  rw[this];intro r hr;simp only[q2v,kR] at hr;obtain⟨a,-,rfl⟩:=hr;rfl
 ·intro r hr;simp only[q2v,kR] at hr;obtain⟨a,ha,rfl⟩:=hr;rw[uN] at hok⊢;exact fun q hq=>hok q (List.mem_flatten.2 ⟨a,ha,hq⟩)
 ·intro r hr;simp only[q2v,kR] at hr;obtain⟨a,ha,rfl⟩:=hr;exact hgl a ha
 ·have hpp:hP (q2v g c x R.1)=q53 g c x:=by
   unfold hP q2v;have:0<R.1.length:=by omega
   simp[gnG,this]
  rw[kG,qqh,uM,hpp];have e3:qdf tr (q2v g c x R.1)=q8x tr R.1.flatten:=by
   unfold qdf;rw[zh4]
  have e4:q8x tr [q1p (q53 g c x) (q15 g c)]=[q53 g c x]:=by
   have:qea tr (q1p (q53 g c x) (q15 g c))=true:=by
    simp[qea,q1p,q53,show ¬x.na=0 by omega,h2]
   simp[q8x,this];rfl
  rw[e3,e4];exact kQ.cons _ a5
theorem z6r{tr:Bool}{x:X24}{g:Te}(hx:x.tr=tr)(hc:zd4 g.s (g.l.length:Nat)=false):Dfn tr x (qdw x g).1 (qdw x g).2 0:=by
 have o1:okg (qde g)=true:=by simp[okg,qde,q1p,hc]
 have o2:∀t,qea t (qde g)=false:=fun t=>by simp[qea,qde,q1p]
 unfold qdw;split
 ·exact Dfn.ops hx hx rfl rfl (by simp[o1]) (by simp[o2])
 ·rename_i hb;have ht:x.tr=true:=by
   cases h:x.tr with
   |true=>rfl
   |false=>simp[h] at hb
  rw[ht] at hx;subst hx;refine Dfn.ops ht ht rfl rfl ?_ ?_
  ·have o3:∀l,okg (q1p ⟨⟨#[]⟩,2,1099511627776⟩ l)=true:=fun l=>by simp[okg,q1p]
   have o4:∀l,okg (q1p ⟨⟨#[]⟩,2,1099511627775⟩ l)=true:=fun l=>by simp[okg,q1p]
   simp only[List.all_cons,List.all_nil,o1,o3,o4,kE]
  ·have o3:∀l,qea true (q1p ⟨⟨#[]⟩,2,1099511627776⟩ l)=false:=fun l=>by simp[qea,q1p]
   have o4:∀l,qea true (q1p ⟨⟨#[]⟩,2,1099511627775⟩ l)=false:=fun l=>by simp[qea,q1p]
   simp[o2,o3,o4]
theorem z9e{g:Te}(gd:Gdl g)(n1:¬isT g q8i 0=true)(n2:¬isT g qa0 0=true)(n3:¬isT g qlv 0=true)(n4:¬isT g q3b 2=true)(n5:¬isT g q3s 2=true)(n6:¬isT g q02 2=true)(n7:¬isT g qdo 1=true)(n8:¬isT g q8r 1=true):zd4 g.s (g.l.length:Nat)=false:=by
 have hk:=gd.kind;have is:∀s(n:Int),isT g s n=true↔g.s=s∧((g.l.length:Nat):Int)=n:=fun s n=>by
  simp only[isT,gnB,uS,gnD];exact⟨fun h=>⟨h.1.2,h.2⟩,fun h=>⟨⟨hk,h.1⟩,h.2⟩⟩
 rw[is] at n1 n2 n3 n4 n5 n6 n7 n8;unfold zd4;rw[decide_eq_false_iff_not];rintro(⟨h|h|h,hn⟩|⟨h|h|h,hn⟩|⟨h|h,hn⟩)
 ·exact n1 ⟨h,hn⟩
 ·exact n2 ⟨h,hn⟩
 ·exact n3 ⟨h,hn⟩
 ·exact n4 ⟨h,hn⟩
 ·exact n5 ⟨h,hn⟩
 ·exact n6 ⟨h,hn⟩
 ·exact n7 ⟨h,hn⟩
 ·exact n8 ⟨h,hn⟩
theorem z2f{r:Rec}{g:Te}(hg:isT g q3s 2=true)(h:∀g',rho g'<rho g→qew r g')(x:X24)(c:Int):∀gs∈(q0o r x g c).1,gs.length≤3 * rho g+1:=by
 have hr:=(q3x (.inr (.inl hg))).1;unfold q0o;split
 ·rename_i ha;have hr2:=(q3x (.inr (.inr ha))).1;have b0:=(z5k (h (ag (ag g 0) 0) (by omega)) (h (ag (ag g 0) 1) (by omega)) x c).2;have b1:=(h (ag g 1) (by omega) (qya r x (ag (ag g 0) 0) (ag (ag g 0) 1) c).2 c).2;intro gs hgs;simp only[qvs,kB,kJ,or_false] at hgs;rcases hgs with rfl|rfl<;>omega
 ·have b0:=(h (ag g 0) (by omega) x c).2;have b1:=(h (ag g 1) (by omega) (r x (ag g 0) c).2 c).2;intro gs hgs;simp only[qvs,kB,kJ,or_false] at hgs;rcases hgs with rfl|rfl<;>omega
theorem za5{r:Rec}{g:Te}(hg:isT g q02 2=true)(h:∀g',rho g'<rho g→qew r g')(x:X24)(c:Int):∀gs∈(q8c r x g c).1,gs.length≤3 * rho g+1:=by
 have hr:=(q3x (.inr (.inr hg))).1;have b:=(q4x (f:=fun y=>r y (ag g 1) c) (qd0 (h (ag g 0) (by omega)) x) (h (ag g 1) (by omega) _ c)).2;intro gs hgs;simp only[q8c,qus,uT] at hgs;subst hgs;omega
theorem zep{r:Rec}{g:Te}(hg:isT g qdo 1=true)(h:∀g',rho g'<rho g→qew r g')(x:X24):∀gs∈(qfj r x g).1,gs.length≤3 * rho g+1:=by
 have hr:=(qbl (.inl hg)).1;have hi:=q2t (ag g 0);have b:=(z4i (h (zi (ag g 0)) (by omega)) x).2;intro gs hgs;simp only[qfj,noX,kB,kJ,or_false] at hgs;rcases hgs with rfl|rfl
 ·omega
 ·exact uG _
theorem zaz{r:Rec}{g:Te}(hg:isT g q8r 1=true)(h:∀g',rho g'<rho g→qew r g')(x:X24):∀gs∈(q88 r x g).1,gs.length≤3 * rho g+1:=by
 have hr:=(qbl (.inr hg)).1;have hi:=q2t (ag g 0);have b:=(qd0 (h (zi (ag g 0)) (by omega)) x).2;intro gs hgs;simp only[q88,qus,uT] at hgs;subst hgs;omega
theorem z8r{tr:Bool}{r:Rec}{g:Te}(gd:Gdl g)(hB:∀g',rho g'<rho g→qew r g')(h:∀g',Gdl g'→rho g'<rho g→qnu tr r g'):qnu tr (q34 r) g:=fun x c hx h1 h2=>by
 have hp:=zm g;have hxp:x.pred.tr=tr:=hx;have e0:x.pred.na=x.na+1:=rfl;unfold q34;split
 ·exact(Dfn.ops hx hx rfl rfl rfl rfl).mono (uG _)
 rename_i n1;split
 ·exact(z7l (by decide) hx hx rfl rfl).mono (uG _)
 rename_i n2;split
 ·exact(z7l (by decide) hx hx rfl rfl).mono (uG _)
 rename_i n3;split
 ·rename_i hg;have hr:=(q3x (.inl hg)).1;have p0:=zm (ag g 0);have p1:=zm (ag g 1);have d:=h _ (gd.arg (.inl hg) (j:=0) (by omega)) (by omega) x c hx h1 (by omega);exact(d.app (qc1 (h _ (gd.arg (.inl hg) (j:=1) (by omega)) (by omega)) d h1 (by omega) c)).mono (by omega)
 rename_i n4;split
 ·rename_i hg;have hr:=(q3x (.inr (.inl hg))).1;have p0:=zm (ag g 0);have p1:=zm (ag g 1);exact(qin (z2j hg gd h hxp (by omega) (by omega) c) h1 (by omega) fun gs hgs=>uV (z2f hg hB _ c gs hgs) (by omega)).mono (by omega)
 rename_i n5;split
 ·rename_i hg;have hr:=(q3x (.inr (.inr hg))).1;have p0:=zm (ag g 0);have p1:=zm (ag g 1);exact(qin (zbb hg gd h hxp (by omega) (by omega) c) h1 (by omega) fun gs hgs=>uV (za5 hg hB _ c gs hgs) (by omega)).mono (by omega)
 rename_i n6;split
 ·rename_i hg;have hr:=(qbl (.inl hg)).1;have p0:=zm (ag g 0);exact(qin (zef hg gd h hxp (by omega) (by omega)) h1 (by omega) fun gs hgs=>uV (zep hg hB _ gs hgs) (by omega)).mono (by omega)
 rename_i n7;split
 ·rename_i hg;have hr:=(qbl (.inr hg)).1;have p0:=zm (ag g 0);exact(qin (zao hg gd h hxp (by omega) (by omega)) h1 (by omega) fun gs hgs=>uV (zaz hg hB _ gs hgs) (by omega)).mono (by omega)
 rename_i n8;exact(z6r hx (z9e gd n1 n2 n3 n4 n5 n6 n7 n8)).mono (uG _)
theorem qwt{tr:Bool}:∀(n:Nat)(g:Te),Gdl g→rho g≤n→qnu tr (qng n) g
 |0,g,_,h=>by have:=zm g;omega
 |n+1,g,gd,h=>z8r gd (fun g' hg'=>qle n g' (by omega)) fun g' gd' hg'=>qwt n g' gd' (by omega)
theorem qw4{tr:Bool}{g:Te}(gd:Gdl g):qnu tr zg g:=fun x c=>qwt (rho g) g gd (uI _) x c
theorem zeo{tr:Bool}{x:X24}{h:FC}{b:Te}(gd:Gdl b)(hx:x.tr=tr)(h1:1≤x.na)(h2:x.na+(rho b:Int)≤1099511627775)(hg:h.g=[]):Dfn tr x (q5b x h b).1 (q5b x h b).2 (rho b - 1):=by
 unfold q5b;split
 ·rw[hg];have d0:Dfn tr x ([]++[opG 2 x.nv]) x.var 0:=z7l (by decide) hx hx rfl rfl;exact(d0.app (qw4 gd x.var x.nv hx h1 h2)).mono (by omega)
 ·exact qw4 gd x 0 hx h1 h2
def z82(n:Int):List FC→Option Int
 |[]=>some n
 |r::l=>if r.p.x=n then z82 (n+1) l else if r.p.x=n - 1 then z82 n l else none
theorem Ety.x_all{n:Int}{e:List FC}(h:Ety n e):∀r∈e,r.p.x=n:=fun r hr=>by rw[h.pr r hr,h.x]
theorem zbz:∀{l:List (List FC)}{n:Int},quj n l→z82 n l.flatten=some (n+l.length)
 |[],n,_=>by simp[z82]
 | e :: l, n, h => by
  have ih:=zbz h.2;have hx:=h.1.x_all;have e2:n+((e::l).length:Int)=n+1+(l.length:Int):=by simp;omega
  rw[kG,e2];rcases h.1.len with hl|hl
  ·match e,hl with
   |[r],_=>
    have h1:=hx r (by simp);simp only[kK,uZ,z82,if_pos h1,ih]
  ·match e,hl with
   |[r,q],_=>
    have h1:=hx r (by simp);have h2:=hx q (by simp);simp only[kK,uZ,z82,if_pos h1,h2,if_neg (show ¬n=n+1 by omega),if_pos (show n=n+1 - 1 by omega),ih]
theorem qqt:∀{l:List (List FC)}{n:Int},quj n l→l.flatten.length≤2 * l.length
 |[],n,_=>by simp
 |e::l,n,h=>by
  have:=qqt h.2;have:=h.1.len;rw[kG,uO,uL];omega
theorem qdj{t:Te}(h:zb t=true):qt5 t=true:=by
 unfold qt5;rw[uN];intro v hv;unfold q45 at hv;rw[if_pos h] at hv;have:=qrx t [] (jg.1 h).2 (fun x hx=>by cases hx) v hv;simp only[gnB,gnD];omega
theorem zjq{vs:List Int}:∀{m:Int},0≤m→m≤1099511627777→(∀v∈vs,v≤1099511627776)→0≤vs.foldl mxI m∧vs.foldl mxI m≤1099511627777:=by
 induction vs with
 |nil=>exact fun h1 h2 _=>⟨h1,h2⟩
 |cons v vs ih=>
  intro m h1 h2 h3;have hv:=h3 v (by simp);rw[kM];refine ih ?_ ?_ fun w hw=>h3 w (by simp[hw])
  ·unfold mxI;split<;>omega
  ·unfold mxI;split<;>omega
theorem z1m{l:List Te}(h:∀t∈l,qt5 t=true):0≤q1x l∧q1x l≤1099511627777:=by
 unfold q1x
 suffices H:∀(l:List Te)(m:Int),(∀t∈l,qt5 t=true)→0≤m→m≤1099511627777→0≤l.foldl qhd m∧l.foldl qhd m≤1099511627777 from H l 0 h (by omega) (by omega)
 intro l
 induction l with
 |nil=>exact fun m _ h1 h2=>⟨h1,h2⟩
 | cons t l ih =>
  intro m h h1 h2;have ht:=h t (by simp);unfold qt5 at ht;rw[uN] at ht;have:=zjq (vs:=q45 t) h1 h2 fun v hv=>by
   have:=ht v hv;simp only[gnB,gnD] at this;exact this.2
  rw[kM];exact ih _ (fun u hu=>h u (by simp[hu])) this.1 this.2
def zcd(c:Cla)(f:Int):Bool:=(!q03 c||decide (f<1))||decide (1099511623776<f)
structure Trn(c:Cla)(f:Int)(tr:Bool)(new:List (List FC)):Prop where
 v1:zb c.1=true
 f0:1≤f
 f1:f≤1099511623776
 aux:(q5b (jm c f tr) (q3r c.1) c.2).2.aux=new.map some
 len:new.length≤1999
 ents:quj f new
 ok:(q5b (jm c f tr) (q3r c.1) c.2).1.all okg=true
 perm:(q8x tr (q5b (jm c f tr) (q3r c.1) c.2).1++qdf tr new.flatten).Perm (new.map hP)
 glen:(q5b (jm c f tr) (q3r c.1) c.2).1.length≤10000
 okc:okC c f tr=true
theorem zct{c:Cla}{f:Int}{tr:Bool}(hb:zcd c f=false):∃new,Trn c f tr new:=by
 have hb0:=hb;simp only[zcd,uY,decide_eq_false_iff_not,kA] at hb;obtain⟨⟨hv,hf1⟩,hf2⟩:=hb;simp only[q03,gnB,gnD] at hv;obtain⟨⟨hv1,hc1⟩,hfit,hv2,hbu,-,-⟩:=hv;have hz:=(qeq c).1 hfit;have hz1:=qg5 c.1;have hr:=z3c c.2;have hr0:=zm c.2;have gd:Gdl c.2:=⟨(jg.1 hv2).2,c.2,hbu⟩;have o1:=qdj hv1;have o2:=qdj hv2;have ha:=z1m (l:=[c.1,c.2]) (by simp[o1,o2]);have e1:(jm c f tr).na=f:=rfl;have e2:(jm c f tr).nv=q1x [c.1,c.2]:=rfl;have e3:(jm c f tr).aux=[]:=rfl;have d:=zeo (h:=q3r c.1) gd (show(jm c f tr).tr=tr from rfl) (by rw[e1];omega) (by rw[e1];omega) rfl;obtain⟨-,-,hok,new,a1,a2,a3,a4,a5⟩:=d;rw[e3,uZ] at a1;rw[e1] at a4;have hfl:=qqt a4;have hgl:(q5b (jm c f tr) (q3r c.1) c.2).1.length≤10000:=by
  unfold q5b;split
  ·have:=(y5 c.2 (jm c f tr).var (jm c f tr).nv).2
   show(_++_:List FG).length≤_
   rw[uO]
   show([]++[opG 2 _]:List FG).length+_≤_
   simp only[uZ,List.length_singleton];omega
  ·have:=(y5 c.2 (jm c f tr) 0).2;omega
 refine⟨new,hv1,by omega,by omega,a1,by omega,a4,hok,a5,hgl,?_⟩;unfold okC;rw[show((!q03 c||decide (f<1))||decide (1099511623776<f))=false from hb0,o1,o2];simp only[kC,kP,kE];unfold okW;rw[gnB,gnB,gnD,gnD,a1];refine⟨⟨?_,uG _⟩,?_⟩
 ·rw[q1b,e1,e2,e3];simp only[kL];exact⟨by omega,by omega,by omega,by omega,by omega,by omega⟩
 ·rw[←qcp,qtv];omega
theorem zfa(c:Cla)(f:Int)(tr:Bool):okC c f tr=true:=by
 cases hb:zcd c f with
 |false=>exact(zct hb).choose_spec.okc
 |true=>
  unfold okC;rw[show((!q03 c||decide (f<1))||decide (1099511623776<f))=true from hb];rfl
theorem zi7(c:Cla)(f:Int)(tr:Bool):zbt [eK c,.i f,.b tr]=some [q7a (q2j c f tr).1,.i (q2j c f tr).2]:=by
 simp only[zbt,qe1,j6,qbb,zfa,if_true]
theorem zgr{t u:Te}(h:u∈t.l):szT u≤szT t:=by
 cases t with
 | mk k n s l =>
  have:∀l:List Te,u∈l→szT u≤q28 l:=by
   intro l
   induction l with
   |nil=>intro h;cases h
   | cons a l ih =>
    intro h;rw[q28];rcases kB.1 h with rfl|h
    ·omega
    ·have:=ih h;omega
  have:=this l h;rw[szT];omega
def qx:Ct:=⟨61,[.ref (.st 60) true,.val (.st 23),.val (.int .i64)],[(.row 42,true)],[],none,[],[]⟩
theorem q4f:EnZ qx:=fun _ _=>by kernel_rfl
def zj:Ct:=⟨88,[.ref (.st 60) true,.val (.st 23),.val (.int .i64)],[(.row 42,true)],[],none,[],[]⟩
theorem q6i:EnZ zj:=fun _ _=>by kernel_rfl
def qbf:Ann:=⟨[0,1,2,4,6,7,8,9,12,17,23,42,70],[]⟩
def q2d:Tree:=
 let a:X:=.tok 1
 let e:X:=.lit (.i 0)
 let f:X:=.lit (.i 1)
 let g:X:=.tok 0
 let h:X:=.tok 2
 let k:X:=.lit (.i 2)
 let l:X:=.lit (.s ⟨#[116,114,117,101]⟩)
 let m:X:=.lit (.s ⟨#[102,97,105,108]⟩)
 let n:X:=.lit (.s ⟨#[111,110,99,101]⟩)
 let q:X:=.lit (.i 1099511627775)
 let r:X:=.lit (.i 1099511627776)
 let s:X:=.lit (.s ⟨#[33]⟩)
 let t:X:=.lit (.s ⟨#[44]⟩)
 let u:X:=.lit (.s ⟨#[59]⟩)
 let b:X:=.set (.set (.lit (.a [(.i 0),(.i 0),(.s ⟨#[]⟩),(.r [])])) 0 e) 1 (.call 6 0 [g])
 let c:X:=.or (.call 0 0 [a,u,k]) (.call 0 0 [a,(.lit (.s ⟨#[45,62]⟩)),k])
 let i:X:=.fld a 3
 let d:X:=.call 2 1 [g,(.get i e),h]
 let j:X:=.or c (.call 0 0 [a,(.lit (.s ⟨#[92,43]⟩)),f])
 let o:X:=.call 2 0 [g,(.get i e),h]
 let p:X:=.call 2 0 [d,(.get i f),h]
 (.need [(.ok 0 [a,l,e])] (.br (.call 0 0 [a,l,e]) (.leaf [(.lit (.r [])),g]) (.need [(.ok 0 [a,m,e])] (.br (.call 0 0 [a,m,e]) (.need [(.ok 1 [(.lit (.i 5)),e])] (.leaf [(.row [(.call 1 0 [(.lit (.i 5)),e])]),g])) (.need [(.ok 0 [a,s,e])] (.br (.call 0 0 [a,s,e]) (.need [(.ok 1 [(.lit (.i 4)),h])] (.leaf [(.row [(.call 1 0 [(.lit (.i 4)),h])]),g])) (.need [(.ok 0 [a,t,k])] (.br (.call 0 0 [a,t,k]) (.need [(.lit (.b .true)),(.lt e (.len i)),(.ok 2 [g,(.get i e),h])] (.need [(.lit (.b .true)),(.lt f (.len i)),(.ok 2 [d,(.get i f),h]),(.le (.add (.len o) (.len p)) (.lit (.i 1954687338211)))] (.leaf [(.app o p),(.call 2 1 [d,(.get i f),h])]))) (.need [(.ok 0 [a,u,k]),(.imp (.not (.call 0 0 [a,u,k])) (.ok 0 [a,(.lit (.s ⟨#[45,62]⟩)),k])),(.imp (.not c) (.ok 0 [a,(.lit (.s ⟨#[92,43]⟩)),f])),(.imp (.not j) (.ok 0 [a,n,f]))] (.br (.or j (.call 0 0 [a,n,f])) (.need [(.ok 3 [g,a,h])] (.leaf [(.call 3 0 [g,a,h]),(.call 3 1 [g,a,h])])) (.need [(.imp (.not (.not (.fld g 3))) (.ok 4 [a]))] (.br (.or (.not (.fld g 3)) (.not (.call 4 0 [a]))) (.need [(.ok 5 [a])] (.leaf [(.row [(.call 5 0 [a])]),g])) (.need [(.ok 6 [g])] (.need [(.ok 7 [q,b,a]),(.ok 5 [a]),(.ok 7 [r,b,a])] (.leaf [(.row [(.call 7 0 [r,b,a]),(.call 5 0 [a]),(.call 7 0 [q,b,a])]),(.call 6 1 [g])])))))))))))))))
theorem qb0(g0 g1 g2 g3 g4 g5 g6 g7:GfZ):CdZ [(je,g0),(q08,g1),(qx,g2),(zj,g3),(q1h,g4),(q1n,g5),(qz,g6),(q26,g7)] qbf qx Try.f61 q2d:=fun cd h=>by injection h with h;subst h;kernel_rfl
theorem qbe{g0 g1 g2 g3 g4 g5 g6 g7 g:GfZ}(h0:FOk je g0)(h1:FOk q08 g1)(h2:FOk qx g2)(h3:FOk zj g3)(h4:FOk q1h g4)(h5:FOk q1n g5)(h6:FOk qz g6)(h7:FOk q26 g7)(h:HgZ q2d qx [(je,g0),(q08,g1),(qx,g2),(zj,g3),(q1h,g4),(q1n,g5),(qz,g6),(q26,g7)] g):FOk qx g:=yl (qb0 g0 g1 g2 g3 g4 g5 g6 g7) (.cons h0 (.cons h1 (.cons h2 (.cons h3 (.cons h4 (.cons h5 (.cons h6 (.cons h7 .nil)))))))) rfl rfl q4f (by decide) h
def yh:Ct:=⟨25,[.ref (.st 60) true,.val (.st 23)],[(.row 42,true)],[],none,[],[]⟩
theorem q9g:EnZ yh:=fun _ _=>by kernel_rfl
def qa1:Ann:=⟨[0,1,3,4,5,8],[]⟩
def q1z:Tree:=(.need [(.ok 0 [(.tok 1)])] (.br (.not (.call 0 0 [(.tok 1)])) (.need [(.ok 1 [(.tok 0),(.tok 1),(.lit (.i 0))])] (.leaf [(.call 1 0 [(.tok 0),(.tok 1),(.lit (.i 0))]),(.call 1 1 [(.tok 0),(.tok 1),(.lit (.i 0))])])) (.need [(.ok 2 [(.tok 0)])] (.need [(.le (.add (.lit (.i 1)) (.len (.call 1 0 [(.call 2 1 [(.tok 0)]),(.tok 1),(.call 2 0 [(.tok 0)])]))) (.lit (.i 1954687338211))),(.ok 1 [(.call 2 1 [(.tok 0)]),(.tok 1),(.call 2 0 [(.tok 0)])]),(.ok 3 [(.lit (.i 2)),(.call 2 0 [(.tok 0)])])] (.leaf [(.app (.row [(.call 3 0 [(.lit (.i 2)),(.call 2 0 [(.tok 0)])])]) (.call 1 0 [(.call 2 1 [(.tok 0)]),(.tok 1),(.call 2 0 [(.tok 0)])])),(.call 1 1 [(.call 2 1 [(.tok 0)]),(.tok 1),(.call 2 0 [(.tok 0)])])])))))
theorem q9k(g0 g1 g2 g3:GfZ):CdZ [(q0g,g0),(qx,g1),(qz,g2),(q08,g3)] qa1 yh Try.f25 q1z:=fun cd h=>by injection h with h;subst h;kernel_rfl
theorem qaj{g0 g1 g2 g3 g:GfZ}(h0:FOk q0g g0)(h1:FOk qx g1)(h2:FOk qz g2)(h3:FOk q08 g3)(h:HgZ q1z yh [(q0g,g0),(qx,g1),(qz,g2),(q08,g3)] g):FOk yh g:=yl (q9k g0 g1 g2 g3) (.cons h0 (.cons h1 (.cons h2 (.cons h3 .nil)))) rfl rfl q9g (by decide) h
def q0v:Ct:=⟨7,[.val (.st 25),.val (.int .i64),.val (.bool)],[(.row 38,false),(.int .i64,false)],[],none,[],[]⟩
theorem qhl:EnZ q0v:=fun _ _=>by kernel_rfl
def qlo:Ann:=⟨[0,1,2,3,6,7,8,9,10,11,22,59],[]⟩
def q6d:Tree:=
 let c:X:=.tok 0
 let d:X:=.ok 3 [(.fld (.fld c 0) 3)]
 let f:X:=.row [(.fld c 0),(.fld c 1)]
 let a:X:=.set (.set (.set (.lit (.a [(.i 0),(.i 0),(.r []),(.b .false)])) 0 (.call 2 0 [(.call 1 0 [f])])) 1 (.tok 1)) 3 (.tok 2)
 let b:X:=.set (.set (.set (.lit (.a [(.a [(.s ⟨#[]⟩),(.i 0),(.i 0)]),(.r []),(.r [])])) 0 (.set (.set (.lit (.a [(.s ⟨#[]⟩),(.i 0),(.i 0)])) 0 (.fld (.fld c 0) 2)) 1 (.len (.fld (.fld c 0) 3)))) 1 (.call 3 0 [(.fld (.fld c 0) 3)])) 2 (.call 4 0 [a,(.fld c 1)])
 let e:X:=.call 4 1 [a,(.fld c 1)]
 (.need [(.ok 0 [c])] (.br (.or (.or (.not (.call 0 0 [c])) (.lt (.tok 1) (.lit (.i 1)))) (.lt (.lit (.i 1099511623776)) (.tok 1))) (.leaf [(.lit (.r [])),(.lit (.i 1))]) (.need [(.ok 1 [f]),(.ok 2 [(.call 1 0 [f])])] (.need [d,d,d] (.need [(.ok 4 [a,(.fld c 1)])] (.need [(.ok 5 [e,b])] (.br (.not (.call 5 1 [e,b])) (.leaf [(.lit (.r [])),(.lit (.i 2))]) (.leaf [(.call 5 0 [e,b]),(.lit (.i 0))]))))))))
theorem qk4(g0 g1 g2 g3 g4 g5:GfZ):CdZ [(q1e,g0),(zu,g1),(q1f,g2),(jj,g3),(yh,g4),(y4,g5)] qlo q0v Try.f7 q6d:=fun cd h=>by injection h with h;subst h;kernel_rfl
theorem qkr{g0 g1 g2 g3 g4 g5 g:GfZ}(h0:FOk q1e g0)(h1:FOk zu g1)(h2:FOk q1f g2)(h3:FOk jj g3)(h4:FOk yh g4)(h5:FOk y4 g5)(h:HgZ q6d q0v [(q1e,g0),(zu,g1),(q1f,g2),(jj,g3),(yh,g4),(y4,g5)] g):FOk q0v g:=yl (qk4 g0 g1 g2 g3 g4 g5) (.cons h0 (.cons h1 (.cons h2 (.cons h3 (.cons h4 (.cons h5 .nil)))))) rfl rfl qhl (by decide) h
def q0l:Ct:=⟨3,[.val (.st 25),.val (.int .i64),.val (.bool)],[(.bool,false)],[],none,[],[]⟩
theorem qcu:EnZ q0l:=fun _ _=>by kernel_rfl
def qeb:Ann:=⟨[0,1,2,3,6,7,8,9,10],[]⟩
def q42:Tree:=(.need [(.ok 0 [(.tok 0),(.tok 1),(.tok 2)])] (.need [(.ok 1 [(.tok 0),(.tok 1),(.tok 2)])] (.need [(.imp (.eq (.call 0 1 [(.tok 0),(.tok 1),(.tok 2)]) (.call 1 1 [(.tok 0),(.tok 1),(.tok 2)])) (.ok 2 [(.call 0 0 [(.tok 0),(.tok 1),(.tok 2)]),(.call 1 0 [(.tok 0),(.tok 1),(.tok 2)])])),(.imp (.and (.eq (.call 0 1 [(.tok 0),(.tok 1),(.tok 2)]) (.call 1 1 [(.tok 0),(.tok 1),(.tok 2)])) (.call 2 0 [(.call 0 0 [(.tok 0),(.tok 1),(.tok 2)]),(.call 1 0 [(.tok 0),(.tok 1),(.tok 2)])])) (.ok 3 []))] (.leaf [(.and (.and (.eq (.call 0 1 [(.tok 0),(.tok 1),(.tok 2)]) (.call 1 1 [(.tok 0),(.tok 1),(.tok 2)])) (.call 2 0 [(.call 0 0 [(.tok 0),(.tok 1),(.tok 2)]),(.call 1 0 [(.tok 0),(.tok 1),(.tok 2)])])) (.call 3 0 []))]))))
theorem qdr(g0 g1 g2 g3:GfZ):CdZ [(q0u,g0),(q0v,g1),(q0m,g2),(q3p,g3)] qeb q0l Try.f3 q42:=fun cd h=>by injection h with h;subst h;kernel_rfl
theorem qeh{g0 g1 g2 g3 g:GfZ}(h0:FOk q0u g0)(h1:FOk q0v g1)(h2:FOk q0m g2)(h3:FOk q3p g3)(h:HgZ q42 q0l [(q0u,g0),(q0v,g1),(q0m,g2),(q3p,g3)] g):FOk q0l g:=yl (qdr g0 g1 g2 g3) (.cons h0 (.cons h1 (.cons h2 (.cons h3 .nil)))) rfl rfl qcu (by decide) h
theorem qf5:FOk q08 gOp:=qy3 fun ds outs hw hg=>by
 obtain⟨d,r,rfl,hd,e,r',rfl,he,rfl⟩:=hw;obtain⟨k,rfl,-⟩:=wfI hd;obtain⟨v,rfl,-⟩:=wfI he;simp only[gOp,j6,uA] at hg;subst hg;simp only[qc8,gnZ,gnT,qp,qj,qn,qc,qq,qt,qr,qo,qm,ql,qu,qk,qh,qi,qg];rfl
def qsb(g:Te):FG:=⟨1,⟨g.s,(g.l.length:Nat),0⟩,(yv g).l,0⟩
def gTG(f:Te→FG):List D→Option (List D)
 |[t]=>some [eFG (f (dT t))]
 |_=>none
theorem qtz:FOk q1n (gTG qsb):=qp1 q6e fun ds outs hw hg=>by
 obtain⟨d,r,rfl,hd,rfl⟩:=hw;obtain⟨t,rfl,ht⟩:=wfT hd;simp only[gTG,z9,uA] at hg;subst hg;simp only[q7g,gnZ,gnT,qp,qj,qn,qc,qq,qt,qr,qo,qm,ql,qu,qk,qh,qi,qg,qj0,zhz];rfl
def qx2:List D→Option (List D)
 |[n,v,t]=>some [eFG ⟨1,⟨⟨#[]⟩,2,n.int⟩,[dT v,yv (dT t)],0⟩]
 |_=>none
theorem qvh:FOk q26 qx2:=qtk q6e fun ds outs hw hg=>by
 obtain⟨d,r,rfl,hd,e,r',rfl,he,f,r2,rfl,hf,rfl⟩:=hw;obtain⟨n,rfl,-⟩:=wfI hd;obtain⟨v,rfl,-⟩:=wfT he;obtain⟨t,rfl,-⟩:=wfT hf;simp only[qx2,z9,j6,uA] at hg;subst hg;simp only[q9h,gnZ,gnT,qp,qj,qn,qc,qq,qt,qr,qo,qm,ql,qu,qk,qh,qi,qg,qj0];rfl
theorem qe6:FOk jj (gLL (List.map yv)):=qmb q6e fun ds outs hw hg=>by
 obtain⟨d,r,rfl,hd,rfl⟩:=hw;obtain⟨l,rfl,hl,-⟩:=qib hd;simp only[gLL,q4g,q1t,uA] at hg;subst hg;rw[q6b,yp];refine⟨fun st=>∃k:Nat,k≤l.length∧st=[.r (((l.take k).map yv).map eT),.i k],fun st=>l.length - (st.getD 1 .u).int.toNat,⟨0,uG _,rfl⟩,?_⟩;rintro st - ⟨k,hk,rfl⟩;rw[y3];refine⟨fun hlt=>?_,fun hlt=>?_⟩
 ·simp only[gnZ,gnT,qp,qj,qn,qc,qq,qt,qr,qo,qm,ql,qu,qk,qh,qi,qg] at hlt;have hkl:k<l.length:=by omega
  simp only[gnZ,gnT,qp,qj,qn,qc,qq,qt,qr,qo,qm,ql,qu,qk,qh,qi,qg,q16 hkl,qj0,uW];refine⟨⟨by omega,by omega,by omega⟩,⟨by omega,by omega⟩,?_⟩;rw[q1u,if_pos rfl];refine⟨⟨k+1,by omega,?_⟩,by simp[D.int];omega⟩;rw[jr hkl,uC,uC];rfl
 ·simp only[gnZ,gnT,qp,qj,qn,qc,qq,qt,qr,qo,qm,ql,qu,qk,qh,qi,qg] at hlt⊢;obtain rfl:k=l.length:=by omega
  rw[uK]
def zd2:List D→Option (List D)
 |[l]=>if(l.rs.map D.int).all (fun v=>decide (-1≤v)&&decide (v≤1099511627776)) then some [.i ((l.rs.map D.int).foldl mxI 0)] else none
 |_=>none
theorem z57(vs:List Int):(eIs vs).rs.map D.int=vs:=by
 show(vs.map D.i).map D.int=vs
 rw[uU];exact uX vs
theorem qrc:FOk q1f zd2:=qo6 fun ds outs hw hg=>by
 obtain⟨d,r,rfl,hd,rfl⟩:=hw;obtain⟨vs,rfl,hl,-⟩:=z7s (E:=2) rfl hd;simp only[zd2,z57,uB,uA] at hg;obtain⟨hok,rfl⟩:=hg;rw[q7b,yp];refine⟨fun st=>∃j:Nat,j≤vs.length∧st=[.i ((vs.take j).foldl mxI 0),.i j],fun st=>vs.length - (st.getD 1 .u).int.toNat,⟨0,uG _,rfl⟩,?_⟩;rintro st - ⟨j,hj,rfl⟩;rw[y3];refine⟨fun hlt2=>?_,fun hlt2=>?_⟩
 ·simp only[gnZ,gnT,qp,qj,qn,qc,qq,qt,qr,qo,qm,ql,qu,qk,qh,qi,qg,zf,zs,zq,zp,zo,zr,qw,z0,qe,qv,q1w] at hlt2;have hjl:j<vs.length:=by omega
  have hb:=uN.1 hok _ (gmem (d:=0) hjl);simp only[gnB,gnD] at hb;simp only[gnZ,gnT,qp,qj,qn,qc,qq,qt,qr,qo,qm,ql,qu,qk,qh,qi,qg,zf,zs,zq,zp,zo,zr,qw,z0,qe,qv,q1w,qiv hjl];refine⟨⟨by omega,by omega,by omega,by omega⟩,⟨by omega,by omega⟩,?_⟩;rw[q1u,if_pos rfl];refine⟨⟨j+1,by omega,?_⟩,by simp[D.int];omega⟩;rw[show vs.take (j+1)=vs.take j++[vs.getD j 0] from jr hjl,kF]
  show _=[D.i (if _<_ then _ else _),_]
  split<;>rfl
 ·simp only[gnZ,gnT,qp,qj,qn,qc,qq,qt,qr,qo,qm,ql,qu,qk,qh,qi,qg,zf,zs,zq,zp,zo,zr,qw,z0,qe,qv,q1w] at hlt2⊢;obtain rfl:j=vs.length:=by omega
  rw[uK]
theorem qsl:FOk q1h (gTb qxt):=qo7 fun ds outs hw hg=>by
 obtain⟨d,r,rfl,hd,rfl⟩:=hw;obtain⟨t,rfl,ht⟩:=wfT hd;simp only[gTb,z9,uA] at hg;subst hg;have hpos:t.s≠⟨#[]⟩→0<(t.s.size:Int):=fun h=>by
  have:t.s.size≠0:=fun e=>h (by
   cases hs:t.s with
   |mk data=>
    rw[hs] at e;have:data= #[]:=kI e;rw[this])
  omega
 simp only[q72,gnZ,gnT,qp,qj,qn,qc,qq,qt,qr,qo,qm,ql,qu,qk,qh,qi,qg,z5q];unfold qxt zar;refine⟨fun h=>?_,fun h1=>⟨fun h2=>⟨fun _=>?_,fun q=>absurd h2 q⟩,fun h2=>⟨fun h3=>⟨fun _=>?_,fun q=>absurd h3 q⟩,fun h3=>⟨fun h4=>⟨fun _=>?_,fun q=>absurd h4 q⟩,fun h4=>⟨fun h5=>?_,fun h5=>⟨?_,?_⟩⟩⟩⟩⟩⟩
 ·rw[if_neg (by rw[h];decide),if_pos h]
 ·rw[if_neg (by rw[h2];decide),if_neg h1,if_pos (.inl h2)]
 ·rw[if_neg (by rw[h3];decide),if_neg h1,if_pos (.inr (.inl h3))]
 ·rw[if_neg (by rw[h4];decide),if_neg h1,if_pos (.inr (.inr (.inl h4)))]
 ·rw[if_neg (by rw[h5];decide),if_neg h1,if_pos (.inr (.inr (.inr h5)))]
 ·by_cases h0:t.s=⟨#[]⟩
  ·simp[h0]
  ·have:=hpos h0;rw[decide_eq_false h0,decide_eq_true this,kS]
 ·by_cases h0:t.s=⟨#[]⟩
  ·rw[if_pos h0,decide_eq_true h0,Bool.true_or]
  ·rw[if_neg h0,if_neg h1,if_neg (fun q=>q.elim h2 fun q=>q.elim h3 fun q=>q.elim h4 h5),decide_eq_false h0,kC];rfl
def eRf(f:Int)(x:X24):D:=.a [.i x.nv,.i f,.r (x.aux.map eRo),.b x.tr]
def dRf(d:D):X24:=⟨(d.fld 0).int,(d.fld 1).int+((d.fld 2).rs.length:Nat),(d.fld 3).tt,(d.fld 2).rs.map dRo⟩
def okRf(f:Int)(x:X24):Prop:=x.na=f+x.aux.length
theorem qcm{f:Int}{x:X24}(h:okRf f x):dRf (eRf f x)=x:=by
 show(⟨x.nv,f+((x.aux.map eRo).length:Nat),x.tr,(x.aux.map eRo).map dRo⟩:X24)=x
 rw[uU,uF];have:(dRo ∘ eRo)=id:=funext fun l=>zcj l;rw[this,uX,←h]
theorem zj6(f:Int)(x:X24):(eRf f x).fld 0=.i x.nv:=rfl
theorem q2f(f:Int)(x:X24):(eRf f x).fld 1=.i f:=rfl
theorem q4c(f:Int)(x:X24):(eRf f x).fld 2=.r (x.aux.map eRo):=rfl
theorem q68(f:Int)(x:X24):(eRf f x).fld 3=.b x.tr:=rfl
theorem zdn(f:Int)(x:X24):D.a ((eRf f x).fs.set 0 (.i (x.nv+1)))=eRf f x.var:=rfl
abbrev TRf:Ty:=.st 60
theorem zb8{d:D}(h:Wf d TRf):∃(f:Int)(x:X24),d=eRf f x∧okRf f x∧x.aux.length≤5864062014634:=by
 obtain⟨ds,rfl,hl⟩:=h.st_of (fs:=[.int .i64,.int .i64,.row 27,.bool]) rfl;obtain⟨d0,r,rfl,h0,hl⟩:=q62 hl;obtain⟨d1,r,rfl,h1,hl⟩:=q62 hl;obtain⟨d2,d3,rfl,h2,h3⟩:=z0y hl;obtain⟨v,rfl,-⟩:=wfI h0;obtain⟨f,rfl,-⟩:=wfI h1;obtain⟨b,rfl⟩:=h3.bool;obtain⟨l,rfl,hl1,hl2⟩:=h2.row_of (te:=qdv) rfl;obtain⟨m,rfl,-⟩:=qi3 (e:=eRo) (P:=fun _=>True) fun x hx=>by
  obtain⟨z,rfl,-⟩:=z0w (hl2 x hx);exact⟨z,rfl,trivial⟩
 have e:LM qdv=5864062014634:=by kernel_rfl
 rw[uF] at hl1;exact⟨f,⟨v,f+m.length,b,m⟩,rfl,rfl,by show m.length≤_;omega⟩
def q2n:List D→Option (List D)
 |[d]=>if decide (-4611686018427387904≤(dRf d).nv)&&decide ((dRf d).nv≤4611686018427387904) then some [.i (dRf d).nv,eRf (d.fld 1).int (dRf d).var] else none
 |_=>none
theorem q6k:FOk qz q2n:=q8l fun ds outs hw hg=>by
 obtain⟨d,r,rfl,hd,rfl⟩:=hw;obtain⟨f,x,rfl,hna,hx⟩:=zb8 hd;simp only[q2n,qcm hna,q2f,j6,uB,uA,gnB,gnD] at hg;obtain⟨⟨h1,h2⟩,rfl⟩:=hg;have e0:(eRf f x.var).fld 0=.i (x.nv+1):=rfl;simp only[q17,gnZ,gnT,qp,qj,qn,qc,qq,qt,qr,qo,qm,ql,qu,qk,qh,qi,qg,zf,zs,zq,zp,zo,zr,qw,z0,qe,qv,zj6,zdn,e0];refine⟨⟨by omega,by omega⟩,⟨by omega,by omega⟩,?_⟩;simp
def qo3(v a:Nat)(x:X24):Bool:=qak v a x&&(decide (0≤x.nv)&&decide (x.nv+v≤1099511627776))
theorem q6p{v a:Nat}{x:X24}:qo3 v a x=true↔qak v a x=true∧0≤x.nv∧x.nv+v≤1099511627776:=by
 simp only[qo3,gnB,gnD]
theorem q3a{v a v1 a1 v2 a2:Nat}{x y:X24}(h:qo3 v a x=true)(g:Grw x y v1 a1)(hv:v1+v2≤v)(ha:a1+a2≤a):qo3 v2 a2 y=true:=by
 rw[q6p] at h⊢;have h0:=g.v0;have h1:=g.v1;exact⟨q2i h.1 g hv ha,by omega,by omega⟩
def qgo(x:X24)(g:Te)(c:Int):List FG×X24:=
 if isT g q3s 2 then onR (q1r (fun y=>q0o zg y g c) x g c)
 else if isT g q02 2 then onR (q1r (fun y=>q8c zg y g c) x g c)
 else if isT g qdo 1 then onR (q1r (fun y=>qfj zg y g) x g c)
 else onR (q1r (fun y=>q88 zg y g) x g c)
def qnf(g:Te):Bool:=((isT g q3s 2||isT g q02 2)||isT g qdo 1)||isT g q8r 1
def z0e(N:Nat):List D→Option (List D)
 |[d,g,c]=>if qnf (dT g)=true∧zb (dT g)=true∧rho (dT g)≤N∧qo3 (2 * rho (dT g)) (rho (dT g)) (dRf d)=true∧isNum c.int=true then some [.r ((qgo (dRf d) (dT g) c.int).1.map eFG),eRf (d.fld 1).int (qgo (dRf d) (dT g) c.int).2] else none
 |_=>none
def q5e:List D→Option (List D)
 |[d,g,c]=>if zb (dT g)=true∧qo3 (2 * rho (dT g)) (rho (dT g)) (dRf d)=true∧isNum c.int=true then some [.r ((zg (dRf d) (dT g) c.int).1.map eFG),eRf (d.fld 1).int (zg (dRf d) (dT g) c.int).2] else none
 |_=>none
theorem qao{N:Nat}{f:Int}{x:X24}{g:Te}(c:Int)(hna:okRf f x)(h0:zb g=true)(h1:rho g<N)(h2:qo3 (2 * rho g) (rho g) x=true)(h3:isNum c=true):yu mG N q5e [eRf f x,eT g,.i c]=some [.r ((zg x g c).1.map eFG),eRf f (zg x g c).2]:=by
 simp only[yu,mG,q5e,uD,uE,z9,qcm hna,q2f,j6,if_pos h1,h0,h2,h3,and_self,if_true]
theorem qci{g:Te}(h:zb g=true){j:Nat}(hj:j<g.l.length):zb (ag g j)=true:=
 jg.2 ⟨uV (zgr (gmem hj)) (jg.1 h).1,qg6 (jg.1 h).2 hj⟩
theorem Grw.okRf{x y:X24}{v a:Nat}{f:Int}(g:Grw x y v a)(h:okRf f x):okRf f y:=by
 have:=g.na;unfold Go.Proofs.Ytbmaffphliignaa.okRf at h⊢;omega
theorem z2v{g:Te}(h:zb g=true):g.l.map yv=g.l:=by
 refine(List.map_congr_left fun t ht=>?_).trans (uX _);obtain⟨j,hj,rfl⟩:=kD ht;have:=qci h hj;unfold ag at this;rw[gnG,gnK hj] at this;exact q60 this
theorem qfe(n:Int):zb (q1d n)=true:=by
 unfold q1d;split
 ·rename_i h;refine jg.2 ⟨by rw[szT,q28];omega,?_⟩;rw[j4,qd4,if_pos rfl];simp[h.1,h.2,q36]
 ·kernel_rfl
theorem quz(hC:∀N,FOk qx (yu mG N q5e)→FOk zj (z0e N)):FOk qx q5e:=q2l (m:=mG) q4f fun N ih=>qbe qby qf5 ih (hC N ih) qsl qtz q6k qvh fun ds outs hw hg=>by
 obtain⟨d,r,rfl,hd,e,r',rfl,he,f',r2,rfl,hf,rfl⟩:=hw;obtain⟨f,x,rfl,hna,hx⟩:=zb8 hd;obtain⟨g,rfl,ht⟩:=wfT he;obtain⟨c,rfl,-⟩:=wfI hf;simp only[yu,mG,q5e,uD,uE,z9,qcm hna,q2f,j6,uB,uA] at hg;obtain⟨h1,⟨hv,h2,h3⟩,rfl⟩:=hg;have hp:=q1b.1 (q6p.1 h2).1;have hp2:=(q6p.1 h2).2;have hr:=zm g;rw[qqf];have eis:∀(s:ByteArray)(n:Int),gIs [eT g,.s s,.i n]=some [.b (isT g s n)]:=fun s n=>by
  simp only[gIs,z9,qh3,j6]
 have ebx:gTb qxt [eT g]=some [.b (qxt g)]:=by simp only[gTb,z9]
 have hN:rho g≤N:=by omega
 have epl:gTG qsb [eT g]=some [eFG (qsb g)]:=by simp only[gTG,z9]
 have evr:q2n [eRf f x]=some [.i x.nv,eRf f x.var]:=by
  simp only[q2n,qcm hna,q2f,j6,decide_eq_true (show -4611686018427387904≤x.nv by omega),decide_eq_true (show x.nv≤4611686018427387904 by omega),kE,if_true]
 rw[q2d];simp only[y7,y3,qbz];simp only[gnZ,gnT,qp,qj,qn,qc,qq,qt,qr,qo,qm,ql,qu,qk,qh,qi,qg,zf,zs,zq,zp,zo,zr,qw,z0,qe,qv,eis,eOp,q68];refine⟨fun h=>?_,fun n1=>⟨fun h=>?_,fun n2=>⟨fun h=>?_,fun n3=>⟨fun h=>?_,fun n4=>?_⟩⟩⟩⟩
 ·simp only[q34,show isT g q8i 0=true from h,if_true];rfl
 ·simp only[q34,show isT g q8i 0=false from n1,show isT g qa0 0=true from h,if_true,gnF,if_false];rfl
 ·simp only[q34,show isT g q8i 0=false from n1,show isT g qa0 0=false from n2,show isT g qlv 0=true from h,if_true,gnF,if_false];rfl
 ·obtain⟨hq,hl⟩:=q3x (.inl h);have p0:=zm (ag g 0);have p1:=zm (ag g 1);have e0:(D.r (g.l.map eT)).get 0=eT (ag g 0):=q5v (k:=0) (by omega);have e1:(D.r (g.l.map eT)).get 1=eT (ag g 1):=q5v (k:=1) (by omega);have hl2:(g.l.length:Int)=2:=by omega
  have b0:=y5 (ag g 0) x c;have c0:=qao (N:=N) (x:=x) (g:=ag g 0) c hna (qci hv (by omega)) (by omega) (q3a h2 (Grw.refl x) (by omega) (by omega)) h3;simp only[q34,show isT g q8i 0=false from n1,show isT g qa0 0=false from n2,show isT g qlv 0=false from n3,show isT g q3b 2=true from h,if_true,gnF,if_false];generalize hy:zg x (ag g 0) c=r1 at *;have b1:=y5 (ag g 1) r1.2 c;have c1:=qao (N:=N) (x:=r1.2) (g:=ag g 1) c (b0.1.okRf hna) (qci hv (by omega)) (by omega) (q3a h2 b0.1 (by omega) (by omega)) h3;have l0:=b0.2;have l1:=b1.2;simp only[e0,e1,hl2,c0,c1,uH,uJ,uD,uE,q4g,uF,true_and,and_true];refine⟨by decide,⟨by decide,by omega⟩,?_⟩;simp only[q3n,uC]
 ·refine⟨fun hc=>?_,fun hc=>?_⟩
  ·have hcon:qnf g=true:=hc;have ec:z0e N [eRf f x,eT g,.i c]=some [.r ((qgo x g c).1.map eFG),eRf f (qgo x g c).2]:=by
    simp only[z0e,z9,qcm hna,q2f,j6,if_pos (show qnf g=true∧zb g=true∧rho g≤N∧qo3 (2 * rho g) (rho g) x=true∧isNum c=true from⟨hcon,hv,hN,h2,h3⟩)]
   have est:q34 zg x g c=qgo x g c:=by
    simp only[q34,qgo,show isT g q8i 0=false from n1,show isT g qa0 0=false from n2,show isT g qlv 0=false from n3,show isT g q3b 2=false from n4,gnF,if_false];unfold qnf at hcon;cases q1:isT g q3s 2<;>cases q2:isT g q02 2<;>cases q3:isT g qdo 1<;>cases q4:isT g q8r 1<;>simp_all
   rw[est];simp only[ec,uH,uJ,uD,uE,true_and]
  ·have hcon:qnf g=false:=hc;have est:q34 zg x g c=qdw x g:=by
    unfold qnf at hcon;simp only[uY] at hcon;simp only[q34,show isT g q8i 0=false from n1,show isT g qa0 0=false from n2,show isT g qlv 0=false from n3,show isT g q3b 2=false from n4,hcon.1.1.1,hcon.1.1.2,hcon.1.2,hcon.2,gnF,if_false]
   rw[est];have epg:qsb g=qde g:=by
    unfold qsb qde q1p;rw[z2v hv,q60 hv]
   have evv:D.a ((D.a ((eT zT).fs.set 0 (.i 0))).fs.set 1 (.i x.nv))=eT (q1d x.nv):=by
    unfold q1d;rw[if_pos (by first|exact⟨by omega,by omega⟩|simp;omega)];rfl
   have hvt:=qfe x.nv;have es1:qx2 [.i 1099511627775,eT (q1d x.nv),eT g]=some [eFG (q1p ⟨⟨#[]⟩,2,1099511627775⟩ [q1d x.nv,g])]:=by
    simp only[qx2,z9,j6,q1p,uM,uP,q60 hvt]
   have es2:qx2 [.i 1099511627776,eT (q1d x.nv),eT g]=some [eFG (q1p ⟨⟨#[]⟩,2,1099511627776⟩ [q1d x.nv,g])]:=by
    simp only[qx2,z9,j6,q1p,uM,uP,q60 hvt]
   simp only[ebx,epl,epg,evr,evv,es1,es2,uH,uJ,uD,uE,qbb,kS,true_and,and_true];unfold qdw;refine⟨fun h=>?_,fun h=>?_⟩
   ·rw[if_pos h];rfl
   ·rw[if_neg (by rw[h];decide)];rfl
mutual
def z8f(x:Int):Te→Prop
 |.mk k n s l=>(k=0∧n=x)∨qgz x l
def qgz(x:Int):List Te→Prop
 |[]=>False
 |t::l=>z8f x t∨qgz x l
end
mutual
theorem qmk{x:Int}:∀(t:Te)(vs:List Int),x∈jf vs t↔x∈vs∨z8f x t
 | .mk k n s l, vs => by
  rw[jf,z8f,qds l]
  show x∈(if k=0∧n∉vs then vs++[n] else vs)∨_↔_
  split
  ·rename_i h;rw[List.mem_append,uT,or_assoc];constructor
   ·rintro(q|rfl|q)
    ·exact .inl q
    ·exact .inr (.inl ⟨h.1,rfl⟩)
    ·exact .inr (.inr q)
   ·rintro(q|⟨-,rfl⟩|q)
    ·exact .inl q
    ·exact .inr (.inl rfl)
    ·exact .inr (.inr q)
  ·rename_i h;constructor
   ·rintro(q|q)
    ·exact .inl q
    ·exact .inr (.inr q)
   ·rintro(q|⟨hk,rfl⟩|q)
    ·exact .inl q
    ·exact .inl (Classical.byContradiction fun hn=>h ⟨hk,hn⟩)
    ·exact .inr q
theorem qds{x:Int}:∀(l:List Te)(vs:List Int),x∈yc vs l↔x∈vs∨qgz x l
 |[],vs=>by
  rw[qgz,or_false];rfl
 |t::l,vs=>by
  show x∈yc (jf vs t) l↔_
  rw[qds l,qmk t,qgz,or_assoc]
end
theorem qjb{B:Int}:∀(vs:List Int)(m:Int),vs.foldl mxI m≤B↔m≤B∧∀v∈vs,v+1≤B
 |[],m=>by simp
 | v :: vs, m => by
  rw[kM,qjb vs];have:mxI m v≤B↔m≤B∧v+1≤B:=by
   unfold mxI;split<;>omega
  rw[this];simp only[kB,forall_eq_or_imp,and_assoc]
theorem z0s{t u:Te}(ht:zb t=true)(hu:zb u=true):(yc [] [t,u]).foldl mxI 0=q1x [t,u]:=by
 have h1:∀B,(yc [] [t,u]).foldl mxI 0≤B↔q1x [t,u]≤B:=fun B=>by
  show _↔(q45 u).foldl mxI ((q45 t).foldl mxI 0)≤B
  rw[qjb,qjb,qjb];unfold q45;rw[if_pos ht,if_pos hu];have:∀v,v∈yc [] [t,u]↔v∈jf [] t∨v∈jf [] u:=fun v=>by
   rw[qds,qmk,qmk];simp[qgz]
  constructor
  ·exact fun h=>⟨⟨h.1,fun v hv=>h.2 v ((this v).2 (.inl hv))⟩,fun v hv=>h.2 v ((this v).2 (.inr hv))⟩
  ·exact fun h=>⟨h.1.1,fun v hv=>((this v).1 hv).elim (h.1.2 v) (h.2 v)⟩
 exact Int.le_antisymm ((h1 _).2 (Int.le_refl _)) ((h1 _).1 (Int.le_refl _))
def zH:FC:=⟨zPr,[],[]⟩
def zcy:List D→Option (List D)
 |[d,b]=>if zb (dT b)=true∧qo3 (1+2 * rho (dT b)) (rho (dT b)) (dRf d)=true then some [.r ((q5b (dRf d) zH (dT b)).1.map eFG),eRf (d.fld 1).int (q5b (dRf d) zH (dT b)).2] else none
 |_=>none
theorem zag{f:Int}{x:X24}{g:Te}(c:Int)(hna:okRf f x)(h0:zb g=true)(h2:qo3 (2 * rho g) (rho g) x=true)(h3:isNum c=true):q5e [eRf f x,eT g,.i c]=some [.r ((zg x g c).1.map eFG),eRf f (zg x g c).2]:=by
 simp only[q5e,z9,qcm hna,q2f,j6,h0,h2,h3,and_self,if_true]
theorem qtp(hG:FOk qx q5e):FOk yh zcy:=qaj qgy hG q6k qf5 fun ds outs hw hg=>by
 obtain⟨d,r,rfl,hd,e,r',rfl,he,rfl⟩:=hw;obtain⟨f,x,rfl,hna,hx⟩:=zb8 hd;obtain⟨b,rfl,ht⟩:=wfT he;simp only[zcy,z9,qcm hna,q2f,j6,uB,uA] at hg;obtain⟨⟨hv,h2⟩,rfl⟩:=hg;have hp:=q1b.1 (q6p.1 h2).1;have ec:gTb q07 [eT b]=some [.b (q07 b)]:=by simp only[gTb,z9]
 have evr:q2n [eRf f x]=some [.i x.nv,eRf f x.var]:=by
  simp only[q2n,qcm hna,q2f,j6,decide_eq_true (show -4611686018427387904≤x.nv by omega),decide_eq_true (show x.nv≤4611686018427387904 by omega),kE,if_true]
 have c0:=zag 0 hna hv (q3a h2 (Grw.refl x) (by omega) (by omega)) rfl;have hpn:=(q6p.1 h2).2;have c1:=zag x.nv ((Grw.var x).okRf hna) hv (q3a h2 (Grw.var x) (by omega) (by omega)) (q5x.2 ⟨by omega,by omega⟩);have hb1:=(y5 b x.var x.nv).2;rw[q1z];simp only[y7,y3,qbz];unfold q5b;simp only[gnZ,gnT,qp,qj,qn,qc,qq,qt,qr,qo,qm,ql,qu,qk,qh,qi,qg,zf,zs,zq,zp,zo,zr,qw,z0,qe,qv,ec,eOp,c0,evr,c1];refine⟨fun h=>?_,fun h=>⟨by omega,?_⟩⟩
 ·have h:q07 b=false:=by simpa using h
  rw[h];rfl
 ·have h:q07 b=true:=by simpa using h
  rw[h];simp[q3n,zH]
def zdr:List D→Option (List D)
 |[d,h]=>if q9d (dRf d).aux≤1000000 then some [q7a (if(dFC h::q3v (dRf d).aux).all q0p then dFC h::q3v (dRf d).aux else[]),.b ((dFC h::q3v (dRf d).aux).all q0p)] else none
 |_=>none
theorem qn1:FOk y4 zdr:=q9a qff fun ds outs hw hg=>by
 obtain⟨d,r,rfl,hd,e,r',rfl,he,rfl⟩:=hw;obtain⟨f,x,rfl,hna,hx⟩:=zb8 hd;obtain⟨h,rfl,hh⟩:=qzo he;simp only[zdr,qcm hna,qg,uB,uA] at hg;obtain⟨hs,rfl⟩:=hg;rw[q1m,yp];refine⟨fun st=>∃k:Nat,k≤x.aux.length∧st=[q7a (h::q3v (x.aux.take k)),.i k],fun st=>x.aux.length - (st.getD 1 .u).int.toNat,⟨0,uG _,rfl⟩,?_⟩;rintro st - ⟨k,hk,rfl⟩;have hle:=qfq x.aux k;rw[y3];refine⟨fun hlt=>?_,fun hlt=>?_⟩
 ·simp only[gnZ,gnT,qp,qj,qn,qc,qq,qt,qr,qo,qm,ql,qu,qk,qh,qi,qg,zf,zs,zq,zp,zo,zr,qw,z0,qe,qv,q4c] at hlt;have hkl:k<x.aux.length:=by omega
  have hle2:=qfq x.aux (k+1);rw[qfw hkl] at hle2;have e0:(D.r (x.aux.map eRo)).get (k:Int)=eRo (x.aux.getD k none):=qd9 eRo hkl;have e1:(eRo (x.aux.getD k none)).rs.length=(qdn (x.aux.getD k none)).length:=by rw[z48,uF]
  have e2:(q7a (h::q3v (x.aux.take k))).rs.length=q9d (x.aux.take k)+1:=by
   show((h::q3v (x.aux.take k)).map eFC).length=_
   rw[uF,uL,qm2]
  simp only[y7,gnZ,gnT,qp,qj,qn,qc,qq,qt,qr,qo,qm,ql,qu,qk,qh,qi,qg,zf,zs,zq,zp,zo,zr,qw,z0,qe,qv,q4c,e0,e1,e2];refine⟨⟨by omega,by omega,by omega⟩,⟨by omega,by omega⟩,?_⟩;rw[q1u,if_pos rfl];refine⟨⟨k+1,by omega,?_⟩,by simp[D.int];omega⟩;rw[show x.aux.take (k+1)=x.aux.take k++[x.aux.getD k none] from jr hkl,qwi];simp[q7a,q4g,z48,q3v]
 ·simp only[gnZ,gnT,qp,qj,qn,qc,qq,qt,qr,qo,qm,ql,qu,qk,qh,qi,qg,zf,zs,zq,zp,zo,zr,qw,z0,qe,qv,q4c] at hlt;obtain rfl:k=x.aux.length:=by omega
  rw[uK] at *;have hrl:(h::q3v x.aux).length≤4000000:=by
   rw[uL,qcp];omega
  unfold q7a;generalize h::q3v x.aux=rows at *;rw[yp];refine⟨fun st=>∃k:Nat,k≤rows.length∧(∀j,j<k→q0p (rows.getD j default)=true)∧st=[.r [],.b false,.i k],fun st=>rows.length - (st.getD 2 .u).int.toNat,⟨0,uG _,fun j hj=>absurd hj (uQ _),rfl⟩,?_⟩;rintro st - ⟨k,hk,hP,rfl⟩;rw[y3];refine⟨fun hlt=>?_,fun hlt=>?_⟩
  ·simp only[gnZ,gnT,qp,qj,qn,qc,qq,qt,qr,qo,qm,ql,qu,qk,qh,qi,qg,zf,zs,zq,zp,zo,zr,qw,z0,qe,qv] at hlt;have hkl:k<rows.length:=by omega
   simp only[y7,y3,gnZ,gnT,qp,qj,qn,qc,qq,qt,qr,qo,qm,ql,qu,qk,qh,qi,qg,zf,zs,zq,zp,zo,zr,qw,z0,qe,qv,qd9 eFC hkl,zfy];refine⟨⟨by omega,by omega⟩,fun hv=>?_,fun hv=>⟨⟨by omega,by omega⟩,?_⟩⟩
   ·simp only[kH] at hv;have:rows.all q0p=false:=by
     rw[kV];exact⟨_,gmem hkl,by rw[hv];decide⟩
    rw[this];rfl
   ·simp only[kA] at hv;rw[q1u,if_pos rfl];refine⟨⟨k+1,by omega,fun j hj=>?_,rfl⟩,by simp[D.int];omega⟩;by_cases h:j<k
    ·exact hP j h
    ·obtain rfl:j=k:=by omega
     exact hv
  ·simp only[gnZ,gnT,qp,qj,qn,qc,qq,qt,qr,qo,qm,ql,qu,qk,qh,qi,qg,zf,zs,zq,zp,zo,zr,qw,z0,qe,qv] at hlt;simp only[gnZ,gnT,qp,qj,qn,qc,qq,qt,qr,qo,qm,ql,qu,qk,qh,qi,qg,zf,zs,zq,zp,zo,zr,qw,z0,qe,qv];obtain rfl:k=rows.length:=by omega
   have:rows.all q0p=true:=uN.2 fun t ht=>by
    obtain⟨j,hj,rfl⟩:=kD ht;have:=hP j hj;rwa [gnG,gnK hj] at this
   rw[this];rfl
end Go.Proofs.Ytbmaffphliignaa
