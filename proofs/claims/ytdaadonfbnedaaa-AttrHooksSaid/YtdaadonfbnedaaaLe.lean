/-
 Lemmas of the walk and plain laws, put together. No condition.
-/
import Derived.Test.YtdaadonfbnedaaaLd
namespace Go.Proofs.Ytdaadonfbnedaaa
open Go.RowKit
set_option linter.unusedVariables false
set_option linter.unusedSimpArgs false
set_option maxRecDepth 100000
open _root_.And renaming intro→uA
open _root_.Option.some renaming injEq→uB
open _root_.Option renaming ite_none_right_eq_some→uC,isSome_some→kA,getD_some→kC
open _root_.List renaming range→uD,getD_cons_zero→uE,length_map→uF,mem_cons→uG,mem_append→uH,all_eq_true→uL,pairwise_cons→uN,mem_range→uO,mem_append_left→uP,getD_cons_succ→uR,mem_cons_self→uT,take_length→uU,length_eq_zero_iff→uV,take_append_drop→uW,mem_append_right→uX,replicate→uZ,Pairwise→kB,length_cons→kE,cons_append→kF,getElem?_append_right→kG,drop_eq_getElem_cons→kH,getElem?_replicate→kI,getElem?_cons_zero→kJ,getElem?_cons_succ→kK,mem_cons_of_mem→kN,take_succ_cons→kO,mem_singleton→kQ,nodup_cons→kS,nil_append→kT,take_zero→kU,mem_map→kY,map_map→kZ,count→vA
open _root_.Nat renaming zero_le→uI,le_refl→uK,not_lt_zero→uM,le_trans→kM
open _root_.Bool renaming and_assoc→uJ,eq_iff_iff→uQ,and_eq_false_iff→uY,not_eq_true'→kD,or_true→kL,true_and→kV,or_assoc→kW,and_true→kX
open _root_.Int renaming le_refl→kP,toNat_natCast→kR,toNat→vB
structure Ce where
 t:Int
 n:Int
structure Un where
 at':Int
 old:Ce
structure Wk where
 ser:Int
 att:Ce
 val:Ce
structure Sy where
 name:ByteArray
 ar:Int
structure So where
 cs:List Ce
 ys:List Sy
 tr:List Un
 wk:List Wk
 ser:Int
 mx:Int
instance:Inhabited Ce:=⟨⟨0,0⟩⟩
instance:Inhabited Un:=⟨⟨0,default⟩⟩
instance:Inhabited Wk:=⟨⟨0,default,default⟩⟩
instance:Inhabited Sy:=⟨⟨⟨#[]⟩,0⟩⟩
def eC(c:Ce):D:=.a [.i c.t,.i c.n]
def eU(u:Un):D:=.a [.i u.at',eC u.old]
def eW(w:Wk):D:=.a [.i w.ser,eC w.att,eC w.val]
def eY(y:Sy):D:=.a [.s y.name,.i y.ar]
def eS(s:So):D:=.a [.r (s.cs.map eC),.r (s.ys.map eY),.r (s.tr.map eU),.r (s.wk.map eW),.i s.ser,.i s.mx]
def dC(d:D):Ce:=⟨(d.fld 0).int,(d.fld 1).int⟩
def dU(d:D):Un:=⟨(d.fld 0).int,dC (d.fld 1)⟩
def dW(d:D):Wk:=⟨(d.fld 0).int,dC (d.fld 1),dC (d.fld 2)⟩
def dY(d:D):Sy:=⟨(d.fld 0).str,(d.fld 1).int⟩
def dS(d:D):So:=⟨(d.fld 0).rs.map dC,(d.fld 1).rs.map dY,(d.fld 2).rs.map dU,(d.fld 3).rs.map dW,(d.fld 4).int,(d.fld 5).int⟩
theorem q16(c:Ce):dC (eC c)=c:=rfl
theorem qzt(c:Un):dU (eU c)=c:=rfl
theorem z4s(c:Wk):dW (eW c)=c:=rfl
theorem qvc(c:Sy):dY (eY c)=c:=rfl
variable{α:Type}
theorem map_id'{e:α→D}{d:D→α}(h:∀a,d (e a)=a)(l:List α):(l.map e).map d=l:=by
 rw[kZ];have:d ∘ e=id:=funext h;rw[this,List.map_id]
theorem yf(s:So):dS (eS s)=s:=by
 show So.mk ((s.cs.map eC).map dC) ((s.ys.map eY).map dY) ((s.tr.map eU).map dU) ((s.wk.map eW).map dW) s.ser s.mx=s
 rw[map_id' q16,map_id' qvc,map_id' qzt,map_id' z4s]
theorem z80{a b:Ce}(h:eC a=eC b):a=b:=by rw[←q16 a,h,q16 b]
theorem ziz{a b:Un}(h:eU a=eU b):a=b:=by rw[←qzt a,h,qzt b]
theorem zjm{a b:Wk}(h:eW a=eW b):a=b:=by rw[←z4s a,h,z4s b]
theorem z1z{a b:Sy}(h:eY a=eY b):a=b:=by rw[←qvc a,h,qvc b]
theorem z99{a b:So}(h:eS a=eS b):a=b:=by rw[←yf a,h,yf b]
theorem zcd(a b:Ce):(eC a=eC b)=(a=b):=propext ⟨z80,fun h=>h▸rfl⟩
theorem zpd(a b:Un):(eU a=eU b)=(a=b):=propext ⟨ziz,fun h=>h▸rfl⟩
theorem zqf(a b:Wk):(eW a=eW b)=(a=b):=propext ⟨zjm,fun h=>h▸rfl⟩
theorem qzq(a b:Sy):(eY a=eY b)=(a=b):=propext ⟨z1z,fun h=>h▸rfl⟩
theorem zpm(a b:So):(eS a=eS b)=(a=b):=propext ⟨z99,fun h=>h▸rfl⟩
instance:DecidableEq Ce:=fun a b=>if h:eC a=eC b then .isTrue (z80 h) else .isFalse fun e=>h (e▸rfl)
instance:DecidableEq Un:=fun a b=>if h:eU a=eU b then .isTrue (ziz h) else .isFalse fun e=>h (e▸rfl)
instance:DecidableEq Wk:=fun a b=>if h:eW a=eW b then .isTrue (zjm h) else .isFalse fun e=>h (e▸rfl)
instance:DecidableEq Sy:=fun a b=>if h:eY a=eY b then .isTrue (z1z h) else .isFalse fun e=>h (e▸rfl)
instance:DecidableEq So:=fun a b=>if h:eS a=eS b then .isTrue (z99 h) else .isFalse fun e=>h (e▸rfl)
theorem Ce.ext'{a b:Ce}(h1:a.t=b.t)(h2:a.n=b.n):a=b:=by
 cases a;cases b;cases h1;cases h2;rfl
theorem qt5(c:Ce):(eC c).fld 0=.i c.t:=rfl
theorem qxd(c:Ce):(eC c).fld 1=.i c.n:=rfl
theorem zwa(c:Un):(eU c).fld 0=.i c.at':=rfl
theorem zu7(c:Un):(eU c).fld 1=eC c.old:=rfl
theorem zw0(c:Wk):(eW c).fld 0=.i c.ser:=rfl
theorem zuz(c:Wk):(eW c).fld 1=eC c.att:=rfl
theorem zo6(c:Wk):(eW c).fld 2=eC c.val:=rfl
theorem zdp(c:Sy):(eY c).fld 0=.s c.name:=rfl
theorem zke(c:Sy):(eY c).fld 1=.i c.ar:=rfl
theorem qed(s:So):(eS s).fld 0=.r (s.cs.map eC):=rfl
theorem zju(s:So):(eS s).fld 1=.r (s.ys.map eY):=rfl
theorem z81(s:So):(eS s).fld 2=.r (s.tr.map eU):=rfl
theorem z41(s:So):(eS s).fld 3=.r (s.wk.map eW):=rfl
theorem zt5(s:So):(eS s).fld 4=.i s.ser:=rfl
theorem zsi(s:So):(eS s).fld 5=.i s.mx:=rfl
theorem gnA:type_of% (uA @uE.{0} (uA @uR.{0} (uA @kJ.{0} (uA @kK.{0} (uA @q5y (uA @j4 (uA @q7o (uA @q7i (uA @kA.{0} (uA @kC.{0} (uA @decide_eq_true_eq (uA @decide_eq_false_iff_not (uA @yf (uA @q16 (uA @qzt (uA @z4s (uA @qvc (uA @qt5 (uA @qxd (uA @zwa (uA @zu7 (uA @zw0 (uA @zuz (uA @zo6 (uA @zdp (uA @zke (uA @qed (uA @zju (uA @z81 (uA @z41 (uA @zt5 (uA @zsi (uA @uF.{0,0} (uA @q9e (uA @zpl (uA @zpq (uA @zcd (uA @zpd (uA @zqf (uA @qzq (uA @zpm (uA @q46 (uA @kO.{0} (uA @kU.{0} (uA @kT.{0} (uA @kF.{0} (uA @decide_true (uA @decide_false (uA @kL (uA @true_and @and_true)))))))))))))))))))))))))))))))))))))))))))))))))):=uA @uE.{0} (uA @uR.{0} (uA @kJ.{0} (uA @kK.{0} (uA @q5y (uA @j4 (uA @q7o (uA @q7i (uA @kA.{0} (uA @kC.{0} (uA @decide_eq_true_eq (uA @decide_eq_false_iff_not (uA @yf (uA @q16 (uA @qzt (uA @z4s (uA @qvc (uA @qt5 (uA @qxd (uA @zwa (uA @zu7 (uA @zw0 (uA @zuz (uA @zo6 (uA @zdp (uA @zke (uA @qed (uA @zju (uA @z81 (uA @z41 (uA @zt5 (uA @zsi (uA @uF.{0,0} (uA @q9e (uA @zpl (uA @zpq (uA @zcd (uA @zpd (uA @zqf (uA @qzq (uA @zpm (uA @q46 (uA @kO.{0} (uA @kU.{0} (uA @kT.{0} (uA @kF.{0} (uA @decide_true (uA @decide_false (uA @kL (uA @true_and @and_true)))))))))))))))))))))))))))))))))))))))))))))))))
theorem gnZ:type_of% (uA @qg (uA @z8 (uA @q4o (uA @z20 (uA @q0s.eq_1 (uA @q0s.eq_2 (uA @X.says.eq_1 (uA @X.ev.eq_1 (uA @X.ev.eq_2 (uA @X.ev.eq_3 (uA @X.ev.eq_4 (uA @X.ev.eq_5 (uA @X.ev.eq_6 (uA @X.ev.eq_7 (uA @X.ev.eq_8 (uA @X.ev.eq_9 (uA @X.ev.eq_10 (uA @X.ev.eq_11 (uA @X.ev.eq_12 (uA @X.ev.eq_13 (uA @X.ev.eq_14 (uA @X.ev.eq_15 (uA @X.ev.eq_16 (uA @X.ev.eq_17 (uA @X.ev.eq_18 (uA @X.ev.eq_19 (uA @X.ev.eq_20 (uA @X.ev.eq_21 (uA @X.ev.eq_22 (uA @X.ev.eq_23 (uA @X.ev.eq_24 (uA @X.ev.eq_25 (uA @X.ev.eq_26 (uA @X.ev.eq_27 (uA @X.ev.eq_28 (uA @X.ev.eq_29 (uA @X.evs.eq_1 (uA @X.evs.eq_2 (uA @evl.eq_1 (uA @qf.eq_1 @gnA)))))))))))))))))))))))))))))))))))))))):=uA @qg (uA @z8 (uA @q4o (uA @z20 (uA @q0s.eq_1 (uA @q0s.eq_2 (uA @X.says.eq_1 (uA @X.ev.eq_1 (uA @X.ev.eq_2 (uA @X.ev.eq_3 (uA @X.ev.eq_4 (uA @X.ev.eq_5 (uA @X.ev.eq_6 (uA @X.ev.eq_7 (uA @X.ev.eq_8 (uA @X.ev.eq_9 (uA @X.ev.eq_10 (uA @X.ev.eq_11 (uA @X.ev.eq_12 (uA @X.ev.eq_13 (uA @X.ev.eq_14 (uA @X.ev.eq_15 (uA @X.ev.eq_16 (uA @X.ev.eq_17 (uA @X.ev.eq_18 (uA @X.ev.eq_19 (uA @X.ev.eq_20 (uA @X.ev.eq_21 (uA @X.ev.eq_22 (uA @X.ev.eq_23 (uA @X.ev.eq_24 (uA @X.ev.eq_25 (uA @X.ev.eq_26 (uA @X.ev.eq_27 (uA @X.ev.eq_28 (uA @X.ev.eq_29 (uA @X.evs.eq_1 (uA @X.evs.eq_2 (uA @evl.eq_1 (uA @qf.eq_1 @gnA)))))))))))))))))))))))))))))))))))))))
theorem zqi(c:Ce)(n:Int):D.a ((eC c).fs.set 0 (.i n))=eC {c with t:=n}:=rfl
theorem qb4(t n:Int):D.a [.i t,.i n]=eC ⟨t,n⟩:=rfl
abbrev i64(n:Int):Prop:= -9223372036854775808≤n∧n≤9223372036854775807
def Ce.ok(c:Ce):Prop:=i64 c.t∧i64 c.n
def Un.ok(c:Un):Prop:=i64 c.at'∧c.old.ok
def Wk.ok(c:Wk):Prop:=i64 c.ser∧c.att.ok∧c.val.ok
def Sy.ok(c:Sy):Prop:=c.name.size≤LIM∧i64 c.ar
structure So.ok(s:So):Prop where
 cs:s.cs.length≤8796093021952∧∀c∈s.cs,c.ok
 ys:s.ys.length≤5864062014634∧∀c∈s.ys,c.ok
 tr:s.tr.length≤5864062014634∧∀c∈s.tr,c.ok
 wk:s.wk.length≤3518437208780∧∀c∈s.wk,c.ok
 ser:i64 s.ser
 mx:i64 s.mx
variable{d:D}
theorem wfI(h:Wf d (.int .i64)):∃n,d=.i n∧i64 n:=by
 obtain⟨n,rfl,hn⟩:=h.int;exact⟨n,rfl,q46.1 hn⟩
theorem wfC(h:Wf d ql):∃c,d=eC c∧c.ok:=by
 obtain⟨ds,rfl,hl⟩:=h.st_of (fs:=[.int .i64,.int .i64]) rfl;obtain⟨a,b,rfl,ha,hb⟩:=z6z hl;obtain⟨x,rfl,hx⟩:=wfI ha;obtain⟨y,rfl,hy⟩:=wfI hb;exact⟨⟨x,y⟩,rfl,hx,hy⟩
theorem wfU(h:Wf d q2p):∃c,d=eU c∧c.ok:=by
 obtain⟨ds,rfl,hl⟩:=h.st_of (fs:=[.int .i64,ql]) rfl;obtain⟨a,b,rfl,ha,hb⟩:=z6z hl;obtain⟨x,rfl,hx⟩:=wfI ha;obtain⟨y,rfl,hy⟩:=wfC hb;exact⟨⟨x,y⟩,rfl,hx,hy⟩
theorem wfW(h:Wf d yy):∃c,d=eW c∧c.ok:=by
 obtain⟨ds,rfl,hl⟩:=h.st_of (fs:=[.int .i64,ql,ql]) rfl;obtain⟨a,r,rfl,ha,hr⟩:=qb9 hl;obtain⟨b,c,rfl,hb,hc⟩:=z6z hr;obtain⟨x,rfl,hx⟩:=wfI ha;obtain⟨y,rfl,hy⟩:=wfC hb;obtain⟨z,rfl,hz⟩:=wfC hc;exact⟨⟨x,y,z⟩,rfl,hx,hy,hz⟩
theorem wfY(h:Wf d q02):∃c,d=eY c∧c.ok:=by
 obtain⟨ds,rfl,hl⟩:=h.st_of (fs:=[.str,.int .i64]) rfl;obtain⟨a,b,rfl,ha,hb⟩:=z6z hl;obtain⟨x,rfl,hx⟩:=ha.str;obtain⟨y,rfl,hy⟩:=wfI hb;exact⟨⟨x,y⟩,rfl,hx,hy⟩
theorem zxd(h:Wf d zl):∃l:List Ce,d=.r (l.map eC)∧l.length≤8796093021952∧∀c∈l,c.ok:=by
 obtain⟨l,rfl,h1,h2⟩:=h.row_of (te:=ql) rfl;obtain⟨m,rfl,h3⟩:=qdn (e:=eC) (P:=Ce.ok) fun x hx=>wfC (h2 x hx);have e:LM ql=8796093021952:=by kernel_rfl
 rw[e,uF] at h1;exact⟨m,rfl,h1,h3⟩
theorem zwz(h:Wf d z1j):∃l:List Un,d=.r (l.map eU)∧l.length≤5864062014634∧∀c∈l,c.ok:=by
 obtain⟨l,rfl,h1,h2⟩:=h.row_of (te:=q2p) rfl;obtain⟨m,rfl,h3⟩:=qdn (e:=eU) (P:=Un.ok) fun x hx=>wfU (h2 x hx);have e:LM q2p=5864062014634:=by kernel_rfl
 rw[e,uF] at h1;exact⟨m,rfl,h1,h3⟩
theorem zxh(h:Wf d q36):∃l:List Wk,d=.r (l.map eW)∧l.length≤3518437208780∧∀c∈l,c.ok:=by
 obtain⟨l,rfl,h1,h2⟩:=h.row_of (te:=yy) rfl;obtain⟨m,rfl,h3⟩:=qdn (e:=eW) (P:=Wk.ok) fun x hx=>wfW (h2 x hx);have e:LM yy=3518437208780:=by kernel_rfl
 rw[e,uF] at h1;exact⟨m,rfl,h1,h3⟩
theorem zud(h:Wf d qo9):∃l:List Sy,d=.r (l.map eY)∧l.length≤5864062014634∧∀c∈l,c.ok:=by
 obtain⟨l,rfl,h1,h2⟩:=h.row_of (te:=q02) rfl;obtain⟨m,rfl,h3⟩:=qdn (e:=eY) (P:=Sy.ok) fun x hx=>wfY (h2 x hx);have e:LM q02=5864062014634:=by kernel_rfl
 rw[e,uF] at h1;exact⟨m,rfl,h1,h3⟩
theorem wfS(h:Wf d qe):∃s,d=eS s∧s.ok:=by
 obtain⟨ds,rfl,hl⟩:=h.st_of (fs:=[zl,qo9,z1j,q36,.int .i64,.int .i64]) rfl;obtain⟨d0,r,rfl,h0,hl⟩:=qb9 hl;obtain⟨d1,r,rfl,h1,hl⟩:=qb9 hl;obtain⟨d2,r,rfl,h2,hl⟩:=qb9 hl;obtain⟨d3,r,rfl,h3,hl⟩:=qb9 hl;obtain⟨d4,d5,rfl,h4,h5⟩:=z6z hl;obtain⟨cs,rfl,q0⟩:=zxd h0;obtain⟨ys,rfl,q1⟩:=zud h1;obtain⟨tr,rfl,q2⟩:=zwz h2;obtain⟨wk,rfl,q3⟩:=zxh h3;obtain⟨x,rfl,q4⟩:=wfI h4;obtain⟨y,rfl,q5⟩:=wfI h5;exact⟨⟨cs,ys,tr,wk,x,y⟩,rfl,q0,q1,q2,q3,q4,q5⟩
def q4y:Ct:=⟨73,[.val (.st 26),.val (.st 32),.val (.str)],[(.st 32,false),(.st 32,false),(.bool,false)],[],none,[],[]⟩
theorem qqv:EnZ q4y:=fun _ _=>by kernel_rfl
def qwi:Ann:=⟨[0,1,2,3,4,6,7,8,9,37,65],[]⟩
def qav:Tree:=
 let a:X:=.fld (.tok 1) 1
 let f:X:=.fld (.tok 0) 0
 let g:X:=.lit (.a [(.i 0),(.i 0)])
 let j:X:=.lit (.i 0)
 let b:X:=.or (.not (.eq (.fld (.tok 1) 0) (.lit (.i 3)))) (.not (.call 0 0 [(.tok 0),a]))
 let c:X:=.fld (.get f a) 1
 let d:X:=.add a (.lit (.i 2))
 let i:X:=.add a (.lit (.i 1))
 let e:X:=.or (.lt c j) (.le (.len (.fld (.tok 0) 1)) c)
 let h:X:=.or b (.not (.call 0 0 [(.tok 0),d]))
 (.need [(.imp (.not (.not (.eq (.fld (.tok 1) 0) (.lit (.i 3))))) (.ok 0 [(.tok 0),a])),(.imp (.not b) (.rng .i64 d)),(.imp (.not b) (.ok 0 [(.tok 0),d])),(.imp (.not h) (.le j a)),(.imp (.not h) (.lt a (.len f)))] (.br (.or h (.not (.eq (.fld (.get f a) 0) (.lit (.i 4))))) (.leaf [g,g,(.lit (.b .false))]) (.need [(.le j a),(.lt a (.len f))] (.need [(.imp (.not e) (.le j c)),(.imp (.not e) (.lt c (.len (.fld (.tok 0) 1))))] (.br (.or e (.not (.eq (.get (.fld (.tok 0) 1) c) (.mk [(.tok 2),(.lit (.i 2))])))) (.leaf [g,g,(.lit (.b .false))]) (.need [(.le j d),(.lt d (.len f)),(.rng .i64 d),(.le j i),(.lt i (.len f)),(.rng .i64 i)] (.leaf [(.get f i),(.get f d),(.lit (.b .true))])))))))
theorem qvt(g0:GfZ):CdZ [(q0e,g0)] qwi q4y Try.f73 qav:=fun cd h=>by injection h with h;subst h;kernel_rfl
variable{g g0:GfZ}
theorem qws(h0:FOk q0e g0)(h:HgZ qav q4y [(q0e,g0)] g):FOk q4y g:=jf (qvt g0) (.cons h0 .nil) rfl rfl qqv (by decide) h
def q4w:Ct:=⟨74,[.val (.st 26),.val (.st 32)],[(.str,false),(.bool,false)],[],none,[],[]⟩
theorem qqs:EnZ q4w:=fun _ _=>by kernel_rfl
def qx6:Ann:=⟨[0,1,2,3,4,5,21],[]⟩
def qb0:Tree:=(.br (.or (.or (.not (.eq (.fld (.tok 1) 0) (.lit (.i 2)))) (.lt (.fld (.tok 1) 1) (.lit (.i 0)))) (.le (.len (.fld (.tok 0) 1)) (.fld (.tok 1) 1))) (.leaf [(.lit (.s ⟨#[]⟩)),(.lit (.b .false))]) (.need [(.le (.lit (.i 0)) (.fld (.tok 1) 1)),(.lt (.fld (.tok 1) 1) (.len (.fld (.tok 0) 1)))] (.leaf [(.fld (.get (.fld (.tok 0) 1) (.fld (.tok 1) 1)) 0),(.lit (.b .true))])))
theorem qw4:CdZ [] qx6 q4w Try.f74 qb0:=fun cd h=>by injection h with h;subst h;kernel_rfl
theorem qxp(h:HgZ qb0 q4w [] g):FOk q4w g:=jf (qw4) .nil rfl rfl qqs (by decide) h
def qz:Ct:=⟨48,[.val (.st 64),.val (.st 64)],[(.int .i64,false)],[],none,[],[]⟩
theorem qjg:EnZ qz:=fun _ _=>by kernel_rfl
def qo1:Ann:=⟨[0,1,2,3,4],[]⟩
def q79:Tree:=(.need [(.ok 0 [(.fld (.tok 0) 0),(.fld (.tok 1) 0)])] (.leaf [(.call 0 0 [(.fld (.tok 0) 0),(.fld (.tok 1) 0)])]))
theorem qlf(g0:GfZ):CdZ [(qy,g0)] qo1 qz Try.f48 q79:=fun cd h=>by injection h with h;subst h;kernel_rfl
theorem qmm(h0:FOk qy g0)(h:HgZ q79 qz [(qy,g0)] g):FOk qz g:=jf (qlf g0) (.cons h0 .nil) rfl rfl qjg (by decide) h
def z7:Ct:=⟨103,[.mref (.row 65),.val (.int .i64),.val (.int .i64),.val (.int .i64),.fn 48 []],[],[],none,[],[]⟩
theorem q62:EnZ z7:=fun _ _=>by kernel_rfl
def q6u:Ann:=⟨[0,1,2,3,4,10,13],[(1,⟨[(10,.int .i64,false),(0,.row 65,false)],[],[11,12,13,16,17,18,19,20,21,22,23,24,25,26,27,28,29,30,31,32,33,34,35,36,37,14,15],[]⟩)]⟩
def q0k:Tree:=(.loop 1 4 [(.lit (.i 0)),(.tok 0)] (.br (.lt (.tok 4) (.tok 3)) (.need [(.le (.lit (.i 0)) (.add (.tok 2) (.tok 4))),(.lt (.add (.tok 2) (.tok 4)) (.len (.tok 5))),(.le (.lit (.i 0)) (.add (.tok 1) (.tok 4))),(.lt (.add (.tok 1) (.tok 4)) (.len (.tok 5))),(.le (.lit (.i 0)) (.add (.tok 1) (.tok 4))),(.lt (.add (.tok 1) (.tok 4)) (.len (.tok 5))),(.rng .i64 (.add (.tok 1) (.tok 4))),(.le (.lit (.i 0)) (.add (.tok 2) (.tok 4))),(.lt (.add (.tok 2) (.tok 4)) (.len (.tok 5))),(.rng .i64 (.add (.tok 2) (.tok 4))),(.rng .i64 (.add (.tok 2) (.tok 4))),(.rng .i64 (.add (.tok 1) (.tok 4)))] (.need [(.rng .i64 (.add (.tok 4) (.lit (.i 1))))] (.back 1 [(.add (.tok 4) (.lit (.i 1))),(.put (.put (.tok 5) (.add (.tok 1) (.tok 4)) (.get (.tok 5) (.add (.tok 2) (.tok 4)))) (.add (.tok 2) (.tok 4)) (.get (.tok 5) (.add (.tok 1) (.tok 4))))]))) (.leaf [(.tok 5)])))
theorem q6h:CdZ [] q6u z7 Try.f103 q0k:=fun cd h=>by injection h with h;subst h;kernel_rfl
theorem q6m(h:HgZ q0k z7 [] g):FOk z7 g:=jf (q6h) .nil rfl rfl q62 (by decide) h
def qq:Ct:=⟨101,[.mref (.row 65),.val (.int .i64),.val (.int .i64),.val (.int .i64),.fn 48 []],[],[],none,[],[]⟩
theorem q7g:EnZ qq:=fun _ _=>by kernel_rfl
def q97:Ann:=⟨[0,1,2,3,4,10,11,20,23],[(2,⟨[(10,.int .i64,false),(11,.int .i64,false),(0,.row 65,false)],[],[18,19,20,21,22,23,24,25,26,27,28,29,30,31,32,33,34,35,36,37,38,39,40,41,42,43,44,45,46,47,48,49,50],[]⟩)]⟩
def q0z:Tree:=(.need [(.rng .i64 (.sub (.tok 2) (.tok 1)))] (.need [(.rng .i64 (.sub (.tok 3) (.tok 2)))] (.loop 2 4 [(.sub (.tok 2) (.tok 1)),(.sub (.tok 3) (.tok 2)),(.tok 0)] (.br (.not (.eq (.tok 4) (.tok 5))) (.br (.lt (.tok 5) (.tok 4)) (.need [(.rng .i64 (.sub (.tok 2) (.tok 4))),(.ok 0 [(.tok 6),(.sub (.tok 2) (.tok 4)),(.tok 2),(.tok 5)])] (.need [(.rng .i64 (.sub (.tok 4) (.tok 5)))] (.back 2 [(.sub (.tok 4) (.tok 5)),(.tok 5),(.call 0 0 [(.tok 6),(.sub (.tok 2) (.tok 4)),(.tok 2),(.tok 5)])]))) (.need [(.rng .i64 (.sub (.tok 2) (.tok 4))),(.rng .i64 (.add (.tok 2) (.tok 5))),(.rng .i64 (.sub (.add (.tok 2) (.tok 5)) (.tok 4))),(.ok 0 [(.tok 6),(.sub (.tok 2) (.tok 4)),(.sub (.add (.tok 2) (.tok 5)) (.tok 4)),(.tok 4)])] (.need [(.rng .i64 (.sub (.tok 5) (.tok 4)))] (.back 2 [(.tok 4),(.sub (.tok 5) (.tok 4)),(.call 0 0 [(.tok 6),(.sub (.tok 2) (.tok 4)),(.sub (.add (.tok 2) (.tok 5)) (.tok 4)),(.tok 4)])])))) (.need [(.rng .i64 (.sub (.tok 2) (.tok 4))),(.ok 0 [(.tok 6),(.sub (.tok 2) (.tok 4)),(.tok 2),(.tok 4)])] (.leaf [(.call 0 0 [(.tok 6),(.sub (.tok 2) (.tok 4)),(.tok 2),(.tok 4)])]))))))
theorem q7w(g0:GfZ):CdZ [(z7,g0)] q97 qq Try.f101 q0z:=fun cd h=>by injection h with h;subst h;kernel_rfl
theorem q9a(h0:FOk z7 g0)(h:HgZ q0z qq [(z7,g0)] g):FOk qq g:=jf (q7w g0) (.cons h0 .nil) rfl rfl q7g (by decide) h
def qw:Ct:=⟨92,[.mref (.row 65),.val (.int .i64),.val (.int .i64),.fn 48 []],[],[],none,[],[]⟩
theorem q48:EnZ qw:=fun _ _=>by kernel_rfl
def q56:Ann:=⟨[0,1,2,3,8,9,14,34],[(1,⟨[(8,.int .i64,false),(0,.row 65,false)],[],[12,13,14,17,9,18,19,20,21,22,23,24,25,26,27,28,29,30,31,32,33,34,37,38,39,40,41,42,43,44,45,46,47,48,49,50,51,52,35,36,15,16],[]⟩),
 (4,⟨[(9,.int .i64,false),(0,.row 65,false)],[],[18,19,20,21,22,23,24,25,26,27,28,29,30,31,32,33,34,37,38,39,40,41,42,43,44,45,46,47,48,49,50,51,52,35,36],[]⟩)]⟩
def jx:Tree:=
 let b:X:=.lt (.tok 1) (.tok 5)
 let d:X:=.le (.lit (.i 0)) (.tok 5)
 let h:X:=.tok 6
 let i:X:=.lit (.i 1)
 let a:X:=.sub (.tok 5) i
 let c:X:=.lt (.tok 5) (.len h)
 let j:X:=.get h (.tok 5)
 let e:X:=.rng .i64 a
 let f:X:=.lt a (.len h)
 let g:X:=.le (.lit (.i 0)) a
 (.need [(.rng .i64 (.add (.tok 1) i))] (.loop 1 3 [(.add (.tok 1) i),(.tok 0)] (.br (.lt (.tok 3) (.tok 2)) (.loop 4 5 [(.tok 3),(.tok 4)] (.need [(.imp b (.ok 0 [j,(.get h a)])),(.imp b g),(.imp b f),(.imp b d),(.imp b c),(.imp b d),(.imp b c),(.imp b g),(.imp b f),(.imp b g),(.imp b f),(.imp b e),(.imp b e),(.imp b e),(.imp b d),(.imp b c),(.imp b d),(.imp b c),(.imp b d),(.imp b c),(.imp b e),(.imp b e),(.imp b e),(.imp b e),(.imp b e),(.imp b d),(.imp b c),(.imp b d),(.imp b c),(.imp b g),(.imp b f),(.imp b d),(.imp b c),(.imp b e)] (.br (.and b (.lt (.call 0 0 [j,(.get h a)]) (.lit (.i 0)))) (.need [g,f,d,c,d,c,g,f,e,e] (.need [e] (.back 4 [a,(.put (.put h (.tok 5) (.get h a)) a j)]))) (.need [(.rng .i64 (.add (.tok 3) i))] (.back 1 [(.add (.tok 3) i),h]))))) (.leaf [(.tok 4)]))))
theorem q4n(g0:GfZ):CdZ [(qz,g0)] q56 qw Try.f92 jx:=fun cd h=>by injection h with h;subst h;kernel_rfl
theorem q58(h0:FOk qz g0)(h:HgZ jx qw [(qz,g0)] g):FOk qw g:=jf (q4n g0) (.cons h0 .nil) rfl rfl q48 (by decide) h
def qk:Ct:=⟨93,[.mref (.row 65),.val (.int .i64),.val (.int .i64),.val (.int .i64),.fn 48 []],[],[],none,[],[]⟩
theorem q2o:EnZ qk:=fun _ _=>by kernel_rfl
def q7d:Ann:=⟨[0,1,2,3,4,10,11,12,13,14,15,16,17,18,19,20,21,22,23,24,28,33,50,58,80,85,103,110,140,151,171,185,199,213],[(3,⟨[(10,.int .i64,false),(11,.int .i64,false)],[],[31,32,33,34,35,36,37,38,39,12,40,41,42,43,44,45,46,47,48,49,50,51,52,53],[]⟩),
 (9,⟨[(13,.int .i64,false),(0,.row 65,false)],[],[55,56,57,58,61,62,63,64,65,66,67,68,69,70,71,72,73,74,75,76,59,60,41,45,93,97,113,115,118,123,159,165,186,200,214],[]⟩),
 (15,⟨[(14,.int .i64,false),(15,.int .i64,false)],[],[83,84,85,86,87,88,89,90,91,16,92,93,94,95,96,97,98,99,100,101,102,103,104,105,106],[]⟩),
 (21,⟨[(17,.int .i64,false),(0,.row 65,false)],[],[108,109,110,113,114,115,116,117,118,119,120,121,122,123,124,125,126,127,128,111,112,41,45,61,63,66,71,93,97,159,165,186,200,214],[]⟩),
 (33,⟨[(20,.int .i64,false),(21,.int .i64,false)],[],[149,150,151,152,153,154,155,156,157,23,158,159,160,161,162,163,164,165,166,167,168,169,170,171,172,173,174],[]⟩)]⟩
def q0o:Tree:=
 let e:X:=.lit (.i 1)
 let f:X:=.tok 4
 let h:X:=.tok 0
 let i:X:=.tok 6
 let j:X:=.lit (.i 0)
 let l:X:=.tok 1
 let m:X:=.tok 2
 let n:X:=.tok 3
 let r:X:=.tok 7
 let x:X:=.tok 5
 let a:X:=.fn 8 [(.add l n),e]
 let q:X:=.add f x
 let s:X:=.add i e
 let t:X:=.sub i e
 let y:X:=.len h
 let z:X:=.len r
 let b:X:=.fn 8 [q,e]
 let p:X:=.call 2 0 [h,l,f,a]
 let u:X:=.and (.lt l f) (.lt f a)
 let b1:X:=.rng .i64 q
 let c1:X:=.rng .u64 q
 let f1:X:=.add a m
 let c:X:=.sub f1 f
 let g:X:=.sub (.sub f1 e) b
 let v:X:=.get h b
 let d1:X:=.rng .u64 b
 let e1:X:=.rng .i64 b
 let g1:X:=.add b e
 let d:X:=.call 1 0 [h,f,m,c]
 let k:X:=.and (.lt a c) (.lt c n)
 let w:X:=.rng .i64 g1
 let a1:X:=.not (.lt (.call 0 0 [(.get h g),v]) j)
 let h1:X:=.and (.lt f m) (.lt m c)
 let o:X:=.call 2 0 [d,l,f,a]
 (.need [(.rng .i64 (.sub m l))] (.br (.eq (.sub m l) e) (.loop 3 4 [m,n] (.br (.lt f x) (.need [b1,c1,d1,e1] (.need [(.ok 0 [v,(.get h l)]),(.le j l),(.lt l y),(.le j b),(.lt b y)] (.br (.lt (.call 0 0 [v,(.get h l)]) j) (.need [w] (.back 3 [g1,x])) (.back 3 [f,b])))) (.loop 9 6 [l,h] (.need [(.rng .i64 (.sub f e))] (.br (.lt i (.sub f e)) (.need [(.le j s),(.lt s z),(.le j i),(.lt i z),(.le j i),(.lt i z),(.le j s),(.lt s z),(.rng .i64 s),(.rng .i64 s)] (.need [(.rng .i64 s)] (.back 9 [s,(.put (.put r i (.get r s)) s (.get r i))]))) (.leaf [r])))))) (.need [(.rng .i64 (.sub n m))] (.br (.eq (.sub n m) e) (.loop 15 4 [l,m] (.br (.lt f x) (.need [b1,c1,d1,e1] (.need [(.ok 0 [(.get h m),v]),(.le j b),(.lt b y),(.le j m),(.lt m y)] (.br (.not (.lt (.call 0 0 [(.get h m),v]) j)) (.need [w] (.back 15 [g1,x])) (.back 15 [f,b])))) (.loop 21 6 [m,h] (.br (.lt f i) (.need [(.le j t),(.lt t z),(.le j i),(.lt i z),(.le j i),(.lt i z),(.le j t),(.lt t z),(.rng .i64 t),(.rng .i64 t)] (.need [(.rng .i64 t)] (.back 21 [t,(.put (.put r i (.get r t)) t (.get r i))]))) (.leaf [r]))))) (.need [(.rng .i64 (.add l n)),(.rng .u64 (.add l n)),(.rng .u64 a),(.rng .i64 a)] (.need [(.rng .i64 f1)] (.br (.lt a m) (.need [(.rng .i64 (.sub f1 n))] (.need [(.rng .i64 (.sub f1 e))] (.loop 33 4 [(.sub f1 n),a] (.br (.lt f x) (.need [b1,c1,d1,e1] (.need [(.ok 0 [(.get h g),v]),(.le j b),(.lt b y),(.le j g),(.lt g y),(.rng .i64 g)] (.br a1 (.need [w] (.back 33 [g1,x])) (.back 33 [f,b])))) (.need [(.rng .i64 c)] (.br h1 (.need [(.ok 1 [h,f,m,c])] (.br u (.need [(.ok 2 [d,l,f,a])] (.br k (.need [(.ok 2 [o,a,c,n])] (.leaf [(.call 2 0 [o,a,c,n])])) (.leaf [o]))) (.br k (.need [(.ok 2 [d,a,c,n])] (.leaf [(.call 2 0 [d,a,c,n])])) (.leaf [d])))) (.br u (.need [(.ok 2 [h,l,f,a])] (.br k (.need [(.ok 2 [p,a,c,n])] (.leaf [(.call 2 0 [p,a,c,n])])) (.leaf [p]))) (.br k (.need [(.ok 2 [h,a,c,n])] (.leaf [(.call 2 0 [h,a,c,n])])) (.leaf [h]))))))))) (.need [(.rng .i64 (.sub f1 e))] (.loop 33 4 [l,m] (.br (.lt f x) (.need [b1,c1,d1,e1] (.need [(.ok 0 [(.get h g),v]),(.le j b),(.lt b y),(.le j g),(.lt g y),(.rng .i64 g)] (.br a1 (.need [w] (.back 33 [g1,x])) (.back 33 [f,b])))) (.need [(.rng .i64 c)] (.br h1 (.need [(.ok 1 [h,f,m,c])] (.br u (.need [(.ok 2 [d,l,f,a])] (.br k (.need [(.ok 2 [o,a,c,n])] (.leaf [(.call 2 0 [o,a,c,n])])) (.leaf [o]))) (.br k (.need [(.ok 2 [d,a,c,n])] (.leaf [(.call 2 0 [d,a,c,n])])) (.leaf [d])))) (.br u (.need [(.ok 2 [h,l,f,a])] (.br k (.need [(.ok 2 [p,a,c,n])] (.leaf [(.call 2 0 [p,a,c,n])])) (.leaf [p]))) (.br k (.need [(.ok 2 [h,a,c,n])] (.leaf [(.call 2 0 [h,a,c,n])])) (.leaf [h])))))))))))))))
theorem q6y(g0 g1 g2:GfZ):CdZ [(qz,g0),(qq,g1),(qk,g2)] q7d qk Try.f93 q0o:=fun cd h=>by injection h with h;subst h;kernel_rfl
theorem q7k{g1 g2:GfZ}(h0:FOk qz g0)(h1:FOk qq g1)(h2:FOk qk g2)(h:HgZ q0o qk [(qz,g0),(qq,g1),(qk,g2)] g):FOk qk g:=jf (q6y g0 g1 g2) (.cons h0 (.cons h1 (.cons h2 .nil))) rfl rfl q2o (by decide) h
def zj:Ct:=⟨71,[.mref (.row 65),.val (.int .i64),.fn 48 []],[],[],none,[],[]⟩
theorem q7e:EnZ zj:=fun _ _=>by kernel_rfl
def q8s:Ann:=⟨[0,1,2,6,7,8,9,13,30,35,54],[(2,⟨[(7,.int .i64,false),(8,.int .i64,false),(0,.row 65,false)],[],[11,12,13,14,15,16,17,18,19,20,21,22,23,36,55],[]⟩),
 (7,⟨[(7,.int .i64,false),(8,.int .i64,false),(6,.int .i64,false),(0,.row 65,false)],[],[28,29,30,31,32,33,34,35,36,37,38,39,40,41,42,43,44,45,46,47,48,49,50,51,9,52,53,54,55,56,57,58,59,60,61,62,14,23],[]⟩),
 (9,⟨[(7,.int .i64,false),(8,.int .i64,false),(0,.row 65,false)],[],[33,34,35,36,37,38,39,40,41,42,43,44,45,46,47,48,14,23,55],[]⟩)]⟩
def q0y:Tree:=
 let b:X:=.mul (.lit (.i 2)) (.tok 7)
 let c:X:=.mul (.tok 7) (.lit (.i 2))
 let d:X:=.tok 10
 let e:X:=.tok 1
 let f:X:=.tok 3
 let g:X:=.lit (.i 20)
 let h:X:=.tok 9
 let i:X:=.tok 11
 let j:X:=.tok 2
 let a:X:=.add h (.tok 7)
 (.loop 2 2 [(.lit (.i 0)),g,(.tok 0)] (.br (.le f e) (.need [(.ok 1 [(.tok 4),j,f])] (.need [(.rng .i64 (.add f g))] (.back 2 [f,(.add f g),(.call 1 0 [(.tok 4),j,f])]))) (.need [(.ok 1 [(.tok 4),j,e])] (.loop 7 5 [j,f,g,(.call 1 0 [(.tok 4),j,e])] (.br (.lt (.tok 7) e) (.need [(.rng .i64 b)] (.loop 9 9 [(.lit (.i 0)),b,(.tok 8)] (.br (.le d e) (.need [(.rng .i64 a),(.ok 2 [i,h,a,d])] (.need [(.rng .i64 b),(.rng .i64 (.add d b))] (.back 9 [d,(.add d b),(.call 2 0 [i,h,a,d])]))) (.need [(.rng .i64 a)] (.br (.lt a e) (.need [(.ok 2 [i,h,a,e])] (.need [(.rng .i64 c)] (.back 7 [h,d,c,(.call 2 0 [i,h,a,e])]))) (.need [(.rng .i64 c)] (.back 7 [h,d,c,i]))))))) (.leaf [(.tok 8)]))))))
theorem q8k(g0 g1 g2:GfZ):CdZ [(qz,g0),(qw,g1),(qk,g2)] q8s zj Try.f71 q0y:=fun cd h=>by injection h with h;subst h;kernel_rfl
theorem q8v{g1 g2:GfZ}(h0:FOk qz g0)(h1:FOk qw g1)(h2:FOk qk g2)(h:HgZ q0y zj [(qz,g0),(qw,g1),(qk,g2)] g):FOk zj g:=jf (q8k g0 g1 g2) (.cons h0 (.cons h1 (.cons h2 .nil))) rfl rfl q7e (by decide) h
def yh:Ct:=⟨47,[.mref (.row 65),.fn 48 []],[],[],none,[],[]⟩
theorem q6k:EnZ yh:=fun _ _=>by kernel_rfl
def q8d:Ann:=⟨[0,1],[]⟩
def q0t:Tree:=(.need [(.ok 1 [(.tok 0),(.len (.tok 0))])] (.leaf [(.call 1 0 [(.tok 0),(.len (.tok 0))])]))
theorem q7j(g0 g1:GfZ):CdZ [(qz,g0),(zj,g1)] q8d yh Try.f47 q0t:=fun cd h=>by injection h with h;subst h;kernel_rfl
theorem q86{g1:GfZ}(h0:FOk qz g0)(h1:FOk zj g1)(h:HgZ q0t yh [(qz,g0),(zj,g1)] g):FOk yh g:=jf (q7j g0 g1) (.cons h0 (.cons h1 .nil)) rfl rfl q6k (by decide) h
def jq:Ct:=⟨60,[.val (.st 26),.val (.int .i64)],[(.bool,false)],[],none,[],[]⟩
theorem qkw:EnZ jq:=fun _ _=>by kernel_rfl
def qpq:Ann:=⟨[0,1,2,4,5,6,11],[]⟩
def q8g:Tree:=(.need [(.rng .i64 (.add (.tok 1) (.lit (.i 1)))),(.ok 0 [(.tok 0),(.add (.tok 1) (.lit (.i 1)))])] (.br (.not (.eq (.call 0 0 [(.tok 0),(.add (.tok 1) (.lit (.i 1)))]) (.lit (.i 1)))) (.leaf [(.lit (.b .false))]) (.need [(.ok 0 [(.tok 0),(.add (.tok 1) (.lit (.i 2)))]),(.rng .i64 (.add (.tok 1) (.lit (.i 2)))),(.le (.lit (.i 0)) (.add (.tok 1) (.lit (.i 1)))),(.lt (.add (.tok 1) (.lit (.i 1))) (.len (.fld (.tok 0) 0))),(.rng .i64 (.add (.tok 1) (.lit (.i 1))))] (.leaf [(.and (.and (.and (.and (.le (.lit (.i 1)) (.fld (.get (.fld (.tok 0) 0) (.add (.tok 1) (.lit (.i 1)))) 1)) (.le (.fld (.get (.fld (.tok 0) 0) (.add (.tok 1) (.lit (.i 1)))) 1) (.fld (.tok 0) 4))) (.le (.lit (.i 0)) (.call 0 0 [(.tok 0),(.add (.tok 1) (.lit (.i 2)))]))) (.not (.eq (.call 0 0 [(.tok 0),(.add (.tok 1) (.lit (.i 2)))]) (.lit (.i 4))))) (.not (.eq (.call 0 0 [(.tok 0),(.add (.tok 1) (.lit (.i 2)))]) (.lit (.i 5)))))]))))
theorem qn4(g0:GfZ):CdZ [(ze,g0)] qpq jq Try.f60 q8g:=fun cd h=>by injection h with h;subst h;kernel_rfl
theorem qpd(h0:FOk ze g0)(h:HgZ q8g jq [(ze,g0)] g):FOk jq g:=jf (qn4 g0) (.cons h0 .nil) rfl rfl qkw (by decide) h
def q1k:Ct:=⟨5,[.val (.st 26)],[(.bool,false)],[],none,[],[]⟩
theorem qla:EnZ q1k:=fun _ _=>by kernel_rfl
def qqy:Ann:=⟨[0,1,2],[]⟩
def q8f:Tree:=(.leaf [(.and (.and (.and (.le (.len (.fld (.tok 0) 0)) (.lit (.i 300))) (.le (.len (.fld (.tok 0) 1)) (.lit (.i 100)))) (.le (.len (.fld (.tok 0) 2)) (.lit (.i 300)))) (.le (.len (.fld (.tok 0) 3)) (.lit (.i 50))))])
theorem qmz:CdZ [] qqy q1k Try.f5 q8f:=fun cd h=>by injection h with h;subst h;kernel_rfl
theorem qp8(h:HgZ q8f q1k [] g):FOk q1k g:=jf (qmz) .nil rfl rfl qla (by decide) h
def q1n:Ct:=⟨6,[.val (.st 26)],[(.bool,false)],[],none,[],[]⟩
theorem qm1:EnZ q1n:=fun _ _=>by kernel_rfl
def ye:Ct:=⟨26,[.val (.row 58)],[(.bool,false)],[],none,[],[]⟩
theorem qcj:EnZ ye:=fun _ _=>by kernel_rfl
def q1a:Ct:=⟨27,[.val (.st 26),.val (.int .i64)],[(.bool,false)],[],none,[],[]⟩
theorem qo7:EnZ q1a:=fun _ _=>by kernel_rfl
def jy:Ct:=⟨28,[.val (.st 26)],[(.bool,false)],[],none,[],[]⟩
theorem qhr:EnZ jy:=fun _ _=>by kernel_rfl
def jg:Ct:=⟨29,[.val (.st 26),.val (.st 68)],[(.bool,false)],[],none,[],[]⟩
theorem qf9:EnZ jg:=fun _ _=>by kernel_rfl
def qq8:Ann:=⟨[0,1,2,3,5,7,34,37,38,39,44,48,50,51,52,53,59,62,63,64,65,91],[(4,⟨[(2,.bool,false),(38,.int .i64,false)],[],[39,40,3,41,42,43,44,45],[]⟩),
 (12,⟨[(2,.bool,false),(52,.int .i64,false)],[],[53,54,55,5,56,57,58,59,60],[]⟩),
 (18,⟨[(2,.bool,false),(64,.int .i64,false)],[],[65,66,67,7,68,69,70,71,72,73,74,75,76,77,78,79,80,81,82,83,84,85,86,87,88,89,90,91,92],[]⟩)]⟩
def q89:Tree:=
 let b:X:=.tok 0
 let e:X:=.lit (.b .false)
 let f:X:=.lit (.i 1)
 let g:X:=.lit (.i 0)
 let h:X:=.tok 4
 let k:X:=.tok 2
 let a:X:=.get (.fld b 3) (.tok 6)
 let c:X:=.or (.or (.or (.lt (.fld b 5) f) (.lt (.lit (.i 1048576)) (.fld b 5))) (.lt (.fld b 5) (.len (.fld b 0)))) (.lt (.fld b 4) g)
 let j:X:=.lt (.tok 6) (.len (.fld b 3))
 let l:X:=.fld b 2
 let d:X:=.or (.lt (.fld a 0) f) (.lt (.fld b 4) (.fld a 0))
 let i:X:=.or d (.not (.call 4 0 [b,(.fld a 1)]))
 (.need [(.imp (.not c) (.ok 0 [(.fld b 1)]))] (.br (.or c (.not (.call 0 0 [(.fld b 1)]))) (.leaf [e]) (.loop 4 1 [e,g] (.br (.lt k (.len (.fld b 0))) (.need [(.ok 1 [b,k])] (.br (.not (.call 1 0 [b,k])) (.leaf [e]) (.need [(.rng .i64 (.add k f))] (.back 4 [(.tok 1),(.add k f)])))) (.need [(.ok 2 [b])] (.br (.not (.call 2 0 [b])) (.leaf [e]) (.loop 12 3 [(.tok 1),g] (.br (.lt h (.len l)) (.need [(.le g h),(.lt h (.len l))] (.need [(.ok 3 [b,(.get l h)])] (.br (.not (.call 3 0 [b,(.get l h)])) (.leaf [e]) (.need [(.rng .i64 (.add h f))] (.back 12 [(.tok 3),(.add h f)]))))) (.loop 18 5 [(.tok 3),g] (.br j (.need [(.le g (.tok 6)),j] (.need [(.imp (.not d) (.ok 4 [b,(.fld a 1)])),(.imp (.not i) (.ok 4 [b,(.fld a 2)]))] (.br (.or i (.not (.call 4 0 [b,(.fld a 2)]))) (.leaf [e]) (.need [(.rng .i64 (.add (.tok 6) f))] (.back 18 [(.tok 5),(.add (.tok 6) f)]))))) (.leaf [(.lit (.b .true))])))))))))))
theorem qo5(g0 g1 g2 g3 g4:GfZ):CdZ [(ye,g0),(q1a,g1),(jy,g2),(jg,g3),(qb,g4)] qq8 q1n Try.f6 q89:=fun cd h=>by injection h with h;subst h;kernel_rfl
theorem qq2{g1 g2 g3 g4:GfZ}(h0:FOk ye g0)(h1:FOk q1a g1)(h2:FOk jy g2)(h3:FOk jg g3)(h4:FOk qb g4)(h:HgZ q89 q1n [(ye,g0),(q1a,g1),(jy,g2),(jg,g3),(qb,g4)] g):FOk q1n g:=jf (qo5 g0 g1 g2 g3 g4) (.cons h0 (.cons h1 (.cons h2 (.cons h3 (.cons h4 .nil))))) rfl rfl qm1 (by decide) h
def q2a:Ct:=⟨7,[.val (.st 26)],[(.bool,false)],[],none,[],[]⟩
theorem qnt:EnZ q2a:=fun _ _=>by kernel_rfl
def qtp:Ann:=⟨[0,1,2,3,8,28],[(2,⟨[(2,.bool,false),(3,.int .i64,false)],[],[4,5,6,7,8,11,12,13,14,15,16,17,18,19,20,21,22,23,24,25,26,27,28,9,10],[]⟩)]⟩
def q9r:Tree:=(.loop 2 1 [(.lit (.b .false)),(.lit (.i 0))] (.br (.lt (.tok 2) (.len (.fld (.tok 0) 3))) (.need [(.le (.lit (.i 0)) (.tok 2)),(.lt (.tok 2) (.len (.fld (.tok 0) 3))),(.imp (.not (.eq (.fld (.fld (.get (.fld (.tok 0) 3) (.tok 2)) 1) 0) (.lit (.i 5)))) (.le (.lit (.i 0)) (.tok 2))),(.imp (.not (.eq (.fld (.fld (.get (.fld (.tok 0) 3) (.tok 2)) 1) 0) (.lit (.i 5)))) (.lt (.tok 2) (.len (.fld (.tok 0) 3))))] (.br (.or (.eq (.fld (.fld (.get (.fld (.tok 0) 3) (.tok 2)) 1) 0) (.lit (.i 5))) (.eq (.fld (.fld (.get (.fld (.tok 0) 3) (.tok 2)) 2) 0) (.lit (.i 5)))) (.leaf [(.lit (.b .false))]) (.need [(.rng .i64 (.add (.tok 2) (.lit (.i 1))))] (.back 2 [(.tok 1),(.add (.tok 2) (.lit (.i 1)))])))) (.leaf [(.lit (.b .true))])))
theorem qq7:CdZ [] qtp q2a Try.f7 q9r:=fun cd h=>by injection h with h;subst h;kernel_rfl
theorem qsh(h:HgZ q9r q2a [] g):FOk q2a g:=jf (qq7) .nil rfl rfl qnt (by decide) h
def qdi:Ann:=⟨[0,2,3,5,8,12,13,14,15,36],[(5,⟨[(2,.bool,false),(14,.int .i64,false),(3,.map 58 4,false)],[],[15,16,17,5,18,19,20,21,22,23,24,25,26,27,28,29,30,31,32,33,34,35,36,37,38,39,11],[]⟩)]⟩
def q3c:Tree:=(.br (.lt (.lit (.i 1048576)) (.len (.tok 0))) (.leaf [(.lit (.b .false))]) (.loop 5 1 [(.lit (.b .false)),(.lit (.i 0)),(.lit (.mp []))] (.br (.lt (.tok 2) (.len (.tok 0))) (.need [(.le (.lit (.i 0)) (.tok 2)),(.lt (.tok 2) (.len (.tok 0)))] (.br (.or (.or (.or (.lt (.lit (.i 100)) (.slen (.fld (.get (.tok 0) (.tok 2)) 0))) (.lt (.fld (.get (.tok 0) (.tok 2)) 1) (.lit (.i 0)))) (.lt (.lit (.i 8)) (.fld (.get (.tok 0) (.tok 2)) 1))) (.fn 0 [(.tok 3),(.get (.tok 0) (.tok 2)),(.lit (.b .false))])) (.leaf [(.lit (.b .false))]) (.need [(.rng .i64 (.add (.tok 2) (.lit (.i 1))))] (.back 5 [(.tok 1),(.add (.tok 2) (.lit (.i 1))),(.fn 2 [(.tok 3),(.get (.tok 0) (.tok 2)),(.lit (.b .true))])])))) (.leaf [(.lit (.b .true))]))))
theorem qdb:CdZ [] qdi ye Try.f26 q3c:=fun cd h=>by injection h with h;subst h;kernel_rfl
theorem qef(h:HgZ q3c ye [] g):FOk ye g:=jf (qdb) .nil rfl rfl qcj (by decide) h
def qs2:Ann:=⟨[0,1,2,4,5,6,7,8,15,16,23,30,41,42],[(8,⟨[(4,.bool,false),(7,.int .i64,false)],[],[26,27,28,29,30,33,34,35,8,36,37,38,39,40,41,31,32],[]⟩)]⟩
def q9l:Tree:=
 let b:X:=.tok 0
 let c:X:=.tok 1
 let e:X:=.lit (.i 1)
 let f:X:=.tok 3
 let g:X:=.lit (.b .false)
 let a:X:=.get (.fld b 0) c
 let d:X:=.call 0 0 [b,(.fld a 1)]
 (.need [(.le (.lit (.i 0)) c),(.lt c (.len (.fld b 0)))] (.br (.eq (.fld a 0) (.lit (.i 4))) (.need [(.ok 0 [b,(.fld a 1)])] (.br (.lt d e) (.leaf [g]) (.need [(.rng .i64 (.add c e))] (.loop 8 2 [g,(.add c e)] (.need [(.rng .i64 (.add c d))] (.br (.le f (.add c d)) (.need [(.ok 1 [b,f])] (.br (.or (.lt (.call 1 0 [b,f]) (.lit (.i 0))) (.eq (.call 1 0 [b,f]) (.lit (.i 4)))) (.leaf [g]) (.need [(.rng .i64 (.add f e))] (.back 8 [(.tok 2),(.add f e)])))) (.leaf [(.lit (.b .true))]))))))) (.br (.eq (.fld a 0) (.lit (.i 5))) (.need [(.imp (.eq (.fld a 1) c) (.ok 2 [b,c]))] (.leaf [(.and (.eq (.fld a 1) c) (.call 2 0 [b,c]))])) (.need [(.ok 3 [b,a])] (.leaf [(.call 3 0 [b,a])])))))
theorem qqa(g0 g1 g2 g3:GfZ):CdZ [(yb,g0),(ze,g1),(jq,g2),(qb,g3)] qs2 q1a Try.f27 q9l:=fun cd h=>by injection h with h;subst h;kernel_rfl
theorem qs5{g1 g2 g3:GfZ}(h0:FOk yb g0)(h1:FOk ze g1)(h2:FOk jq g2)(h3:FOk qb g3)(h:HgZ q9l q1a [(yb,g0),(ze,g1),(jq,g2),(qb,g3)] g):FOk q1a g:=jf (qqa g0 g1 g2 g3) (.cons h0 (.cons h1 (.cons h2 (.cons h3 .nil)))) rfl rfl qo7 (by decide) h
def qkc:Ann:=⟨[0,1,2,3,4,5,6,7,9,16,17,18,25,46,53,54,55,56,57],[(3,⟨[(2,.bool,false),(17,.int .i64,false),(3,.row 3,false)],[],[18,19,4,5,20,6,21,22,23,24,25,26,27,28,29,30,31,32,33,34,35,36,37,7,38,39,40,41,42,43,44,45,46,47,48,49,50,51,52,53,54,55,56,57,58,59,9,60,61,62,63,64,13],[]⟩),
 (7,⟨[(5,.row 3,false),(6,.int .i64,false),(2,.bool,false),(3,.row 3,false)],[],[21,22,23,24,25,26,27,28,29,30,31,32,33,34,35,36,37,7,38,39,40,41,42,43,44,45,46,47,48,49,50,51,52,53,13,60],[]⟩),
 (16,⟨[(56,.int .i64,false),(3,.row 3,false)],[],[57,58,59,9,60,61,62,63,13,21,26,49],[]⟩)]⟩
def q60:Tree:=
 let a:X:=.lit (.i 0)
 let d:X:=.lit (.i 1)
 let e:X:=.tok 8
 let f:X:=.len (.fld (.tok 0) 0)
 let g:X:=.tok 5
 let h:X:=.tok 7
 let j:X:=.tok 4
 let k:X:=.tok 9
 let b:X:=.fld (.get (.fld (.tok 0) 0) g) 1
 let c:X:=.app j (.row [g])
 let i:X:=.add (.tok 2) d
 let l:X:=.add e d
 (.need [(.le a f),(.le f (.lit (.i 16777216)))] (.loop 3 1 [(.lit (.b .false)),a,(.rep f a)] (.br (.lt (.tok 2) f) (.loop 7 4 [(.lit (.r [])),(.tok 2),(.tok 1),(.tok 3)] (.need [(.le a g),(.lt g (.len h))] (.br (.eq (.get h g) a) (.need [(.le a g),(.lt g (.len h))] (.need [(.le (.add (.len j) d) (.lit (.i 17592186043904)))] (.need [(.le a g),(.lt g f)] (.br (.or (.not (.eq (.fld (.get (.fld (.tok 0) 0) g) 0) a)) (.eq b g)) (.loop 16 8 [a,(.put h g d)] (.br (.lt e (.len c)) (.need [(.le a e),(.lt e (.len c))] (.need [(.le a (.get c e)),(.lt (.get c e) (.len k))] (.need [(.rng .i64 l)] (.back 16 [l,(.put k (.get c e) (.lit (.i 2)))])))) (.need [(.rng .i64 i)] (.back 3 [(.tok 6),i,k])))) (.need [(.le a b),(.lt b (.len h))] (.br (.eq (.get (.put h g d) b) d) (.leaf [(.lit (.b .false))]) (.back 7 [c,b,(.tok 6),(.put h g d)]))))))) (.loop 16 8 [a,h] (.br (.lt e (.len j)) (.need [(.le a e),(.lt e (.len j))] (.need [(.le a (.get j e)),(.lt (.get j e) (.len k))] (.need [(.rng .i64 l)] (.back 16 [l,(.put k (.get j e) (.lit (.i 2)))])))) (.need [(.rng .i64 i)] (.back 3 [(.tok 6),i,k]))))))) (.leaf [(.lit (.b .true))]))))
theorem qj4:CdZ [] qkc jy Try.f28 q60:=fun cd h=>by injection h with h;subst h;kernel_rfl
theorem qkd(h:HgZ q60 jy [] g):FOk jy g:=jf (qj4) .nil rfl rfl qhr (by decide) h
def qib:Ann:=⟨[0,1,2,3,4,5,11,14,15,22,41],[]⟩
def q4b:Tree:=
 let a:X:=.fld (.tok 1) 1
 let b:X:=.fld (.tok 1) 0
 let d:X:=.tok 0
 let f:X:=.lit (.b .false)
 let g:X:=.lit (.i 1)
 let c:X:=.and (.eq (.fld a 1) b) (.call 1 0 [d,b])
 let e:X:=.fld a 0
 let h:X:=.call 2 0 [d,a]
 let i:X:=.ok 2 [d,a]
 (.need [(.ok 0 [d,b])] (.br (.lt (.call 0 0 [d,b]) (.lit (.i 0))) (.leaf [f]) (.br (.eq e (.lit (.i 0))) (.leaf [(.eq (.fld a 1) b)]) (.br (.eq e (.lit (.i 5))) (.need [(.imp (.eq (.fld a 1) b) (.ok 1 [d,b])),(.imp c (.rng .i64 (.sub b g))),(.imp c (.ok 0 [d,(.sub b g)]))] (.leaf [(.and c (.not (.eq (.call 0 0 [d,(.sub b g)]) (.lit (.i 5)))))])) (.br (.eq e g) (.br (.eq e g) (.need [i] (.leaf [h])) (.leaf [f])) (.br (.eq e (.lit (.i 2))) (.br (.eq e (.lit (.i 2))) (.need [i] (.leaf [h])) (.leaf [f])) (.br (.eq e (.lit (.i 3))) (.need [i] (.leaf [h])) (.leaf [f]))))))))
theorem qg1(g0 g1 g2:GfZ):CdZ [(ze,g0),(jq,g1),(qb,g2)] qib jg Try.f29 q4b:=fun cd h=>by injection h with h;subst h;kernel_rfl
theorem qi8{g1 g2:GfZ}(h0:FOk ze g0)(h1:FOk jq g1)(h2:FOk qb g2)(h:HgZ q4b jg [(ze,g0),(jq,g1),(qb,g2)] g):FOk jg g:=jf (qg1 g0 g1 g2) (.cons h0 (.cons h1 (.cons h2 .nil))) rfl rfl qf9 (by decide) h
def q1j:Ct:=⟨9,[.val (.st 26)],[(.st 26,true)],[],none,[],[]⟩
theorem qle:EnZ q1j:=fun _ _=>by kernel_rfl
def je:Ct:=⟨31,[.val (.row 33)],[(.row 33,true)],[],none,[],[]⟩
theorem qcu:EnZ je:=fun _ _=>by kernel_rfl
def yt:Ct:=⟨32,[.val (.row 58)],[(.row 58,true)],[],none,[],[]⟩
theorem qbk:EnZ yt:=fun _ _=>by kernel_rfl
def jd:Ct:=⟨33,[.val (.row 69)],[(.row 69,true)],[],none,[],[]⟩
theorem qcr:EnZ jd:=fun _ _=>by kernel_rfl
def qqe:Ann:=⟨[0,1,2],[]⟩
def q87:Tree:=(.need [(.ok 0 [(.fld (.tok 0) 0)])] (.need [(.ok 1 [(.fld (.tok 0) 1)])] (.need [(.ok 2 [(.fld (.tok 0) 2)])] (.need [(.ok 3 [(.fld (.tok 0) 3)])] (.leaf [(.set (.set (.set (.set (.tok 0) 0 (.call 0 0 [(.fld (.tok 0) 0)])) 1 (.call 1 0 [(.fld (.tok 0) 1)])) 2 (.call 2 0 [(.fld (.tok 0) 2)])) 3 (.call 3 0 [(.fld (.tok 0) 3)]))])))))
theorem qnn(g0 g1 g2 g3:GfZ):CdZ [(je,g0),(yt,g1),(jd,g2),(yp,g3)] qqe q1j Try.f9 q87:=fun cd h=>by injection h with h;subst h;kernel_rfl
theorem qpw{g1 g2 g3:GfZ}(h0:FOk je g0)(h1:FOk yt g1)(h2:FOk jd g2)(h3:FOk yp g3)(h:HgZ q87 q1j [(je,g0),(yt,g1),(jd,g2),(yp,g3)] g):FOk q1j g:=jf (qnn g0 g1 g2 g3) (.cons h0 (.cons h1 (.cons h2 (.cons h3 .nil)))) rfl rfl qle (by decide) h
def qfe:Ann:=⟨[0,2,4],[]⟩
def q74:Tree:=(.amb (.tok 0) .false (.leaf [(.lit (.r []))]) (.need [(.le (.add (.lit (.i 0)) (.len (.tok 0))) (.lit (.i 8796093021952)))] (.leaf [(.app (.row []) (.tok 0))])))
theorem qea:CdZ [] qfe je Try.f31 q74:=fun cd h=>by injection h with h;subst h;kernel_rfl
theorem qfg(h:HgZ q74 je [] g):FOk je g:=jf (qea) .nil rfl rfl qcu (by decide) h
def qcv:Ann:=⟨[0,2,4],[]⟩
def q5f:Tree:=(.amb (.tok 0) .false (.leaf [(.lit (.r []))]) (.need [(.le (.add (.lit (.i 0)) (.len (.tok 0))) (.lit (.i 5864062014634)))] (.leaf [(.app (.row []) (.tok 0))])))
theorem qcd:CdZ [] qcv yt Try.f32 q5f:=fun cd h=>by injection h with h;subst h;kernel_rfl
theorem qcs(h:HgZ q5f yt [] g):FOk yt g:=jf (qcd) .nil rfl rfl qbk (by decide) h
def qfa:Ann:=⟨[0,2,4],[]⟩
def q77:Tree:=(.amb (.tok 0) .false (.leaf [(.lit (.r []))]) (.need [(.le (.add (.lit (.i 0)) (.len (.tok 0))) (.lit (.i 5864062014634)))] (.leaf [(.app (.row []) (.tok 0))])))
theorem qdu:CdZ [] qfa jd Try.f33 q77:=fun cd h=>by injection h with h;subst h;kernel_rfl
theorem qf7(h:HgZ q77 jd [] g):FOk jd g:=jf (qdu) .nil rfl rfl qcr (by decide) h
def cellAt(s:So)(i:Int):Ce:=s.cs.getD i.toNat default
def inS(s:So)(i:Int):Bool:=decide (0≤i)&&decide (i<s.cs.length)
def q0d(s:So)(i:Int):Int:=if inS s i then(cellAt s i).t else -1
def arS(s:So)(n:Int):Int:=if 0≤n∧n<s.ys.length then(s.ys.getD n.toNat default).ar else -1
def vcR(s:So)(c:Ce):Bool:=if c.t=0 then inS s c.n&& !decide (q0d s c.n=4) else if c.t=1 then true else if c.t=2 then decide (arS s c.n=0) else if c.t=3 then decide (q0d s c.n=4) else if c.t=5 then decide (q0d s c.n=5) else false
def vcP(s:So)(c:Ce):Bool:=if c.t=0 then decide (0≤q0d s c.n)&& !decide (q0d s c.n=4) else if c.t=1 then true else if c.t=2 then decide (arS s c.n=0) else if c.t=3 then decide (q0d s c.n=4) else if c.t=5 then decide (q0d s c.n=5) else false
def q2q(s:So)(i:Int):Bool:=decide (q0d s (i+1)=1)&&(decide (1≤(cellAt s (i+1)).n)&&(decide ((cellAt s (i+1)).n≤s.ser)&&(decide (0≤q0d s (i+2))&&(!decide (q0d s (i+2)=4)&& !decide (q0d s (i+2)=5)))))
def qce(f:So→Int→Int):List D→Option (List D)
 |[s,i]=>some [.i (f (dS s) i.int)]
 |_=>none
def qpt(f:So→Int→Bool):List D→Option (List D)
 |[s,i]=>some [.b (f (dS s) i.int)]
 |_=>none
def qg5(q:So→Int→Bool)(f:So→Int→Bool):List D→Option (List D)
 |[s,i]=>if q (dS s) i.int then some [.b (f (dS s) i.int)] else none
 |_=>none
def qdf(f:So→Ce→Bool):List D→Option (List D)
 |[s,c]=>some [.b (f (dS s) (dC c))]
 |_=>none
def zmp(f:So→Un→Bool):List D→Option (List D)
 |[s,c]=>some [.b (f (dS s) (dU c))]
 |_=>none
def gSb(f:So→Bool):List D→Option (List D)
 |[s]=>some [.b (f (dS s))]
 |_=>none
def ze9(q:So→Bool)(f:So→Bool):List D→Option (List D)
 |[s]=>if q (dS s) then some [.b (f (dS s))] else none
 |_=>none
variable{i:Int}
theorem qi{s:So}:inS s i=true↔0≤i∧i<s.cs.length:=by simp[inS]
theorem y7{s:So}(h:inS s i=true):(D.r (s.cs.map eC)).get i=eC (cellAt s i):=zb0 eC (qi.1 h).1 (qi.1 h).2
theorem zw{s:So}(h:inS s i=true):q0d s i=(cellAt s i).t:=if_pos h
theorem q4i{s:So}(h:inS s i=false):q0d s i= -1:=if_neg (by rw[h];decide)
theorem q30:FOk ze (qce q0d):=qx5 fun ds outs hw hg=>by
 obtain⟨d,r,rfl,hd,e,r',rfl,he,rfl⟩:=hw;obtain⟨s,rfl,hs⟩:=wfS hd;obtain⟨i,rfl,hi⟩:=wfI he;simp only[qce,yf,j4,uB] at hg;subst hg;simp only[qbf,Tree.go,q0s,X.says,X.ev,X.evs,evl,qf,gnA,true_and];cases h:inS s i with
 |false=>
  have h':¬(0≤i∧i<s.cs.length):=fun q=>by rw[qi.2 q] at h;cases h
  have h2:i<0∨(s.cs.length:Int)≤i:=by omega
  simp[q4i h];omega
 |true=>
  have h':=qi.1 h;have h1:¬i<0:=by omega
  have h2:¬(s.cs.length:Int)≤i:=by omega
  simp[y7 h,qt5,zw h,h',h1,h2]
theorem z7r{s:So}(h:0≤i∧i<s.ys.length):(D.r (s.ys.map eY)).get i=eY (s.ys.getD i.toNat default):=zb0 eY h.1 h.2
theorem q6n:FOk yb (qce arS):=qqw fun ds outs hw hg=>by
 obtain⟨d,r,rfl,hd,e,r',rfl,he,rfl⟩:=hw;obtain⟨s,rfl,hs⟩:=wfS hd;obtain⟨i,rfl,hi⟩:=wfI he;simp only[qce,yf,j4,uB] at hg;subst hg;simp only[q7x,Tree.go,q0s,X.says,X.ev,X.evs,evl,qf,gnA,true_and];by_cases h:0≤i∧i<s.ys.length
 ·have h1:¬i<0:=by omega
  have h2:¬(s.ys.length:Int)≤i:=by omega
  simp[z7r h,zke,arS,h,h1,h2]
 ·simp[arS,h]
theorem zh:FOk qb (qdf vcP):=qhz q6n q30 fun ds outs hw hg=>by
 obtain⟨d,r,rfl,hd,e,r',rfl,he,rfl⟩:=hw;obtain⟨s,rfl,hs⟩:=wfS hd;obtain⟨c,rfl,hc⟩:=wfC he;simp only[qdf,yf,q16,uB] at hg;subst hg;simp only[q4d,Tree.go,q0s,X.says,X.ev,X.evs,evl,qf,gnA,qce,vcP,true_and];by_cases h0:c.t=0
 ·simp[h0]
 ·by_cases h1:c.t=1
  ·simp[h1]
  ·by_cases h2:c.t=2
   ·simp[h2]
   ·by_cases h3:c.t=3
    ·simp[h3]
    ·by_cases h5:c.t=5
     ·simp[h5]
     ·simp[h0,h1,h2,h3,h5]
theorem tag_in{s:So}(h:q0d s i=1):inS s i=true:=by
 cases hi:inS s i with
 |true=>rfl
 |false=>rw[q4i hi] at h;cases h
theorem qk3{k k' v:D}:∀{l:List D},mfind k (mset k' v l)=if k'=k then some v else mfind k l
 |[]=>by simp[mset,mfind,D.fld,D.fs]
 | p :: l => by
  unfold mset;split
  ·rename_i h;by_cases hk:k'=k
   ·simp[mfind,D.fld,D.fs,hk]
   ·have:¬(p.fld 0=k):=fun e=>hk (h.symm.trans e);simp[mfind,D.fld,D.fs,hk,this];intro e;exact absurd e this
  ·rename_i h;unfold mfind;by_cases hk:p.fld 0=k
   ·have:¬(k'=k):=fun e=>h (hk.trans e.symm);simp[hk,this]
   ·simp only[if_neg hk];exact qk3
def okY(y:Sy):Bool:=decide (y.name.size≤100)&&(decide (0≤y.ar)&&decide (y.ar≤8))
def qda(l:List Sy)(k:Nat):Bool:=okY (l.getD k default)&& !decide (l.getD k default∈l.take k)
def q7n(l:List Sy):Bool:=decide (l.length≤1048576)&&(uD l.length).all (qda l)
def zfb(f:List Sy→Bool):List D→Option (List D)
 |[l]=>some [.b (f (l.rs.map dY))]
 |_=>none
def qun(x:D)(l:List Sy)(k:Nat)(L:List D):Prop:=∀y,mfind (eY y) L=if y∈l.take k then some x else none
variable{x:D}
theorem qun.nil{l:List Sy}:qun x l 0 []:=fun y=>by simp[mfind]
variable{L:List D}
theorem qun.put{l:List Sy}{k:Nat}(h:qun x l k L)(hk:k<l.length):qun x l (k+1) (mset (eY (l.getD k default)) x L):=fun y=>by
 rw[qk3,qai hk,h y];generalize l.getD k default=z;by_cases hy:y=z
 ·subst hy;simp
 ·have:¬(z=y):=fun e=>hy e.symm;simp[qzq,this,hy]
theorem qf2:FOk ye (zfb q7n):=qef fun ds outs hw hg=>by
 obtain⟨d,r,rfl,hd,rfl⟩:=hw;obtain⟨l,rfl,hl,hok⟩:=zud hd;simp only[zfb,q7i,map_id' qvc,uB] at hg;subst hg;simp only[q3c,Tree.go,q0s,X.says,X.ev,X.evs,evl,qf,gnA,q7n];refine⟨fun h=>?_,fun h=>?_⟩
 ·have:¬(l.length≤1048576):=by omega
  simp[this]
 ·have h0:l.length≤1048576:=by omega
  refine⟨fun st=>∃(k:Nat)(L:List D),k≤l.length∧st=[.b false,.i k,.mp L]∧(∀j,j<k→qda l j=true)∧qun (.b true) l k L,fun st=>l.length - (st.getD 1 .u).int.toNat,⟨0,[],uI _,rfl,(fun j hj=>absurd hj (uM _)),qun.nil⟩,?_⟩;rintro st - ⟨k,L,hk,rfl,hP,hL⟩;simp only[Tree.go,q0s,X.says,X.ev,X.evs,evl,qf,gnA];refine⟨fun hlt=>?_,fun hlt=>?_⟩
  ·have hkl:k<l.length:=by omega
   have hp:(0:Int)≤k:=by omega
   simp only[hlt,hp,q67 eY hkl,zdp,zke,q7o,j4,true_and,kL,decide_true,and_true,kR,fnD,zc7,hL (l.getD k default)];have hr:i64 ((k:Int)+1):=⟨by omega,by omega⟩;have e:((if l.getD k default∈l.take k then some (D.b true) else none).getD (.b false)).tt=decide (l.getD k default∈l.take k):=by
    by_cases hm:l.getD k default∈l.take k
    ·rw[if_pos hm,decide_eq_true hm];rfl
    ·rw[if_neg hm,decide_eq_false hm];rfl
   rw[e];refine⟨fun hb=>?_,fun hb=>⟨hr,?_⟩⟩
   ·have:qda l k=false:=by
     simp only[qda,okY];generalize l.getD k default=z at hb⊢;by_cases hm:z∈l.take k
     ·simp[hm]
     ·simp[hm] at hb⊢;intro h1 h2;omega
    rw[qbq hkl this];simp
   ·have hs:qda l k=true:=by
     simp only[qda,okY];generalize l.getD k default=z at hb⊢;by_cases hm:z∈l.take k
     ·simp[hm] at hb
     ·simp[hm] at hb⊢;omega
    rw[jv,if_pos rfl];refine⟨⟨k+1,_,hkl,?_,q3t hP hs,hL.put hkl⟩,?_⟩
    ·simp
    ·simp[D.int];omega
  ·have:k=l.length:=by omega
   subst this;rw[q3k hP];simp[h0]
theorem z69{s:So}(h:q7n s.ys=true)(n:Int): -1≤arS s n∧arS s n≤8:=by
 unfold arS;split
 ·rename_i hn;simp only[q7n,gnB] at h;have:=q9i h.2 (k:=n.toNat) (by omega);simp only[qda,okY,gnB,gnD] at this;omega
 ·omega
def q2n(s:So):Nat→Int→Bool
 |0,_=>false
 |k+1,n=>if q0d s n=0∧¬(cellAt s n).n=n then q2n s k (cellAt s n).n else true
def qcy(s:So)(n:Int):Bool:=q2n s (s.cs.length+1) n
theorem q8q{s:So}{t:Int}(ht:t≠-1)(h:q0d s i=t):inS s i=true:=by
 cases hi:inS s i with
 |true=>rfl
 |false=>rw[q4i hi] at h;exact absurd h.symm ht
def q34(s:So)(i:Int):Bool:=
 if(cellAt s i).t=4 then decide (1≤arS s (cellAt s i).n)&&(inS s (i+arS s (cellAt s i).n)&&(uD (arS s (cellAt s i).n).toNat).all fun j=> !decide (q0d s (i+((j:Int)+1))=4))
 else vcR s (cellAt s i)&&(qcy s i&&(!decide ((cellAt s i).t=5)||(decide ((cellAt s i).n=i)&&q2q s i)))
def z3k(s:So)(i:Int):Bool:=inS s i&&q7n s.ys
def qbe(s:So)(i:Int):Bool:=
 if(cellAt s i).t=4 then decide (1≤arS s (cellAt s i).n)&&(uD (arS s (cellAt s i).n).toNat).all fun j=>decide (0≤q0d s (i+((j:Int)+1)))&& !decide (q0d s (i+((j:Int)+1))=4)
 else if(cellAt s i).t=5 then decide ((cellAt s i).n=i)&&q2q s i else vcP s (cellAt s i)
def z5b(vc:So→Ce→Bool)(rg:So→Int→Bool)(s:So)(u:Un):Bool:=
 rg s u.at'&&if u.old.t=0 then decide (u.old.n=u.at') else if u.old.t=5 then decide (u.old.n=u.at')&&(q2q s u.at'&& !decide (q0d s (u.at' - 1)=5)) else if u.old.t=1∨u.old.t=2∨u.old.t=3 then vc s u.old else false
def ql8:So→Un→Bool:=z5b vcR inS
def qsl:So→Un→Bool:=z5b vcP fun s i=>decide (0≤q0d s i)
variable{m:List Int}
section
section
variable{s:So}
def Ns(s:So)(n:Int):Prop:=q0d s n=0∧¬(cellAt s n).n=n
abbrev nx(s:So)(n:Int):Int:=(cellAt s n).n
theorem q0w{k:Nat}{n:Int}(h:Ns s n):q2n s (k+1) n=q2n s k (nx s n):=if_pos h
theorem q3r{k:Nat}{n:Int}(h:¬Ns s n):q2n s (k+1) n=true:=if_neg h
theorem Ns.inS{n:Int}(h:Ns s n):inS s n=true:=q8q (by decide) h.1
theorem zjz{k:Nat}:∀{n:Int},q2n s k n=true→q2n s (k+1) n=true:=by
 induction k with
 |zero=>intro n h;cases h
 | succ k ih =>
  intro n h;by_cases hn:Ns s n
  ·rw[q0w hn] at h⊢;exact ih h
  ·exact q3r hn
theorem qfo{k j:Nat}(hk:k≤j){n:Int}(h:q2n s k n=true):q2n s j n=true:=by
 obtain⟨d,rfl⟩:=Nat.exists_eq_add_of_le hk;clear hk
 induction d with
 |zero=>exact h
 |succ d ih=>exact zjz ih
def En(s:So)(n:Int):Prop:=∃k,q2n s k n=true
theorem En.st{n:Int}(h:¬Ns s n):En s n:=⟨1,q3r h⟩
theorem En.ns{n:Int}(h:Ns s n)(he:En s (nx s n)):En s n:=let ⟨k,hk⟩:=he;⟨k+1,(q0w h).trans hk⟩
theorem qtk:∀(n:Nat)(l:List Nat),l.Nodup→(∀x∈l,x<n)→l.length≤n
 |0,[],_,_=>uK _
 |0,x::l,_,h=>absurd (h x uT) (uM _)
 | n + 1, l, hn, h => by
  have h1:=qtk n (l.erase n) (hn.erase n) fun x hx=>by
   have h2:=(hn.mem_erase_iff).1 hx;have:=h x h2.2;have:=h2.1;omega
  have h2:=List.length_erase (a:=n) (l:=l);split at h2<;>omega
theorem qz7:∀(k:Nat)(n:Int),q2n s (k+1) n=true→q2n s k n=false→∃l:List Int,l.length=k∧l.Nodup∧(∀x∈l,inS s x=true)∧∀x∈l,∃j,j≤k∧q2n s (j+1) x=true
 |0,n,_,_=>⟨[],rfl,List.nodup_nil,(fun x hx=>by cases hx),fun x hx=>by cases hx⟩
 | k + 1, n, h1, h2 => by
  have hn:Ns s n:=Classical.byContradiction fun hn=>by rw[q3r hn] at h2;cases h2
  rw[q0w hn] at h1 h2;obtain⟨l,e1,e2,e3,e4⟩:=qz7 k _ h1 h2;refine⟨n::l,by simp[e1],?_,fun x hx=>?_,fun x hx=>?_⟩
  ·refine kS.2 ⟨fun hm=>?_,e2⟩;obtain⟨j,hj,he⟩:=e4 n hm;rw[q0w hn] at he;rw[qfo hj he] at h2;cases h2
  ·rcases uG.1 hx with rfl|hx
   ·exact hn.inS
   ·exact e3 x hx
  ·rcases uG.1 hx with rfl|hx
   ·exact⟨k+1,uK _,by rw[q0w hn];exact h1⟩
   ·obtain⟨j,hj,he⟩:=e4 x hx;exact⟨j,by omega,he⟩
theorem En.ends{n:Int}(h:En s n):qcy s n=true:=by
 obtain⟨k,hk⟩:=h
 induction k with
 |zero=>cases hk
 | succ k ih =>
  cases hk':q2n s k n with
  |true=>exact ih hk'
  | false =>
   obtain⟨l,e1,e2,e3,-⟩:=qz7 k n hk hk';have h1:=qtk s.cs.length (l.map vB) ?_ ?_
   ·rw[uF,e1] at h1;exact qfo (by omega) hk
   ·refine kB.map _ (fun a b h=>h) ?_;refine kB.imp_of_mem (R:=fun a b=>a≠b) (fun{a b}ha hb hab e=>hab ?_) e2;have h1:=qi.1 (e3 a ha);have h2:=qi.1 (e3 b hb);omega
   ·intro x hx;obtain⟨a,ha,rfl⟩:=kY.1 hx;have h1:=qi.1 (e3 a ha);omega
def Ch(s:So):List Int→Int→Prop
 |[],_=>True
 |q::l,a=>Ns s q∧nx s q=l.headD a∧Ch s l a
theorem Ch.snoc:∀{l:List Int}{a b:Int},Ch s l a→Ns s a→nx s a=b→Ch s (l++[a]) b
 |[],a,b,_,h1,h2=>⟨h1,h2,trivial⟩
 |q::l,a,b,⟨g1,g2,g3⟩,h1,h2=>⟨g1,by cases l<;>exact g2,Ch.snoc g3 h1 h2⟩
theorem Ch.en:∀{l:List Int}{a:Int},Ch s l a→En s a→∀q∈l,En s q
 |[],a,_,_,q,hq=>by cases hq
 | q :: l, a, ⟨g1, g2, g3⟩, he, x, hx => by
  have ih:=Ch.en g3 he;rcases uG.1 hx with rfl|hx
  ·refine En.ns g1 ?_;rw[g2];cases l with
   |nil=>exact he
   |cons y l=>exact ih y uT
  ·exact ih x hx
theorem Ch.next:∀{l:List Int}{a:Int},Ch s l a→∀q∈l,Ns s q∧(nx s q∈l∨nx s q=a)
 |[],a,_,q,hq=>by cases hq
 | q :: l, a, ⟨g1, g2, g3⟩, x, hx => by
  rcases uG.1 hx with rfl|hx
  ·refine⟨g1,?_⟩;rw[g2];cases l with
   |nil=>exact .inr rfl
   |cons y l=>exact .inl (by simp)
  ·obtain⟨h1,h2⟩:=Ch.next g3 x hx;exact⟨h1,h2.imp (kN _) id⟩
theorem qz6{Q:List Int}(h:∀q∈Q,Ns s q∧nx s q∈Q):∀(k:Nat)(q:Int),q∈Q→q2n s k q=false
 |0,q,_=>rfl
 |k+1,q,hq=>by
  rw[q0w (h q hq).1];exact qz6 h k _ (h q hq).2
def z0i(s:So):Bool:=(uD s.cs.length).all fun i=>qcy s (i:Nat)
def zdo(s:So):Bool:=decide (s.cs.length≤16777216)&&(uD s.cs.length).all fun i=> !decide ((cellAt s (i:Nat)).t=0)||inS s (cellAt s (i:Nat)).n
structure Mk0(s:So)(m:List Int):Prop where
 len:m.length=s.cs.length
 en:∀j:Nat,m.getD j 0=2→En s j
theorem qzk(h0:0≤i)(h:i<m.length):(D.r (m.map D.i)).get i=.i (m.getD i.toNat 0):=by
 have:i.toNat<m.length:=by omega
 simp[D.get,D.rs,gnG,this]
theorem zd2{k:Nat}{x:Int}:(m.map D.i).set k (.i x)=(m.set k x).map D.i:=by simp
theorem qt0{k j:Nat}{x:Int}(hk:k<m.length):(m.set k x).getD j 0=if k=j then x else m.getD j 0:=by
 simp only[gnG,List.getElem?_set,hk];split<;>simp_all
end
end
def zq7(P M:X):Tree:=.loop 16 8 [(.lit (.i 0)),M] (.br (.lt (.tok 8) (.len P)) (.need [(.le (.lit (.i 0)) (.tok 8)),(.lt (.tok 8) (.len P))] (.need [(.le (.lit (.i 0)) (.get P (.tok 8))),(.lt (.get P (.tok 8)) (.len (.tok 9)))] (.need [(.rng .i64 (.add (.tok 8) (.lit (.i 1))))] (.back 16 [(.add (.tok 8) (.lit (.i 1))),(.put (.tok 9) (.get P (.tok 8)) (.lit (.i 2)))])))) (.need [(.rng .i64 (.add (.tok 2) (.lit (.i 1))))] (.back 3 [(.tok 6),(.add (.tok 2) (.lit (.i 1))),(.tok 9)])))
theorem qc7{l:List Int}{k:Nat}(h:k<l.length)(x:Int):x∈l.take (k+1)↔x∈l.take k∨x=l.getD k default:=by
 rw[qai h];simp
variable{S:Nat→List D→Option (List D)}{R:List D→Prop}{B:Nat→List D→Prop}
theorem zb1{P M:X}{l:List Int}{i:Nat}(hL:L.length=8)(hP:∀e,P.ev (evl S (L++e))=.r (l.map D.i))(hM:M.ev (evl S L)=.r (m.map D.i))
  (h2:L.getD 2 .u=.i i)(hi:i64 ((i:Int)+1))(hl:∀x∈l,0≤x∧x<m.length)(hll:l.length≤16777216)
  (hB:∀f:List Int,f.length=m.length→(∀j:Nat,j<m.length→f.getD j 0=if(j:Int)∈l then 2 else m.getD j 0)→B 3 [L.getD 6 .u,.i ((i:Int)+1),.r (f.map D.i)]):(zq7 P M).go S R L B:=by
 unfold zq7;rw[zx];have hM':(evl S L)=⟨fun k=>L.getD k .u,S⟩:=rfl;refine⟨fun st=>∃(k:Nat)(f:List Int),k≤l.length∧st=[.i k,.r (f.map D.i)]∧f.length=m.length∧∀j:Nat,j<m.length→f.getD j 0=if(j:Int)∈l.take k then 2 else m.getD j 0,fun st=>l.length - (st.getD 0 .u).int.toNat,⟨0,m,uI _,by simp[X.evs,X.ev,hM],rfl,fun j _=>by simp⟩,?_⟩;rintro st - ⟨k,f,hk,rfl,hfl,hf⟩;rw[List.take_of_length_le (by omega)];have t:∀j,j<8→(L++[D.i k,D.r (f.map D.i)]).getD j .u=L.getD j .u:=fun j hj=>by
  simp only[gnG];rw[List.getElem?_append_left (by omega)]
 have t8:(L++[D.i k,D.r (f.map D.i)]).getD 8 .u=.i k:=by
  simp only[gnG];rw[kG (by omega),hL];rfl
 have t9:(L++[D.i k,D.r (f.map D.i)]).getD 9 .u=.r (f.map D.i):=by
  simp only[gnG];rw[kG (by omega),hL];rfl
 have hP':=hP [D.i k,D.r (f.map D.i)];have e2:(L++[D.i k,D.r (f.map D.i)]).getD 2 .u=.i i:=(t 2 (by omega)).trans h2;have e6:=t 6 (by omega);generalize hg:evl S (L++[D.i k,D.r (f.map D.i)])=g at hP';have hE:∀n,g.E n=(L++[D.i k,D.r (f.map D.i)]).getD n .u:=fun n=>by rw[←hg];rfl
 simp only[qg,z8,z20,q0s,X.says,hg,X.evs,X.ev,hP',hE,t8,t9,e2,e6,j4,q7i,q5y,uF,gnD,decide_eq_false_iff_not,and_true];refine⟨fun hlt=>?_,fun hlt=>?_⟩
 ·have hkl:k<l.length:=by omega
  have hm:=q1y hkl;have hr:=hl _ hm;have hget:(D.r (l.map D.i)).get (k:Int)=.i (l.getD k default):=q67 D.i hkl;rw[hget];generalize hx:l.getD k default=x at hm hr;simp only[j4];refine⟨⟨by omega,hlt⟩,⟨hr.1,by omega⟩,q46.2 ⟨by omega,by omega⟩,?_⟩;rw[jv,if_pos rfl];refine⟨⟨k+1,f.set x.toNat 2,hkl,by simp,by simp[hfl],fun j hj=>?_⟩,?_⟩
  ·rw[qt0 (by omega),hf j hj];by_cases hjx:x.toNat=j
   ·have:(j:Int)∈l.take (k+1):=(qc7 hkl _).2 (.inr (by omega));rw[if_pos hjx,if_pos this]
   ·rw[if_neg hjx];by_cases hm2:(j:Int)∈l.take k
    ·rw[if_pos hm2,if_pos ((qc7 hkl _).2 (.inl hm2))]
    ·rw[if_neg hm2,if_neg fun h=>?_];rcases (qc7 hkl _).1 h with h|h
     ·exact hm2 h
     ·omega
  ·simp[D.int];omega
 ·have:k=l.length:=by omega
  subst this;refine⟨q46.2 hi,?_⟩;rw[jv,if_neg (by decide)];rw[uU] at hf;exact hB f hfl hf
instance{s:So}{n:Int}:Decidable (Ns s n):=inferInstanceAs (Decidable (_∧_))
theorem qn8:FOk jy (ze9 zdo z0i):=qkd fun ds outs hw hg=>by
 obtain⟨d,r,rfl,hd,rfl⟩:=hw;obtain⟨s,rfl,hs⟩:=wfS hd;simp only[ze9,yf,uC,uB,zdo,gnB,gnD] at hg;obtain⟨⟨hlen,hrf⟩,rfl⟩:=hg;have hrange:∀n:Int,Ns s n→inS s (nx s n)=true:=fun n hn=>by
  have h1:=qi.1 hn.inS;have h2:=q9i hrf (k:=n.toNat) (by omega);have e:((n.toNat:Nat):Int)=n:=by omega
  have h0:(cellAt s n).t=0:=by rw[←zw hn.inS];exact hn.1
  rw[e] at h2;simpa[h0] using h2
 rw[q60,qg];refine⟨by simp only[gnZ];omega,?_⟩;rw[zx]
 refine⟨fun st=>∃(i:Nat)(m:List Int),i≤s.cs.length∧st=[.b false,.i i,.r (m.map D.i)]∧Mk0 s m∧(∀j:Nat,j<s.cs.length→m.getD j 0=0∨m.getD j 0=2)∧∀j:Nat,j<i→En s j,fun st=>s.cs.length - (st.getD 1 .u).int.toNat,
  ⟨0,uZ s.cs.length 0,uI _,by simp[X.evs,X.ev,evl,qed,D.int,D.rs],⟨by simp,fun j hj=>?_⟩,fun j hj=>?_,fun j hj=>absurd hj (uM _)⟩,?_⟩
 ·exfalso;simp only[gnG,kI] at hj;split at hj<;>simp at hj
 ·left;simp[gnG,kI,hj]
 rintro st - ⟨i,m,hi,rfl,hm,hm02,hdone⟩;rw[z8];refine⟨fun hlt=>?_,fun hlt=>?_⟩
 ·have hil:i<s.cs.length:=by simpa[X.ev,evl,qed,D.int,D.rs,D.tt] using hlt
  rw[zx]
  refine⟨fun st=>∃(l:List Int)(a:Int)(f:List Int),st=[.r (l.map D.i),.i a,.b false,.r (f.map D.i)]∧inS s a=true∧f.length=s.cs.length∧Ch s l a∧l.headD a=(i:Int)∧(∀x∈l,inS s x=true)∧l.length≤s.cs.length - f.count 0∧¬f.getD a.toNat 0=1∧
   ∀j:Nat,j<s.cs.length→f.getD j 0=if(j:Int)∈l then 1 else m.getD j 0,fun st=>((st.getD 3 .u).rs.map D.int).count 0,⟨[],i,m,by simp[X.evs,X.ev,evl],qi.2 ⟨by omega,by omega⟩,hm.len,trivial,rfl,(fun x hx=>by cases hx),uI _,?_,fun j hj=>by simp⟩,?_⟩
  ·have:=hm02 i hil;simp only[kR];omega
  rintro st - ⟨l,a,f,rfl,hin,hfl,hch,hhd,hl,hll,hna,hf⟩;have ha:=qi.1 hin;have hfa:(f.getD a.toNat 0)=if a∈l then 1 else m.getD a.toNat 0:=by
   have:=hf a.toNat (by omega);rwa [show((a.toNat:Nat):Int)=a by omega] at this
  have hal:a∉l:=fun h=>hna (by rw[hfa,if_pos h]);rw[if_neg hal] at hfa;have hmark:(D.r (f.map D.i)).get a=.i (f.getD a.toNat 0):=qzk ha.1 (by omega);rw[qg];refine⟨by simp only[gnZ];omega,?_⟩;rw[z8]
  -- what the marks are when a path is done
  have finish:∀(p:List Int),(∀x∈p,inS s x=true)→(∀x∈p,En s x)→En s i→(∀x∈l,x∈p)→∀(f':List Int),f'.length=s.cs.length→(∀j:Nat,j<s.cs.length→f'.getD j 0=if(j:Int)∈p then 2 else m.getD j 0)→
    jv (fun x x_1=>False) 3 (fun st'=>(∃(i:Nat)(m:List Int),i≤s.cs.length∧st'=[.b false,.i i,.r (m.map D.i)]∧Mk0 s m∧(∀j:Nat,j<s.cs.length→m.getD j 0=0∨m.getD j 0=2)∧∀j:Nat,j<i→En s j)∧s.cs.length - (st'.getD 1 .u).int.toNat<s.cs.length - (([D.b false,D.i i,D.r (m.map D.i)]:List D).getD 1 .u).int.toNat) 3 [.b false,.i ((i:Int)+1),.r (f'.map D.i)]:=by
   intro p hp1 hp2 hei hlp f' hf1 hf2;rw[jv,if_pos rfl];refine⟨⟨i+1,f',hil,by simp,⟨hf1,fun j hj=>?_⟩,fun j hj=>?_,fun j hj=>?_⟩,?_⟩
   ·by_cases hjl:j<s.cs.length
    ·rw[hf2 j hjl] at hj;split at hj
     ·rename_i hjp;exact hp2 _ hjp
     ·exact hm.en j hj
    ·rw[gnG,List.getElem?_eq_none (by omega)] at hj;cases hj
   ·rw[hf2 j hj];split
    ·exact .inr rfl
    ·exact hm02 j hj
   ·rcases Nat.lt_succ_iff_lt_or_eq.1 hj with h|h
    ·exact hdone j h
    ·rw[h];exact hei
   ·simp[D.int];omega
  have hend:En s a→En s i:=fun he=>by
   cases l with
   |nil=>rw[←hhd];exact he
   |cons y l=>rw[←hhd];exact hch.en he y uT
  refine⟨fun hz=>?_,fun hz=>?_⟩
  ·-- an unknown cell
   have hz':f.getD a.toNat 0=0:=by
    simp only[gnZ,hmark] at hz;exact hz
   have hc0:0<f.count 0:=List.count_pos_iff.2 (by
    rw[gnG,gnK (by omega)] at hz';have:f[a.toNat]=0:=hz';exact List.mem_iff_getElem.2 ⟨a.toNat,by omega,this⟩)
   have hcl:f.count 0≤f.length:=List.count_le_length;have hset:(f.set a.toNat 1).count 0=f.count 0 - 1:=by
    rw[List.count_set (by omega)];have:f[a.toNat]'(by omega)=0:=by
     rw[gnG,gnK (by omega)] at hz';exact hz'
    simp[this]
   rw[qg,qg,qg];refine⟨by simp only[gnZ];omega,by simp only[gnZ];omega,by simp only[gnZ];omega,?_⟩;rw[z8];have hcond:(X.ev (evl (qf []) ([eS s,D.b false,D.i i,D.r (m.map D.i)]++[D.r (l.map D.i),D.i a,D.b false,D.r (f.map D.i)])) ((.or (.not (.eq (.fld (.get (.fld (.tok 0) 0) (.tok 5)) 0) (.lit (.i 0)))) (.eq (.fld (.get (.fld (.tok 0) 0) (.tok 5)) 1) (.tok 5))))).tt= !decide (Ns s a):=by
    simp only[gnZ,y7 hin,Ns,zw hin];by_cases h0:(cellAt s a).t=0<;>simp[h0]
   refine⟨fun hst=>?_,fun hst=>?_⟩
   ·have hns:¬Ns s a:=by
     have:=hcond.symm.trans hst;simpa using this
    have hea:=En.st hns;refine zb1 (P:=.app (.tok 4) (.row [.tok 5])) (l:=l++[a]) (m:=f.set a.toNat 1) (i:=i) rfl (fun e=>by simp[X.ev,X.evs,evl,D.rs]) (by simp[X.ev,evl,D.rs,D.int]) rfl ⟨by omega,by omega⟩ (fun x hx=>?_) (by simp;omega) fun f' hf1 hf2=>?_
    ·rcases uH.1 hx with hx|hx
     ·have:=qi.1 (hl x hx);simp;omega
     ·obtain rfl:x=a:=by simpa using hx
      simp;omega
    ·refine finish (l++[a]) (fun x hx=>?_) (fun x hx=>?_) (hend hea) (fun x hx=>uP _ hx) f' (by simpa[hfl] using hf1) fun j hj=>?_
     ·rcases uH.1 hx with hx|hx
      ·exact hl x hx
      ·obtain rfl:x=a:=by simpa using hx
       exact hin
     ·rcases uH.1 hx with hx|hx
      ·exact hch.en hea x hx
      ·obtain rfl:x=a:=by simpa using hx
       exact hea
     ·rw[hf2 j (by simp;omega)];by_cases hjm:(j:Int)∈l++[a]
      ·rw[if_pos hjm,if_pos hjm]
      ·rw[if_neg hjm,if_neg hjm,qt0 (by omega),if_neg,hf j hj,if_neg fun h=>hjm (uP _ h)];intro e;exact hjm (uX _ (by simp;omega))
   ·have hns:Ns s a:=by
     have:=hcond.symm.trans hst;simpa using this
    have hin2:inS s (cellAt s a).n=true:=hrange a hns;have hb:=qi.1 hin2;have hgb:(D.r ((f.set a.toNat 1).map D.i)).get ((cellAt s a).n)=.i ((f.set a.toNat 1).getD ((cellAt s a).n).toNat 0):=qzk hb.1 (by simp;omega);have hput:D.r ((f.map D.i).set a.toNat (.i 1))=D.r ((f.set a.toNat 1).map D.i):=by rw[zd2]
    rw[qg];refine⟨by simp only[gnZ,y7 hin,List.length_set];omega,?_⟩;rw[z8];simp only[gnZ,y7 hin,hput,hgb];have hf':∀j:Nat,j<s.cs.length→(f.set a.toNat 1).getD j 0=if(j:Int)∈l++[a] then 1 else m.getD j 0:=fun j hj=>by
     rw[qt0 (by omega),hf j hj];by_cases hja:a.toNat=j
     ·rw[if_pos hja,if_pos (uX _ (by simp;omega))]
     ·rw[if_neg hja];by_cases hjl:(j:Int)∈l
      ·rw[if_pos hjl,if_pos (uP _ hjl)]
      ·rw[if_neg hjl,if_neg fun h=>?_];rcases uH.1 h with h|h
       ·exact hjl h
       ·simp at h;omega
    refine⟨fun hact=>?_,fun hact=>?_⟩
    ·have hmem:(cellAt s a).n∈l++[a]:=by
      rw[hf' _ (by omega),show((((cellAt s a).n).toNat:Nat):Int)=(cellAt s a).n by omega] at hact;split at hact
      ·assumption
      ·have:=hm02 ((cellAt s a).n).toNat (by omega);omega
     have hcl:=qz6 (s:=s) (Q:=l++[a]) fun q hq=>by
      rcases uH.1 hq with hq|hq
      ·obtain⟨g1,g2⟩:=hch.next q hq;refine⟨g1,g2.elim (uP _) fun e=>uX _ (by simp[e])⟩
      ·obtain rfl:q=a:=by simpa using hq
       exact⟨hns,hmem⟩
     have:z0i s=false:=qbq hil (hcl _ _ (by
      rw[←hhd];cases l<;>simp))
     rw[this]
    ·rw[jv,if_pos rfl];refine⟨⟨l++[a],(cellAt s a).n,f.set a.toNat 1,by simp,hin2,by simp[hfl],hch.snoc hns rfl,by cases l<;>simpa using hhd,fun x hx=>?_,?_,hact,hf'⟩,?_⟩
     ·rcases uH.1 hx with hx|hx
      ·exact hl x hx
      ·obtain rfl:x=a:=by simpa using hx
       exact hin
     ·rw[hset];simp;omega
     ·show vA 0 (((f.set a.toNat 1).map D.i).map D.int)<vA 0 ((f.map D.i).map D.int)
      rw[map_id' j4,map_id' j4,hset];omega
  ·-- a cell that is done
   have hz':¬f.getD a.toNat 0=0:=by
    simp only[gnZ,hmark] at hz;exact hz
   have hea:En s a:=by
    have h2:m.getD a.toNat 0=2:=by
     have:=hm02 a.toNat (by omega);omega
    have:=hm.en _ h2;rwa [show((a.toNat:Nat):Int)=a by omega] at this
   refine zb1 (P:=.tok 4) (l:=l) (m:=f) (i:=i) rfl (fun e=>by simp[X.ev,evl]) (by simp[X.ev,evl]) rfl ⟨by omega,by omega⟩ (fun x hx=>?_) (by omega) fun f' hf1 hf2=>?_
   ·have:=qi.1 (hl x hx);omega
   ·refine finish l hl (hch.en hea) (hend hea) (fun x hx=>hx) f' (by omega) fun j hj=>?_;rw[hf2 j (by omega)];by_cases hjm:(j:Int)∈l
    ·rw[if_pos hjm,if_pos hjm]
    ·rw[if_neg hjm,if_neg hjm,hf j hj,if_neg hjm]
 ·have:i=s.cs.length:=by
   have:¬(i<s.cs.length):=by simpa[X.ev,evl,qed,D.int,D.rs,D.tt] using hlt
   omega
  subst this;have:z0i s=true:=q3k fun j hj=>(hdone j hj).ends;rw[this];rfl
theorem z2w{id n:Nat}{x0:X}{body:Tree}{l:List D}{v0:D}(N:Nat)(P:Nat→Bool)(h0:x0.ev (evl S l)=v0)
  (h:∀(k:Nat)(B':Nat→List D→Prop),k≤N→(∀j,j<k→P j=true)→(k<N→P k=true→B' id [v0,.i ((k:Int)+1)])→(∀j,j≠id→B' j=B j)→body.go S R (l.take n++[v0,.i k]) B'):(Tree.loop id n [x0,.lit (.i 0)] body).go S R l B:=by
 rw[zx];refine⟨fun st=>∃k:Nat,k≤N∧st=[v0,.i k]∧∀j,j<k→P j=true,fun st=>N - (st.getD 1 .u).int.toNat,⟨0,uI _,by simp[X.evs,X.ev,h0],fun j hj=>absurd hj (uM _)⟩,?_⟩;rintro st - ⟨k,hk,rfl,hP⟩;refine h k _ hk hP (fun hlt hp=>?_) fun j hj=>by rw[jv,if_neg hj]
 rw[jv,if_pos rfl];refine⟨⟨k+1,hlt,by simp,q3t hP hp⟩,?_⟩;simp[D.int];omega
def wkB(vc:So→Ce→Bool)(s:So)(w:Wk):Bool:=decide (1≤w.ser)&&(decide (w.ser≤s.ser)&&(vc s w.att&&vc s w.val))
def q5b(s:So):Bool:=decide (1≤s.mx)&&(decide (s.mx≤1048576)&&(decide ((s.cs.length:Int)≤s.mx)&&(decide (0≤s.ser)&&q7n s.ys)))
def qr(s:So):Bool:=q5b s&&((uD s.cs.length).all (fun i=>q34 s (i:Nat))&&((uD s.tr.length).all (fun i=>ql8 s (s.tr.getD i default))&&(uD s.wk.length).all fun i=>wkB vcR s (s.wk.getD i default)))
def q70(s:So):Bool:=q5b s&&((uD s.cs.length).all (fun i=>qbe s (i:Nat))&&(z0i s&&((uD s.tr.length).all (fun i=>qsl s (s.tr.getD i default))&&(uD s.wk.length).all fun i=>wkB vcP s (s.wk.getD i default))))
theorem zj1{s:So}{n:Int}(h:0≤q0d s n):inS s n=true:=by
 cases hi:inS s n with
 |true=>rfl
 |false=>rw[q4i hi] at h;omega
theorem zdt{s:So}(hh:q5b s=true)(h:∀j,j<s.cs.length→qbe s (j:Nat)=true):zdo s=true:=by
 simp only[q5b,gnB,gnD] at hh;simp only[zdo,gnB,gnD];refine⟨by omega,q3k fun j hj=>?_⟩;have:=h j hj;by_cases h0:(cellAt s (j:Nat)).t=0
 ·simp only[qbe,h0,vcP] at this;have h1:0≤q0d s (cellAt s (j:Nat)).n:=by
   simp at this;exact this.1
  simp[zj1 h1]
 ·simp[h0]
def gEq:List D→Option (List D)
 |[a,b]=>some [.b (decide (a=b))]
 |_=>none
def zik(n:Nat)(d:D):Bool:=decide (d.rs.length≤n)
theorem qj5(n:Nat)(l:List D):(zik n (.r l)=true)=(l.length≤n):=by simp only[zik,gnD];rfl
def gCl(n:Nat):List D→Option (List D)
 |[a]=>if zik n a then some [a] else none
 |_=>none
def clT(n:Nat):Tree:=(.amb (.tok 0) .false (.leaf [(.lit (.r []))]) (.need [(.le (.add (.lit (.i 0)) (.len (.tok 0))) (.lit (.i (n:Nat))))] (.leaf [(.app (.row []) (.tok 0))])))
theorem qsq{l:List D}{n:Nat}(hl:l.length≤n)(hR:R [.r l]):(clT n).go S R [.r l] B:=by
 refine⟨fun h=>?_,fun _=>?_⟩
 ·have:l=[]:=h rfl;subst this;exact hR
 ·rw[qg];refine⟨by simp only[gnZ];omega,?_⟩;simpa[q4o,X.evs,X.ev,evl,D.rs] using hR
theorem qgg:FOk je (gCl 8796093021952):=qfg fun ds outs hw hg=>by
 obtain⟨d,r,rfl,hd,rfl⟩:=hw;obtain⟨l,te,rfl,-⟩:=hd.row;simp only[gCl,qj5,uC,uB] at hg;obtain⟨h1,rfl⟩:=hg;exact qsq h1 rfl
theorem qdq:FOk yt (gCl 5864062014634):=qcs fun ds outs hw hg=>by
 obtain⟨d,r,rfl,hd,rfl⟩:=hw;obtain⟨l,te,rfl,-⟩:=hd.row;simp only[gCl,qj5,uC,uB] at hg;obtain⟨h1,rfl⟩:=hg;exact qsq h1 rfl
theorem qgf:FOk jd (gCl 5864062014634):=qf7 fun ds outs hw hg=>by
 obtain⟨d,r,rfl,hd,rfl⟩:=hw;obtain⟨l,te,rfl,-⟩:=hd.row;simp only[gCl,qj5,uC,uB] at hg;obtain⟨h1,rfl⟩:=hg;exact qsq h1 rfl
theorem q96:FOk yp (gCl 3518437208780):=qff fun ds outs hw hg=>by
 obtain⟨d,r,rfl,hd,rfl⟩:=hw;obtain⟨l,te,rfl,-⟩:=hd.row;simp only[gCl,qj5,uC,uB] at hg;obtain⟨h1,rfl⟩:=hg;exact qsq h1 rfl
def clQ(s:So):Bool:=decide (s.cs.length≤8796093021952)&&(decide (s.ys.length≤5864062014634)&&(decide (s.tr.length≤5864062014634)&&decide (s.wk.length≤3518437208780)))
def z3d:List D→Option (List D)
 |[s]=>if clQ (dS s) then some [eS (dS s)] else none
 |_=>none
theorem zro{s:So}(hs:s.ok):clQ s=true:=by
 simp only[clQ,gnB,gnD];exact⟨hs.cs.1,hs.ys.1,hs.tr.1,hs.wk.1⟩
theorem qu9:FOk q1j z3d:=qpw qgg qdq qgf q96 fun ds outs hw hg=>by
 obtain⟨d,r,rfl,hd,rfl⟩:=hw;obtain⟨s,rfl,hs⟩:=wfS hd;simp only[z3d,yf,uC,uB] at hg;obtain⟨hq,rfl⟩:=hg;simp only[clQ,gnB,gnD] at hq;obtain⟨h1,h2,h3,h4⟩:=hq;simp only[q87,gnZ,gCl,qj5,h1,h2,h3,h4,if_true];simp[eS,D.fs,D.fld]
def fnd(nm:ByteArray)(ar:Int):Nat→List Sy→Int
 |_,[]=> -1
 |k,y::l=>if y.name=nm∧y.ar=ar then(k:Int) else fnd nm ar (k+1) l
def qeo(s:So)(nm:ByteArray)(ar:Int):Int:=fnd nm ar 0 s.ys
theorem qzw[Inhabited α]{l:List α}{k:Nat}(h:k<l.length):l.drop k=l.getD k default::l.drop (k+1):=by
 rw[kH h];simp[gnG,h]
variable{nm:ByteArray}
theorem zi1{ar:Int}{l:List Sy}{k:Nat}(h:k<l.length):fnd nm ar k (l.drop k)=if(l.getD k default).name=nm∧(l.getD k default).ar=ar then(k:Int) else fnd nm ar (k+1) (l.drop (k+1)):=by
 rw[qzw h];rfl
def qdt:List D→Option (List D)
 |[s,y]=>some [.i (qeo (dS s) (y.fld 0).str (y.fld 1).int)]
 |_=>none
def zws:List D→Option (List D)
 |[s,nm,ar]=>some [.i (qeo (dS s) nm.str ar.int)]
 |_=>none
theorem qih:FOk ym qdt:=qvs fun ds outs hw hg=>by
 obtain⟨d,r,rfl,hd,e,r',rfl,he,rfl⟩:=hw;obtain⟨s,rfl,hs⟩:=wfS hd;obtain⟨y,rfl,hy⟩:=wfY he;simp only[qdt,yf,zdp,zke,q7o,j4,uB] at hg;subst hg;have hl:=hs.ys.1;rw[q9g,zx];refine⟨fun st=>∃k:Nat,k≤s.ys.length∧st=[.i 0,.i k]∧fnd y.name y.ar k (s.ys.drop k)=qeo s y.name y.ar,fun st=>s.ys.length - (st.getD 1 .u).int.toNat,⟨0,uI _,rfl,rfl⟩,?_⟩;rintro st - ⟨k,hk,rfl,hf⟩;simp only[gnZ];refine⟨fun hlt=>?_,fun hlt=>?_⟩
 ·have hkn:k<s.ys.length:=by omega
  rw[zi1 hkn] at hf;simp only[q67 eY hkn,qzq];generalize s.ys.getD k default=z at hf;refine⟨⟨by omega,by omega⟩,fun he=>?_,fun he=>⟨⟨by omega,by omega⟩,?_⟩⟩
  ·have he':z=y:=by simpa using he
   subst he';rw[if_pos ⟨rfl,rfl⟩] at hf;rw[←hf]
  ·have he':¬z=y:=by simpa using he
   have hne:¬(z.name=y.name∧z.ar=y.ar):=fun h=>he' (by cases z;cases y;simp_all);rw[if_neg hne] at hf;rw[jv,if_pos rfl];refine⟨⟨k+1,hkn,by simp,hf⟩,?_⟩;simp[D.int];omega
 ·have:k=s.ys.length:=by omega
  subst this;rw[List.drop_length] at hf;rw[←hf];rfl
def qjy(nm:ByteArray)(ar:Int):Bool:=decide (100<(nm.size:Int))||(decide (ar<0)||decide (8<ar))
def zn6:List D→Option (List D)
 | [s, nm, ar] => if qjy nm.str ar.int then some [.i 0, .i 1, eS (dS s)] else if decide (0 ≤ qeo (dS s) nm.str ar.int) then some [.i (qeo (dS s) nm.str ar.int), .i 0, eS (dS s)]
   else if decide (1048576≤(dS s).ys.length) then some [.i 0,.i 13,eS (dS s)] else some [.i (dS s).ys.length,.i 0,eS {dS s with ys:=(dS s).ys++[⟨nm.str,ar.int⟩]}]
 |_=>none
theorem zrk(s:So)(y:Sy):D.a ((eS s).fs.set 1 (.r (s.ys.map eY++[eY y])))=eS {s with ys:=s.ys++[y]}:=by simp[eS,D.fs]
theorem qqz:FOk zi zn6:=qmc qih fun ds outs hw hg=>by
 obtain⟨d,r,rfl,hd,e,r',rfl,he,f,r2,rfl,hf',rfl⟩:=hw;obtain⟨s,rfl,hs⟩:=wfS hd;obtain⟨nm,rfl,hn⟩:=he.str;obtain⟨ar,rfl,ha⟩:=wfI hf';simp only[zn6,yf,q7o,j4] at hg;have ey:D.a [.s nm,.i ar]=eY ⟨nm,ar⟩:=rfl;simp only[q6z,gnZ,qdt,ey,zrk];cases hb:qjy nm ar with
 |true=>
  simp only[hb,if_true,uB] at hg;subst hg;have hb':(decide (100<(nm.size:Int))||decide (ar<0)||decide (8<ar))=true:=by rw[kW];exact hb
  rw[hb'];exact⟨fun _=>rfl,fun h=>(by cases h)⟩
 | false =>
  simp only[hb,gnF,if_false] at hg;have hb':(decide (100<(nm.size:Int))||decide (ar<0)||decide (8<ar))=false:=by rw[kW];exact hb
  rw[hb'];refine⟨fun h=>(by cases h),fun _=>⟨fun h0=>?_,fun h0=>⟨fun h1=>?_,fun h1=>?_⟩⟩⟩
  ·rw[if_pos (decide_eq_true h0)] at hg;exact gnI hg
  ·have h1':1048576≤s.ys.length:=by omega
   rw[if_neg (by simpa using h0),if_pos (decide_eq_true h1')] at hg;exact gnI hg
  ·have h1':¬1048576≤s.ys.length:=by omega
   rw[if_neg (by simpa using h0),if_neg (by simpa using h1')] at hg;have:=gnI hg;subst this;simp[eS,D.fld,D.fs,D.rs];omega
def qfw:List D→Option (List D)
 |[s]=>if decide ((dS s).mx≤(dS s).cs.length) then some [eC ⟨0,0⟩,.i 13,eS (dS s)] else if decide ((dS s).cs.length<8796093021952) then some [eC ⟨0,(dS s).cs.length⟩,.i 0,eS {dS s with cs:=(dS s).cs++[⟨0,(dS s).cs.length⟩]}] else none
 |_=>none
theorem z7o(s:So)(y:Ce):D.a ((eS s).fs.set 0 (.r (s.cs.map eC++[eC y])))=eS {s with cs:=s.cs++[y]}:=by simp[eS,D.fs]
theorem qb2:FOk qv qfw:=qqf fun ds outs hw hg=>by
 obtain⟨d,r,rfl,hd,rfl⟩:=hw;obtain⟨s,rfl,hs⟩:=wfS hd;simp only[qfw,yf] at hg;simp only[q85,gnZ,qb4,z7o];refine⟨fun h0=>?_,fun h0=>?_⟩
 ·rw[if_pos (decide_eq_true h0)] at hg;exact gnI hg
 ·rw[if_neg (by simpa using h0)] at hg;split at hg
  ·rename_i h1;have h1:=of_decide_eq_true h1;have:=gnI hg;exact⟨by omega,this⟩
  ·cases hg
structure VS(s:So):Prop where
 tag:∀i:Int,inS s i=true→0≤(cellAt s i).t∧(cellAt s i).t≤5
variable{c:Ce}
theorem z0w{s:So}(h:vcR s c=true):c.t=0∨c.t=1∨c.t=2∨c.t=3∨c.t=5:=by
 unfold vcR at h;by_cases h0:c.t=0
 ·exact .inl h0
 ·by_cases h1:c.t=1
  ·exact .inr (.inl h1)
  ·by_cases h2:c.t=2
   ·exact .inr (.inr (.inl h2))
   ·by_cases h3:c.t=3
    ·exact .inr (.inr (.inr (.inl h3)))
    ·by_cases h5:c.t=5
     ·exact .inr (.inr (.inr (.inr h5)))
     ·simp[h0,h1,h2,h3,h5] at h
theorem zoq{s:So}(h:vcP s c=true):c.t=0∨c.t=1∨c.t=2∨c.t=3∨c.t=5:=by
 unfold vcP at h;by_cases h0:c.t=0
 ·exact .inl h0
 ·by_cases h1:c.t=1
  ·exact .inr (.inl h1)
  ·by_cases h2:c.t=2
   ·exact .inr (.inr (.inl h2))
   ·by_cases h3:c.t=3
    ·exact .inr (.inr (.inr (.inl h3)))
    ·by_cases h5:c.t=5
     ·exact .inr (.inr (.inr (.inr h5)))
     ·simp[h0,h1,h2,h3,h5] at h
theorem q4l{s:So}(h:qr s=true):VS s:=by
 simp only[qr,gnB] at h;refine⟨fun i hi=>?_⟩;have h1:=qi.1 hi;have hk:=q9i h.2.1 (k:=i.toNat) (by omega);rw[show((i.toNat:Nat):Int)=i by omega] at hk;unfold q34 at hk;by_cases h4:(cellAt s i).t=4
 ·omega
 ·rw[if_neg h4] at hk;simp only[gnB] at hk;have:=z0w hk.1;omega
theorem zcj{s:So}(h:q70 s=true):VS s:=by
 simp only[q70,gnB] at h;refine⟨fun i hi=>?_⟩;have h1:=qi.1 hi;have hk:=q9i h.2.1 (k:=i.toNat) (by omega);rw[show((i.toNat:Nat):Int)=i by omega] at hk;unfold qbe at hk;by_cases h4:(cellAt s i).t=4
 ·omega
 ·rw[if_neg h4] at hk;by_cases h5:(cellAt s i).t=5
  ·omega
  ·rw[if_neg h5] at hk;have:=zoq hk;omega
theorem VS.tag_in{s:So}(h:VS s)(n:Int):decide (0≤q0d s n)=inS s n:=by
 cases hi:inS s n with
 |true=>
  rw[zw hi];exact decide_eq_true (h.tag n hi).1
 |false=>
  rw[q4i hi];decide
theorem VS.vc{s:So}(h:VS s)(c:Ce):vcP s c=vcR s c:=by
 unfold vcP vcR;rw[h.tag_in]
theorem VS.old{s:So}(h:VS s)(u:Un):qsl s u=ql8 s u:=by
 simp only[qsl,ql8,z5b,h.tag_in,h.vc]
theorem VS.cell{s:So}(h:VS s)(hi:inS s i=true):q34 s i=(qbe s i&&qcy s i):=by
 have h1:=qi.1 hi;have ht:=zw hi;unfold q34 qbe;by_cases h4:(cellAt s i).t=4
 ·rw[if_pos h4,if_pos h4];have he:qcy s i=true:=(En.st (fun hn=>by have:=hn.1;omega)).ends;rw[he,kX];by_cases ha:1≤arS s (cellAt s i).n
  ·rw[decide_eq_true ha,kV,kV];generalize harr:arS s (cellAt s i).n=ar at ha;rw[uQ];simp only[gnB,uL,uO,kD,decide_eq_false_iff_not,gnD];constructor
   ·rintro⟨q1,q2⟩j hj;refine⟨?_,q2 j hj⟩;have hin:inS s (i+((j:Int)+1))=true:=by
     have:=qi.1 q1;exact qi.2 ⟨by omega,by omega⟩
    rw[zw hin];exact(h.tag _ hin).1
   ·intro q;refine⟨?_,fun j hj=>(q j hj).2⟩;have h2:=(q (ar.toNat - 1) (by omega)).1;have h3:=h.tag_in (i+(((ar.toNat - 1:Nat):Int)+1));rw[decide_eq_true h2] at h3;have e:i+(((ar.toNat - 1:Nat):Int)+1)=i+ar:=by omega
    rw[e] at h3;exact h3.symm
  ·rw[decide_eq_false ha];rfl
 ·rw[if_neg h4,if_neg h4];by_cases h5:(cellAt s i).t=5
  ·rw[if_pos h5];have hd:decide ((cellAt s i).t=5)=true:=decide_eq_true h5;rw[hd];by_cases hn:(cellAt s i).n=i
   ·have hv:vcR s (cellAt s i)=true:=by
     unfold vcR;simp[h5,hn,ht]
    rw[hv,decide_eq_true hn];simp[Bool.and_comm]
   ·rw[decide_eq_false hn];simp
  ·rw[if_neg h5,decide_eq_false h5,h.vc];simp
theorem all_congr{n:Nat}{P Q:Nat→Bool}(h:∀j,j<n→P j=Q j):(uD n).all P=(uD n).all Q:=by
 rw[uQ,uL,uL];exact⟨fun q j hj=>(h j (uO.1 hj))▸q j hj,fun q j hj=>(h j (uO.1 hj)).symm▸q j hj⟩
theorem zky{n:Nat}{P Q:Nat→Bool}:((uD n).all fun j=>P j&&Q j)=((uD n).all P&&(uD n).all Q):=by
 rw[uQ];simp only[uL,gnB];exact⟨fun q=>⟨fun j hj=>(q j hj).1,fun j hj=>(q j hj).2⟩,fun q j hj=>⟨q.1 j hj,q.2 j hj⟩⟩
theorem VS.valid{s:So}(h:VS s):q70 s=qr s:=by
 have e1:((uD s.cs.length).all fun i=>q34 s (i:Nat))=((uD s.cs.length).all (fun i=>qbe s (i:Nat))&&z0i s):=by
  unfold z0i;rw[←zky];exact all_congr fun j hj=>h.cell (qi.2 ⟨by omega,by omega⟩)
 have e2:((uD s.tr.length).all fun i=>qsl s (s.tr.getD i default))=(uD s.tr.length).all fun i=>ql8 s (s.tr.getD i default):=all_congr fun j _=>h.old _;have e3:((uD s.wk.length).all fun i=>wkB vcP s (s.wk.getD i default))=(uD s.wk.length).all fun i=>wkB vcR s (s.wk.getD i default):=all_congr fun j _=>by
  unfold wkB;rw[h.vc,h.vc]
 unfold q70 qr;rw[e1,e2,e3,uJ]
theorem zhd(s:So):q70 s=qr s:=by
 cases hP:q70 s with
 |true=>rw[←(zcj hP).valid,hP]
 |false=>
  cases hR:qr s with
  |false=>rfl
  |true=>rw[(q4l hR).valid,hR] at hP;cases hP
inductive Te where
 |mk(k n:Int)(s:ByteArray)(l:List Te)
instance:Inhabited Te:=⟨.mk 0 0 ⟨#[]⟩ []⟩
def Te.k:Te→Int|.mk k _ _ _=>k
def Te.n:Te→Int|.mk _ n _ _=>n
def Te.s:Te→ByteArray|.mk _ _ s _=>s
def Te.l:Te→List Te|.mk _ _ _ l=>l
variable{P:Te→Prop}
mutual
theorem Te.ind0(h:∀k n s l,(∀t∈l,P t)→P (.mk k n s l)):∀t,P t
 |.mk k n s l=>h k n s l (Te.inds h l)
theorem Te.inds(h:∀k n s l,(∀t∈l,P t)→P (.mk k n s l)):∀(l:List Te),∀t∈l,P t
 |[],_,ht=>by cases ht
 |u::l,t,ht=>by
  exact(uG.1 ht).elim (fun e=>e▸Te.ind0 h u) fun h'=>Te.inds h l t h'
end
mutual
def eT:Te→D
 |.mk k n s l=>.a [.i k,.i n,.s s,.r (eTs l)]
def eTs:List Te→List D
 |[]=>[]
 |t::l=>eT t::eTs l
end
theorem zbr:∀l,eTs l=l.map eT
 |[]=>rfl
 |t::l=>by rw[eTs,zbr l,List.map_cons]
theorem qka(k n:Int)(s:ByteArray)(l:List Te):eT (.mk k n s l)=.a [.i k,.i n,.s s,.r (l.map eT)]:=by rw[eT,zbr]
mutual
def dT:D→Te
 |.a [.i k,.i n,.s s,.r l]=>.mk k n s (dTs l)
 |_=>.mk 0 0 ⟨#[]⟩ []
def dTs:List D→List Te
 |[]=>[]
 |d::l=>dT d::dTs l
end
mutual
theorem jz:∀t,dT (eT t)=t
 |.mk k n s l=>by simp only[eT,dT,zc8 l]
theorem zc8:∀l,dTs (eTs l)=l
 |[]=>rfl
 |t::l=>by simp only[eTs,dTs,jz t,zc8 l]
end
theorem zqp{t u:Te}(h:eT t=eT u):t=u:=by rw[←jz t,h,jz u]
theorem zpc(t u:Te):(eT t=eT u)=(t=u):=propext ⟨zqp,fun h=>h▸rfl⟩
theorem ztq(t:Te):(eT t).fld 0=.i t.k:=by cases t;rfl
theorem zst(t:Te):(eT t).fld 1=.i t.n:=by cases t;rfl
theorem ztw(t:Te):(eT t).fld 2=.s t.s:=by cases t;rfl
theorem zvg(t:Te):(eT t).fld 3=.r (t.l.map eT):=by cases t;rw[qka];rfl
theorem zal(k n:Int)(s:ByteArray)(l:List Te)(x:Te):D.a ((eT (.mk k n s l)).fs.set 3 (.r (l.map eT++[eT x])))=eT (.mk k n s (l++[x])):=by
 rw[qka,qka];simp[D.fs]
def zT:Te:=.mk 0 0 ⟨#[]⟩ []
theorem zvk:D.a [.i 0,.i 0,.s ⟨#[]⟩,.r []]=eT zT:=rfl
theorem gnT:type_of% (uA @jz (uA @ztq (uA @zst (uA @ztw (uA @zvg (uA @zpc @zvk)))))):=uA @jz (uA @ztq (uA @zst (uA @ztw (uA @zvg (uA @zpc @zvk)))))
mutual
def szT:Te→Nat
 |.mk _ _ _ l=>q04 l+1
def q04:List Te→Nat
 |[]=>0
 |t::l=>szT t+q04 l
end
theorem z9p(t:Te):1≤szT t:=by cases t;rw[szT];omega
theorem qsd{t:Te}:∀{l:List Te},t∈l→szT t≤q04 l
 |u::l,h=>by
  rcases uG.1 h with rfl|h
  ·rw[q04];omega
  ·have:=qsd h;rw[q04];omega
theorem zoe{t u:Te}(h:u∈t.l):szT u<szT t:=by
 cases t;have:=qsd h;rw[szT];exact Nat.lt_succ_of_le this
theorem qg9:∀(l m:List Te),q04 (l++m)=q04 l+q04 m
 |[],m=>by simp[q04]
 |t::l,m=>by rw[kF,q04,q04,qg9 l m];omega
theorem qh9{l:List Te}{k:Nat}(h:k<l.length):q04 (l.take (k+1))=q04 (l.take k)+szT (l.getD k default):=by
 rw[qai h,qg9];simp[q04]
theorem z5i:∀(l:List Te),l.length≤q04 l
 |[]=>uK _
 |t::l=>by have:=z5i l;have:=z9p t;rw[q04,kE];omega
theorem zpz(t:Te):szT t=q04 t.l+1:=by cases t;rw[szT];rfl
mutual
def okT:Te→Prop
 |.mk k n s l=>i64 k∧i64 n∧s.size≤LIM∧l.length≤2513169434843∧zn1 l
def zn1:List Te→Prop
 |[]=>True
 |t::l=>okT t∧zn1 l
end
theorem z4f:∀{l:List Te},zn1 l↔∀t∈l,okT t
 |[]=>⟨fun _ t h=>(by cases h),fun _=>trivial⟩
 |t::l=>by rw[zn1,z4f];simp
theorem zk2{k n:Int}{s:ByteArray}{l:List Te}:okT (.mk k n s l)↔i64 k∧i64 n∧s.size≤LIM∧l.length≤2513169434843∧∀t∈l,okT t:=by rw[okT,z4f]
theorem okT.l{t:Te}(h:okT t):t.l.length≤2513169434843:=by cases t;exact(zk2.1 h).2.2.2.1
theorem z9c(d:D):(Wf d qmn→∃t,d=eT t∧okT t)∧(Wf d qm5→∃l:List Te,d=.r (l.map eT)∧l.length≤2513169434843∧∀t∈l,okT t):=by
 have noS:∀{d:D},Wf d qmn→∃l,d=.a l:=fun h=>let ⟨l,e,_⟩:=h.st_of (fs:=[.int .i64,.int .i64,.str,qm5]) rfl;⟨l,e⟩
 have noR:∀{d:D},Wf d qm5→∃l,d=.r l:=fun h=>let ⟨l,e,_⟩:=h.row_of (te:=qmn) rfl;⟨l,e⟩
 induction d using D.ind with
 |hu=>exact⟨fun h=>(by obtain⟨_,e⟩:=noS h;cases e),fun h=>(by obtain⟨_,e⟩:=noR h;cases e)⟩
 |hi n=>exact⟨fun h=>(by obtain⟨_,e⟩:=noS h;cases e),fun h=>(by obtain⟨_,e⟩:=noR h;cases e)⟩
 |hb n=>exact⟨fun h=>(by obtain⟨_,e⟩:=noS h;cases e),fun h=>(by obtain⟨_,e⟩:=noR h;cases e)⟩
 |hs n=>exact⟨fun h=>(by obtain⟨_,e⟩:=noS h;cases e),fun h=>(by obtain⟨_,e⟩:=noR h;cases e)⟩
 |hm n=>exact⟨fun h=>(by obtain⟨_,e⟩:=noS h;cases e),fun h=>(by obtain⟨_,e⟩:=noR h;cases e)⟩
 |ha l ih=>
  refine⟨fun h=>?_,fun h=>(by obtain⟨_,e⟩:=noR h;cases e)⟩;obtain⟨ds,e,hl⟩:=h.st_of (fs:=[.int .i64,.int .i64,.str,qm5]) rfl;injection e with e;subst e;obtain⟨d0,r,rfl,h0,hl⟩:=qb9 hl;obtain⟨d1,r,rfl,h1,hl⟩:=qb9 hl;obtain⟨d2,d3,rfl,h2,h3⟩:=z6z hl;obtain⟨k,rfl,hk⟩:=wfI h0;obtain⟨n,rfl,hn⟩:=wfI h1;obtain⟨s,rfl,hs⟩:=h2.str;obtain⟨ts,rfl,h4,h5⟩:=(ih d3 (by simp)).2 h3;exact⟨.mk k n s ts,(qka _ _ _ _).symm,zk2.2 ⟨hk,hn,hs,h4,h5⟩⟩
 |hr l ih=>
  refine⟨fun h=>(by obtain⟨_,e⟩:=noS h;cases e),fun h=>?_⟩;obtain⟨l',e,h1,h2⟩:=h.row_of (te:=qmn) rfl;injection e with e;subst e;obtain⟨m,rfl,h3⟩:=qdn (e:=eT) (P:=okT) fun x hx=>(ih x hx).1 (h2 x hx);have e:LM qmn=2513169434843:=by kernel_rfl
  rw[e,uF] at h1;exact⟨m,rfl,h1,h3⟩
theorem wfT(h:Wf d qmn):∃t,d=eT t∧okT t:=(z9c d).1 h
theorem zuw(h:Wf d qm5):∃l:List Te,d=.r (l.map eT)∧l.length≤2513169434843∧∀t∈l,okT t:=(z9c d).2 h
def q3q(t:Te):Bool:=
 if t.k=0 then decide (0≤t.n)&&(decide (t.n≤1099511627776)&&(decide (t.s=⟨#[]⟩)&&decide ((t.l.length:Int)=0)))
 else if t.k=1 then decide (t.s=⟨#[]⟩)&&decide ((t.l.length:Int)=0)
 else if t.k=2 then decide (t.n=0)&&(decide ((t.s.size:Int)≤100)&&decide ((t.l.length:Int)=0))
 else if t.k=3 then decide (t.n=0)&&(decide ((t.s.size:Int)≤100)&&(decide (1≤(t.l.length:Int))&&decide ((t.l.length:Int)≤8)))
 else false
mutual
def z6:Te→Bool
 |.mk k n s l=>q3q (.mk k n s l)&&j7 l
def j7:List Te→Bool
 |[]=>true
 |t::l=>z6 t&&j7 l
end
theorem q8y:∀{l:List Te},j7 l=true↔∀t∈l,z6 t=true
 |[]=>⟨fun _ t h=>(by cases h),fun _=>rfl⟩
 |t::l=>by rw[j7,gnB,q8y];simp
theorem qsw(t:Te):z6 t=(q3q t&&(uD t.l.length).all fun i=>z6 (t.l.getD i default)):=by
 cases t with
 |mk k n s l=>
  rw[z6]
  congr 1
  rw[uQ,q8y,uL];refine⟨fun h i hi=>h _ (q1y (uO.1 hi)),fun h t ht=>?_⟩;obtain⟨i,hi,rfl⟩:=List.getElem_of_mem ht;have:=h i (uO.2 hi);rwa [show(Te.mk k n s l).l.getD i default=l[i] by simp[Te.l,gnG,gnK hi]] at this
def yj(t:Te):Bool:=decide (szT t≤2000)&&z6 t
mutual
def idT:Te→Te→Bool
 |.mk k n s l,.mk k' n' s' l'=>decide (k=k')&&(decide (n=n')&&(decide (s=s')&&z6p l l'))
def z6p:List Te→List Te→Bool
 |[],[]=>true
 |t::l,u::m=>idT t u&&z6p l m
 |_,_=>false
end
mutual
theorem qls:∀(t u:Te),idT t u=true↔t=u
 |.mk k n s l,.mk k' n' s' l'=>by simp[idT,z63 l l']
theorem z63:∀(l m:List Te),z6p l m=true↔l=m
 |[],[]=>by simp[z6p]
 |t::l,u::m=>by simp[z6p,qls t u,z63 l m]
 |[],_::_=>by simp[z6p]
 |_::_,[]=>by simp[z6p]
end
instance:DecidableEq Te:=fun t u=>if h:idT t u=true then .isTrue ((qls t u).1 h) else .isFalse fun e=>h ((qls t u).2 e)
def mT(ds:List D):Nat:=szT (dT (ds.getD 0 .u))
def zks:List D→Option (List D)
 |[t,m]=>if 1≤m.int then some [.i (min (szT (dT t):Int) m.int)] else none
 |_=>none
def gTi(f:Te→Int):List D→Option (List D)
 |[t]=>some [.i (f (dT t))]
 |_=>none
def gTb(f:Te→Bool):List D→Option (List D)
 |[t]=>some [.b (f (dT t))]
 |_=>none
def gTT(f:Te→Te):List D→Option (List D)
 |[t]=>some [eT (f (dT t))]
 |_=>none
def z30(f:Te→Te→Bool):List D→Option (List D)
 |[t,v]=>some [.b (f (dT t) (dT v))]
 |_=>none
theorem zus(k n:Int)(s:ByteArray)(l:List Te):(Te.mk k n s l).l=l:=rfl
theorem qbo{l:List Te}{k:Nat}(h:k<l.length):(D.r (l.map eT)).get (k:Int)=eT (l.getD k default):=q67 eT h
theorem qfs{t:Te}{k:Nat}(h:k<t.l.length):szT (t.l.getD k default)<szT t:=zoe (q1y h)
theorem qwe:FOk yq zks:=qa2 (m:=mT) q7b fun N ih=>qeq ih fun ds outs hw hg=>by
 obtain⟨d,r,rfl,hd,e,r',rfl,he,rfl⟩:=hw;obtain⟨t,rfl,ht⟩:=wfT hd;obtain⟨m,rfl,hm⟩:=wfI he;simp only[q3l,mT,zks,uE,jz,j4,uC,uB] at hg;obtain⟨hsz,h1,rfl⟩:=hg;have hl:=ht.l;rw[q4v,zx];refine⟨fun st=>∃k:Nat,k≤t.l.length∧st=[.i (min ((q04 (t.l.take k):Int)+1) m),.i k],fun st=>t.l.length - (st.getD 1 .u).int.toNat,⟨0,uI _,by simp[X.evs,X.ev,q04];omega⟩,?_⟩;rintro st - ⟨k,hk,rfl⟩;rw[z8];refine⟨fun hlt=>?_,fun hlt=>?_⟩
 ·simp only[gnZ,gnT,gnB] at hlt;obtain⟨hkl,hlm⟩:=hlt;have hkl':k<t.l.length:=by omega
  have ha:=qfs hkl';have hs:=qh9 hkl';have hmn:1≤m - min ((q04 (t.l.take k):Int)+1) m:=by omega
  simp only[gnZ,gnT,qbo hkl',q3l,mT,zks,if_pos hmn,if_pos (show szT (t.l.getD k default)<N by omega)];refine⟨⟨by omega,by omega,by omega,by omega⟩,⟨by omega,by omega⟩,?_⟩;rw[jv,if_pos rfl];refine⟨⟨k+1,by omega,?_⟩,?_⟩
  ·rw[hs];simp;omega
  ·simp[D.int];omega
 ·simp only[gnZ,gnT,uY] at hlt;simp only[gnZ,gnT];have hz:=zpz t;have:min ((q04 (t.l.take k):Int)+1) m=min (szT t:Int) m:=by
   rcases hlt with h|h
   ·have:k=t.l.length:=by omega
    subst this;rw[uU];omega
   ·have h2:=qg9 (t.l.take k) (t.l.drop k);rw[uW] at h2;omega
  rw[this]
theorem qwq:FOk q0n (gTi fun t=>min (szT t:Int) 2001):=qfq qwe fun ds outs hw hg=>by
 obtain⟨d,r,rfl,hd,rfl⟩:=hw;obtain⟨t,rfl,ht⟩:=wfT hd;simp only[gTi,jz,uB] at hg;subst hg;simp[q5n,gnZ,gnT,zks]
theorem qxk:FOk q0m (gTb q3q):=qgs fun ds outs hw hg=>by
 obtain⟨d,r,rfl,hd,rfl⟩:=hw;obtain⟨t,rfl,ht⟩:=wfT hd;simp only[gTb,jz,uB] at hg;subst hg;simp only[q5p,gnZ,gnT,q3q];by_cases h0:t.k=0
 ·simp[h0,uJ]
 ·by_cases h1:t.k=1
  ·simp[h1]
  ·by_cases h2:t.k=2
   ·simp[h2,uJ]
   ·by_cases h3:t.k=3
    ·simp[h3,uJ]
    ·simp[h0,h1,h2,h3]
theorem qaj(t:Te):z6 t=true↔q3q t=true∧∀j,j<t.l.length→z6 (t.l.getD j default)=true:=by
 rw[qsw,gnB,uL];simp
theorem qwc:FOk yu (gTb z6):=qa2 (m:=mT) q73 fun N ih=>qeu qxk ih fun ds outs hw hg=>by
 obtain⟨d,r,rfl,hd,rfl⟩:=hw;obtain⟨t,rfl,ht⟩:=wfT hd;simp only[q3l,mT,gTb,uE,jz,j4,uC,uB] at hg;obtain⟨hsz,rfl⟩:=hg;have hl:=ht.l;simp only[q4k,gnZ,gnT,gTb];refine⟨fun hn=>?_,fun hn=>?_⟩
 ·rw[qsw,show q3q t=false by simpa using hn];rfl
 have hn:q3q t=true:=by simpa using hn
 rw[zx];refine⟨fun st=>∃k:Nat,k≤t.l.length∧st=[.b false,.i k]∧∀j,j<k→z6 (t.l.getD j default)=true,fun st=>t.l.length - (st.getD 1 .u).int.toNat,⟨0,uI _,rfl,fun j hj=>absurd hj (uM _)⟩,?_⟩;rintro st - ⟨k,hk,rfl,hP⟩;rw[z8];refine⟨fun hlt=>?_,fun hlt=>?_⟩
 ·simp only[gnZ,gnT] at hlt;have hkl':k<t.l.length:=by omega
  have ha:=qfs hkl';simp only[gnZ,gnT,qbo hkl',q3l,mT,gTb,if_pos (show szT (t.l.getD k default)<N by omega)];refine⟨⟨by omega,by omega⟩,fun hx=>?_,fun hx=>⟨⟨by omega,by omega⟩,?_⟩⟩
  ·have:z6 t=false:=by
    cases hh:z6 t with
    |false=>rfl
    |true=>rw[((qaj t).1 hh).2 k hkl'] at hx;cases hx
   rw[this]
  ·rw[jv,if_pos rfl];refine⟨⟨k+1,by omega,by simp,q3t hP (by simpa using hx)⟩,?_⟩;simp[D.int];omega
 ·simp only[gnZ,gnT] at hlt⊢;have:k=t.l.length:=by omega
  subst this;rw[(qaj t).2 ⟨hn,hP⟩]
theorem qs1:FOk q09 (gTb yj):=qev qwq qwc fun ds outs hw hg=>by
 obtain⟨d,r,rfl,hd,rfl⟩:=hw;obtain⟨t,rfl,ht⟩:=wfT hd;simp only[gTb,jz,uB] at hg;subst hg;have e:decide (min (szT t:Int) 2001≤2000)=decide (szT t≤2000):=by rw[decide_eq_decide];omega
 simp[q4p,gnZ,gnT,gTi,gTb,yj,e]
theorem quu{t u:Te}:idT t u=true↔t.k=u.k∧t.n=u.n∧t.s=u.s∧t.l.length=u.l.length∧∀j,j<t.l.length→idT (t.l.getD j default) (u.l.getD j default)=true:=by
 rw[qls];cases t with
 | mk k n s l =>
  cases u with
  | mk k' n' s' l' =>
   simp only[Te.k,Te.n,Te.s,Te.l,Te.mk.injEq,qls];refine⟨?_,?_⟩
   ·rintro⟨rfl,rfl,rfl,rfl⟩;exact⟨rfl,rfl,rfl,rfl,fun _ _=>rfl⟩
   ·rintro⟨rfl,rfl,rfl,h1,h2⟩;refine⟨rfl,rfl,rfl,List.ext_getElem h1 fun i hi hi'=>?_⟩;have:=h2 i hi;simpa[gnG,gnK hi,gnK hi'] using this
theorem qjb:FOk zg (z30 idT):=qa2 (m:=mT) q3u fun N ih=>q9u ih fun ds outs hw hg=>by
 obtain⟨d,r,rfl,hd,e,r',rfl,he,rfl⟩:=hw;obtain⟨t,rfl,ht⟩:=wfT hd;obtain⟨u,rfl,hu⟩:=wfT he;simp only[q3l,mT,z30,uE,jz,j4,uC,uB] at hg;obtain⟨hsz,rfl⟩:=hg;have hl:=ht.l;have no:(¬idT t u=true)→[D.b false]=[D.b (idT t u)]:=fun h=>by rw[Bool.eq_false_iff.2 h]
 simp only[q2r,gnZ,gnT,z30];refine⟨fun hn=>no fun h=>?_,fun hn=>?_⟩
 ·obtain⟨e1,e2,e3,e4,-⟩:=quu.1 h;simp[e1,e2,e3,e4] at hn
 simp only[Bool.or_eq_false_iff,Bool.not_eq_false',gnD] at hn;obtain⟨⟨⟨e1,e2⟩,e3⟩,e4⟩:=hn;have e4:t.l.length=u.l.length:=by omega
 rw[zx];refine⟨fun st=>∃k:Nat,k≤t.l.length∧st=[.b false,.i k]∧∀j,j<k→idT (t.l.getD j default) (u.l.getD j default)=true,fun st=>t.l.length - (st.getD 1 .u).int.toNat,⟨0,uI _,rfl,fun j hj=>absurd hj (uM _)⟩,?_⟩;rintro st - ⟨k,hk,rfl,hP⟩;rw[z8];refine⟨fun hlt=>?_,fun hlt=>?_⟩
 ·simp only[gnZ,gnT] at hlt;have hkl':k<t.l.length:=by omega
  have hku':k<u.l.length:=by omega
  have ha:=qfs hkl';simp only[gnZ,gnT,qbo hkl',qbo hku',q3l,mT,z30,if_pos (show szT (t.l.getD k default)<N by omega)];refine⟨⟨by omega,by omega,by omega,by omega⟩,fun hx=>no fun h=>?_,fun hx=>⟨⟨by omega,by omega⟩,?_⟩⟩
  ·rw[(quu.1 h).2.2.2.2 k hkl'] at hx;cases hx
  ·rw[jv,if_pos rfl];refine⟨⟨k+1,by omega,by simp,q3t hP (by simpa using hx)⟩,?_⟩;simp[D.int];omega
 ·simp only[gnZ,gnT] at hlt⊢;have:k=t.l.length:=by omega
  subst this;rw[quu.2 ⟨e1,e2,e3,e4,hP⟩]
def z3x(t u:Te):Bool:=yj t&&(yj u&&idT t u)
theorem qx1:FOk q0l (z30 z3x):=qfx qs1 qjb fun ds outs hw hg=>by
 obtain⟨d,r,rfl,hd,e,r',rfl,he,rfl⟩:=hw;obtain⟨t,rfl,ht⟩:=wfT hd;obtain⟨u,rfl,hu⟩:=wfT he;simp only[z30,jz,uB] at hg;subst hg;simp[q5r,gnZ,gnT,gTb,z30,z3x,uJ]
def zmq:List D→Option (List D)
 |[t,m]=>if 1≤m.int then some [.i (m.int - min (szT (dT t):Int) m.int)] else none
 |_=>none
theorem qvm:FOk jt zmq:=qa2 (m:=mT) qbt fun N ih=>qq5 ih fun ds outs hw hg=>by
 obtain⟨d,r,rfl,hd,e,r',rfl,he,rfl⟩:=hw;obtain⟨t,rfl,ht⟩:=wfT hd;obtain⟨m,rfl,hm⟩:=wfI he;simp only[q3l,mT,zmq,uE,jz,j4,uC,uB] at hg;obtain⟨hsz,h1,rfl⟩:=hg;have hl:=ht.l;rw[q8i,qg];refine⟨by simp only[gnZ,gnT];omega,?_⟩;rw[zx];refine⟨fun st=>∃k:Nat,k≤t.l.length∧st=[.i k,.i (m - min ((q04 (t.l.take k):Int)+1) m)],fun st=>t.l.length - (st.getD 0 .u).int.toNat,⟨0,uI _,by simp[X.evs,X.ev,q04,evl,D.int];omega⟩,?_⟩;rintro st - ⟨k,hk,rfl⟩;rw[z8];refine⟨fun hlt=>?_,fun hlt=>?_⟩
 ·simp only[gnZ,gnT,gnB] at hlt;obtain⟨hkl,hlm⟩:=hlt;have hkl':k<t.l.length:=by omega
  have ha:=qfs hkl';have hs:=qh9 hkl';have hmn:1≤m - min ((q04 (t.l.take k):Int)+1) m:=by omega
  simp only[gnZ,gnT,qbo hkl',q3l,mT,zmq,if_pos hmn,if_pos (show szT (t.l.getD k default)<N by omega)];refine⟨⟨by omega,by omega⟩,⟨by omega,by omega⟩,?_⟩;rw[jv,if_pos rfl];refine⟨⟨k+1,by omega,?_⟩,?_⟩
  ·rw[hs];simp;omega
  ·simp[D.int];omega
 ·simp only[gnZ,gnT,uY] at hlt;simp only[gnZ,gnT];have hz:=zpz t;have:m - min ((q04 (t.l.take k):Int)+1) m=m - min (szT t:Int) m:=by
   rcases hlt with h|h
   ·have:k=t.l.length:=by omega
    subst this;rw[uU];omega
   ·have h2:=qg9 (t.l.take k) (t.l.drop k);rw[uW] at h2;omega
  rw[this]
theorem qdk:FOk q0b (gTi fun t=>min (szT t:Int) 2001):=qwg qvm fun ds outs hw hg=>by
 obtain⟨d,r,rfl,hd,rfl⟩:=hw;obtain⟨t,rfl,ht⟩:=wfT hd;simp only[gTi,jz,uB] at hg;subst hg;simp[qb7,gnZ,gnT,zmq];omega
theorem qe4:FOk yd (gTb z6):=qa2 (m:=mT) qek fun N ih=>qxc ih fun ds outs hw hg=>by
 obtain⟨d,r,rfl,hd,rfl⟩:=hw;obtain⟨t,rfl,ht⟩:=wfT hd;simp only[q3l,mT,gTb,uE,jz,j4,uC,uB] at hg;obtain⟨hsz,rfl⟩:=hg;have hl:=ht.l;have key:∀(x:X),x.ev (evl (qf [(yd,q3l mT N (gTb z6))]) [eT t])=.b (q3q t)→Tree.go (qf [(yd,q3l mT N (gTb z6))]) (fun o=>o=[D.b (z6 t)]) (.loop 12 1 [x,(.lit (.i 0))] (.br (.and (.lt (.tok 2) (.len (.fld (.tok 0) 3))) (.tok 1)) (.need [(.le (.lit (.i 0)) (.tok 2)),(.lt (.tok 2) (.len (.fld (.tok 0) 3))),(.ok 0 [(.get (.fld (.tok 0) 3) (.tok 2))])] (.need [(.rng .i64 (.add (.tok 2) (.lit (.i 1))))] (.back 12 [(.call 0 0 [(.get (.fld (.tok 0) 3) (.tok 2))]),(.add (.tok 2) (.lit (.i 1)))]))) (.leaf [(.tok 1)]))) [eT t] fun _ _=>False:=by
  intro x hx;rw[zx];refine⟨fun st=>∃(k:Nat)(v:Bool),k≤t.l.length∧st=[.b v,.i k]∧(v=true↔q3q t=true∧∀j,j<k→z6 (t.l.getD j default)=true),fun st=>t.l.length - (st.getD 1 .u).int.toNat,⟨0,q3q t,uI _,by simp only[X.evs,hx,X.ev];rfl,by simp⟩,?_⟩;rintro st - ⟨k,v,hk,rfl,hv⟩;rw[z8];refine⟨fun hlt=>?_,fun hlt=>?_⟩
  ·simp only[gnZ,gnT,gnB] at hlt;obtain⟨hlt,rfl⟩:=hlt;have hkl':k<t.l.length:=by omega
   have ha:=qfs hkl';simp only[gnZ,gnT,qbo hkl',q3l,mT,gTb,if_pos (show szT (t.l.getD k default)<N by omega)];refine⟨⟨by omega,by omega⟩,⟨by omega,by omega⟩,?_⟩;rw[jv,if_pos rfl];have hv':=hv.1 rfl;refine⟨⟨k+1,_,by omega,rfl,⟨fun h=>⟨hv'.1,q3t hv'.2 h⟩,fun h=>h.2 k (Nat.lt_succ_self _)⟩⟩,?_⟩;simp[D.int];omega
  ·simp only[gnZ,gnT,uY] at hlt;simp only[gnZ,gnT];rw[show v=z6 t from ?_];cases hvv:v with
   | false =>
    cases hh:z6 t with
    |false=>rfl
    |true=>
     have h2:=(qaj t).1 hh;rw[hv.2 ⟨h2.1,fun j hj=>h2.2 j (by omega)⟩] at hvv;cases hvv
   | true =>
    have:k=t.l.length:=by
     rcases hlt with h|h
     ·omega
     ·rw[hvv] at h;cases h
    subst this;exact((qaj t).2 (hv.1 hvv)).symm
 rw[qaq];simp only[z8];have e0:∀z:Int,(X.eq (.fld (.tok 0) 0) (.lit (.i z))).ev (evl (qf [(yd,q3l mT N (gTb z6))]) [eT t])=.b (decide (t.k=z)):=fun z=>by
  simp only[gnZ,gnT]
 simp only[e0,q5y,gnD,decide_eq_false_iff_not];refine⟨fun h=>key _ ?_,fun h0=>⟨fun h=>key _ ?_,fun h1=>⟨fun h=>key _ ?_,fun h2=>⟨fun h=>key _ ?_,fun h3=>key _ ?_⟩⟩⟩⟩
 all_goals simp only[gnZ,gnT,q3q]
 ·simp[h,uJ]
 ·simp[h,uJ]
 ·simp[h,uJ]
 ·have e8:decide (0<(t.l.length:Int))=decide (1≤(t.l.length:Int)):=rfl;rw[e8];simp[h,uJ]
 ·simp[h0,h1,h2,h3]
theorem q8m:FOk j5 (gTb yj):=qsn qdk qe4 fun ds outs hw hg=>by
 obtain⟨d,r,rfl,hd,rfl⟩:=hw;obtain⟨t,rfl,ht⟩:=wfT hd;simp only[gTb,jz,uB] at hg;subst hg;have e:decide (min (szT t:Int) 2001≤2000)=decide (szT t≤2000):=by rw[decide_eq_decide];omega
 simp[q9k,gnZ,gnT,gTi,gTb,yj,e]
theorem qpf:FOk q0q (gTT id):=qmh fun ds outs hw hg=>by
 obtain⟨d,r,rfl,hd,rfl⟩:=hw;obtain⟨t,rfl,ht⟩:=wfT hd;simp only[gTT,jz,uB] at hg;subst hg;simp only[q6p,gnZ,gnT,id]
theorem qwp:FOk q0a (gTT id):=qa2 (m:=mT) qd5 fun N ih=>qvk qpf ih fun ds outs hw hg=>by
 obtain⟨d,r,rfl,hd,rfl⟩:=hw;obtain⟨t,rfl,ht⟩:=wfT hd;simp only[q3l,mT,gTT,uE,jz,j4,uC,uB] at hg;obtain⟨hsz,rfl⟩:=hg;have hl:=ht.l;rw[q9j,z8];refine⟨fun h=>?_,fun h=>?_⟩
 ·simp only[gnZ,gnT,gTT,id]
 rw[zx];refine⟨fun st=>∃k:Nat,k≤t.l.length∧st=[.i k,eT (.mk t.k t.n t.s (t.l.take k))],fun st=>t.l.length - (st.getD 0 .u).int.toNat,⟨0,uI _,by simp only[X.evs,X.ev,evl,uE,ztq,zst,ztw,qka];rfl⟩,?_⟩;rintro st - ⟨k,hk,rfl⟩;rw[z8];refine⟨fun hlt=>?_,fun hlt=>?_⟩
 ·simp only[gnZ,gnT] at hlt;have hkl':k<t.l.length:=by omega
  have ha:=qfs hkl';simp only[gnZ,gnT,qbo hkl',q3l,mT,gTT,if_pos (show szT (t.l.getD k default)<N by omega),id,zus,List.length_take];refine⟨⟨by omega,by omega⟩,by omega,⟨by omega,by omega⟩,?_⟩;rw[jv,if_pos rfl];refine⟨⟨k+1,by omega,?_⟩,?_⟩
  ·rw[qai hkl',zal];rfl
  ·simp[D.int];omega
 ·simp only[gnZ,gnT] at hlt⊢;have:k=t.l.length:=by omega
  subst this;rw[uU];cases t;rfl
theorem qcp:FOk yk (gTT fun t=>if yj t then t else zT):=qv4 q8m qwp fun ds outs hw hg=>by
 obtain⟨d,r,rfl,hd,rfl⟩:=hw;obtain⟨t,rfl,ht⟩:=wfT hd;simp only[gTT,jz,uB] at hg;subst hg;simp only[q9t,gnZ,gnT,gTb,gTT,id];cases yj t<;>simp
def gSt(f:ByteArray→Te):List D→Option (List D)
 |[s]=>some [eT (f s.str)]
 |_=>none
def q39(s:ByteArray):Te:=if s.size≤100 then .mk 2 0 s [] else zT
theorem qlo{s:ByteArray}(h:s.size≤100):q39 s=.mk 2 0 s []:=if_pos h
theorem q2z:FOk zp (gSt q39):=qxs qcp fun ds outs hw hg=>by
 obtain⟨d,r,rfl,hd,rfl⟩:=hw;obtain⟨s,rfl,hs⟩:=hd.str;simp only[gSt,q7o,uB] at hg;subst hg;have e:D.a ((D.a ([D.i 0,.i 0,.s ⟨#[]⟩,.r []].set 0 (.i 2))).fs.set 2 (.s s))=eT (.mk 2 0 s []):=rfl;simp only[qb3,gnZ,gnT,gTT,zvl];have e2:D.a (((eT zT).fs.set 0 (.i 2)).set 2 (.s s))=eT (.mk 2 0 s []):=rfl;simp only[e2];have:yj (.mk 2 0 s [])=decide (s.size≤100):=by
  rw[uQ];simp[yj,szT,q04,z6,j7,q3q,Te.k,Te.n,Te.s,Te.l];exact Iff.trans decide_eq_true_iff (Int.ofNat_le (n:=100))
 simp only[jz,this,q39,gnD]
def gIt(f:Int→Te):List D→Option (List D)
 |[n]=>some [eT (f n.int)]
 |_=>none
theorem qow:FOk q07 (gIt fun n=>.mk 1 n ⟨#[]⟩ []):=qke fun ds outs hw hg=>by
 obtain⟨d,r,rfl,hd,rfl⟩:=hw;obtain⟨n,rfl,hn⟩:=wfI hd;simp only[gIt,j4,uB] at hg;subst hg;simp only[q8r,gnZ,gnT];rfl
theorem qho{s:So}(h:qr s=true):q5b s=true:=by
 simp only[qr,gnB] at h;exact h.1
theorem qrg{s:So}(h:qr s=true):q7n s.ys=true:=by
 have:=qho h;simp only[q5b,gnB] at this;exact this.2.2.2.2
theorem zh7{s:So}(h:qr s=true):s.cs.length≤1048576:=by
 have:=qho h;simp only[q5b,gnB,gnD] at this;omega
theorem q8o{s:So}(h:qr s=true)(hi:inS s i=true):q34 s i=true:=by
 simp only[qr,gnB] at h;have h1:=qi.1 hi;have hk:=q9i h.2.1 (k:=i.toNat) (by omega);rwa [show((i.toNat:Nat):Int)=i by omega] at hk
theorem qz4{s:So}(h:qr s=true)(hi:inS s i=true)(ht:(cellAt s i).t≠4):vcR s (cellAt s i)=true:=by
 have:=q8o h hi;unfold q34 at this;rw[if_neg ht] at this;simp only[gnB] at this;exact this.1
theorem z2h{s:So}(h:qr s=true)(hi:inS s i=true):qcy s i=true:=by
 by_cases ht:(cellAt s i).t=4
 ·exact(En.st (fun hn=>by have:=hn.1;rw[zw hi] at this;omega)).ends
 ·have:=q8o h hi;unfold q34 at this;rw[if_neg ht] at this;simp only[gnB] at this;exact this.2.1
theorem qfk{s:So}(h:vcR s c=true)(ht:c.t=0):inS s c.n=true∧(cellAt s c.n).t≠4:=by
 unfold vcR at h;rw[if_pos ht] at h;simp only[gnB,kD,decide_eq_false_iff_not] at h;rw[zw h.1] at h;exact h
theorem zaz{s:So}(h:qr s=true){n:Int}(hn:Ns s n):inS s (nx s n)=true:=by
 have hi:=hn.inS;have ht:(cellAt s n).t=0:=by have:=hn.1;rwa [zw hi] at this
 exact(qfk (qz4 h hi (by omega)) ht).1
theorem zhl{s:So}(h:qr s=true)(hi:inS s i=true)(ht:(cellAt s i).t=4):1≤arS s (cellAt s i).n∧arS s (cellAt s i).n≤8∧∀j:Nat,(j:Int)<arS s (cellAt s i).n→inS s (i+1+j)=true∧vcR s (cellAt s (i+1+j))=true:=by
 have:=q8o h hi;unfold q34 at this;rw[if_pos ht] at this;simp only[gnB,gnD,uL,uO,kD,decide_eq_false_iff_not] at this;obtain⟨h1,h2,h3⟩:=this;refine⟨h1,(z69 (qrg h) _).2,fun j hj=>?_⟩;have q:=qi.1 h2;have q1:=qi.1 hi;have hin:inS s (i+1+j)=true:=qi.2 ⟨by omega,by omega⟩;refine⟨hin,qz4 h hin ?_⟩;have:=h3 j (by omega);rw[show i+((j:Int)+1)=i+1+j by omega,zw hin] at this;exact this
theorem qji{s:So}{n:Int}(h:0≤arS s n):0≤n∧n<s.ys.length∧arS s n=(s.ys.getD n.toNat default).ar:=by
 unfold arS at h⊢;split at h
 ·rename_i hn;rw[if_pos hn];exact⟨hn.1,hn.2,rfl⟩
 ·omega
def qf6(s:So)(n:Int):Sy:=s.ys.getD n.toNat default
theorem zny{s:So}(h:qr s=true){n:Int}(hn:0≤arS s n):(qf6 s n).name.size≤100:=by
 obtain⟨h0,h1,-⟩:=qji hn;have:=qrg h;simp only[q7n,gnB] at this;have:=q9i this.2 (k:=n.toNat) (by omega);simp only[qda,okY,gnB,gnD] at this;exact this.1.1
theorem z64{s:So}(hv:∀m,Ns s m→inS s (nx s m)=true):∀(k:Nat)(n:Int),inS s n=true→q2n s (k+1) n=true→q2n s k n=false→∃l:List Int,l.length=k+1∧l.Nodup∧(∀x∈l,inS s x=true)∧∀x∈l,∃j,j≤k∧q2n s (j+1) x=true
 |0,n,hi,h1,_=>⟨[n],rfl,by simp,(fun x hx=>by rw[kQ.1 hx];exact hi),fun x hx=>⟨0,uK _,by rw[kQ.1 hx];exact h1⟩⟩
 | k + 1, n, hi, h1, h2 => by
  have hn:Ns s n:=Classical.byContradiction fun hn=>by rw[q3r hn] at h2;cases h2
  have h1':=h1;rw[q0w hn] at h1 h2;obtain⟨l,e1,e2,e3,e4⟩:=z64 hv k _ (hv n hn) h1 h2;refine⟨n::l,by simp[e1],?_,fun x hx=>?_,fun x hx=>?_⟩
  ·refine kS.2 ⟨fun hm=>?_,e2⟩;obtain⟨j,hj,he⟩:=e4 n hm;rw[q0w hn] at he;rw[qfo hj he] at h2;cases h2
  ·rcases uG.1 hx with rfl|hx
   ·exact hi
   ·exact e3 x hx
  ·rcases uG.1 hx with rfl|hx
   ·exact⟨k+1,uK _,h1'⟩
   ·obtain⟨j,hj,he⟩:=e4 x hx;exact⟨j,by omega,he⟩
theorem qgm{s:So}(h:qr s=true){n:Int}(hi:inS s n=true):q2n s s.cs.length n=true:=by
 cases hk':q2n s s.cs.length n with
 |true=>rfl
 | false =>
  obtain⟨l,e1,e2,e3,-⟩:=z64 (fun m hm=>zaz h hm) s.cs.length n hi (z2h h hi) hk';have h1:=qtk s.cs.length (l.map vB) ?_ ?_
  ·rw[uF,e1] at h1;omega
  ·refine kB.map _ (fun a b h=>h) ?_;refine kB.imp_of_mem (R:=fun a b=>a≠b) (fun{a b}ha hb hab e=>hab ?_) e2;have h1:=qi.1 (e3 a ha);have h2:=qi.1 (e3 b hb);omega
  ·intro x hx;obtain⟨a,ha,rfl⟩:=kY.1 hx;have h1:=qi.1 (e3 a ha);omega
def qcc(s:So):Nat→Ce→Ce
 |0,c=>c
 |k+1,c=>if c.t=0∧inS s c.n=true∧cellAt s c.n≠c then qcc s k (cellAt s c.n) else c
theorem qve{s:So}(h:c.t≠0):∀k,qcc s k c=c
 |0=>rfl
 |k+1=>if_neg fun q=>h q.1
theorem qv2{s:So}(j:Nat):∀(k:Nat)(n:Int),q2n s k n=true→qcc s (k+j) ⟨0,n⟩=qcc s k ⟨0,n⟩
 |0,n,h=>by cases h
 | k + 1, n, h => by
  rw[show k+1+j=(k+j)+1 by omega];unfold qcc;split
  ·rename_i hc;by_cases ht:(cellAt s n).t=0
   ·have e:cellAt s n=⟨0,nx s n⟩:=Ce.ext' ht rfl;have hn:Ns s n:=⟨(zw hc.2.1).trans ht,fun hn=>hc.2.2 (Ce.ext' ht hn)⟩;rw[q0w hn] at h
    show qcc s (k+j) (cellAt s n)=qcc s k (cellAt s n)
    rw[e];exact qv2 j k _ h
   ·rw[qve ht,qve ht]
  ·rfl
def q00(s:So)(c:Ce):Ce:=if vcR s c then qcc s (s.cs.length+1) c else⟨0,0⟩
theorem z9t{s:So}(h:qr s=true)(hc:vcR s c=true):qcc s s.cs.length c=qcc s (s.cs.length+1) c:=by
 by_cases ht:c.t=0
 ·have e:c=⟨0,c.n⟩:=Ce.ext' ht rfl;rw[e];exact(qv2 1 _ _ (qgm h (qfk hc ht).1)).symm
 ·rw[qve ht,qve ht]
theorem zbl{s:So}(h:qr s=true):∀(k:Nat){c:Ce},vcR s c=true→vcR s (qcc s k c)=true
 |0,c,hc=>hc
 | k + 1, c, hc => by
  unfold qcc;split
  ·rename_i q;exact zbl h k (qz4 h q.2.1 (qfk hc q.1).2)
  ·exact hc
theorem ql1{s:So}(h:qr s=true)(hc:vcR s c=true):vcR s (q00 s c)=true:=by
 rw[q00,if_pos hc];exact zbl h _ hc
def qif(g:Ce→Int→Te×Int):List Ce→Int→List Te×Int
 |[],l=>([],l)
 |c::cs,l=>if l<0 then([],l) else((g c l).1::(qif g cs (g c l).2).1,(qif g cs (g c l).2).2)
def q8j(s:So)(n:Int)(k:Nat):List Ce:=(uD k).map fun j=>cellAt s (n+1+(j:Nat))
def q6f(s:So):Nat→Ce→Int→Te×Int
 |0,_,left=>(zT,left - 1)
 |f+1,c,left=>if left - 1<0 then(zT,left - 1)
  else if(q00 s c).t=1 then(.mk 1 (q00 s c).n ⟨#[]⟩ [],left - 1)
  else if(q00 s c).t=2 then(.mk 2 0 (qf6 s (q00 s c).n).name [],left - 1)
  else if(q00 s c).t=3 then(.mk 3 0 (qf6 s (cellAt s (q00 s c).n).n).name (qif (q6f s f) (q8j s (q00 s c).n (arS s (cellAt s (q00 s c).n).n).toNat) (left - 1)).1,(qif (q6f s f) (q8j s (q00 s c).n (arS s (cellAt s (q00 s c).n).n).toNat) (left - 1)).2)
  else(.mk 0 (q00 s c).n ⟨#[]⟩ [],left - 1)
theorem zcb{g:Ce→Int→Te×Int}(hg:∀c l,0≤l→(g c l).2≤l - 1∧-1≤(g c l).2):∀(cs:List Ce)(l:Int),-1≤l→(qif g cs l).2≤l∧-1≤(qif g cs l).2
 |[],l,h=>⟨kP _,h⟩
 | c :: cs, l, h => by
  unfold qif;split
  ·exact⟨kP _,h⟩
  ·have h1:=hg c l (by omega);have h2:=zcb hg cs (g c l).2 h1.2;exact⟨by omega,h2.2⟩
theorem zaw(s:So):∀(f:Nat)(c:Ce)(l:Int),0≤l→(q6f s f c l).2≤l - 1∧-1≤(q6f s f c l).2
 |0,c,l,h=>⟨kP _,by simp only[q6f];omega⟩
 |f+1,c,l,h=>by
  unfold q6f;split
  ·simp only;omega
  split
  ·simp only;omega
  split
  ·simp only;omega
  split
  ·exact zcb (zaw s f) _ _ (by omega)
  ·simp only;omega
def znl:List D→Option (List D)
 |[s,c]=>if qr (dS s) then some [eC (q00 (dS s) (dC c))] else none
 |_=>none
theorem zps:D.a [.i 0,.i 0]=eC ⟨0,0⟩:=rfl
theorem qry:FOk zk znl:=qen zh q30 fun ds outs hw hg=>by
 obtain⟨d,r,rfl,hd,e,r',rfl,he,rfl⟩:=hw;obtain⟨s,rfl,hs⟩:=wfS hd;obtain⟨c,rfl,hc⟩:=wfC he;simp only[znl,yf,q16,uC,uB] at hg;obtain⟨hv,rfl⟩:=hg;have hvs:=q4l hv;have hl:=zh7 hv;have hvc:∀c,vcP s c=vcR s c:=hvs.vc;simp only[q4r,gnZ,qdf,hvc,zps];refine⟨fun h=>?_,fun h=>?_⟩
 ·simp only[q00,show vcR s c=false by simpa using h];rfl
 have hvc':vcR s c=true:=by simpa using h
 rw[zx];refine⟨fun st=>∃(k:Nat)(x:Ce),k≤s.cs.length∧st=[.i k,eC x]∧qcc s (s.cs.length - k) x=q00 s c,fun st=>s.cs.length - (st.getD 0 .u).int.toNat,⟨0,c,uI _,rfl,by rw[Nat.sub_zero,z9t hv hvc',q00,if_pos hvc']⟩,?_⟩;rintro st - ⟨k,x,hk,rfl,hP⟩;rw[z8];refine⟨fun hlt=>?_,fun hlt=>?_⟩
 ·simp only[gnZ] at hlt;have hkl:k<s.cs.length:=by omega
  obtain⟨n,hn⟩:∃n,s.cs.length - k=n+1:=⟨s.cs.length - k - 1,by omega⟩;rw[hn] at hP;unfold qcc at hP;have hn2:s.cs.length - (k+1)=n:=by omega
  have ht:=hvs.tag_in x.n;by_cases h0:x.t=0
  ·cases hin:inS s x.n with
   | true =>
    have h3:=qi.1 hin;rw[hin] at ht;have ht':¬q0d s x.n<0:=by have:=of_decide_eq_true ht;omega
    simp only[gnZ,qce,y7 hin,h0,ht',h3.1,h3.2];refine⟨fun hx=>?_,fun hx=>?_⟩
    ·have hx':cellAt s x.n=x:=by simpa using hx
     rw[if_neg (fun q=>q.2.2 hx')] at hP;rw[hP]
    ·have hx':cellAt s x.n≠x:=by simpa using hx
     rw[if_pos ⟨h0,hin,hx'⟩] at hP;refine⟨⟨by omega,by omega⟩,?_⟩;rw[jv,if_pos rfl];refine⟨⟨k+1,cellAt s x.n,by omega,by simp,by rw[hn2];exact hP⟩,?_⟩;simp[D.int];omega
   |false=>
    rw[hin] at ht;have ht':q0d s x.n<0:=by have:=of_decide_eq_false ht;omega
    rw[if_neg (fun q=>by rw[hin] at q;cases q.2.1)] at hP;simp only[gnZ,qce,h0,ht',←hP];simp
  ·rw[if_neg (fun q=>h0 q.1)] at hP;simp only[gnZ,qce,h0,←hP];simp
 ·simp only[gnZ] at hlt⊢;have:k=s.cs.length:=by omega
  subst this;rw[Nat.sub_self] at hP;rw[←hP,qcc]
def zf0(s:So)(c:Ce)(l:Int)(n:Nat):Bool:=qr s&&(vcR s c&&(decide (0≤l)&&decide (l<n)))
def qw9(n:Nat):List D→Option (List D)
 |[c,l,s]=>if zf0 (dS s) (dC c) l.int n then some [eT (q6f (dS s) n (dC c) l.int).1,.i (q6f (dS s) n (dC c) l.int).2] else none
 |_=>none
theorem zgd{g:Ce→Int→Te×Int}{l:Int}(h:l<0):∀cs,qif g cs l=([],l)
 |[]=>rfl
 |c::cs=>if_pos h
theorem zei{s:So}{n:Int}{m k:Nat}(h:k<m):(q8j s n m).drop k=cellAt s (n+1+k)::(q8j s n m).drop (k+1):=by
 have hl:k<(q8j s n m).length:=by simp[q8j,h]
 rw[kH hl];simp[q8j]
theorem zjv{s:So}(h:0≤arS s i):(D.r (s.ys.map eY)).get i=eY (qf6 s i):=zb0 eY (qji h).1 (qji h).2.1
theorem zw8(n:Int):D.a ((D.a ((eT zT).fs.set 0 (.i 0))).fs.set 1 (.i n))=eT (.mk 0 n ⟨#[]⟩ []):=rfl
theorem ztx(x:ByteArray):D.a ((D.a ((eT zT).fs.set 0 (.i 3))).fs.set 2 (.s x))=eT (.mk 3 0 x []):=rfl
theorem qgw:∀n,FOk yw (qw9 n)
 | 0 => (FOk.none q7a).sub fun ds outs h => by
  unfold qw9 at h;split at h
  ·simp only[zf0,uC,gnB,gnD] at h;omega
  ·cases h
 | f + 1 => qet (qgw f) qry qow q6n q2z q30 fun ds outs hw hg => by
  obtain⟨d,r,rfl,hd,e,r',rfl,he,e2,r2,rfl,he2,hw⟩:=hw;obtain rfl:r2=[]:=hw;obtain⟨c,rfl,hc⟩:=wfC hd;obtain⟨l,rfl,hl⟩:=wfI he;obtain⟨s,rfl,hs⟩:=wfS he2;simp only[qw9,zf0,yf,q16,j4,uC,uB,gnB,gnD] at hg;obtain⟨⟨hv,hvc,h0,hf⟩,rfl⟩:=hg;have h0:=of_decide_eq_true h0;have hf:=of_decide_eq_true hf;have hlen:=zh7 hv;have hd:=ql1 hv hvc;have hder:znl [eS s,eC c]=some [eC (q00 s c)]:=by simp only[znl,yf,q16,hv,if_true]
  simp only[q50,gnZ,gnT,hder,gIt,qce,gSt];refine⟨⟨by omega,by omega⟩,fun hn=>?_,fun hn=>?_⟩
  ·rw[q6f,if_pos hn]
  have hn':¬l - 1<0:=hn;unfold q6f;simp only[if_neg hn'];refine⟨fun h1=>?_,fun h1=>?_⟩
  ·rw[if_pos h1]
  simp only[if_neg h1];have h2':(q00 s c).t=2→arS s (q00 s c).n=0:=fun ht=>by
   simp only[vcR,ht] at hd;simpa using hd
  have h3':(q00 s c).t=3→q0d s (q00 s c).n=4:=fun ht=>by
   simp only[vcR,ht] at hd;simpa using hd
  by_cases h2:(q00 s c).t=2
  ·have ha:=h2' h2;have hsy:=zjv (s:=s) (i:=(q00 s c).n) (by omega);have hr:=qji (s:=s) (n:=(q00 s c).n) (by omega);have hnm:=zny hv (n:=(q00 s c).n) (by omega);simp[h2,ha,hsy,zdp,hr.1,hr.2.1,q7o,qlo hnm]
  simp only[h2];by_cases h3:(q00 s c).t=3
  ·have htag:=h3' h3;have hin:=q8q (by decide) htag;have htag':=htag;rw[zw hin] at htag';obtain⟨a1,a2,a3⟩:=zhl hv hin htag';have hr:=qji (s:=s) (n:=(cellAt s (q00 s c).n).n) (by omega);have hsy:=zjv (s:=s) (i:=(cellAt s (q00 s c).n).n) (by omega);have hi:=qi.1 hin;have hge:(0:Int)≤arS s (cellAt s (q00 s c).n).n:=by omega
   have hsr:(qf6 s (cellAt s (q00 s c).n).n).ar=arS s (cellAt s (q00 s c).n).n:=hr.2.2.symm;simp only[h3,htag,gnZ,gnT,y7 hin,hsy,hr.1,hr.2.1,hi.1,hi.2,hge];generalize hF:qif (q6f s f) (q8j s (q00 s c).n (arS s (cellAt s (q00 s c).n).n).toNat) (l - 1)=F;generalize har:arS s (cellAt s (q00 s c).n).n=ar at *;refine⟨fun h=>by simp at h,fun _=>⟨fun _=>⟨⟨by omega,by omega⟩,?_⟩,fun h=>by simp at h⟩⟩;simp only[if_false,if_true];rw[zx];refine⟨fun st=>∃(k:Nat)(x:Int)(ts:List Te),(k:Int)≤ar∧-1≤x∧x≤l - 1∧ts.length=k∧st=[.i ((q00 s c).n+1+k),.i x,eT (.mk 3 0 (qf6 s (cellAt s (q00 s c).n).n).name ts)]∧F=(ts++(qif (q6f s f) ((q8j s (q00 s c).n ar.toNat).drop k) x).1,(qif (q6f s f) ((q8j s (q00 s c).n ar.toNat).drop k) x).2),fun st=>ar.toNat - ((st.getD 0 .u).int - (q00 s c).n - 1).toNat,⟨0,l - 1,[],by omega,by omega,by omega,rfl,?_,by rw[←hF];rfl⟩,?_⟩
   ·simp only[X.evs,gnZ,gnT,hder,y7 hin,hsy,ztx];simp
   rintro st - ⟨k,x,ts,hk,hx1,hx2,hts,rfl,hFk⟩;by_cases hkl:(k:Int)<ar
   ·obtain⟨b1,b2⟩:=a3 k hkl;have b3:=qi.1 b1;have ht0:0≤q0d s ((q00 s c).n+1+k):=by
     have:=(q4l hv).tag_in ((q00 s c).n+1+k);rw[b1] at this;exact of_decide_eq_true this
    have hle:(q00 s c).n+1+k≤(q00 s c).n+ar:=by omega
    by_cases hx0:0≤x
    ·have hq:qw9 f [eC (cellAt s ((q00 s c).n+1+k)),.i x,eS s]=some [eT (q6f s f (cellAt s ((q00 s c).n+1+k)) x).1,.i (q6f s f (cellAt s ((q00 s c).n+1+k)) x).2]:=by
      have h1:x<f:=by omega
      simp only[qw9,zf0,yf,q16,j4,hv,b2,hx0,h1,decide_true,kX,if_true]
     have hnx:=zaw s f (cellAt s ((q00 s c).n+1+k)) x hx0;simp only[gnZ,gnT,hder,y7 hin,y7 b1,hsy,hsr,qce,hle,ht0,hq,hx0,zus,b3.1,b3.2];refine⟨⟨by omega,by omega⟩,fun _=>⟨by omega,⟨by omega,by omega⟩,?_⟩,fun h=>by simp at h⟩;rw[jv,if_pos rfl];refine⟨⟨k+1,(q6f s f (cellAt s ((q00 s c).n+1+k)) x).2,ts++[(q6f s f (cellAt s ((q00 s c).n+1+k)) x).1],by omega,by omega,by omega,by simp[hts],?_,?_⟩,?_⟩
     ·rw[zal];simp;omega
     ·rw[hFk,zei (by omega),qif,if_neg (by omega)];simp
     ·simp[D.int];omega
    ·simp only[gnZ,gnT,hder,y7 hin,y7 b1,hsy,hsr,qce,hle,ht0,hx0];rw[zgd (by omega)] at hFk;refine⟨⟨by omega,by omega⟩,fun h=>by simp at h,fun _=>?_⟩;simp[hFk]
   ·have hle:¬(q00 s c).n+1+k≤(q00 s c).n+ar:=by omega
    have:(q8j s (q00 s c).n ar.toNat).drop k=[]:=List.drop_eq_nil_of_le (by simp[q8j];omega);rw[this] at hFk;simp only[gnZ,gnT,hder,y7 hin,hsy,hsr,qce,hle];refine⟨⟨by omega,by omega⟩,fun h=>by simp at h,fun _=>?_⟩;simp[hFk,qif]
  ·simp only[h3,gnZ,gnT];refine⟨fun h=>by simp at h,fun _=>⟨by simp,fun h=>by simp at h,fun _=>?_⟩⟩;simp only[zw8,if_false]
def zdu(s:So)(c:Ce):Te×Int:=if vcR s c then(if(q6f s 2001 c 2000).2<0 then(zT,2) else((q6f s 2001 c 2000).1,0)) else(zT,1)
def zkx:List D→Option (List D)
 |[s,c]=>if qr (dS s) then some [eT (zdu (dS s) (dC c)).1,.i (zdu (dS s) (dC c)).2] else none
 |_=>none
theorem z1o:FOk q1d zkx:=qis (qgw 2001) zh fun ds outs hw hg=>by
 obtain⟨d,r,rfl,hd,e,r',rfl,he,rfl⟩:=hw;obtain⟨s,rfl,hs⟩:=wfS hd;obtain⟨c,rfl,hc⟩:=wfC he;simp only[zkx,yf,q16,uC,uB] at hg;obtain⟨hv,rfl⟩:=hg;have hvc:∀c,vcP s c=vcR s c:=(q4l hv).vc;simp only[q6s,gnZ,gnT,qdf,hvc,zdu];cases h:vcR s c with
 |false=>simp
 | true =>
  have hq:qw9 2001 [eC c,.i 2000,eS s]=some [eT (q6f s 2001 c 2000).1,.i (q6f s 2001 c 2000).2]:=by
   simp only[qw9,zf0,yf,q16,j4,hv,h];rfl
  simp only[hq];by_cases hn:(q6f s 2001 c 2000).2<0
  ·simp[hn,j4]
  ·simp[hn,j4]
theorem qom:FOk q1m (qpt inS):=z36 fun ds outs hw hg=>by
 obtain⟨d,r,rfl,hd,e,r',rfl,he,rfl⟩:=hw;obtain⟨s,rfl,hs⟩:=wfS hd;obtain⟨i,rfl,hi⟩:=wfI he;simp only[qpt,yf,j4,uB] at hg;subst hg;simp only[qck,gnZ,inS]
def jl(c:Ce):Ce:=if c.t=5 then⟨0,c.n⟩ else c
def qba:List D→Option (List D)
 |[c]=>some [eC (jl (dC c))]
 |_=>none
theorem qx7:FOk q27 qba:=qw0 fun ds outs hw hg=>by
 obtain⟨d,r,rfl,hd,rfl⟩:=hw;obtain⟨c,rfl,hc⟩:=wfC hd;simp only[qba,q16,uB] at hg;subst hg;simp only[q9h,gnZ,jl,zqi];exact⟨fun h=>by rw[if_pos h],fun h=>by rw[if_neg h]⟩
def behind(s:So)(a:Int):Bool:=decide (2≤a)&&decide ((cellAt s (a - 2)).t=5)
def q41(s:So)(a:Int):Bool:=if(cellAt s a).t=0 then decide ((cellAt s a).n=a) else if(cellAt s a).t=5 then true else if(cellAt s a).t=1∨(cellAt s a).t=2∨(cellAt s a).t=3 then behind s a else false
def zh6(s:So)(a:Int):Bool:=if(cellAt s a).t=0∨(cellAt s a).t=5 then decide ((cellAt s a).n=a) else behind s a&& !decide ((cellAt s a).t=4)
theorem qlh:FOk q05 (qg5 inS q41):=qjr fun ds outs hw hg=>by
 obtain⟨d,r,rfl,hd,e,r',rfl,he,rfl⟩:=hw;obtain⟨s,rfl,hs⟩:=wfS hd;obtain⟨i,rfl,hi⟩:=wfI he;simp only[qg5,yf,j4,uC,uB] at hg;obtain⟨hin,rfl⟩:=hg;have h1:=qi.1 hin;have hl:=hs.cs.1;have hr:i64 (i - 2):=⟨by omega,by omega⟩;have hr':=q46.2 hr;simp only[q57,gnZ,y7 hin,h1,hr,q41,behind,qb4];have e0:(D.a [.i 0,.i i])=eC ⟨0,i⟩:=rfl;by_cases h2:2≤i
 ·have hin2:inS s (i - 2)=true:=qi.2 ⟨by omega,by omega⟩;have q1:0≤i - 2:=by omega
  have q2:i - 2<s.cs.length:=by omega
  simp only[y7 hin2,h2,q1,q2,qt5,q9e,hr'];by_cases c0:(cellAt s i).t=0
  ·have:(cellAt s i=⟨0,i⟩)=((cellAt s i).n=i):=propext ⟨fun e=>by rw[e],fun e=>Ce.ext' c0 e⟩;simp[c0,this]
  ·by_cases c5:(cellAt s i).t=5
   ·simp[c5]
   ·by_cases c1:(cellAt s i).t=1
    ·simp[c1]
    ·by_cases c2:(cellAt s i).t=2
     ·simp[c2]
     ·by_cases c3:(cellAt s i).t=3
      ·simp[c3]
      ·simp[c0,c1,c2,c3,c5]
 ·simp only[h2];by_cases c0:(cellAt s i).t=0
  ·have:(cellAt s i=⟨0,i⟩)=((cellAt s i).n=i):=propext ⟨fun e=>by rw[e],fun e=>Ce.ext' c0 e⟩;simp[c0,this]
  ·by_cases c5:(cellAt s i).t=5
   ·simp[c5]
   ·by_cases c1:(cellAt s i).t=1
    ·simp[c1]
    ·by_cases c2:(cellAt s i).t=2
     ·simp[c2]
     ·by_cases c3:(cellAt s i).t=3
      ·simp[c3]
      ·simp[c0,c1,c2,c3,c5]
def q76(s:So)(a:Int):Nat→Ce→Bool
 |0,_=>false
 |k+1,c=>if c.t=0∧inS s c.n=true then(if c.n=a then true else q76 s a k (cellAt s c.n)) else false
def qam(s:So)(c:Ce)(a:Int):Bool:=q76 s a (s.cs.length+1) c
theorem qoo{s:So}{a:Int}(h:cellAt s c.n=c)(ha:¬c.n=a):∀k,q76 s a k c=false
 |0=>rfl
 | k + 1 => by
  unfold q76;by_cases hc:c.t=0∧inS s c.n=true
  ·rw[if_pos hc,if_neg ha,h];exact qoo h ha k
  ·rw[if_neg hc]
def zh9(f:So→Ce→Int→Bool):List D→Option (List D)
 |[s,c,i]=>some [.b (f (dS s) (dC c) i.int)]
 |_=>none
theorem qs9:FOk q1l (zh9 qam):=qps qom fun ds outs hw hg=>by
 obtain⟨d,r,rfl,hd,e,r',rfl,he,f,r2,rfl,hf,rfl⟩:=hw;obtain⟨s,rfl,hs⟩:=wfS hd;obtain⟨c0,rfl,hc⟩:=wfC he;obtain⟨a,rfl,ha⟩:=wfI hf;simp only[zh9,yf,q16,j4,uB] at hg;subst hg;have hl:=hs.cs.1;rw[q80,qg];refine⟨by simp only[gnZ];omega,?_⟩;rw[zx];refine⟨fun st=>∃(k:Nat)(c:Ce),k≤s.cs.length+1∧st=[.b false,.i k,eC c]∧q76 s a (s.cs.length+1 - k) c=qam s c0 a,fun st=>s.cs.length+1 - (st.getD 1 .u).int.toNat,⟨0,c0,uI _,rfl,rfl⟩,?_⟩;rintro st - ⟨k,c,hk,rfl,hP⟩;simp only[gnZ,qpt];refine⟨fun hlt=>?_,fun hlt=>?_⟩
 ·have hkl:k≤s.cs.length:=by omega
  have hr:i64 ((k:Int)+1):=⟨by omega,by omega⟩;obtain⟨n,hn⟩:∃n,s.cs.length+1 - k=n+1:=⟨s.cs.length - k,by omega⟩;rw[hn] at hP;unfold q76 at hP;refine⟨fun hx=>?_,fun hx=>?_⟩
  ·rw[if_neg] at hP
   ·rw[←hP]
   ·intro h;simp[h.1,h.2] at hx
  ·have hx':c.t=0∧inS s c.n=true:=by simpa using hx
   have h1:=qi.1 hx'.2;rw[if_pos hx'] at hP;simp only[y7 hx'.2,zcd];refine⟨fun hy=>?_,fun hy=>⟨h1,fun hz=>?_,fun hz=>⟨hr,?_⟩⟩⟩
   ·rw[if_pos hy] at hP;rw[hP]
   ·rw[if_neg hy,hz,qoo hz hy] at hP;rw[←hP]
   ·rw[if_neg hy] at hP;rw[jv,if_pos rfl];refine⟨⟨k+1,cellAt s c.n,by omega,by simp,by rw[show s.cs.length+1 - (k+1)=n by omega];exact hP⟩,?_⟩;simp[D.int];omega
 ·rw[←hP,show s.cs.length+1 - k=0 by omega];rfl
def q5d(vc:So→Ce→Bool)(st:So→Int→Bool)(s:So)(a:Int)(c:Ce):Bool:=inS s a&&(vc s c&&(st s a&& !qam s (jl c) a))
def q3v(s:So)(a:Int)(c:Ce):So:={s with cs:=s.cs.set a.toNat (jl c),tr:=s.tr++[⟨a,cellAt s a⟩]}
def z6i(vc:So→Ce→Bool)(st:So→Int→Bool):List D→Option (List D)
 |[s,a,c]=>if q5d vc st (dS s) a.int (dC c) then(if decide ((dS s).tr.length<5864062014634) then some [.i 0,eS (q3v (dS s) a.int (dC c))] else none) else some [.i 1,eS (dS s)]
 |_=>none
theorem zle{s:So}{a:Int}:D.a ((D.a ((eS s).fs.set 2 (.r (s.tr.map eU++[.a [.i a,eC (cellAt s a)]])))).fs.set 0 (.r ((s.cs.map eC).set a.toNat (eC (jl c)))))=eS (q3v s a c):=by
 simp[q3v,eS,D.fs,eU,List.map_set]
theorem zt2{s:So}:(D.a ((eS s).fs.set 2 x)).fld 0=.r (s.cs.map eC):=rfl
theorem q3h:FOk zo (z6i vcP q41):=qwx qom zh qlh qx7 qs9 fun ds outs hw hg=>by
 obtain⟨d,r,rfl,hd,e,r',rfl,he,f,r2,rfl,hf,rfl⟩:=hw;obtain⟨s,rfl,hs⟩:=wfS hd;obtain⟨a,rfl,ha⟩:=wfI he;obtain⟨c,rfl,hc⟩:=wfC hf;simp only[z6i,yf,q16,j4] at hg;simp only[qb5,gnZ,qpt,qdf,qg5,qba,zh9,kA,kC];cases hin:inS s a with
 |false=>
  have:q5d vcP q41 s a c=false:=by simp[q5d,hin]
  simp only[this,gnF,if_false,uB] at hg;subst hg;simp
 | true =>
  have h1:=qi.1 hin;cases hv:vcP s c with
  |false=>
   have:q5d vcP q41 s a c=false:=by simp[q5d,hv]
   simp only[this,gnF,if_false,uB] at hg;subst hg;simp
  | true =>
   cases ht:q41 s a with
   |false=>
    have:q5d vcP q41 s a c=false:=by simp[q5d,ht]
    simp only[this,gnF,if_false,uB] at hg;subst hg;simp[q5y,ht]
   | true =>
    cases hco:qam s (jl c) a with
    |true=>
     have:q5d vcP q41 s a c=false:=by simp[q5d,hco]
     simp only[this,gnF,if_false,uB] at hg;subst hg;simp[q5y,ht]
    |false=>
     have:q5d vcP q41 s a c=true:=by simp[q5d,hin,hv,ht,hco]
     simp only[this,if_true,uC,uB,gnD] at hg;obtain⟨hlt,rfl⟩:=hg;simp only[y7 hin,zt2,q7i,uF,zle];simp[q5y,ht,h1];omega
structure Vc where
 v:Int
 c:Ce
instance:Inhabited Vc:=⟨⟨0,default⟩⟩
def eV(x:Vc):D:=.a [.i x.v,eC x.c]
def dV(d:D):Vc:=⟨(d.fld 0).int,dC (d.fld 1)⟩
theorem qv3(x:Vc):dV (eV x)=x:=rfl
theorem zri{a b:Vc}(h:eV a=eV b):a=b:=by rw[←qv3 a,h,qv3 b]
instance:DecidableEq Vc:=fun a b=>if h:eV a=eV b then .isTrue (zri h) else .isFalse fun e=>h (e▸rfl)
theorem zrh(x:Vc):(eV x).fld 0=.i x.v:=rfl
theorem zrn(x:Vc):(eV x).fld 1=eC x.c:=rfl
theorem zq1(n:Int)(c:Ce):D.a [.i n,eC c]=eV ⟨n,c⟩:=rfl
def dVs(d:D):List Vc:=d.rs.map dV
theorem q5q(l:List Vc):dVs (.r (l.map eV))=l:=by
 show(l.map eV).map dV=l
 rw[kZ];exact List.map_id'' (fun x=>rfl) l
theorem wfV(h:Wf d qnx):∃c,d=eV c∧i64 c.v∧c.c.ok:=by
 obtain⟨ds,rfl,hl⟩:=h.st_of (fs:=[.int .i64,ql]) rfl;obtain⟨a,b,rfl,ha,hb⟩:=z6z hl;obtain⟨x,rfl,hx⟩:=wfI ha;obtain⟨y,rfl,hy⟩:=wfC hb;exact⟨⟨x,y⟩,rfl,hx,hy⟩
theorem zjl(h:Wf d z8i):∃l:List Vc,d=.r (l.map eV)∧l.length≤5864062014634∧∀x∈l,i64 x.v∧x.c.ok:=by
 obtain⟨l,e,h1,h2⟩:=h.row_of (te:=qnx) rfl;subst e;obtain⟨m,rfl,h3⟩:=qdn (e:=eV) (P:=fun x=>i64 x.v∧x.c.ok) fun x hx=>wfV (h2 x hx);have e:LM qnx=5864062014634:=by kernel_rfl
 rw[e,uF] at h1;exact⟨m,rfl,h1,h3⟩
def ofV:List Vc→Int→Option Ce
 |[],_=>none
 |x::l,v=>if x.v=v then some x.c else ofV l v
def qc9:List Vc→Int→Ce→List Vc
 |[],v,c=>[⟨v,c⟩]
 |x::l,v,c=>if x.v<v then x::qc9 l v c else⟨v,c⟩::x::l
def loV:List Vc→Int→Nat
 |[],_=>0
 |x::l,v=>if x.v<v then loV l v+1 else 0
def SV(l:List Vc):Prop:=l.Pairwise (fun a b=>a.v<b.v)∧∀x∈l,0≤x.v∧x.v≤1099511627776
instance(l:List Vc):Decidable (SV l):=inferInstanceAs (Decidable (_∧_))
theorem z7q(v:Int):∀l,loV l v≤l.length
 |[]=>uK _
 |x::l=>by
  unfold loV;have:=z7q v l;split<;>simp<;>omega
theorem ziw{v:Int}:∀{l:List Vc}{j:Nat},j<loV l v→(l.getD j default).v<v
 |[],j,h=>by simp[loV] at h
 | x :: l, j, h => by
  unfold loV at h;split at h
  ·rename_i hx;cases j with
   |zero=>exact hx
   |succ j=>
    rw[uR];exact ziw (by omega)
  ·omega
theorem z5l{v:Int}:∀{l:List Vc},loV l v<l.length→v≤(l.getD (loV l v) default).v
 |[],h=>by simp[loV] at h
 | x :: l, h => by
  unfold loV at h⊢;split at h
  ·rename_i hx;rw[if_pos hx,uR];exact z5l (by simpa using h)
  ·rename_i hx;rw[if_neg hx,uE];omega
theorem zgy{v:Int}{l:List Vc}{i:Nat}(hi:i≤l.length)(h1:∀j,j<i→(l.getD j default).v<v)(h2:∀j,i≤j→j<l.length→v≤(l.getD j default).v):loV l v=i:=by
 rcases Nat.lt_trichotomy (loV l v) i with h|h|h
 ·have:=h1 _ h;have:=z5l (v:=v) (l:=l) (by omega);omega
 ·exact h
 ·have:=ziw h;have h3:=z7q v l;have:=h2 i (uK _) (by omega);omega
theorem z1h(v:Int)(c:Ce):∀l,qc9 l v c=l.take (loV l v)++⟨v,c⟩::l.drop (loV l v)
 |[]=>rfl
 | x :: l => by
  unfold qc9 loV;split
  ·rw[z1h v c l];rfl
  ·rfl
theorem z4c{v:Int}:∀{l:List Vc},(∀y∈l,y.v≠v)→ofV l v=none
 |[],_=>rfl
 |x::l,h=>by
  unfold ofV;rw[if_neg (h x (by simp)),z4c fun y hy=>h y (by simp[hy])]
theorem z7x{v:Int}:∀{l:List Vc},SV l→ofV l v=if loV l v<l.length∧(l.getD (loV l v) default).v=v then some (l.getD (loV l v) default).c else none
 |[],_=>rfl
 | x :: l, h => by
  have hp:=uN.1 h.1;have hl:SV l:=⟨hp.2,fun y hy=>h.2 y (by simp[hy])⟩;unfold ofV loV;by_cases hx:x.v<v
  ·rw[if_neg (by omega),if_pos hx,z7x hl];simp
  ·rw[if_neg hx];by_cases he:x.v=v
   ·simp[he]
   ·rw[if_neg he,z4c fun y hy=>by have:=hp.1 y hy;omega];simp[he]
theorem z0b{v:Int}:∀{l:List Vc},ofV l v=some c→⟨v,c⟩∈l
 |[],h=>by cases h
 | x :: l, h => by
  unfold ofV at h;split at h
  ·rename_i hx;injection h with h;subst hx h;exact uT
  ·exact kN _ (z0b h)
theorem zet{v:Int}:∀{l:List Vc},ofV l v=none→∀y∈l,y.v≠v
 |[],_,y,hy=>by cases hy
 | x :: l, h, y, hy => by
  unfold ofV at h;split at h
  ·cases h
  ·rename_i hx;rcases uG.1 hy with rfl|hy
   ·exact hx
   ·exact zet h y hy
theorem z5q{v:Int}{l:List Vc}{y:Vc}:y∈qc9 l v c↔y=⟨v,c⟩∨y∈l:=by
 rw[z1h,uH,uG]
 conv=>rhs;rw[←uW (loV l v) l,uH]
 constructor
 ·rintro(h|h|h)
  ·exact .inr (.inl h)
  ·exact .inl h
  ·exact .inr (.inr h)
 ·rintro(h|h|h)
  ·exact .inr (.inl h)
  ·exact .inl h
  ·exact .inr (.inr h)
theorem za6{v:Int}(h0:0≤v)(h1:v≤1099511627776):∀{l:List Vc},SV l→ofV l v=none→SV (qc9 l v c):=fun{l}h hn=>by
 refine⟨?_,fun y hy=>?_⟩
 ·have hne:=zet hn;have key:∀l:List Vc,l.Pairwise (fun a b=>a.v<b.v)→(∀y∈l,y.v≠v)→(qc9 l v c).Pairwise fun a b=>a.v<b.v:=by
   intro l
   induction l with
   |nil=>intro _ _;exact List.pairwise_singleton _ _
   | cons x l ih =>
    intro hp hn;have hp':=uN.1 hp;unfold qc9;split
    ·rename_i hx;refine uN.2 ⟨fun y hy=>?_,ih hp'.2 fun y hy=>hn y (by simp[hy])⟩;rcases z5q.1 hy with rfl|hy
     ·exact hx
     ·exact hp'.1 y hy
    ·rename_i hx;have:=hn x (by simp);refine uN.2 ⟨fun y hy=>?_,hp⟩;rcases uG.1 hy with rfl|hy
     ·show v<y.v;omega
     ·have:=hp'.1 y hy
      show v<y.v
      omega
  exact key l h.1 hne
 ·rcases z5q.1 hy with rfl|hy
  ·exact⟨h0,h1⟩
  ·exact h.2 y hy
theorem zio{b:Int}:∀(l:List Vc)(a:Int),a≤b+1→l.Pairwise (fun x y=>x.v<y.v)→(∀x∈l,a≤x.v∧x.v≤b)→(l.length:Int)≤b - a+1
 |[],a,h,_,_=>by simp;omega
 |x::l,a,h,hp,hr=>by
  have hp':=uN.1 hp;have hx:=hr x (by simp);have:=zio l (x.v+1) (by omega) hp'.2 fun y hy=>⟨by have:=hp'.1 y hy;omega,(hr y (by simp[hy])).2⟩;rw[kE];omega
theorem SV.len{l:List Vc}(h:SV l):(l.length:Int)≤1099511627777:=by
 have:=zio (b:=1099511627776) l 0 (by omega) h.1 h.2;omega
theorem zad{ar:Int}:∀(k:Nat)(l:List Sy),0≤fnd nm ar k l↔(⟨nm,ar⟩:Sy)∈l
 |k,[]=>by simp[fnd]
 | k, y :: l => by
  unfold fnd;split
  ·rename_i h;obtain⟨rfl,rfl⟩:=h;exact⟨fun _=>by simp,fun _=>Int.natCast_nonneg _⟩
  ·rename_i h;rw[zad (k+1) l,uG];exact⟨.inr,fun h'=>h'.elim (fun e=>by subst e;exact(h ⟨rfl,rfl⟩).elim) id⟩
theorem qhb{s:So}{ar:Int}:0≤qeo s nm ar↔(⟨nm,ar⟩:Sy)∈s.ys:=zad 0 s.ys
def q0p(s:So)(nm:ByteArray)(ar:Int):Int×So:=if 0≤qeo s nm ar then(qeo s nm ar,s) else((s.ys.length:Nat),{s with ys:=s.ys++[⟨nm,ar⟩]})
def qd8(ys:List Sy)(y:Sy):List Sy:=if y∈ys then ys else ys++[y]
mutual
def q38(ys:List Sy):Te→List Sy
 |.mk k _ nm l=>q15 (if k=2∨k=3 then qd8 ys ⟨nm,(l.length:Nat)⟩ else ys) l
def q15(ys:List Sy):List Te→List Sy
 |[]=>ys
 |t::l=>q15 (q38 ys t) l
end
theorem zj4(ys:List Sy)(y:Sy):ys.length≤(qd8 ys y).length:=by
 unfold qd8;split
 ·exact uK _
 ·simp
mutual
theorem qmt:∀(t:Te)(ys:List Sy),ys.length≤(q38 ys t).length
 |.mk k n nm l,ys=>by
  rw[q38];refine kM ?_ (qe9 l _);split
  ·exact zj4 _ _
  ·exact uK _
theorem qe9:∀(l:List Te)(ys:List Sy),ys.length≤(q15 ys l).length
 |[],ys=>uK _
 |t::l,ys=>by
  rw[q15];exact kM (qmt t ys) (qe9 l _)
end
theorem qm2(s:So)(nm:ByteArray)(ar:Int):(q0p s nm ar).2.cs=s.cs∧(q0p s nm ar).2.mx=s.mx∧(q0p s nm ar).2.ys=qd8 s.ys ⟨nm,ar⟩∧(q0p s nm ar).2.tr=s.tr∧(q0p s nm ar).2.wk=s.wk∧(q0p s nm ar).2.ser=s.ser:=by
 unfold q0p qd8;by_cases h:0≤qeo s nm ar
 ·rw[if_pos h,if_pos (qhb.1 h)];exact⟨rfl,rfl,rfl,rfl,rfl,rfl⟩
 ·rw[if_neg h,if_neg (fun q=>h (qhb.2 q))];exact⟨rfl,rfl,rfl,rfl,rfl,rfl⟩
def qte(ys ms:List Sy)(y:Sy):List Sy:=if y∈ms∨y∈ys then ms else ms++[y]
mutual
def qf4(ys ms:List Sy):Te→List Sy
 |.mk k _ nm l=>q71 ys (if k=2∨k=3 then qte ys ms ⟨nm,(l.length:Nat)⟩ else ms) l
def q71(ys ms:List Sy):List Te→List Sy
 |[]=>ms
 |t::l=>q71 ys (qf4 ys ms t) l
end
theorem zt9(ys ms:List Sy)(y:Sy):ys++qte ys ms y=qd8 (ys++ms) y:=by
 unfold qte qd8;by_cases h:y∈ms∨y∈ys
 ·rw[if_pos h,if_pos (uH.2 h.symm)]
 ·rw[if_neg h,if_neg (fun q=>h (uH.1 q).symm),List.append_assoc]
mutual
theorem qv6:∀(t:Te)(ys ms:List Sy),ys++qf4 ys ms t=q38 (ys++ms) t
 |.mk k n nm l,ys,ms=>by
  rw[qf4,q38,zay];split
  ·rw[zt9]
  ·rfl
theorem zay:∀(l:List Te)(ys ms:List Sy),ys++q71 ys ms l=q15 (ys++ms) l
 |[],ys,ms=>rfl
 |t::l,ys,ms=>by rw[q71,q15,zay,qv6]
end
theorem zii(ys ms:List Sy)(y:Sy):(qte ys ms y).length≤ms.length+1:=by
 unfold qte;split
 ·omega
 ·simp
mutual
theorem qgv:∀(t:Te)(ys ms:List Sy),(qf4 ys ms t).length≤ms.length+szT t
 | .mk k n nm l, ys, ms => by
  rw[qf4,szT];refine kM (qxy l _ _) ?_;split
  ·have:=zii ys ms ⟨nm,(l.length:Nat)⟩;omega
  ·omega
theorem qxy:∀(l:List Te)(ys ms:List Sy),(q71 ys ms l).length≤ms.length+q04 l
 |[],ys,ms=>by simp[q71,q04]
 |t::l,ys,ms=>by
  rw[q71,q04];have h1:=qgv t ys ms;have h2:=qxy l ys (qf4 ys ms t);omega
end
mutual
/-- The cells that a term needs, but for a variable that is no argument. -/
def q63:Te→Nat
 |.mk k _ _ l=>if k=3 then 1+l.length+q17 l else 0
def q17:List Te→Nat
 |[]=>0
 |t::l=>q63 t+q17 l
end
mutual
theorem qk9:∀t:Te,q63 t+1≤2 * szT t
 |.mk k n nm l=>by
  rw[q63,szT];have h1:=z4v l;have h2:=z5i l;split<;>omega
theorem z4v:∀l:List Te,q17 l+l.length≤2 * q04 l
 |[]=>uK _
 |t::l=>by
  rw[q17,q04,kE];have h1:=qk9 t;have h2:=z4v l;omega
end
def q6g(t:Te)(all:List Vc):Nat:=q63 t+if t.k=0∧ofV all t.n=none then 1 else 0
abbrev Sv:=So×List Vc
def qdw(s:So)(i:Nat)(c:Ce):So:={s with cs:=s.cs.set i c}
mutual
/-- A term added; at: the address of the argument that it becomes. -/
def zm(q:Sv):Te→Int→Ce×Sv
 | .mk k n nm l, at' =>
  if k=1 then(⟨1,n⟩,q)
  else if k=2 then(⟨2,(q0p q.1 nm 0).1⟩,(q0p q.1 nm 0).2,q.2)
  else if k=0 then(match ofV q.2 n with
   |some c=>(jl c,q)
   |none=>if at'<0 then(⟨0,(q.1.cs.length:Nat)⟩,{q.1 with cs:=q.1.cs++[⟨0,(q.1.cs.length:Nat)⟩]},qc9 q.2 n ⟨0,(q.1.cs.length:Nat)⟩) else(⟨0,at'⟩,q.1,qc9 q.2 n ⟨0,at'⟩))
  else(⟨3,(q.1.cs.length:Nat)⟩,ju ({(q0p q.1 nm (l.length:Nat)).2 with cs:=q.1.cs++(⟨4,(q0p q.1 nm (l.length:Nat)).1⟩::uZ l.length ⟨0,0⟩)},q.2) l (q.1.cs.length+1))
def ju(q:Sv):List Te→Nat→Sv
 |[],_=>q
 |a::l,to=>ju (qdw (zm q a (to:Nat)).2.1 to (zm q a (to:Nat)).1,(zm q a (to:Nat)).2.2) l (to+1)
end
theorem q8w(s:So)(i:Nat)(c:Ce):(qdw s i c).cs.length=s.cs.length:=by simp[qdw]
def Rst(s s':So):Prop:=s'.mx=s.mx∧s'.tr=s.tr∧s'.wk=s.wk∧s'.ser=s.ser
theorem Rst.trans{a b c:So}(h:Rst a b)(k:Rst b c):Rst a c:=⟨k.1.trans h.1,k.2.1.trans h.2.1,k.2.2.1.trans h.2.2.1,k.2.2.2.trans h.2.2.2⟩
theorem zb8(k n:Int)(s:ByteArray)(l:List Te):q3q (.mk k n s l)=if k=0 then decide (0≤n)&&(decide (n≤1099511627776)&&(decide (s=⟨#[]⟩)&&decide ((l.length:Int)=0)))
 else if k=1 then decide (s=⟨#[]⟩)&&decide ((l.length:Int)=0)
 else if k=2 then decide (n=0)&&(decide ((s.size:Int)≤100)&&decide ((l.length:Int)=0))
 else if k=3 then decide (n=0)&&(decide ((s.size:Int)≤100)&&(decide (1≤(l.length:Int))&&decide ((l.length:Int)≤8)))
 else false:=rfl
theorem q2i{k n:Int}{s:ByteArray}{l:List Te}(h:q3q (.mk k n s l)=true):(k=0∧l=[]∧0≤n∧n≤1099511627776)∨(k=1∧l=[])∨(k=2∧l=[]∧s.size≤100)∨(k=3∧s.size≤100∧1≤l.length∧l.length≤8):=by
 rw[zb8] at h;by_cases h0:k=0
 ·rw[if_pos h0] at h;simp only[gnB,gnD] at h;exact .inl ⟨h0,uV.1 (by omega),h.1,h.2.1⟩
 rw[if_neg h0] at h;by_cases h1:k=1
 ·rw[if_pos h1] at h;simp only[gnB,gnD] at h;exact .inr (.inl ⟨h1,uV.1 (by omega)⟩)
 rw[if_neg h1] at h;by_cases h2:k=2
 ·rw[if_pos h2] at h;simp only[gnB,gnD] at h;exact .inr (.inr (.inl ⟨h2,uV.1 (by omega),by omega⟩))
 rw[if_neg h2] at h;split at h
 ·rename_i h3;simp only[gnB,gnD] at h;exact .inr (.inr (.inr ⟨h3,by omega,by omega,by omega⟩))
 ·cases h
theorem qgt(q:Sv)(n:Int)(nm:ByteArray)(l:List Te)(a:Int):zm q (.mk 0 n nm l) a=match ofV q.2 n with
   |some c=>(jl c,q)
   |none=>if a<0 then(⟨0,(q.1.cs.length:Nat)⟩,{q.1 with cs:=q.1.cs++[⟨0,(q.1.cs.length:Nat)⟩]},qc9 q.2 n ⟨0,(q.1.cs.length:Nat)⟩) else(⟨0,a⟩,q.1,qc9 q.2 n ⟨0,a⟩):=by
 rw[zm,if_neg (by decide),if_neg (by decide),if_pos rfl]
theorem qfp(q:Sv)(n:Int)(nm:ByteArray)(l:List Te)(a:Int):zm q (.mk 1 n nm l) a=(⟨1,n⟩,q):=by rw[zm,if_pos rfl]
theorem qfn(q:Sv)(n:Int)(nm:ByteArray)(l:List Te)(a:Int):zm q (.mk 2 n nm l) a=(⟨2,(q0p q.1 nm 0).1⟩,(q0p q.1 nm 0).2,q.2):=by rw[zm,if_neg (by decide),if_pos rfl]
theorem qgo(q:Sv)(n:Int)(nm:ByteArray)(l:List Te)(a:Int):zm q (.mk 3 n nm l) a=(⟨3,(q.1.cs.length:Nat)⟩,ju ({(q0p q.1 nm (l.length:Nat)).2 with cs:=q.1.cs++(⟨4,(q0p q.1 nm (l.length:Nat)).1⟩::uZ l.length ⟨0,0⟩)},q.2) l (q.1.cs.length+1)):=by rw[zm,if_neg (by decide),if_neg (by decide),if_neg (by decide)]
theorem qj6{k n:Int}{l:List Te}(h:k≠3):q63 (.mk k n nm l)=0:=by rw[q63,if_neg h]
theorem qvn{k n:Int}{l:List Te}(h:k≠0)(all:List Vc):q6g (.mk k n nm l) all=q63 (.mk k n nm l):=by
 unfold q6g;rw[if_neg (fun q=>h q.1)];rfl
variable{ys:List Sy}
theorem zbj{k n:Int}(h:¬(k=2∨k=3)):q38 ys (.mk k n nm [])=ys:=by rw[q38,if_neg h,q15]
theorem zhn{n:Int}:q38 ys (.mk 2 n nm [])=qd8 ys ⟨nm,0⟩:=by rw[q38,if_pos (.inl rfl),q15];rfl
theorem zep{n:Int}{l:List Te}:q38 ys (.mk 3 n nm l)=q15 (qd8 ys ⟨nm,(l.length:Nat)⟩) l:=by rw[q38,if_pos (.inr rfl)]
theorem zbf{n:Int}{l:List Te}:q63 (.mk 3 n nm l)=1+l.length+q17 l:=by rw[q63,if_pos rfl]
theorem Rst.refl(s:So):Rst s s:=⟨rfl,rfl,rfl,rfl⟩
mutual
theorem q45:∀(t:Te)(q:Sv)(a:Int),z6 t=true→SV q.2→(zm q t a).2.1.cs.length=q.1.cs.length+(if a<0 then q6g t q.2 else q63 t)∧(zm q t a).2.1.ys=q38 q.1.ys t∧Rst q.1 (zm q t a).2.1∧SV (zm q t a).2.2
 | .mk k n nm l, q, a, hn, hs => by
  rw[z6,gnB] at hn;rcases q2i hn.1 with⟨rfl,rfl,h1,h2⟩|⟨rfl,rfl⟩|⟨rfl,rfl,h1⟩|⟨rfl,h1,h2,h3⟩
  ·have e1:q6g (.mk 0 n nm []) q.2=if ofV q.2 n=none then 1 else 0:=by
    unfold q6g;rw[qj6 (by decide)];simp[Te.k,Te.n]
   rw[qgt,zbj (by decide),qj6 (by decide),e1];cases ho:ofV q.2 n with
   |some c=>exact⟨by simp,rfl,Rst.refl _,hs⟩
   | none =>
    by_cases ha:a<0
    ·simp only[if_pos ha];exact⟨by simp,by trivial,⟨rfl,rfl,rfl,rfl⟩,za6 h1 h2 hs ho⟩
    ·simp only[if_neg ha];exact⟨by simp,by trivial,⟨rfl,rfl,rfl,rfl⟩,za6 h1 h2 hs ho⟩
  ·rw[qfp,zbj (by decide),qvn (by decide),qj6 (by decide)];exact⟨by simp,rfl,Rst.refl _,hs⟩
  ·obtain⟨e1,e2,e3,e4,e5,e6⟩:=qm2 q.1 nm 0;rw[qfn,zhn,qvn (by decide),qj6 (by decide)];exact⟨by rw[e1];simp,e3,⟨e2,e4,e5,e6⟩,hs⟩
  ·obtain⟨e1,e2,e3,e4,e5,e6⟩:=qm2 q.1 nm (l.length:Nat);rw[qgo,zep,qvn (by decide),zbf];obtain⟨g1,g2,g3,g4⟩:=qd2 l ({(q0p q.1 nm (l.length:Nat)).2 with cs:=q.1.cs++(⟨4,(q0p q.1 nm (l.length:Nat)).1⟩::uZ l.length ⟨0,0⟩)},q.2) (q.1.cs.length+1) hn.2 hs;refine⟨?_,?_,?_,g4⟩
   ·rw[g1];simp;omega
   ·rw[g2]
    show q15 (q0p q.1 nm (l.length:Nat)).2.ys l=_
    rw[e3]
   ·exact Rst.trans ⟨e2,e4,e5,e6⟩ g3
theorem qd2:∀(l:List Te)(q:Sv)(to:Nat),j7 l=true→SV q.2→(ju q l to).1.cs.length=q.1.cs.length+q17 l∧(ju q l to).1.ys=q15 q.1.ys l∧Rst q.1 (ju q l to).1∧SV (ju q l to).2
 |[],q,to,_,hs=>⟨rfl,rfl,⟨rfl,rfl,rfl,rfl⟩,hs⟩
 | t :: l, q, to, hn, hs => by
  rw[j7,gnB] at hn;rw[ju,q17,q15];obtain⟨h1,h2,h3,h4⟩:=q45 t q (to:Nat) hn.1 hs;obtain⟨g1,g2,g3,g4⟩:=qd2 l (qdw (zm q t (to:Nat)).2.1 to (zm q t (to:Nat)).1,(zm q t (to:Nat)).2.2) (to+1) hn.2 h4;refine⟨?_,?_,?_,g4⟩
  ·rw[g1,q8w,h1,if_neg (by omega)];omega
  ·rw[g2]
   show q15 (zm q t (to:Nat)).2.1.ys l=_
   rw[h2]
  ·exact Rst.trans h3 g3
end
end Go.Proofs.Ytdaadonfbnedaaa
