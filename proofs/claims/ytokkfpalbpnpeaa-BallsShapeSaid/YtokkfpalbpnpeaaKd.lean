/-
 Lemmas of the walk and plain laws, put together. No condition.
-/
import Derived.Defers
import Derived.Laws.Tables
import Derived.Orders
import Derived.Test.YtokkfpalbpnpeaaKc
namespace Go.Proofs.Ytokkfpalbpnpeaa
open Go.RowKit
set_option linter.unusedVariables false
set_option linter.unusedSimpArgs false
set_option maxRecDepth 100000
open _root_.Go.Proofs.Try renaming prog→uA
open _root_.List renaming all_eq_true→uB,mem_cons_self→uF,take_length→uG,mem_cons_of_mem→uI,getElem?_append_left→uK,mem_cons→uL,getElem?_cons_succ→uO,filter_cons→uP,head?_cons→uQ,getElem?_map→uR,mem_iff_getElem→uS,any_eq_true→uU,range→uV,mem_append_right→uY,getElem?_toArray→uZ,take_take→kA,mem_append_left→kB,length_append→kF,take_append_of_le_length→kM,length→kN,mem_filter→kP,getElem?_append_right→kT,map_cons→kY,getElem?_take_of_lt→kZ,getElem?_cons_zero→vA,range'→vF,mem_of_getElem?→vG,getD_cons_zero→vK,mem_append→vM,foldr_cons→vO,mem_range→vS
open _root_.Option.some renaming injEq→uC
open _root_.Nat renaming le_refl→uD,beq→uE,shiftLeft→uH,sub_self→uT,beq_refl→uW,blt_eq→kH,one_shiftLeft→kI,blt→kJ,min_eq_left→kR,shiftRight→kV,land→kW,sub_zero→vB,lt_or_ge→vC,zero_le→vJ,lt_succ_self→vL,testBit_and→vQ,strongRecOn→vR,zero_add→vW,add_zero→vX
open _root_.Bool renaming not_eq_true'→uJ,or_eq_true_iff→uN,or_eq_true→uX,and_eq_true_iff→kC,false_or→kE,or_eq_false_iff→vH,true_and→vT
open _root_.Array renaming getElem?_setIfInBounds_ne→uM,getElem?_setIfInBounds_self→kG,eq_empty_of_size_eq_zero→kK,replicate→kO,getD_eq_getD_getElem?→kQ,size_setIfInBounds→kX
open _root_.Option renaming map_some→kL,isSome_iff_exists→kS,bind_eq_some_iff→kU
section
section
variable{c:Cx}{p:qe}{w w0:World}{S0:Nat→Prop}{a:Act}{σ σ':St}{cs:List (X×Bool)}{o:Oper}{d:List Deferred}{z:Nat}{tbl:Tbl}
theorem q6p{r:List X×Eff}(h0:step uA tbl σ cs o=some r):∀x y,o.op≠.select x y:=fun x y hc=>by
 obtain⟨r0,h,-⟩:=Option.map_eq_some_iff.1 h0;unfold qfr at h;rw[hc] at h;split at h
 ·cases h
 ·simp[quiet,hc,vals] at h
theorem qs6(htb:ym tbl)(hS:HS c tbl){ops:Array Oper}{ds:List (Option Tmp)}(hds:ops.toList.map (·.dst)=ds)(hb:Bs c.A c.F w0 S0 p w)(hf:SF c σ p w a)(hd:a.defers=d)(hz:a.tmps.size=z)(hk:q4q c.lo z o=true)
  {ns:List X}(h:stepG uA tbl ds σ o=some (ns,σ'))(hn:∀n∈ns,n.says c.v){Q:Exit→Act→World→Prop}(hQ:q7j tbl w0 S0 d Q){K:Act→World→Prop}(hK:∀a' w',zl c w0 S0 d z σ' a' w'→K a' w'):
  if Region.wanted o (yielded ops a.tmps) then((∀c',o.op≠.defer c')∧∀cs b,o.op≠.select cs b)∧o.wp uA a w K Q else K (a.put o.dst Go.undef) w:=by
 have hkz:∀t,o.dst=some t→t<z:=fun t e=>by
  unfold q4q at hk;rw[e] at hk;simp only[gnB,kH] at hk;exact hk.1
 have hplain:(step uA tbl σ [] o).bind (qho σ o.dst)=some (ns,σ')→((∀c',o.op≠.defer c')∧∀cs b,o.op≠.select cs b)∧o.wp uA a w K Q:=fun h=>by
  obtain⟨⟨ms,e⟩,h1,h2⟩:=kU.1 h;have h2:(match e.on σ o.dst with|some σ'=>some (ms,σ')|none=>none)=some (ns,σ'):=h2;split at h2
  ·rename_i σ1 he;injection h2 with h2;obtain⟨rfl,rfl⟩:=Prod.mk.inj h2;refine⟨⟨q2k h1,q6p h1⟩,Oper.wp_mono ?_ (qc3 htb hS hb hf rfl hd hz hk h1 hn hQ)⟩;intro a' w' hp;refine hK a' w' ?_;cases e with
   |st σ2=>
    injection he with he;subst he;exact hp
   | val x =>
    obtain⟨rfl,v,rfl,hv⟩:=hp;cases hdst:o.dst with
    |none=>rw[hdst] at he;cases he
    |some k=>
     rw[hdst] at he;injection he with he;subst he;exact q2w hb hf hd hz (hkz k hdst) hv
  ·cases h2
 unfold stepG at h;cases hg:o.guard with
 |none=>
  rw[hg] at h;rw[if_pos (by unfold Region.wanted;simp only[hg])];exact hplain h
 | some gb =>
  obtain⟨g,b⟩:=gb;rw[hg] at h;simp only at h
  -- the guard
  have hgd:∀G,guardOf ds σ g b=some G→qsv c [] (Region.wanted o (yielded ops a.tmps)=true) G:=fun G hG=>by
   unfold guardOf at hG;split at hG
   ·rename_i t ht;have key:∀{x:AV}{l:List (X×Bool)}{v:Value},a.tmps[t]? =some v→qga b l x=some G→(hold c.v l=true→x.pd c p w v)→(hold c.v l=false→v=Go.undef)→qsv c [] (Region.wanted o (yielded ops a.tmps)=true) G:=fun{x l v}hv hG h1 h2=>by
     have hy:=qdh (ops:=ops) hds ht hv (b:=b);have hw:=qdi (ops:=ops) (tmps:=a.tmps) hg;have:=qkl hG h1 h2;cases G with
     |yes=>exact hw.2 (hy.2 this)
     |no=>exact fun e=>this (hy.1 (hw.1 e))
     |ask l=>exact⟨(fun e=>⟨rfl,hw.2 (hy.2 (this.1 e).2)⟩),(fun e e'=>this.2 e (hy.1 (hw.1 e')))⟩
    split at hG
    ·rename_i l x hx;obtain⟨v,hv1,hv2⟩:=hf.t t _ hx;exact key hv1 hG hv2.1 hv2.2
    ·rename_i x _ hx;obtain⟨v,hv1,hv2⟩:=hf.t t _ hx;exact key (l:=[]) hv1 hG (fun _=>hv2) (fun e=>by cases e)
    ·cases hG
   ·cases hG
  split at h
  ·rename_i hG;have h1:Region.wanted o (yielded ops a.tmps)=true:=hgd _ hG;rw[if_pos h1];exact hplain h
  ·rename_i hG;have h1:¬Region.wanted o (yielded ops a.tmps)=true:=hgd _ hG;rw[if_neg h1];simp only[gnS] at h;obtain⟨rfl,rfl⟩:=h;exact hK _ _ (qgp hb hf hd hz hkz)
  ·rename_i cs hG;have h1:=hgd _ hG;obtain⟨⟨ms,e⟩,h2,h3⟩:=kU.1 h;cases hc:hold c.v cs with
   | true =>
    rw[if_pos (h1.1 hc).2];have hns:ns=ms.map (qkf cs):=by
     cases e with
     | val x =>
      cases hdst:o.dst with
      |none=>rw[hdst] at h3;cases h3
      |some k=>
       rw[hdst] at h3;injection h3 with h3;exact(Prod.mk.inj h3).1.symm
     |st σ1=>
      injection h3 with h3;exact(Prod.mk.inj h3).1.symm
    refine⟨⟨q2k h2,q6p h2⟩,Oper.wp_mono ?_ (qc3 htb hS hb hf hc hd hz hk h2 (fun n hm=>qn7 (hn (qkf cs n) (by rw[hns];exact List.mem_map_of_mem hm)) hc) hQ)⟩;intro a' w' hp;refine hK a' w' ?_;cases e with
    | val x =>
     obtain⟨rfl,v,rfl,hv⟩:=hp;unfold under at h3;simp only at h3;cases hdst:o.dst with
     |none=>rw[hdst] at h3;cases h3
     |some k=>
      rw[hdst] at h3;simp only[gnS] at h3;obtain⟨-,rfl⟩:=h3;exact q2w hb hf hd hz (hkz k hdst) ⟨(fun _=>hv),(fun e=>by rw[hc] at e;cases e)⟩
    |st σ1=>
     unfold under at h3;simp only[gnS] at h3;obtain⟨-,rfl⟩:=h3;obtain⟨p',hb',hf',hd',hz'⟩:=hp;exact⟨p',hb',qg6 hc hf' (fun t e=>⟨_,Array.getElem?_eq_getElem (by have:=hkz t e;rw[hz'];exact this)⟩),hd',hz'⟩
   | false =>
    rw[if_neg (h1.2 hc)];refine hK _ _ ?_;cases e with
    | val x =>
     unfold under at h3;simp only at h3;cases hdst:o.dst with
     |none=>rw[hdst] at h3;cases h3
     |some k=>
      rw[hdst] at h3;simp only[gnS] at h3;obtain⟨-,rfl⟩:=h3;exact q2w hb hf hd hz (hkz k hdst) ⟨(fun e=>by rw[hc] at e;cases e),(fun _=>rfl)⟩
    |st σ1=>
     unfold under at h3;simp only[gnS] at h3;obtain⟨-,rfl⟩:=h3;exact⟨p,hb,qjc hc hf (fun t e=>by rw[hz];exact hkz t e),(by cases o.dst<;>exact hd),(by cases o.dst<;>simp only[Act.put,kX]<;>exact hz)⟩
  ·cases h
def y4(o:Oper):Bool:=match o.guard with
 |some _=>false
 |none=>o.dst.isSome&&match o.op with
  |.move _=>true
  |.load _ _=>true
  |.fieldAddr _ _ _=>true
  |.field _ _ _=>true
  |.nilCheck _=>true
  |.binOp _ _ _ _ _=>true
  |.unOp _ _ _=>true
  |.extract _ _=>true
  |.index _ _ _=>true
  |.indexAddr _ _ _=>true
  |.convert _ _ _=>true
  |_=>false
def tmpsOf(o:Oper):List Nat:=o.op.operands.toList.filterMap fun|.tmp t=>some t|_=>none
def q5k(ds:List (Option Tmp))(o:Oper):List Nat:=match o.guard with
 |some (g,_)=>(match(ds[g]?).join with
  |some t=>t::tmpsOf o
  |none=>tmpsOf o)
 |none=>tmpsOf o
def qlp:AV→Bool
 |.any=>true
 |_=>false
def bit(S i:Nat):Bool:=uE (kW 1 (kV S i)) 1
def inM(m S:Nat):Bool:=uE (kW m S) m
def only (l:List Nat)(σ:St):St:=⟨σ.t.filter fun e=>qr l e.1,σ.m⟩
def qmf(P:Program)(σ:St)(o:Oper):Option (List X×AV):=quiet P (only (tmpsOf o) σ) [] o
def qia(P:Program):List Oper→List Nat→Nat→Nat→St→List X→Option (Nat×St×List X)
 |[],_,_,C,σ,N=>some (C,σ,N)
 |o::l,[],i,C,σ,N=>none
 | o :: l, m :: ms, i, C, σ, N => if y4 o && (!bit C i && inM m C) then (match qmf P σ o, o.dst with
   |some (ns,x),some k=>qia P l ms (i+1) (plus C i) ⟨zr σ.t k x,σ.m⟩ (ns++N)
   |_,_=>none) else qia P l ms (i+1) C σ N
abbrev Nd:=Nat×St
def q0z:List Oper→List Nat→Nat→Nat→List Nat
 |o::l,m::ms,i,C=>if !y4 o&&(!bit C i&&inM m C) then i::q0z l ms (i+1) C else q0z l ms (i+1) C
 |_,_,_,_=>[]
def qsf(l:List Nat)(σ:St):St:=⟨σ.t.filter fun e=> !qr l e.1,σ.m⟩
def qz9(ops:List Oper)(o:Oper):List Nat:=match o.dst with
 |some t=>ops.filterMap fun e=>if y4 e&&qr (tmpsOf e) t then e.dst else none
 |none=>[]
def qw5(C:Nat)(l:List Nd):Bool:=l.any fun e=>uE e.1 C
def qzt(P:Program)(tbl:Tbl)(ds:List (Option Tmp))(ops:List Oper)(ms:List Nat)(lv:List Nd×List X):Option (List Nd×List X):=
 lv.1.foldl (fun acc e=>(q0z ops ms 0 e.1).foldl (fun acc i=>match acc with
  |none=>none
  | some (l, N) => if qw5 (plus e.1 i) l then some (l, N) else (match ops[i]? with
   | some o => (match stepG P tbl ds e.2 o with
    |some (ns,σ')=>(match qia P ops ms 0 (plus e.1 i) (qsf (qz9 ops o) σ') [] with
     |some (C,σ2,N2)=>if qw5 C l then some (l,N) else some ((C,σ2)::l,ns++(N2++N))
     |none=>none)
    |none=>none)
   |none=>none)) acc) (some ([],lv.2))
def qwc(P:Program)(tbl:Tbl)(ds:List (Option Tmp))(ops:List Oper)(ms:List Nat):Nat→List Nd×List X→List (List Nd)→Option (List (List Nd)×List X)
 |0,lv,acc=>some ((lv.1::acc).reverse,lv.2)
 |n+1,lv,acc=>match qzt P tbl ds ops ms lv with
  |some ([],_)=>some ((lv.1::acc).reverse,lv.2)
  |some lv'=>qwc P tbl ds ops ms n lv' (lv.1::acc)
  |none=>none
def qkh(ds:List (Option Tmp))(ops:List Oper)(ms:List Nat):Nat→List Oper→List Nat→Bool
  |i,o::l,m::mr=>kJ m (uH 1 i)&&((!y4 o||(match o.dst with
      |some t=>ops.zipIdx.all fun e=>(!qr (q5k ds e.1) t||(match ms[e.2]? with
          |some m'=>bit m' i
          | none => false)) && (uE e.2 i || (match e.1.dst with
            |some t'=> !Nat.beq t' t
            |none=>true))
      |none=>false))&&qkh ds ops ms (i+1) l mr)
  |_,[],[]=>true
  |_,_,_=>false
def qwn(ops:List Oper)(ms:List Nat)(C i:Nat):Bool:=ops.zipIdx.any fun f=> !y4 f.1&&(bit C f.2&&(match ms[f.2]? with
 |some m=>bit m i
 |none=>false))
def ndB(P:Program)(N:List X)(ops:List Oper)(ms:List Nat)(C:Nat)(τ:St):Bool:=(ops.zipIdx.filter fun e=>y4 e.1).all fun e=>(if bit C e.2 then((match qmf P τ e.1,e.1.dst with
  |some (ns,x),some t=>ns.all (qv5 N)&&(match lkA τ.t t with
   |some x'=>AV.beq x' x||qlp x'
   |none=>true)
  |_,_=>false)||qwn ops ms C e.2) else(match ms[e.2]? with
   |some m=> !inM m C
   |none=>false))
def q5r(ops:List Oper)(C i C':Nat):Option (List Nat):=if uE C' (plus C i) then some [] else ops.zipIdx.foldr (fun e acc=>match acc with
 |none=>none
 | some l => if bit C' e.2 && (!bit C e.2 && !Nat.beq e.2 i) then (if y4 e.1 then (match e.1.dst with
   |some t=>some (t::l)
   |none=>none) else none) else some l) (some [])
def without(l:List Nat)(σ:St):St:=⟨σ.t.filter fun e=> !qr l e.1,σ.m⟩
def qx0(P:Program)(tbl:Tbl)(ds:List (Option Tmp))(ops:List Oper)(N:List X)(C:Nat)(τ:St)(lv':List Nd)(i:Nat):Bool:=match ops[i]? with
 | some o => (match stepG P tbl ds τ o with
  |some (ns,σ')=>ns.all (qv5 N)&&lv'.any fun e'=>inM (plus C i) e'.1&&(match q5r ops C i e'.1 with
   |some l=>covers σ' (without l e'.2)
   |none=>false)
  |none=>false)
 |none=>false
def okN(P:Program)(tbl:Tbl)(ds:List (Option Tmp))(ops:List Oper)(ms:List Nat)(N:List X)(l:St):List (List Nd)→Bool
 |[]=>false
 |[lv]=>lv.all fun e=>ndB P N ops ms e.1 e.2&&(uE e.1 (uH 1 ops.length - 1)&&covers e.2 l)
 |lv::lv'::r=>(lv.all fun e=>ndB P N ops ms e.1 e.2&&(!(q0z ops ms 0 e.1).isEmpty&&(q0z ops ms 0 e.1).all (qx0 P tbl ds ops N e.1 e.2 lv')))&&okN P tbl ds ops ms N l (lv'::r)
def qwd:List (List Nd)→Option St
 |[]=>none
 |[lv]=>(match lv with
  |[e]=>some e.2
  |_=>none)
 |_::l=>qwd l
def qls(l:List Oper)(σ:St):List (List Nd)→Bool
 |[]=>false
 | lv :: _ => match lv with
  |[e]=>(match q5r l 0 l.length e.1 with
   |some out=>covers σ (without out e.2)
   |none=>false)
  |_=>false
def qxm(P:Program)(tbl:Tbl)(σ:St)(l:List Oper):Option (List X×St):=
 if qkh (dsts l) l (l.map qo) 0 l (l.map qo) then match qia P l (l.map qo) 0 0 σ [] with
  | some (C, σ1, N1) => (match qwc P tbl (dsts l) l (l.map qo) l.length ([(C, σ1)], N1) [] with
   |some (L,N)=>(match qwd L with
    |some σf=>if okN P tbl (dsts l) l (l.map qo) N σf L&&qls l σ L then some (N,σf) else none
    |none=>none)
   |none=>none)
  |none=>none
 else none
theorem q4c(S i:Nat):bit S i=S.testBit i:=by
 have h:kW 1 (kV S i)=(S >>> i) % 2:=by
  rw[show kW 1 (kV S i)=1 &&& (S >>> i) from rfl,Nat.and_comm,Nat.and_one_is_mod]
 unfold bit;rw[h,Nat.testBit_eq_decide_div_mod_eq,Nat.shiftRight_eq_div_pow];by_cases hh:S / 2^i % 2=1
 ·rw[hh];rfl
 ·rw[decide_eq_false hh];cases hb:uE (S / 2^i % 2) 1 with
  |true=>exact absurd (gnN hb) hh
  |false=>rfl
theorem q0r{m S:Nat}:inM m S=true↔∀j,m.testBit j=true→S.testBit j=true:=by
 unfold inM;rw[show kW m S=m &&& S from rfl];constructor
 ·intro h j hj;have:=congrArg (fun x=>Nat.testBit x j) (gnN h);simp only[vQ,hj,vT] at this;exact this
 ·intro h;have:m &&& S=m:=Nat.eq_of_testBit_eq fun j=>by
   rw[vQ];cases hj:m.testBit j with
   |false=>rfl
   |true=>rw[h j hj];rfl
  rw[this];exact uW m
theorem j3{S i j:Nat}:(plus S i).testBit j=(S.testBit j||decide (i=j)):=by
  unfold plus;rw[show Nat.lor S (uH 1 i)=S ||| (1 <<< i) from rfl,Nat.testBit_or,kI,Nat.testBit_two_pow]
theorem qkv{m i:Nat}(h:kJ m (uH 1 i)=true){j:Nat}(hj:m.testBit j=true):j<i:=by
 have h1:m<2^i:=by
  have:=Nat.le_of_ble_eq_true h;have:m<uH 1 i:=this;rw[show uH 1 i=1 <<< i from rfl,kI] at this;exact this
 rcases vC j i with hl|hg
 ·exact hl
 ·have:=Nat.testBit_lt_two_pow (Nat.lt_of_lt_of_le h1 (Nat.pow_le_pow_right (by decide) hg));rw[this] at hj;cases hj
theorem q9l{l:List Oper}{S j:Nat}:j∈yp (l.map qo) 0 S↔S.testBit j=false∧∃o,l[j]? =some o∧inM (qo o) S=true:=by
 rw[q1v];simp only[vJ,true_and,vB];refine and_congr_right fun _=>exists_congr fun o=>and_congr_right fun _=>?_;rw[q0r];constructor
 ·intro h k hk;unfold qo at hk;obtain⟨e,he,hb,rfl⟩:=(q2n k).1 hk;exact h e (by simpa using he) hb
 ·intro h e he hb;exact h _ ((q2n _).2 ⟨e,by simpa using he,hb,rfl⟩)
theorem qgw:∀{l:List Oper}{i j C:Nat},j∈q0z l (l.map qo) i C↔i≤j∧∃o,l[j - i]? =some o∧y4 o=false∧C.testBit j=false∧inM (qo o) C=true
 |[],i,j,C=>by simp[q0z]
 | o :: l, i, j, C => by
  have ih:=qgw (l:=l) (i:=i+1) (j:=j) (C:=C);have tail:(i+1≤j∧∃o,l[j - (i+1)]? =some o∧y4 o=false∧C.testBit j=false∧inM (qo o) C=true)→i≤j∧∃o',(o::l)[j - i]? =some o'∧y4 o'=false∧C.testBit j=false∧inM (qo o') C=true:=by
   rintro⟨h1,o',h2,h3⟩;refine⟨by omega,o',?_,h3⟩;rw[show j - i=(j - (i+1))+1 by omega,uO];exact h2
  have back:(i≤j∧∃o',(o::l)[j - i]? =some o'∧y4 o'=false∧C.testBit j=false∧inM (qo o') C=true)→(j=i∧y4 o=false∧C.testBit j=false∧inM (qo o) C=true)∨(i+1≤j∧∃o,l[j - (i+1)]? =some o∧y4 o=false∧C.testBit j=false∧inM (qo o) C=true):=by
   rintro⟨h1,o',h2,h3⟩;rcases Nat.eq_or_lt_of_le h1 with he|hl
   ·subst he;simp at h2;subst h2;exact .inl ⟨rfl,h3⟩
   ·rw[show j - i=(j - (i+1))+1 by omega,uO] at h2;exact .inr ⟨by omega,o',h2,h3⟩
  simp only[kY,q0z];split
  ·rename_i hc;simp only[gnB,uJ,q4c] at hc;rw[uL,ih];constructor
   ·rintro(rfl|h)
    ·exact⟨uD _,o,by simp,hc⟩
    ·exact tail h
   ·intro h;rcases back h with h|h
    ·exact .inl h.1
    ·exact .inr h
  ·rename_i hc;rw[ih];constructor
   ·exact tail
   ·intro h;rcases back h with h|h
    ·exfalso;apply hc;obtain⟨rfl,h1,h2,h3⟩:=h;simp only[gnB,uJ,q4c];exact⟨h1,h2,h3⟩
    ·exact h
theorem qdd{α:Type}{q:Nat→Bool}{l:List (Nat×α)}{k:Nat}{e:α}(h:lkA (l.filter fun y=>q y.1) k=some e):lkA l k=some e∧q k=true:=by
 have hq:q k=true:=(kP.1 (y3 h)).2;refine⟨?_,hq⟩
 induction l with
 |nil=>cases h
 | cons a l ih =>
  obtain⟨j,x⟩:=a;by_cases hjk:j=k
  ·subst hjk;rw[uP,if_pos hq,qa] at h;rw[qa];exact h
  ·rw[qb hjk];rw[uP] at h;split at h
   ·rw[qb hjk] at h;exact ih h
   ·exact ih h
theorem qcm{α:Type}{q:Nat→Bool}{l:List (Nat×α)}{k:Nat}{e:α}(h:lkA l k=some e)(hq:q k=true):lkA (l.filter fun y=>q y.1) k=some e:=by
 induction l with
 |nil=>cases h
 | cons a l ih =>
  obtain⟨j,x⟩:=a;by_cases hjk:j=k
  ·subst hjk;rw[uP,if_pos hq,qa];rw[qa] at h;exact h
  ·rw[qb hjk] at h;rw[uP];split
   ·rw[qb hjk];exact ih h
   ·exact ih h
structure FormR(ops:List Oper):Prop where
 back:∀(i:Nat)(o:Oper),ops[i]? =some o→∀j,(qo o).testBit j=true→j<i
 dst:∀(i:Nat)(o:Oper),ops[i]? =some o→y4 o=true→∃t,o.dst=some t
 read:∀(i:Nat)(o:Oper)(t:Tmp),ops[i]? =some o→y4 o=true→o.dst=some t→∀(i':Nat)(o':Oper),ops[i']? =some o'→t∈q5k (dsts ops) o'→(qo o').testBit i=true
 once:∀(i:Nat)(o:Oper)(t:Tmp),ops[i]? =some o→y4 o=true→o.dst=some t→∀(i':Nat)(o':Oper),ops[i']? =some o'→i'≠i→o'.dst≠some t
theorem qcc{ops:List Oper}{i:Nat}{o:Oper}(h:ops[i]? =some o):(o,i)∈ops.zipIdx:=by
 obtain⟨hl,rfl⟩:=gnH.1 h;exact uS.2 ⟨i,by simpa using hl,by simp⟩
theorem qu1{ops:List Oper}(h:qkh (dsts ops) ops (ops.map qo) 0 ops (ops.map qo)=true):FormR ops:=by
  have key:∀(l:List Oper)(i:Nat),qkh (dsts ops) ops (ops.map qo) i l (l.map qo)=true→∀j o,l[j]? =some o→
      kJ (qo o) (uH 1 (i+j))=true∧(y4 o=true→∃t,o.dst=some t∧ops.zipIdx.all (fun e=>(!qr (q5k (dsts ops) e.1) t||(match(ops.map qo)[e.2]? with
          |some m'=>bit m' (i+j)
          | none => false)) && (uE e.2 (i + j) || (match e.1.dst with
            |some t'=> !Nat.beq t' t
            |none=>true)))=true):=by
    intro l
    induction l with
    |nil=>intro i _ j o h;simp at h
    | cons x l ih =>
      intro i h j o hj;simp only[kY,qkh,gnB] at h;obtain⟨h1,h2,h3⟩:=h;cases j with
      | zero =>
        simp at hj;subst hj;refine⟨h1,fun hs=>?_⟩;rw[hs] at h2;simp only[Bool.not_true,kE] at h2;split at h2
        · rename_i t ht;exact⟨t,ht,h2⟩
        · cases h2
      | succ j =>
        have:=ih (i+1) h3 j o (by simpa using hj);rw[show i+1+j=i+(j+1) by omega] at this;exact this
  have k0:=fun(i:Nat)(o:Oper)(ho:ops[i]? =some o)=>key ops 0 h i o ho;refine⟨fun i o ho j hj=>?_,fun i o ho hs=>?_,fun i o t ho hs ht i' o' ho' hl=>?_,fun i o t ho hs ht i' o' ho' hne=>?_⟩
  · have:=qkv (k0 i o ho).1 hj;omega
  · obtain⟨t,h1,-⟩:=(k0 i o ho).2 hs;exact⟨t,h1⟩
  · obtain⟨t',h1,h2⟩:=(k0 i o ho).2 hs;obtain rfl:=gnI (ht.symm.trans h1);have:=uB.1 h2 _ (qcc ho');simp only[gnB,uX,uJ,vW,uR,ho',kL] at this;rcases this.1 with h3|h3
    · rw[qz.2 hl] at h3;cases h3
    · rw[q4c] at h3;exact h3
  · obtain⟨t',h1,h2⟩:=(k0 i o ho).2 hs;obtain rfl:=gnI (ht.symm.trans h1);have:=uB.1 h2 _ (qcc ho');simp only[gnB,uX,vW] at this;rcases this.2 with h3|h3
    · exact absurd (gnN h3) hne
    · intro hd;rw[hd] at h3;simp only[uJ] at h3;rw[uW] at h3;cases h3
def q9j(ops:List Oper)(C S:Nat)(t:Tmp):Prop:=∃j o,ops[j]? =some o∧o.dst=some t∧y4 o=true∧C.testBit j=true∧S.testBit j=false
structure SFx(c:Cx)(Y:Tmp→Prop)(σ:St)(p:qe)(w:World)(a:Act):Prop where
 t:∀t x,¬Y t→lkA σ.t t=some x→∃v,a.tmps[t]? =some v∧x.pd c p w v
 m:∀k e,lkA σ.m k=some e→ju c p w k e
theorem qsb{o:Oper}{t:Tmp}:t∈tmpsOf o↔Operand.tmp t∈o.op.operands:=by
 unfold tmpsOf;rw[List.mem_filterMap];constructor
 ·rintro⟨x,hx,h⟩;cases x<;>simp at h;subst h;simpa using hx
 ·intro h;exact⟨.tmp t,by simpa using h,rfl⟩
theorem q6z{ds:List (Option Tmp)}{o:Oper}{t:Tmp}(h:t∈tmpsOf o):t∈q5k ds o:=by
 unfold q5k;split
 ·split
  ·exact uI _ h
  ·exact h
 ·exact h
theorem SFx.only{Y:Tmp→Prop}{o:Oper}(h:SFx c Y σ p w a)(hY:∀t∈tmpsOf o,¬Y t):SF c (only (tmpsOf o) σ) p w a:=
 ⟨fun t x hx=>h.t t x (hY t (qz.1 (qdd hx).2)) (qdd hx).1,h.m⟩
theorem qlu{o:Oper}(h:y4 o=true):o.guard=none:=by
 unfold y4 at h;cases hg:o.guard with
 |none=>rfl
 |some g=>rw[hg] at h;cases h
theorem qau{Y:Tmp→Prop}{ns:List X}{x:AV}(h:SFx c Y σ p w a)(hY:∀t∈tmpsOf o,¬Y t)(hs:qmf uA σ o=some (ns,x))(hn:∀n∈ns,n.says c.v):q1b o a c p w x:=qeg (h.only hY) rfl hs hn
theorem SFx.give{ops:List Oper}{C S j:Nat}{t:Tmp}(hF:FormR ops)(ho:ops[j]? =some o)(hs:y4 o=true)(hd:o.dst=some t)(hC:C.testBit j=true)(hz:t<a.tmps.size){x:AV}{v:Value}(hx:x.pd c p w v)
    (hm:∀x',lkA σ.t t=some x'→AV.beq x' x=true∨qlp x'=true)(h:SFx c (q9j ops C S) σ p w a):SFx c (q9j ops C (plus S j)) σ p w (a.put (some t) v):=by
  refine⟨fun t' x' hY hl=>?_,h.m⟩;by_cases htt:t'=t
  · subst htt;refine⟨v,by simp[Act.put,hz],?_⟩;rcases hm x' hl with h1|h1
    · rw[AV.beq_ok _ _ h1];exact hx
    · cases x'<;>first|(cases h1;done)|exact trivial
  · obtain⟨u,h1,h2⟩:=h.t t' x' (fun⟨j',o',e1,e2,e3,e4,e5⟩=>hY ⟨j',o',e1,e2,e3,e4,by
      rw[j3,e5,kE];refine decide_eq_false fun e=>?_;subst e;obtain rfl:=gnI (ho.symm.trans e1);exact htt (gnI (e2.symm.trans hd))⟩) hl
    refine⟨u,?_,h2⟩;simp only[Act.put];rw[uM (Ne.symm htt)];exact h1
def Seen(ops:List Oper)(C j:Nat):Prop:=∃f o,ops[f]? =some o∧y4 o=false∧C.testBit f=true∧(qo o).testBit j=true
theorem qw4{ops:List Oper}{C j:Nat}(h:qwn ops (ops.map qo) C j=true):Seen ops C j:=by
 obtain⟨⟨o,f⟩,hm,hf⟩:=uU.1 h;obtain⟨k,hk,e⟩:=uS.1 hm;simp at e hk;obtain⟨rfl,rfl⟩:=e;have ho:ops[k]? =some ops[k]:=gnK hk;simp only[gnB,uJ,q4c,uR,ho,kL] at hf;exact⟨k,_,ho,hf.1,hf.2.1,hf.2.2⟩
theorem qi9{ops:List Oper}{N:List X}{C:Nat}{τ:St}(h:ndB uA N ops (ops.map qo) C τ=true){j:Nat}(ho:ops[j]? =some o)(hs:y4 o=true):
  (C.testBit j=true→(∃ns x t,qmf uA τ o=some (ns,x)∧o.dst=some t∧(∀n∈ns,n∈N)∧∀x',lkA τ.t t=some x'→AV.beq x' x=true∨qlp x'=true)∨Seen ops C j)∧
  (C.testBit j=false→inM (qo o) C=false):=by
 have h1:=uB.1 h _ (kP.2 ⟨qcc ho,hs⟩);simp only[q4c,uR,ho,kL] at h1;refine⟨fun hC=>?_,fun hC=>?_⟩
 ·rw[if_pos hC] at h1;rcases uN.1 h1 with h1|h1
  ·refine .inl ?_;split at h1
   ·rename_i ns x t e1 e2;simp only[gnB] at h1;refine⟨ns,x,t,e1,e2,fun n hn=>qhz (uB.1 h1.1 n hn),fun x' hx'=>?_⟩;rw[hx'] at h1;simp only[uX] at h1;exact h1.2
   ·cases h1
  ·exact .inr (qw4 h1)
 ·rw[if_neg (by rw[hC];decide)] at h1;simpa using h1
theorem q5a{ops:List Oper}(hF:FormR ops){C S i:Nat}(ho:ops[i]? =some o)(hm:inM (qo o) S=true):∀t∈q5k (dsts ops) o,¬q9j ops C S t:=fun t ht⟨j,o',e1,e2,e3,e4,e5⟩=>by
 have:=q0r.1 hm j (hF.read j o' t e1 e3 e2 i o ho ht);rw[e5] at this;cases this
theorem virt{ops:List Oper}(hF:FormR ops){N:List X}{C S lo:Nat}{τ:St}(hN:∀n∈N,n.says c.v)(hall:ops.all (q4q lo z)=true)(h:ndB uA N ops (ops.map qo) C τ=true)(hsn:∀j,C.testBit j=true→S.testBit j=false→¬Seen ops C j)(hz:a.tmps.size=z)(hx:SFx c (q9j ops C S) τ p w a):
  ∃a',a'.defers=a.defers∧a'.tmps.size=z∧(∀t,¬q9j ops C S t→a'.tmps[t]? =a.tmps[t]?)∧SF c τ p w a':=by
 have key:∀m,m≤ops.length→∃a' S',a'.defers=a.defers∧a'.tmps.size=z∧(∀t,¬q9j ops C S t→a'.tmps[t]? =a.tmps[t]?)∧(∀j,S.testBit j=true→S'.testBit j=true)∧
   (∀j o,j<m→ops[j]? =some o→y4 o=true→C.testBit j=true→S'.testBit j=true)∧SFx c (q9j ops C S') τ p w a':=by
  intro m
  induction m with
  |zero=>exact fun _=>⟨a,S,rfl,hz,fun _ _=>rfl,fun _ h=>h,fun j o hj=>by omega,hx⟩
  | succ m ih =>
   intro hm;obtain⟨a1,S1,g1,g2,g3,g4,g5,g6⟩:=ih (by omega);have ho:ops[m]? =some ops[m]:=gnK (by omega);by_cases hcond:y4 ops[m]=true∧C.testBit m=true∧S1.testBit m=false
   ·obtain⟨hs,hC,hSm⟩:=hcond;obtain⟨ns,x,t,e1,e2,e3,e4⟩:=((qi9 h ho hs).1 hC).resolve_right (hsn m hC (by
     cases hSb:S.testBit m with
     |false=>rfl
     |true=>rw[g4 m hSb] at hSm;cases hSm))
    have hgive:=qau (o:=ops[m]) (Y:=q9j ops C S1) g6 (fun t ht⟨j,o',f1,f2,f3,f4,f5⟩=>by
     have hj:=hF.back m _ ho j (hF.read j o' t f1 f3 f2 m _ ho (q6z ht));rw[g5 j o' hj f1 f3 f4] at f5;cases f5) e1 (fun n hn=>hN n (e3 n hn))
    obtain⟨v,-,hv⟩:=hgive;have htz:t<a1.tmps.size:=by
     have:=uB.1 hall _ (vG ho);unfold q4q at this;rw[e2] at this;simp only[gnB,kH] at this;rw[g2];exact this.1
    refine⟨a1.put (some t) v,plus S1 m,g1,by simp[Act.put,g2],fun t' ht'=>?_,fun j hj=>by rw[j3,g4 j hj];rfl,fun j o' hj ho' hs' hC'=>?_,g6.give hF ho hs e2 hC htz hv e4⟩
    ·have hne:t'≠t:=by
      rintro rfl;refine ht' ⟨m,_,ho,e2,hs,hC,?_⟩;cases hSb:S.testBit m with
      |false=>rfl
      |true=>rw[g4 m hSb] at hSm;cases hSm
     rw[←g3 t' ht'];simp only[Act.put];rw[uM (Ne.symm hne)]
    ·rw[j3];rcases vC j m with hl|hg
     ·rw[g5 j o' hl ho' hs' hC'];rfl
     ·obtain rfl:j=m:=by omega
      simp
   ·refine⟨a1,S1,g1,g2,g3,g4,fun j o' hj ho' hs' hC'=>?_,g6⟩;rcases vC j m with hl|hg
    ·exact g5 j o' hl ho' hs' hC'
    ·obtain rfl:j=m:=by omega
     obtain rfl:=gnI (ho.symm.trans ho');cases hSb:S1.testBit j with
     |true=>rfl
     |false=>exact absurd ⟨hs',hC',hSb⟩ hcond
 obtain⟨a',S',g1,g2,g3,g4,g5,g6⟩:=key ops.length (uD _);refine⟨a',g1,g2,g3,fun t x hl=>g6.t t x (fun⟨j,o,f1,f2,f3,f4,f5⟩=>?_) hl,g6.m⟩;rw[g5 j o (gnH.1 f1).1 f1 f3 f4] at f5;cases f5
theorem qpg{a b:Act}{K:Act→World→Prop}{Q:Exit→Act→World→Prop}{r:Result Next}(hb:b.defers=a.defers)(h:o.upon uA b K (fun e x w=>∀y,y.defers=a.defers→Q e y w) r)(hnd:∀x w',K x w'→x.defers=b.defers):
  o.upon uA a (fun x w'=>∃v,x=a.put o.dst v∧K (b.put o.dst v) w') Q r:=by
 cases r with
 | ok n w' =>
  cases n<;>simp only[Oper.upon] at h⊢
  case value v=>exact⟨v,rfl,h⟩
  case skip=>exact⟨_,rfl,h⟩
  case defer d'=>
   have h1:=hnd _ _ h;have h2:d'::b.defers=b.defers:=by
    cases hdst:o.dst with
    |none=>rw[hdst] at h1;exact h1
    |some k=>rw[hdst] at h1;exact h1
   have:=congrArg kN h2;simp at this
  case enter f args=>
   exact Calls.mono h fun e w'' he=>by
    cases e with
    |returned v=>exact⟨v,rfl,he⟩
    |panicked ch=>exact he a rfl
    |outgrown=>obtain⟨x,w1,hq⟩:=he;exact⟨a,w1,hq a rfl⟩
  case row row args=>exact Rows.mono h fun v w'' he=>⟨v,rfl,he⟩
  all_goals exact h
 |halt x w'=>cases x<;>simp only[Oper.upon] at h⊢<;>first|exact h a rfl|exact h
theorem qld{a:Act}{K K':Act→World→Prop}{Q:Exit→Act→World→Prop}{r:Result Next}(h:∀a w,K a w→K' a w)(hh:o.upon uA a K Q r):o.upon uA a K' Q r:=by
 cases r with
 | ok n w' =>
  cases n<;>simp only[Oper.upon] at hh⊢<;>
   first
    |exact h _ _ hh
    |exact Calls.mono hh (fun e w'' he=>by cases e<;>first|exact h _ _ he|exact he)
    |exact Rows.mono hh (fun _ _ he=>h _ _ he)
 |halt x w'=>cases x<;>simp only[Oper.upon] at hh⊢<;>exact hh
theorem qoj{a b:Act}{x:Operand}(h:∀t,x=.tmp t→b.tmps[t]? =a.tmps[t]?):b.eval x=a.eval x:=by
 cases x with
 |tmp t=>
  show b.tmps.getD t undef=a.tmps.getD t undef
  rw[kQ,kQ,h t rfl]
 |const v=>rfl
 |global g=>rfl
 |func f=>rfl
theorem qgq{ops:List Oper}{C i C':Nat}{l:List Nat}(h:q5r ops C i C'=some l):∀j o,ops[j]? =some o→C'.testBit j=true→C.testBit j=false→j≠i→y4 o=true∧∃t,o.dst=some t∧t∈l:=by
 have key:∀(m:List (Oper×Nat))(l:List Nat),m.foldr (fun e acc=>match acc with
   |none=>none
   | some l => if bit C' e.2 && (!bit C e.2 && !Nat.beq e.2 i) then (if y4 e.1 then (match e.1.dst with
     |some t=>some (t::l)
     |none=>none) else none) else some l) (some [])=some l→∀e∈m,C'.testBit e.2=true→C.testBit e.2=false→e.2≠i→y4 e.1=true∧∃t,e.1.dst=some t∧t∈l:=by
  intro m
  induction m with
  |nil=>intro l _ e he;cases he
  | cons x m ih =>
   intro l hl e he h1 h2 h3;rw[vO] at hl;split at hl
   ·cases hl
   ·rename_i l' hl';split at hl
    ·rename_i hc;split at hl
     ·rename_i hs;split at hl
      ·rename_i t ht;injection hl with hl;subst hl;rcases uL.1 he with rfl|he
       ·exact⟨hs,t,ht,by simp⟩
       ·obtain⟨g1,t',g2,g3⟩:=ih l' hl' e he h1 h2 h3;exact⟨g1,t',g2,uI _ g3⟩
      ·cases hl
     ·cases hl
    ·rename_i hc;injection hl with hl;subst hl;rcases uL.1 he with rfl|he
     ·exfalso;apply hc;simp only[q4c,h1,h2,Bool.not_false,vT,uJ];cases hb:uE e.2 i with
      |false=>rfl
      |true=>exact absurd (gnN hb) h3
     ·exact ih l' hl' e he h1 h2 h3
 intro j o ho;unfold q5r at h;split at h
 ·rename_i he;have he:=gnN he;subst he;intro h1 h2 h3;rw[j3,h2] at h1;simp only[kE,gnD] at h1;exact absurd h1.symm h3
 ·exact key _ _ h (o,j) (qcc ho)
theorem qet{ops:List Oper}{C i C':Nat}{l:List Nat}(h:q5r ops C i C'=some l):∀t∈l,∃j o,ops[j]? =some o∧o.dst=some t∧y4 o=true∧C'.testBit j=true∧C.testBit j=false∧j≠i:=by
 have key:∀(m:List (Oper×Nat))(l:List Nat),m.foldr (fun e acc=>match acc with
   |none=>none
   | some l => if bit C' e.2 && (!bit C e.2 && !Nat.beq e.2 i) then (if y4 e.1 then (match e.1.dst with
     |some t=>some (t::l)
     |none=>none) else none) else some l) (some [])=some l→∀t∈l,∃e∈m,e.1.dst=some t∧y4 e.1=true∧C'.testBit e.2=true∧C.testBit e.2=false∧e.2≠i:=by
  intro m
  induction m with
  |nil=>
   intro l hl t ht;simp only[List.foldr_nil,uC] at hl;subst hl;cases ht
  | cons x m ih =>
   intro l hl t ht;rw[vO] at hl;split at hl
   ·cases hl
   ·rename_i l' hl';have up:t∈l'→∃e∈x::m,e.1.dst=some t∧y4 e.1=true∧C'.testBit e.2=true∧C.testBit e.2=false∧e.2≠i:=fun h=>by
     obtain⟨e,he,r⟩:=ih l' hl' t h;exact⟨e,uI _ he,r⟩
    split at hl
    ·rename_i hc;split at hl
     ·rename_i hs;split at hl
      ·rename_i t' ht';injection hl with hl;subst hl;rcases uL.1 ht with rfl|ht
       ·simp only[q4c,gnB,uJ] at hc;refine⟨x,uF,ht',hs,hc.1,hc.2.1,fun e=>?_⟩;rw[e,uW] at hc;exact absurd hc.2.2 (by decide)
       ·exact up ht
      ·cases hl
     ·cases hl
    ·injection hl with hl;subst hl;exact up ht
 intro t ht;unfold q5r at h;split at h
 ·injection h with h;subst h;cases ht
 rename_i hne;obtain⟨⟨o,j⟩,he,r⟩:=key _ _ h t ht;refine⟨j,o,?_,r⟩;obtain⟨k,hk,e⟩:=uS.1 he;simp at e hk;obtain⟨rfl,rfl⟩:=e;exact gnK hk
def undone(S:Nat)(l:List Nat):Nat:=(l.filter fun j=> !S.testBit j).length
theorem q0n{S x:Nat}{l:List Nat}:undone S (x::l)=(if S.testBit x then 0 else 1)+undone S l:=by
 unfold undone;rw[uP];cases S.testBit x<;>simp<;>omega
theorem qfu{S i:Nat}:∀l:List Nat,undone (plus S i) l≤undone S l
 |[]=>uD _
 | x :: l => by
  have ih:=qfu (S:=S) (i:=i) l;rw[q0n,q0n,j3];cases S.testBit x
  ·by_cases hx:i=x
   ·rw[decide_eq_true hx];simp;omega
   ·rw[decide_eq_false hx];simp;omega
  ·simp;omega
theorem q9m{S i:Nat}(hi:S.testBit i=false):∀l:List Nat,i∈l→undone (plus S i) l<undone S l
 |[],h=>by cases h
 | x :: l, h => by
  have hle:=qfu (S:=S) (i:=i) l;by_cases hx:i=x
  ·subst hx;rw[q0n,q0n,j3,hi];simp;omega
  ·have ih:=q9m hi l (by rcases uL.1 h with e|e;exact absurd e hx;exact e);rw[q0n,q0n,j3,decide_eq_false hx];simp;omega
theorem z0l(ro:Option Nat)(nn:Nat)(htb:ym tbl)(hS:HS c tbl){ops:List Oper}(hF:FormR ops){N:List X}{l:St}(hN:∀n∈N,n.says c.v)(hall:ops.all (q4q c.lo z)=true){Q:Exit→Act→World→Prop}(hQ:q7j tbl w0 S0 d Q)
  (hk:∀a' w',zl c w0 S0 d z l a' w'→Q .normal a' w'):∀(n:Nat)(L:List (List Nd)),okN uA tbl (dsts ops) ops (ops.map qo) N l L=true→
  ∀lv,L.head? =some lv→∀e∈lv,∀(S:Nat)(listed:Array Bool)(p:qe)(w:World)(a:Act),Rep ops.length S listed→undone S (uV ops.length)≤n→(∀j,S.testBit j=true→e.1.testBit j=true)→
   (∀j o,ops[j]? =some o→e.1.testBit j=true→S.testBit j=false→y4 o=true)→(∀j o,ops[j]? =some o→S.testBit j=true→inM (qo o) S=true)→Bs c.A c.F w0 S0 p w→a.defers=d→a.tmps.size=z→SFx c (q9j ops e.1 S) e.2 p w a→wpAnyIn (FR ro) nn uA .any ops.toArray Q n listed a w:=by
 -- all is done
 have last:∀(L:List (List Nd)),okN uA tbl (dsts ops) ops (ops.map qo) N l L=true→∀lv,L.head? =some lv→∀e∈lv,∀(S:Nat)(p:qe)(w:World)(a:Act),(∀j,j<ops.length→S.testBit j=true)→(∀j,S.testBit j=true→e.1.testBit j=true)→
   Bs c.A c.F w0 S0 p w→a.defers=d→a.tmps.size=z→SFx c (q9j ops e.1 S) e.2 p w a→Q .normal a w:=by
  intro L hL lv hlv e he S p w a hS' hSC hb hd hz hx;have hnl:∀t,¬q9j ops e.1 S t:=fun t⟨j,o,f1,_,_,_,f5⟩=>by
   rw[hS' j (gnH.1 f1).1] at f5;cases f5
  have hsf:SF c e.2 p w a:=⟨fun t x h=>hx.t t x (hnl t) h,hx.m⟩
  match L,hL,hlv with
  |[lv'],hL,hlv=>
   simp only[uQ,uC] at hlv;subst hlv;have h1:=uB.1 (show(lv'.all fun e=>ndB uA N ops (ops.map qo) e.1 e.2&&(uE e.1 (uH 1 ops.length - 1)&&covers e.2 l))=true from hL) e he;simp only[gnB] at h1;exact hk a w ⟨p,hb,q1l h1.2.2 hsf,hd,hz⟩
  | lv' :: lv2 :: r, hL, hlv =>
   simp only[uQ,uC] at hlv;subst hlv;unfold okN at hL;simp only[gnB] at hL;have h1:=uB.1 hL.1 e he;simp only[gnB,uJ] at h1;exfalso;cases hs:q0z ops (ops.map qo) 0 e.1 with
   |nil=>rw[hs] at h1;simp at h1
   |cons i is=>
    obtain⟨-,o,f1,f2,f3,f4⟩:=qgw.1 (show i∈q0z ops (ops.map qo) 0 e.1 by rw[hs];exact uF);simp only[vB] at f1;rw[hSC i (hS' i (gnH.1 f1).1)] at f3;cases f3
 intro n
 induction n with
 | zero =>
  intro L hL lv hlv e he S listed p w a hrep hn hSC hsi hcl hb hd hz hx;have hfull:∀j,j<ops.length→S.testBit j=true:=fun j hj=>by
   cases hb:S.testBit j with
   |true=>rfl
   |false=>
    have:=q9m hb (uV ops.length) (vS.2 hj);omega
  refine⟨List.eq_nil_iff_forall_not_mem.2 fun j hj=>?_,last L hL lv hlv e he S p w a hfull hSC hb hd hz hx⟩;obtain⟨f1,o,f2,-⟩:=q9l.1 ((hrep.ready j).1 hj);rw[hfull j (gnH.1 f2).1] at f1;cases f1
 | succ n ih =>
  intro L hL lv hlv e he S listed p w a hrep hn hSC hsi hcl hb hd hz hx;have hnode:ndB uA N ops (ops.map qo) e.1 e.2=true:=by
   match L,hL,hlv with
   |[lv'],hL,hlv=>
    simp only[uQ,uC] at hlv;subst hlv;have h1:=uB.1 (show(lv'.all fun e=>ndB uA N ops (ops.map qo) e.1 e.2&&(uE e.1 (uH 1 ops.length - 1)&&covers e.2 l))=true from hL) e he;simp only[gnB] at h1;exact h1.1
   |lv'::lv2::r,hL,hlv=>
    simp only[uQ,uC] at hlv;subst hlv;unfold okN at hL;simp only[gnB] at hL;have h1:=uB.1 hL.1 e he;simp only[gnB] at h1;exact h1.1
  have hsn:∀j,e.1.testBit j=true→S.testBit j=false→¬Seen ops e.1 j:=fun j hCj hSj⟨f,o,f1,f2,f3,f4⟩=>by
   cases hSf:S.testBit f with
   |false=>
    have:=hsi f o f1 f3 hSf;rw[f2] at this;cases this
   |true=>
    have:=q0r.1 (hcl f o f1 hSf) j f4;rw[hSj] at this;cases this
  refine⟨fun hr=>?_,fun i hi=>?_⟩
  ·refine last L hL lv hlv e he S p w a ?_ hSC hb hd hz hx;intro j
   induction j using vR with
   | _ j ihj =>
    intro hj;cases hbj:S.testBit j with
    |true=>rfl
    |false=>
     exfalso;have ho:ops[j]? =some ops[j]:=gnK hj;have:j∈Region.ready .any ops.toArray listed:=(hrep.ready j).2 (q9l.2 ⟨hbj,_,ho,q0r.2 fun k hk'=>ihj k (hF.back j _ ho k hk') (Nat.lt_trans (hF.back j _ ho k hk') hj)⟩);rw[hr] at this;cases this
  ·obtain⟨hSi,o,ho,hm⟩:=q9l.1 ((hrep.ready i).1 hi);have hin:i<ops.length:=(gnH.1 ho).1;have hcl2:∀j o,ops[j]? =some o→(plus S i).testBit j=true→inM (qo o) (plus S i)=true:=fun j o' ho' hj=>by
    refine q0r.2 fun k hk'=>?_;rw[j3] at hj⊢;rcases uN.1 hj with h|h
    ·rw[q0r.1 (hcl j o' ho' h) k hk'];rfl
    ·obtain rfl:=of_decide_eq_true h;obtain rfl:=gnI (ho.symm.trans ho');rw[q0r.1 hm k hk'];rfl
   have hund:undone (plus S i) (uV ops.length)≤n:=by
    have:=q9m hSi (uV ops.length) (vS.2 hin);omega
   have hdB:q4q c.lo z o=true:=uB.1 hall o (vG ho);have hkz:∀t,o.dst=some t→t<z:=fun t e=>by
    unfold q4q at hdB;rw[e] at hdB;simp only[gnB,kH] at hdB;exact hdB.1
   unfold wpOpIn;rw[uZ,ho];simp only;cases hC:e.1.testBit i with
   | true =>
    -- an operation that reads
    have hs:=hsi i o ho hC hSi;obtain⟨ns,x,t,e1,e2,e3,e4⟩:=((qi9 hnode ho hs).1 hC).resolve_right (hsn i hC hSi);obtain⟨v,hv1,hv2⟩:=qau hx (fun t ht=>q5a hF ho hm t (q6z ht)) e1 (fun n hn=>hN n (e3 n hn));have hg:=qlu hs;rw[if_pos (by unfold Region.wanted;simp only[hg])];have hnd:∀c',o.op≠.defer c':=fun c' hc=>by
     unfold y4 at hs;rw[hg,hc] at hs;simp at hs
    refine Oper.wp_round ro hnd ?_;unfold Oper.wp;rw[hv1]
    show wpAnyIn (FR ro) nn uA .any ops.toArray Q n (listed.setIfInBounds i true) (a.put o.dst v) w
    rw[e2];exact ih L hL lv hlv e he (plus S i) _ p w (a.put (some t) v) (hrep.plus hin) hund (fun j hj=>by
     rw[j3] at hj;rcases uN.1 hj with h|h
     ·exact hSC j h
     ·rw[←of_decide_eq_true h];exact hC) (fun j o' ho' h1 h2=>hsi j o' ho' h1 (by
     rw[j3] at h2;exact(vH.1 h2).1)) hcl2 hb hd (by simp[Act.put,hz]) (hx.give hF ho hs e2 hC (by rw[hz];exact hkz t e2) hv2 e4)
   | false =>
    have hmC:inM (qo o) e.1=true:=q0r.2 fun k hk'=>hSC k (q0r.1 hm k hk');have hs:y4 o=false:=by
     cases hs:y4 o with
     |false=>rfl
     |true=>
      have:=(qi9 hnode ho hs).2 hC;rw[hmC] at this;cases this
    have hsig:i∈q0z ops (ops.map qo) 0 e.1:=qgw.2 ⟨vJ _,o,by simpa using ho,hs,hC,hmC⟩
    match L,hL,hlv with
    |[lv'],hL,hlv=>
     exfalso;simp only[uQ,uC] at hlv;subst hlv;have h1:=uB.1 (show(lv'.all fun e=>ndB uA N ops (ops.map qo) e.1 e.2&&(uE e.1 (uH 1 ops.length - 1)&&covers e.2 l))=true from hL) e he;simp only[gnB] at h1;have hall1:=gnN h1.2.1;rw[hall1,show uH 1 ops.length=1 <<< ops.length from rfl,kI,Nat.testBit_two_pow_sub_one,decide_eq_true hin] at hC;cases hC
    | lv' :: lv2 :: r, hL, hlv =>
     simp only[uQ,uC] at hlv;subst hlv;unfold okN at hL;simp only[gnB] at hL;obtain⟨hL1,hL2⟩:=hL;have h1:=uB.1 hL1 e he;simp only[gnB] at h1;have h2:=uB.1 h1.2.2 i hsig;unfold qx0 at h2;rw[ho] at h2;simp only at h2;split at h2
     ·rename_i ns σ' hst;simp only[gnB] at h2;obtain⟨h3,h4⟩:=h2;obtain⟨e',he',h5⟩:=uU.1 h4;simp only[gnB] at h5;obtain⟨h5a,h5b⟩:=h5;split at h5b
      ·rename_i out hout;obtain⟨b,hb1,hb2,hb3,hb4⟩:=virt hF hN hall hnode hsn hz hx;have hops:∀t∈q5k (dsts ops) o,b.tmps[t]? =a.tmps[t]? :=fun t ht=>hb3 t (q5a hF ho hm t ht);have hw:Region.wanted o (yielded ops.toArray b.tmps)=Region.wanted o (yielded ops.toArray a.tmps):=by
        unfold Region.wanted;cases hg:o.guard with
        |none=>rfl
        | some gb =>
         obtain⟨g,bb⟩:=gb;simp only;cases ht:((dsts ops)[g]?).join with
         | none =>
          have:∀tm:Array Value,yielded ops.toArray tm g=none:=fun tm=>by
           unfold dsts at ht;rw[uR] at ht;unfold yielded;rw[uZ];cases hg2:ops[g]? with
           |none=>rfl
           |some og=>
            rw[hg2] at ht;simp at ht;simp[ht]
          rw[this,this]
         | some t =>
          have hsame:=hops t (by unfold q5k;rw[hg];simp only[ht];exact uF);have:∀(bb:Bool)(tm:Array Value),tm[t]? =a.tmps[t]?→(yielded ops.toArray tm g=some bb↔a.tmps[t]? =some (.bool bb)):=fun bb tm he=>by
           unfold dsts at ht;rw[uR] at ht;unfold yielded;rw[uZ];cases hg2:ops[g]? with
           |none=>rw[hg2] at ht;simp at ht
           |some og=>
            rw[hg2] at ht;simp at ht;simp only[Option.bind_some,ht,he];cases a.tmps[t]? with
            |none=>simp
            |some v=>cases v<;>simp
          have heq:yielded ops.toArray b.tmps g=yielded ops.toArray a.tmps g:=by
           cases h1:yielded ops.toArray b.tmps g with
           |some bb=>exact((this bb a.tmps rfl).2 ((this bb b.tmps hsame).1 h1)).symm
           |none=>
            cases h2:yielded ops.toArray a.tmps g with
            |none=>rfl
            |some bb=>rw[(this bb b.tmps hsame).2 ((this bb a.tmps rfl).1 h2)] at h1;cases h1
          rw[heq]
       have hsG:=qs6 (ops:=ops.toArray) (ds:=dsts ops) (Q:=fun ex x w=>∀y,y.defers=a.defers→Q ex y w) htb hS (by simp[dsts]) hb hb4 (hb1.trans hd) hb2 hdB hst (fun n hm=>hN n (qhz (uB.1 h3 n hm))) (fun e he T h1 h2 a1 w1 h4 h5 y hy=>hQ e he T h1 h2 y w1 (hy.trans hd) h5) (fun a' w' hp=>hp)
       -- what is known behind it
       have goal:∀(u:Value)(w1:World),zl c w0 S0 d z σ' (b.put o.dst u) w1→wpAnyIn (FR ro) nn uA .any ops.toArray Q n (listed.setIfInBounds i true) (a.put o.dst u) w1:=by
        rintro u w1⟨p',hb',hf',hd',hz'⟩;have hcv:=q1l h5b hf';refine ih (lv2::r) hL2 lv2 rfl e' he' (plus S i) _ p' w1 (a.put o.dst u) (hrep.plus hin) hund (fun j hj=>?_) (fun j o' ho' h1' h2'=>?_) hcl2 hb' (by cases o.dst<;>exact hd) (by cases o.dst<;>simp only[Act.put,kX]<;>exact hz) ⟨fun t x hY hl=>?_,hcv.m⟩
        ·refine q0r.1 h5a j ?_;rw[j3] at hj⊢;rcases uN.1 hj with h|h
         ·rw[hSC j h];rfl
         ·rw[h,Bool.or_true]
        ·rw[j3] at h2';obtain⟨g1,g2⟩:=vH.1 h2';cases hCj:e.1.testBit j with
         |true=>exact hsi j o' ho' hCj g1
         |false=>exact(qgq hout j o' ho' h1' hCj (fun e=>by subst e;simp at g2)).1
        ·have hto:t∉out∨t∈out:=(Classical.em _).symm;have hnot:∀j o',ops[j]? =some o'→o'.dst=some t→y4 o'=true→e'.1.testBit j=true→S.testBit j=true:=fun j o' f1 f2 f3 f4=>by
          cases hSj:S.testBit j with
          |true=>rfl
          |false=>
           exfalso;refine hY ⟨j,o',f1,f2,f3,f4,?_⟩;rw[j3,hSj,kE];refine decide_eq_false fun e=>?_;subst e;obtain rfl:=gnI (ho.symm.trans f1);rw[hs] at f3;cases f3
         have hno:t∉out:=fun hmem=>by
          obtain⟨j,o',f1,f2,f3,f4,f5,f6⟩:=qet hout t hmem;have:=hSC j (hnot j o' f1 f2 f3 f4);rw[f5] at this;cases this
         obtain⟨v,g1,g2⟩:=hcv.t t x (qcm (q:=fun y=> !qr out y) hl (by
          cases hq:qr out t with
          |false=>rfl
          |true=>exact absurd (qz.1 hq) hno))
         refine⟨v,?_,g2⟩;rw[←g1];have hlk:¬q9j ops e.1 S t∨o.dst=some t:=by
          rcases Classical.em (q9j ops e.1 S t) with h|h
          ·obtain⟨j,o',f1,f2,f3,f4,f5⟩:=h;have:=hnot j o' f1 f2 f3 (q0r.1 h5a j (by rw[j3,f4];rfl));rw[f5] at this;cases this
          ·exact .inl h
         cases hdd:o.dst with
         |none=>
          rcases hlk with h|h
          ·exact(hb3 t h).symm
          ·rw[hdd] at h;cases h
         | some k =>
          simp only[Act.put];by_cases hkt:k=t
          ·subst hkt;rw[kG,kG,hz,hb2]
          ·rw[uM hkt,uM hkt];rcases hlk with h|h
           ·exact(hb3 t h).symm
           ·rw[hdd] at h;exact absurd (gnI h) hkt
       rw[hw] at hsG;split
       ·rename_i hwt;rw[if_pos hwt] at hsG;obtain⟨⟨hnd,hns⟩,hwp⟩:=hsG;refine Oper.wp_round ro hnd ?_;have hev:execOp a.eval o=execOp b.eval o:=execOp_congr o hns fun x hx'=>(qoj fun t ht=>by subst ht;exact hops t (q6z (qsb.2 hx'))).symm;unfold Oper.wp at hwp⊢;rw[hev];refine qld ?_ (qpg (a:=a) (b:=b) hb1 hwp fun x w1 hp=>?_)
        ·rintro x w1⟨u,rfl,hp⟩;exact goal u w1 hp
        ·obtain⟨p',-,-,hd',-⟩:=hp;rw[hd',hb1,hd]
       ·rename_i hwt;rw[if_neg hwt] at hsG;exact⟨fun _ _=>trivial,goal _ _ hsG⟩
      ·cases h5b
     ·cases h2
theorem qrm{l:List Oper}{L:List (List Nd)}(h:qls l σ L=true):∃e r out,L=[e]::r∧q5r l 0 l.length e.1=some out∧covers σ (without out e.2)=true:=by
  match L with
  |[]=>cases h
  |[]::r=>cases h
  | [e] :: r =>
    have h':(match q5r l 0 l.length e.1 with
      |some out=>covers σ (without out e.2)
      |none=>false)=true:=h
    split at h'
    · rename_i out ho;exact⟨e,r,out,rfl,ho,h'⟩
    · cases h'
  |(e::f::t)::r=>cases h
def qy9(P:Program)(tbl:Tbl)(lo z:Nat)(σ:St)(l:List Oper)(d:Bool):Option (List X×St):=
 if(d&&l.all (q4q lo z))=true then(match qxm P tbl σ l with
  |some r=>some r
  |none=>if Nat.ble l.length 22 then seg P tbl lo z σ l d else none) else seg P tbl lo z σ l d
theorem qv1(ro:Option Nat)(nn:Nat)(htb:ym tbl)(hS:HS c tbl){id:Nat}{ops:Array Oper}{dr:Bool}{N:List X}(h:qy9 uA tbl c.lo z σ ops.toList dr=some (N,σ'))(hN:∀n∈N,n.says c.v)(hb:Bs c.A c.F w0 S0 p w)(hf:SF c σ p w a)(hd:a.defers=d)(hz:a.tmps.size=z){Q:Exit→Act→World→Prop}(hQ:q7j tbl w0 S0 d Q)
  (hk:∀a' w',zl c w0 S0 d z σ' a' w'→Q .normal a' w'):(Code.region id ops dr).wpIn (FR ro) nn uA Q a w:=by
 unfold qy9 at h;split at h
 ·rename_i hc;obtain⟨hdr,hall⟩:=kC.1 hc;subst hdr;split at h
  ·rename_i r hr;injection h with h;subst h;obtain⟨l⟩:=ops;have hr:qxm uA tbl σ l=some (N,σ'):=hr;have hall:l.all (q4q c.lo z)=true:=hall;unfold qxm at hr;split at hr
   ·rename_i hform;split at hr
    ·rename_i C σ1 N1 hcl;split at hr
     ·rename_i L N' hlv;split at hr
      ·rename_i σf hlast;by_cases hok:(okN uA tbl (dsts l) l (l.map qo) N' σf L&&qls l σ L)=true
       ·rw[if_pos hok] at hr;simp only[gnS] at hr;obtain⟨rfl,rfl⟩:=hr;obtain⟨hok1,hok2⟩:=kC.1 hok;obtain⟨e,r,out,rfl,hout,hok3⟩:=qrm hok2
        ··refine wpIn_region_any qg7 ?_
          have hF:=qu1 hform;have hcv:=q1l hok3 hf.drew;refine z0l ro nn htb hS hF hN hall hQ hk l.length _ hok1 [e] rfl e uF 0 (kO l.length false) p _ a ⟨by simp,fun j=>by simp[Array.getD]⟩ ?_ (fun j hj=>by simp at hj) (fun j o ho h1 _=>(qgq hout j o ho h1 (by simp) (fun e=>by have:=(gnH.1 ho).1;omega)).1) (fun j o _ hj=>by simp at hj) hb.drew hd hz ⟨fun t x hY hl=>?_,hcv.m⟩
          ·unfold undone;exact Nat.le_trans (List.length_filter_le _ _) (by simp)
          ·refine hcv.t t x (qcm (q:=fun y=> !qr out y) hl ?_);cases hq:qr out t with
           |false=>rfl
           |true=>
            exfalso;obtain⟨j,o,f1,f2,f3,f4,-,-⟩:=qet hout t (qz.1 hq);exact hY ⟨j,o,f1,f2,f3,f4,by simp⟩
       ·rw[if_neg hok] at hr;cases hr
      ·cases hr
     ·cases hr
    ·cases hr
   ·cases hr
  ·split at h
   ·exact qr8 ro nn htb hS h hN hb hf hd hz hQ hk
   ·cases h
 ·exact qr8 ro nn htb hS h hN hb hf hd hz hQ hk
end
end
section
inductive Tree where
 |bad(n:Nat)
 |need(ns:List X)(t:Tree)
 |br(x:X)(t e:Tree)
 |amb(x:X)(neg:Bool)(t e:Tree)
 |leaf(xs:List X)
 |back(id:Nat)(xs:List X)
 |loop(id n:Nat)(init:List X)(body:Tree)
def evl(S:Nat→List D→Option (List D))(l:List D):Ev:=⟨fun k=>l.getD k .u,S⟩
def q45(e:Ev):List X→Prop
 |[]=>True
 |x::l=>x.says e∧q45 e l
def q46(B:Nat→List D→Prop)(id:Nat)(I:List D→Prop):Nat→List D→Prop:=fun j=>if j=id then I else B j
def Tree.go(S:Nat→List D→Option (List D))(R:List D→Prop):Tree→List D→(Nat→List D→Prop)→Prop
 |.bad _,_,_=>False
 |.need ns t,l,B=>q45 (evl S l) ns∧t.go S R l B
 |.br x t e,l,B=>((x.ev (evl S l)).tt=true→t.go S R l B)∧((x.ev (evl S l)).tt=false→e.go S R l B)
 |.amb x neg t e,l,B=>((neg=false→(x.ev (evl S l)).rs=[])→t.go S R l B)∧((neg=true→(x.ev (evl S l)).rs=[])→e.go S R l B)
 |.leaf xs,l,B=>R (X.evs (evl S l) xs)
 |.back id xs,l,B=>B id (X.evs (evl S l) xs)
 | .loop id n init body, l, B => ∃ (I : List D → Prop) (μ : List D → Nat), I (X.evs (evl S l) init) ∧
   ∀st,st.length=init.length→I st→body.go S R (l.take n++st) (q46 B id fun st'=>I st'∧μ st'<μ st)
abbrev Item:=Nat×Ty×List (Nat×Nat)×List Nat
structure Head where
 ts:List (Nat×Ty×Bool)
 ms:List Nat
 kill:List Nat
 dep:List Nat
structure Ann where
 pub:List Nat
 heads:List (Nat×Head)
def prune(l:List Nat)(σ:St):St:=⟨σ.t.filter fun e=>qr l e.1,σ.m⟩
theorem qod{α:Type}{q:Nat→Bool}{l:List (Nat×α)}{k:Nat}{e:α}(h:lkA (l.filter fun y=>q y.1) k=some e):lkA l k=some e:=by
 induction l with
 |nil=>cases h
 | cons a l ih =>
  obtain⟨j,x⟩:=a;by_cases hjk:j=k
  ·subst hjk;rw[uP] at h;split at h
   ·rw[qa] at h⊢;exact h
   ·rename_i hq;exfalso;have:=kP.1 (y3 h);exact hq this.2
  ·rw[qb hjk];rw[uP] at h;split at h
   ·rw[qb hjk] at h;exact ih h
   ·exact ih h
theorem qr4{c:Cx}{l:List Nat}{σ:St}{p:qe}{w:World}{a:Act}(h:SF c σ p w a):SF c (prune l σ) p w a:=⟨fun t x hx=>h.t t x (qod (q:=qr l) hx),h.m⟩
def sel{α:Type}(q:Nat→α→Bool):List (Nat×α)→List (Nat×α)
  |[]=>[]
  |(k,e)::l=>if q k e then(k,e)::sel q l else(sel q l).filter fun y=>y.1 !=k
theorem qh7{α:Type}{q:Nat→α→Bool}{l:List (Nat×α)}{k:Nat}{e:α}(h:lkA (sel q l) k=some e):lkA l k=some e∧q k e=true:=by
 induction l with
 |nil=>cases h
 | cons a l ih =>
  obtain⟨j,x⟩:=a;unfold sel at h;by_cases hjk:j=k
  ·subst hjk;split at h
   ·rename_i hq;rw[qa] at h;injection h with h;subst h;exact⟨qa,hq⟩
   ·rw[qh] at h;cases h
  ·rw[qb hjk];split at h
   ·rw[qb hjk] at h;exact ih h
   ·rw[j5 hjk] at h;exact ih h
def qhw(a b:List (Nat×Nat)):Bool:=a.all fun e=>match lkA b e.1 with
 |some x=>uE x e.2
 |none=>false
def q8s(a b:List (Nat×Nat)):Bool:=jh a&&(jh b&&(qhw a b&&qhw b a))
def SNK:Nat:=4000000000
def snB(ty:Ty)(dep:List Nat):Bool:=(q36 ty||qb6 ty)&&qr dep SNK
def itT(σ:St):Item→Option X
  | (t, ty, own, dep) => match lkA σ.t t with
    |some (.v x ty' own' dep')=>if !snB ty dep&&(Ty.beq ty' ty&&(q8s own' own&&dep'.all (qr dep))) then some x else none
    |some (.sn q (.v x ty' own' dep'))=>if(!snB ty dep||uE q t)&&(Ty.beq ty' ty&&(q8s own' own&&dep'.all (qr dep))) then some x else none
    | some .nilS => (match ty with
      |.row E=>if(qc E).isSome&& !qr dep SNK then some (.lit (.r [])) else none
      |_=>none)
    |_=>none
def itM(σ:St):Item→Option X
  | (k, ty, own, dep) => match lkA σ.m k with
    |some e=>if Ty.beq e.t ty&&(q8s e.own own&&e.dep.all (qr dep)) then some e.x else none
    |none=>none
def its(f:Item→Option X):List Item→Option (List X)
 |[]=>some []
 |i::l=>match f i,its f l with
  |some x,some xs=>some (x::xs)
  |_,_=>none
def pairUp(own:List (Nat×Nat)):List (Nat×Nat)→List (Nat×Nat)
  |[]=>[]
  | (i, q) :: l => match lkA own i with
    |some x=>(x,q)::pairUp own l
    |none=>pairUp own l
def qzd(σ:St)(t:Nat):List (Nat×Nat):=match lkA σ.t t with
 |some (.v _ _ own _)=>own
 |some (.sn _ (.v _ _ own _))=>own
 |_=>[]
def z0v(σ:St)(k:Nat):List (Nat×Nat):=match lkA σ.m k with
 |some e=>e.own
 |none=>[]
def qqz(f:Nat→List (Nat×Nat)):List Item→List (Nat×Nat)
  |[]=>[]
  |(k,_,own,_)::l=>pairUp (f k) own++qqz f l
def qas(σ:St)(ts ms:List Item):List (Nat×Nat):=qqz (qzd σ) ts++qqz (z0v σ) ms
def conv(ts ms:List Item)(σ:St):Option (St×List X×List X):=if reB (qas σ ts ms) then match its (itT (σ.ren (qas σ ts ms))) ts,its (itM (σ.ren (qas σ ts ms))) ms with
  |some a,some b=>some (σ.ren (qas σ ts ms),a,b)
  |_,_=>none
 else none
def tgt(k:Nat)(ty:Ty)(own:List (Nat×Nat)):List (Nat×Nat):=(qj k ty).filter fun e=>(lkA own e.1).isSome
def z0b(σ:St):List (Nat×Ty×Bool)→List Item
  |[]=>[]
  | (t, ty, rd) :: l => (t, ty, (match lkA σ.t t with
    |some (.v _ _ own _)=>tgt t ty own
    |some (.sn _ (.v _ _ own _))=>tgt t ty own
    |some .nilS=>if rd then[] else qj t ty
    |_=>[]),[])::z0b σ l
def qyk(σ:St):List Nat→List Item
 |[]=>[]
 |k::l=>match lkA σ.m k with
  |some e=>(k,e.t,tgt k e.t e.own,[])::qyk σ l
  |none=>qyk σ l
def qh3(f:Nat→List Nat)(x:List Nat):List Item→List Item
  |[]=>[]
  |(k,ty,own,_)::l=>(k,ty,own,f k++x)::qh3 f x l
def qyc(σ:St)(t:Nat):List Nat:=match lkA σ.t t with
 |some (.v _ _ _ dep)=>dep
 |some (.sn _ (.v _ _ _ dep))=>SNK::dep
 |_=>[]
def qxd(σ:St)(k:Nat):List Nat:=match lkA σ.m k with
 |some e=>e.dep
 |none=>[]
def heads(h:Head)(σ:St):List Item×List Item:=
 let ts:=z0b σ h.ts
 let ms:=qyk σ h.ms
 let σ1:=σ.ren (qas σ ts ms)
 (qh3 (qyc σ1) h.dep ts,qh3 (qxd σ1) h.dep ms)
def keys(l:List Item):List Nat:=l.map (·.1)
def isAny:AV→Bool
 |.any=>true
 |_=>false
def q8f(ts ms:List Item)(kill:List Nat)(n:Nat)(σ:St):St:=
 ⟨sel (fun t a=> !isAny a&&(!qr (keys ts) t&&(!qr kill t&&a.upto n))) σ.t,sel (fun k e=> !qr (keys ms) k&&X.upto n e.x) σ.m⟩
def qrl:List Item→Nat→List (Nat×AV)→List (Nat×AV)
  |[],_,r=>r
  |(t,ty,own,dep)::l,n,r=>(t,if snB ty dep then .sn t (.v (.tok n) ty own dep) else .v (.tok n) ty own dep)::qrl l (n+1) r
def qqu:List Item→Nat→List (Nat×Ent)→List (Nat×Ent)
  |[],_,r=>r
  |(k,ty,own,dep)::l,n,r=>(k,⟨.tok n,ty,own,dep⟩)::qqu l (n+1) r
def qju(ts ms:List Item)(n:Nat)(σ:St):St:=⟨qrl ts n σ.t,qqu ms (n+ts.length) σ.m⟩
inductive ResD where
 |normal
 |ret
 |exit(id:Nat)
def ResD.exit':ResD→Exit
 |.normal=>.normal
 |.ret=>.ret
 |.exit id=>.exit id
def jp:Code→Nat
 |.region id _ _=>id+1
 |.seq x y=>(match jp x with
  |0=>jp y
  |n+1=>n+1)
 |.cond _ x y=>(match jp x with
  |0=>jp y
  |n+1=>n+1)
 |.block _ c=>jp c
 |.loop c=>jp c
 |.scope c=>jp c
 |_=>0
def qpw(N:List X)(t:Tree):Tree:=match N with
 |[]=>t
 |_=>.need N t
mutual
/-- The slices that a value owns. -/
def qin:AV→List Nat
 |.v _ _ own _=>own.map (·.2)
 |.rd _ _ _ wr=>(match wr with
  |some (pin,_)=>[pin]
  |none=>[])
 |.tup l=>qqd l
 |.gd _ a=>qin a
 |.fn _ l=>qqd l
 |.bx _ _ a=>qin a
 |.ax _ _ _ a=>qin a
 |.fr _ a=>qin a
 |.sn _ a=>qin a
 |.pt pin _ _ a=>pin::qin a
 |_=>[]
def qqd:List AV→List Nat
 |[]=>[]
 |a::l=>qin a++qqd l
end
def qm2(kill:List Nat):List (Nat×AV)→List Nat
  |[]=>[]
  |(t,a)::l=>if qr kill t then qm2 kill l else qin a++qm2 kill l
def qlw(kill:List Nat):List (Nat×Ent)→List Nat
  |[]=>[]
  |(k,e)::l=>if qr kill k then qlw kill l else e.own.map (·.2)++qlw kill l
def q4x(kill:List Nat)(σ:St):Nat→Bool:=fun y=> !Nat.beq (y % 16) 0&& !qr (qm2 kill σ.t++qlw kill σ.m) y
def St.drop(kill:List Nat)(σ:St):St:=σ.un (q4x kill σ)
def qqc(l:List Nat):D:=.r (l.map fun y=>.i (Int.ofNat y))
def qwv(own:List (Nat×Nat))(dep:List Nat):X:=.lit (.a [qqc (own.map (·.1)),qqc (own.map (·.2)),qqc dep])
def qmc(σ:St)(ts ms:List Item):List X:=(ts.map fun e=>match lkA σ.t e.1 with
 |some (.v _ _ own dep)=>qwv own dep
 |some .nilS=>.lit (.s ⟨#[]⟩)
 |some _=>.lit (.b false)
 |none=>.lit .u)++(ms.map fun e=>match lkA σ.m e.1 with
 |some e=>qwv e.own e.dep
 |none=>.lit .u)
def q86:AV→AV
 |.v x ty own dep=>.v x ty [] (own.map (·.2)++dep)
 |a=>a
def qci(e:Ent):Ent:=⟨e.x,e.t,[],e.own.map (·.2)++e.dep⟩
def qgx(ts:List Item)(k:Nat):Bool:=ts.any fun i=>uE i.1 k&&i.2.2.1.isEmpty
def q7q(ts ms:List Item)(σ:St):St:=⟨σ.t.map fun e=>(e.1,if qgx ts e.1 then q86 e.2 else e.2),σ.m.map fun e=>(e.1,if qgx ms e.1 then qci e.2 else e.2)⟩
def rdB(ts:List (Nat×Ty×Bool))(k:Nat):Bool:=ts.any fun i=>uE i.1 k&&i.2.2
def q09(h:Head)(σ:St):St:=⟨σ.t.map fun e=>(e.1,if rdB h.ts e.1 then q86 e.2 else e.2),σ.m.map fun e=>(e.1,if qr h.kill (1000000+e.1) then qci e.2 else e.2)⟩
def qsj(id:Nat)(it:List Item×List Item)(kill:List Nat)(n:Nat)(σ:St)(body:Nat→St→(Nat→ResD→St→Tree)→Tree)(k:Nat→ResD→St→Tree):Tree:=match conv it.1 it.2 σ with
 | some (σ1, va, vb) => .loop (id - 1) n (va ++ vb) (body (n + (va ++ vb).length) (qju it.1 it.2 n (q8f it.1 it.2 kill n σ1)) fun n' r σ' => match r with
  |.normal=>(match conv it.1 it.2 ((q7q it.1 it.2 σ').drop kill) with
   |some (σ2,va',vb')=>if covers σ2 (q8f it.1 it.2 kill n σ1) then .back (id - 1) (va'++vb') else .bad (3000000+id)
   |none=>.need (qmc σ' it.1 it.2++((.lit (.b true))::qmc (σ'.ren (qas σ' it.1 it.2)) it.1 it.2)) (.bad (4000000+id)))
  |.ret=>k n' .ret σ'
  |.exit i=>k n' (.exit i) σ')
 |none=>.need (qmc σ it.1 it.2) (.bad (5000000+id))
def qlj(P:Program)(tbl:Tbl)(ds:List (Option Tmp)):Nat→St→List Oper→Nat
 |_,_,[]=>900
 |i,σ,o::l=>match stepG P tbl ds σ o with
  |some (_,σ')=>qlj P tbl ds (i+1) σ' l
  |none=>i
def qrf(P:Program)(T:TypeId):Bool:=match P.built T [],P.underlying T with
 |some c,some (.struct _)=>uE c.size 0
 |_,_=>false
def qtm(P:Program)(z:Nat):List Oper→Option TypeId
 |[o1,o2,o3]=>(match o1.op,o2.op,o3.op,o1.dst,o2.dst with
  |.build T ps,.makeInterface T' (.tmp a'),.panic (.tmp b'),some a,some b=>if uE T T'&&(uE a a'&&(uE b b'&&(uE ps.size 0&&(kJ a z&&(kJ b z&&(qrf P T&&(o1.guard.isNone&&(o2.guard.isNone&&o3.guard.isNone)))))))) then some T else none
  |_,_,_,_,_=>none)
 |_=>none
def z09(o:Option TypeId)(T:TypeId):Bool:=match o with
 |some T1=>uE T1 T
 |none=>false
def qh9(body:Nat→St→(Nat→ResD→St→Tree)→Tree)(k:Nat→ResD→St→Tree):Nat→Nat→St→Tree
 |0,_,_=>.bad 6000000
 |f+1,n,σ=>body n σ fun n' r σ'=>match r with
  |.normal=>qh9 body k f n' σ'
  |.ret=>k n' .ret σ'
  |.exit i=>k n' (.exit i) σ'
def toT(P:Program)(tbl:Tbl)(ann:Ann)(lo z:Nat):Code→List Nat→Nat→St→(Nat→ResD→St→Tree)→Tree
 |.skip,_,n,σ,k=>k n .normal σ
 | .region id ops d, _, n, σ, k => (match qy9 P tbl lo z σ ops.toList d with
  |some (N,σ')=>qpw N (k n .normal (prune ann.pub σ'))
  |none=>(match qtm P z ops.toList with
   |some T=>if tbl.any (fun e=>z09 e.1.pn T)&& !d then .leaf [.lit .u] else .bad (id * 1000+qlj P tbl (dsts ops.toList) 0 σ ops.toList)
   |none=>.bad (id * 1000+qlj P tbl (dsts ops.toList) 0 σ ops.toList)))
 |.seq x y,ids,n,σ,k=>toT P tbl ann lo z x ids n σ fun n' r σ'=>match r with
  |.normal=>toT P tbl ann lo z y ids n' σ' k
  |.ret=>k n' .ret σ'
  |.exit i=>k n' (.exit i) σ'
 |.cond c x y,ids,n,σ,k=>(match opd σ [] c with
  |some (.v (.lit (.b true)) .bool _ _)=>toT P tbl ann lo z x ids n σ k
  |some (.v (.lit (.b false)) .bool _ _)=>toT P tbl ann lo z y ids n σ k
  |some (.v b .bool _ _)=>.br b (toT P tbl ann lo z x ids n σ k) (toT P tbl ann lo z y ids n σ k)
  |some (.nb b neg)=>.amb b neg (toT P tbl ann lo z x ids n σ k) (toT P tbl ann lo z y ids n σ k)
  |_=>.bad (1000000+jp x))
 |.block id c,ids,n,σ,k=>toT P tbl ann lo z c ids n σ fun n' r σ'=>match r with
  |.exit i=>if uE i id then k n' .normal σ' else k n' (.exit i) σ'
  |.ret=>k n' .ret σ'
  |.normal=>k n' .normal σ'
 |.exit id,_,n,σ,k=>k n (.exit id) σ
 |.ret,_,n,σ,k=>k n .ret σ
 |.loop c,ids,n,σ,k=>(match lkA ann.heads (jp c - 1) with
  |some h=>if qr ids (jp c - 1) then .bad (2000000+jp c) else qsj (jp c) (heads h ((q09 h σ).drop h.kill)) h.kill n ((q09 h σ).drop h.kill) (fun n' σ0=>toT P tbl ann lo z c ((jp c - 1)::ids) n' σ0) k
  |none=>qh9 (fun n' σ0=>toT P tbl ann lo z c ids n' σ0) k 128 n σ)
 |.label _,_,n,σ,k=>k n .normal σ
 |.scope c,ids,n,σ,k=>toT P tbl ann lo z c ids n σ k
 |_,_,_,_,_=>.bad 7000000
section
variable{c:Cx}{p:qe}{w w0:World}{S0:Nat→Prop}{a:Act}{σ σ':St}{d:List Deferred}{z:Nat}{tbl:Tbl}
theorem qeq:∀(x:AV){v:Value},x.pd c p w v→(q86 x).pd c p w v:=fun x v h=>by
 cases x with
 |v x ty own dep=>
  obtain⟨cs,hp,hc⟩:=h;exact⟨cs,hp,Con.of_rd (hc.rd (fun _ h=>uY _ h) (fun _ h=>kB _ h))⟩
 |_=>exact h
theorem qe1{α:Type}(f:α→α)(q:Nat→Bool){t:Nat}:∀(l:List (Nat×α)){x:α},lkA (l.map fun e=>(e.1,if q e.1 then f e.2 else e.2)) t=some x→∃y,lkA l t=some y∧(x=y∨x=f y)
 |[],x,h=>by cases h
 | e :: l, x, h => by
  simp only[kY,lkA] at h⊢;split at h
  ·rename_i hk;injection h with h;subst h;refine⟨e.2,if_pos hk,?_⟩;split
   ·exact .inr rfl
   ·exact .inl rfl
  ·rename_i hk;rw[if_neg hk];exact qe1 f q l h
theorem qkz(ts ms:List Item)(hf:SF c σ p w a):SF c (q7q ts ms σ) p w a:=by
 refine⟨fun t x hx=>?_,fun k e he=>?_⟩
 ·obtain⟨y,hy,h⟩:=qe1 q86 (qgx ts) σ.t hx;obtain⟨u,h1,h2⟩:=hf.t t y hy;refine⟨u,h1,?_⟩;rcases h with rfl|rfl
  ·exact h2
  ·exact qeq y h2
 ·obtain⟨y,hy,h⟩:=qe1 qci (qgx ms) σ.m he;obtain⟨g,cs,T,h1,h2,hty,h3⟩:=hf.m k y hy;rcases h with rfl|rfl
  ·exact⟨g,cs,T,h1,h2,hty,h3⟩
  ·exact⟨g,cs,T,h1,h2,hty,Con.of_rd (h3.rd (fun _ h=>uY _ h) (fun _ h=>kB _ h))⟩
theorem qlh(h:Head)(hf:SF c σ p w a):SF c (q09 h σ) p w a:=by
 refine⟨fun t x hx=>?_,fun k e he=>?_⟩
 ·obtain⟨y,hy,h⟩:=qe1 q86 (rdB h.ts) σ.t hx;obtain⟨u,h1,h2⟩:=hf.t t y hy;refine⟨u,h1,?_⟩;rcases h with rfl|rfl
  ·exact h2
  ·exact qeq y h2
 ·obtain⟨y,hy,h⟩:=qe1 qci (fun k=>qr h.kill (1000000+k)) σ.m he;obtain⟨g,cs,T,h1,h2,hty,h3⟩:=hf.m k y hy;rcases h with rfl|rfl
  ·exact⟨g,cs,T,h1,h2,hty,h3⟩
  ·exact⟨g,cs,T,h1,h2,hty,Con.of_rd (h3.rd (fun _ h=>uY _ h) (fun _ h=>kB _ h))⟩
theorem qfz{e:Ev}:∀{ns:List X},q45 e ns→∀n∈ns,n.says e
 |[],_,n,hn=>by cases hn
 |x::l,h,n,hn=>by
  rcases uL.1 hn with rfl|hn
  ·exact h.1
  ·exact qfz h.2 n hn
theorem qr1{S:Nat→List D→Option (List D)}{R:List D→Prop}{N:List X}{t:Tree}{l:List D}{B:Nat→List D→Prop}(h:(qpw N t).go S R l B):(∀n∈N,n.says (evl S l))∧t.go S R l B:=by
 unfold qpw at h;split at h
 ·exact⟨(fun n hn=>by cases hn),h⟩
 ·exact⟨qfz h.1,h.2⟩
def ItT(sn:Nat→Value)(A:Bk)(p:qe)(w:World)(a:Act):List Item→List D→Prop
  |[],ds=>ds=[]
  |(t,ty,own,dep)::l,ds=>∃x r,ds=x::r∧(∃v cs,a.tmps[t]? =some v∧z4 ty cs v∧Con A p w x ty own dep cs∧(snB ty dep=true→v=sn t))∧ItT sn A p w a l r
def ItM(A:Bk)(p:qe)(w:World):List Item→List D→Prop
  |[],ds=>ds=[]
  |(k,ty,own,dep)::l,ds=>∃x r,ds=x::r∧(∃g cs T,p (k * 16)=some g∧w.heap[g]? =some (.cells cs T (0,0))∧qc T=some ty∧Con A p w x ty own dep cs.toList)∧ItM A p w l r
theorem q6q{a b:List (Nat×Nat)}(h:q8s a b=true)(j:Nat):lkA a j=lkA b j:=by
 simp only[q8s,gnB] at h;have sub:∀{a b:List (Nat×Nat)},qhw a b=true→∀{x},lkA a j=some x→lkA b j=some x:=fun{a b}h{x}hx=>by
  have:=uB.1 h _ (y3 hx);split at this
  ·rename_i y hy;have hy':lkA b j=some y:=hy;rw[hy',gnN this]
  ·cases this
 cases ha:lkA a j with
 |some x=>exact(sub h.2.2.1 ha).symm
 |none=>
  cases hb:lkA b j with
  |none=>rfl
  |some x=>rw[sub h.2.2.2 hb] at ha;cases ha
theorem Con.same{A:Bk}{dep:List Nat}{own own':List (Nat×Nat)}(ho:∀j,lkA own j=lkA own' j){x:D}{t:Ty}{cs:List Value}(h:Con A p w x t own dep cs):Con A p w x t own' dep cs:=by
 have hF:∀{ds:List D}{j:Nat}{fs:List Ty}{cs:List Value},Fls A p w dep own j ds fs cs→Fls A p w dep own' j ds fs cs:=by
  intro ds
  induction ds with
  |nil=>intro j fs cs h;exact h
  |cons d ds ih=>
   rintro j fs cs⟨t,ts,c1,c2,e1,e2,h1,h2⟩;exact⟨t,ts,c1,c2,e1,e2,by rw[←ho];exact h1,ih h2⟩
 unfold Con at h⊢;split
 ·obtain⟨fs,ds,hf,e,h⟩:=h;exact⟨fs,ds,hf,e,hF h⟩
 ·rename_i hne;split at h
  ·rename_i T;exact absurd rfl (hne T)
  ·rw[←ho];exact h
theorem qjz(hf:SF c σ p w a):∀{l:List Item}{xs:List X},its (itT σ) l=some xs→ItT c.snap c.A p w a l (X.evs c.v xs)
  | [], xs, h => by
    simp only[its,uC] at h;subst h;rfl
  | (t, ty, own, dep) :: l, xs, h => by
    unfold its at h;split at h
    · rename_i x xs' hx hxs;injection h with h;subst h;refine⟨_,_,rfl,?_,qjz hf hxs⟩;unfold itT at hx;simp only at hx;split at hx
      · rename_i x' ty' own' dep' hl;split at hx
        · rename_i hok;simp only[gnB] at hok;injection hx with hx;subst hx;obtain⟨v,hv,cs,hp,hc⟩:=hf.t t _ hl;obtain⟨h0,h1,h2,h3⟩:=hok;rw[Ty.beq_iff] at h1;subst h1;exact⟨v,cs,hv,hp,(hc.same (q6q h2)).mono fun y hy=>qz.1 (uB.1 h3 y hy),fun hs=>by rw[hs] at h0;cases h0⟩
        · cases hx
      · rename_i q x' ty' own' dep' hl;split at hx
        · rename_i hok;simp only[gnB] at hok;injection hx with hx;subst hx;obtain⟨v,hv,he,cs,hp,hc⟩:=hf.t t _ hl;obtain⟨hq,h1,h2,h3⟩:=hok;rw[Ty.beq_iff] at h1;subst h1;refine⟨v,cs,hv,hp,(hc.same (q6q h2)).mono fun y hy=>qz.1 (uB.1 h3 y hy),fun hs=>?_⟩;rcases uN.1 hq with hq|hq
          · rw[hs] at hq;cases hq
          · rw[←gnN hq];exact he
        · cases hx
      · rename_i hl;split at hx
        · rename_i E;split at hx
          · rename_i hE;injection hx with hx;subst hx;rw[gnB] at hE;obtain⟨hE,hsk⟩:=hE;obtain⟨te,hte⟩:=kS.1 hE;obtain⟨v,hv,rfl⟩:=hf.t t _ hl;refine⟨_,[.slice none 0 0],hv,qes rfl,?_,fun hs=>by
              simp only[snB,gnB] at hs;rw[hs.2] at hsk;cases hsk⟩
            show Fl c.A p w dep (lkA own 0) (.r []) (.row E) _
            cases lkA own 0 with
            |none=>exact⟨E,te,none,0,rfl,hte,rfl,by simp,by simp,by simp[maxLen],by simp[RdE]⟩
            |some pin=>exact .inl ⟨E,te,[],_,rfl,hte,rfl,rfl,.inl ⟨rfl,rfl⟩⟩
          · cases hx
        · cases hx
      · cases hx
    · cases h
theorem qj0(hf:SF c σ p w a):∀{l:List Item}{xs:List X},its (itM σ) l=some xs→ItM c.A p w l (X.evs c.v xs)
  | [], xs, h => by
    simp only[its,uC] at h;subst h;rfl
  | (k, ty, own, dep) :: l, xs, h => by
    unfold its at h;split at h
    · rename_i x xs' hx hxs;injection h with h;subst h;refine⟨_,_,rfl,?_,qj0 hf hxs⟩;unfold itM at hx;simp only at hx;split at hx
      · rename_i e he;split at hx
        · rename_i hok;simp only[gnB] at hok;injection hx with hx;subst hx;obtain⟨g,cs,T,hg,hh,hty,hc⟩:=hf.m k _ he;obtain⟨h1,h2,h3⟩:=hok;rw[Ty.beq_iff] at h1;rw[h1] at hc;exact⟨g,cs,T,hg,hh,h1▸hty,(hc.same (q6q h2)).mono fun y hy=>qz.1 (uB.1 h3 y hy)⟩
        · cases hx
      · cases hx
    · cases h
theorem q8i{f:Item→Option X}:∀{l:List Item}{xs:List X},its f l=some xs→xs.length=l.length
 |[],xs,h=>by
  simp only[its,uC] at h;subst h;rfl
 | i :: l, xs, h => by
  unfold its at h;split at h
  ·rename_i x xs' hx hxs;injection h with h;subst h;simp[q8i hxs]
  ·cases h
theorem qc9{e:Ev}(l m:List X):X.evs e (l++m)=X.evs e l++X.evs e m:=by
 induction l with
 |nil=>rfl
 |cons x l ih=>simp[X.evs,ih]
theorem qme{r:List (Nat×AV)}(hr:∀t x,lkA r t=some x→∃v,a.tmps[t]? =some v∧x.pd c p w v):∀{l:List Item}{n:Nat}{ds:List D},ItT c.snap c.A p w a l ds→(∀i,i<ds.length→c.v.E (n+i)=ds.getD i .u)→
    ∀t x,lkA (qrl l n r) t=some x→∃v,a.tmps[t]? =some v∧x.pd c p w v
  |[],n,ds,_,_,t,x,h=>hr t x h
  | (s, ty, own, dep) :: l, n, ds, h, hE, t, x, hx => by
    obtain⟨y,ys,rfl,⟨v,cs,hv,hp,hc,hsn⟩,hl⟩:=h;by_cases hst:s=t
    · subst hst;simp only[qrl] at hx;rw[qa] at hx;injection hx with hx;subst hx;have:=hE 0 (by simp);simp only[vX,vK] at this;have hcon:Con c.A p w (c.v.E n) ty own dep cs:=by
        rw[this];exact hc
      refine⟨v,hv,?_⟩;split
      · rename_i hs;exact⟨hsn hs,cs,hp,hcon⟩
      · exact⟨cs,hp,hcon⟩
    · simp only[qrl] at hx;rw[qb hst] at hx;refine qme hr hl (n:=n+1) (fun i hi=>?_) t x hx;have:=hE (i+1) (by simp;omega);rw[show n+1+i=n+(i+1) by omega,this];simp
theorem qmg{r:List (Nat×Ent)}(hr:∀k e,lkA r k=some e→ju c p w k e):∀{l:List Item}{n:Nat}{ds:List D},ItM c.A p w l ds→(∀i,i<ds.length→c.v.E (n+i)=ds.getD i .u)→
    ∀k e,lkA (qqu l n r) k=some e→ju c p w k e
  |[],n,ds,_,_,t,x,h=>hr t x h
  | (s, ty, own, dep) :: l, n, ds, h, hE, t, x, hx => by
    obtain⟨y,ys,rfl,⟨g,cs,T,hg,hh,hty,hc⟩,hl⟩:=h;by_cases hst:s=t
    · subst hst;simp only[qqu] at hx;rw[qa] at hx;injection hx with hx;subst hx;refine⟨g,cs,T,hg,hh,hty,?_⟩;have:=hE 0 (by simp);simp only[vX,vK] at this
      show Con c.A p w (c.v.E n) ty own dep cs.toList
      rw[this];exact hc
    · simp only[qqu] at hx;rw[qb hst] at hx;refine qmg hr hl (n:=n+1) (fun i hi=>?_) t x hx;have:=hE (i+1) (by simp;omega);rw[show n+1+i=n+(i+1) by omega,this];simp
theorem qik{sn:Nat→Value}{A:Bk}:∀{l:List Item}{ds:List D},ItT sn A p w a l ds→ds.length=l.length
  |[],ds,h=>by cases h;rfl
  |(_,_,_,_)::l,ds,⟨x,r,e,_,h⟩=>by subst e;simp[qik h]
theorem qnw{A:Bk}:∀{l:List Item}{ds:List D},ItM A p w l ds→ds.length=l.length
  |[],ds,h=>by cases h;rfl
  |(_,_,_,_)::l,ds,⟨x,r,e,_,h⟩=>by subst e;simp[qnw h]
theorem qo3{c':Cx}(hS:c.v.S=c'.v.S)(hA:c.A=c'.A)(hT:c.At=c'.At∧c.snap=c'.snap∧c.F=c'.F){ts ms:List Item}{kill:List Nat}{n:Nat}{σ1:St}{da db:List D}(hE:∀k,k<n→c.v.E k=c'.v.E k)(hE':∀i,i<(da++db).length→c'.v.E (n+i)=(da++db).getD i .u)
  (hf:SF c (q8f ts ms kill n σ1) p w a)(ht:ItT c.snap c.A p w a ts da)(hm:ItM c.A p w ms db):SF c' (qju ts ms n (q8f ts ms kill n σ1)) p w a:=by
 have hla:=qik ht;rw[hA,hT.2.1] at ht;rw[hA] at hm;refine⟨qme (fun t x hx=>?_) ht (fun i hi=>?_),qmg (fun k e he=>?_) hm (fun i hi=>?_)⟩
 ·obtain⟨v,h1,h2⟩:=hf.t t x hx;have hq:=(qh7 hx).2;simp only[gnB] at hq;exact⟨v,h1,AV.pd_upto hE hS hA hT x v hq.2.2.2 h2⟩
 ·rw[hE' i (by simp;omega)];simp[gnG,uK hi]
 ·have hq:=(qh7 he).2;simp only[gnB] at hq;exact ju.upto hE hS hA hT hq.2 (hf.m k e he)
 ·rw[show n+ts.length+i=n+(ts.length+i) by omega,hE' (ts.length+i) (by simp;omega)];rw[←hla];simp[gnG,kT]
theorem qio{ts ms:List Item}{kill:List Nat}{n:Nat}(hf:SF c σ p w a):SF c (q8f ts ms kill n σ) p w a:=⟨fun t x hx=>hf.t t x (qh7 hx).1,fun k e he=>hf.m k e (qh7 he).1⟩
def Cx.at(c:Cx)(S:Nat→List D→Option (List D))(l:List D):Cx:=⟨evl S l,c.A,c.F,c.lo,c.At,c.new,c.snap⟩
theorem qpf{l:List D}{n k:Nat}(h:k<n)(m:List D)(hn:n≤l.length):(l.take n++m).getD k .u=l.getD k .u:=by
 simp only[gnG];rw[uK (by simp;omega),kZ h]
theorem qx5(ro:Option Nat)(nn:Nat){id:Nat}{ops:Array Oper}{T:TypeId}(hT:qtm uA z ops.toList=some T){Q:Exit→Act→World→Prop}(hq:∀a',a'.defers=d→Q (.panic (q55 T)) a' w)(hd:a.defers=d)(hz:a.tmps.size=z):
  (Code.region id ops false).wpIn (FR ro) nn uA Q a w:=by
 obtain⟨l⟩:=ops;have hT:qtm uA z l=some T:=hT;unfold qtm at hT;split at hT
 ·rename_i o1 o2 o3 _;split at hT
  ·rename_i T1 ps T2 a' b' a1 b1 e1 e2 e3 d1 d2;split at hT
   ·rename_i hok;injection hT with hT;subst hT;simp only[gnB] at hok;obtain⟨k1,k2,k3,k4,k5,k6,k7,k8,k9,k10⟩:=hok;obtain rfl:=gnN k1;obtain rfl:=gnN k2;obtain rfl:=gnN k3;have k4:ps= #[]:=kK (gnN k4);subst k4;rw[kH] at k5 k6;obtain⟨hbt,fs,hu⟩:uA.built T1 []=some #[]∧∃fs,uA.underlying T1=some (.struct fs):=by
     unfold qrf at k7;split at k7
     ·rename_i c fs hc hu;exact⟨by rw[hc,kK (gnN k7)],fs,hu⟩
     ·cases k7
    refine wpIn_region ?_;have:wpOpsIn (FR ro) nn uA [o1,o2,o3].toArray Q (vF 0 3)=wpListIn (FR ro) nn uA [o1,o2,o3].toArray Q [o1,o2,o3]:=wpOpsIn_eq_wpListIn [o1,o2,o3] 0 (fun j=>by simp);rw[show uV (Array.mk [o1,o2,o3]).size=vF 0 3 by simp[List.range_eq_range']]
    show wpOpsIn (FR ro) nn uA [o1,o2,o3].toArray Q (vF 0 3) a w
    rw[this];have hw:∀{o:Oper}{y:Nat→Option Bool},o.guard.isNone=true→Region.wanted o y=true:=fun{o}{y}h=>by
     unfold Region.wanted;cases hg:o.guard with
     |none=>rfl
     |some g=>rw[hg] at h;cases h
    simp only[wpListIn,hw k8,hw k9,hw k10,if_true];refine Oper.wp_round ro (by rw[e1];simp) ?_;unfold Oper.wp;have r1:(execOp a.eval o1).run uA w=.ok (.value (.agg #[])) w:=by
     have:=run_build (P:=uA) w T1 #[] #[] hbt;simp[execOp,e1,this]
    rw[r1]
    show Oper.wpIn _ _ _ _ (a.put o1.dst _) w _ _
    refine Oper.wp_round ro (by rw[e2];simp) ?_;unfold Oper.wp;have v1:(a.put o1.dst (.agg #[])).eval (.tmp a1)=.agg #[]:=by
     rw[d1];simp[Act.put,Act.eval,hz,k5]
    have r2:(execOp (a.put o1.dst (.agg #[])).eval o2).run uA w=.ok (.value (.iface T1 (.agg #[]))) w:=by
     rw[show(a.put o1.dst (.agg #[])).eval=fun y=>(a.put o1.dst (.agg #[])).eval y from rfl];simp[execOp,e2,v1,Instr.makeInterface,run_underlying hu]
    rw[r2]
    show Oper.wpIn _ _ _ _ ((a.put o1.dst _).put o2.dst _) w _ _
    refine Oper.wp_round ro (by rw[e3];simp) ?_;unfold Oper.wp;have v2:((a.put o1.dst (.agg #[])).put o2.dst (.iface T1 (.agg #[]))).eval (.tmp b1)=.iface T1 (.agg #[]):=by
     rw[d1,d2];simp[Act.put,Act.eval,hz,k6]
    have r3:(execOp ((a.put o1.dst (.agg #[])).put o2.dst (.iface T1 (.agg #[]))).eval o3).run uA w=.halt (.panic (.iface T1 (.agg #[]))) w:=by
     simp[execOp,e3,v2,Instr.panic]
    rw[r3];exact hq _ (by rw[d1,d2];exact hd)
   ·cases hT
  ·cases hT
 ·cases hT
set_option maxHeartbeats 1000000 in
theorem qrt(ro:Option Nat)(nn:Nat)(htb:ym tbl)(hfm:(∀te,c.F.mx te≤flM tbl te)∧(spB tbl=true→c.A.k=true)){ann:Ann}{R:List D→Prop}:∀(cd:Code){ids:List Nat}{n:Nat}{σ:St}{k:Nat→ResD→St→Tree}{l:List D}{B:Nat→List D→Prop}{p:qe}{w:World}{a:Act}{Q:Exit→Act→World→Prop},
  (toT uA tbl ann c.lo z cd ids n σ k).go (qx tbl) R l B→l.length=n→Bs c.A c.F w0 S0 p w→SF (c.at (qx tbl) l) σ p w a→a.defers=d→a.tmps.size=z→q7j tbl w0 S0 d Q→z0j tbl R w0 S0 d Q→
  (∀n' r σ' l' B' p' w' a',l'.length=n'→l'.take n=l→(∀id∈ids,B' id=B id)→(k n' r σ').go (qx tbl) R l' B'→Bs c.A c.F w0 S0 p' w'→SF (c.at (qx tbl) l') σ' p' w' a'→a'.defers=d→a'.tmps.size=z→Q r.exit' a' w')→cd.wpIn (FR ro) nn uA Q a w:=by
 intro cd
 induction cd with
 |skip=>
  intro ids n σ k l B p w a Q h hl hb hf hd hz hQ hR hk;exact wpIn_skip (hk n .normal σ l B p w a hl (by rw[←hl];exact uG) (fun _ _=>rfl) h hb hf hd hz)
 | region id ops dr =>
  intro ids n σ k l B p w a Q h hl hb hf hd hz hQ hR hk;simp only[toT] at h;split at h
  ·rename_i N σ1 h1;obtain⟨hN,hgo⟩:=qr1 h;exact qv1 ro nn (c:=c.at (qx tbl) l) htb ⟨rfl,hfm.1,hfm.2⟩ h1 hN hb hf hd hz hQ fun a' w'⟨p',hb',hf',hd',hz'⟩=>hk n .normal (prune ann.pub σ1) l B p' w' a' hl (by rw[←hl];exact uG) (fun _ _=>rfl) hgo hb' (qr4 hf') hd' hz'
  ·split at h
   ·rename_i T hT;split at h
    ·rename_i hok;have hdr:dr=false:=by
      cases dr with
      |false=>rfl
      |true=>simp at hok
     subst hdr;have hok:=(kC.1 hok).1;obtain⟨e,he,hp⟩:=uU.1 hok;have hp:e.1.pn=some T:=by
      unfold z09 at hp;split at hp
      ·rename_i T' hT';rw[hT',gnN hp]
      ·cases hp
     exact qx5 ro nn hT (fun a' h1=>hR h e he T hp a' w h1 hb.but) hd hz
    ·exact h.elim
   ·exact h.elim
 | seq x y ihx ihy =>
  intro ids n σ k l B p w a Q h hl hb hf hd hz hQ hR hk;simp only[toT] at h;refine wpIn_seq (ihx h hl hb hf hd hz hQ hR fun n' r σ' l' B' p' w' a' hl' hpre hB hgo hb' hf' hd' hz'=>?_);cases r with
  | normal =>
   refine ihy hgo hl' hb' hf' hd' hz' hQ hR fun n2 r2 σ2 l2 B2 p2 w2 a2 hl2 hpre2 hB2 hgo2 hb2 hf2 hd2 hz2=>hk n2 r2 σ2 l2 B2 p2 w2 a2 hl2 ?_ (fun id hid=>(hB2 id hid).trans (hB id hid)) hgo2 hb2 hf2 hd2 hz2;have hnn:n≤n':=by
    have:=congrArg kN hpre;simp at this;omega
   rw[←hpre,←hpre2,kA,kR hnn]
  |ret=>exact hk n' .ret σ' l' B' p' w' a' hl' hpre hB hgo hb' hf' hd' hz'
  |exit i=>exact hk n' (.exit i) σ' l' B' p' w' a' hl' hpre hB hgo hb' hf' hd' hz'
 | cond b x y ihx ihy =>
  intro ids n σ k l B p w a Q h hl hb hf hd hz hQ hR hk;simp only[toT] at h;split at h
  ·rename_i hc;obtain⟨u,e1,e2⟩:=q0v (qd hf rfl hc);obtain rfl:true=u:=by have:D.b true=D.b u:=e1;injection this
   exact wpIn_cond_true e2 (ihx h hl hb hf hd hz hQ hR hk)
  ·rename_i hc;obtain⟨u,e1,e2⟩:=q0v (qd hf rfl hc);obtain rfl:false=u:=by have:D.b false=D.b u:=e1;injection this
   exact wpIn_cond_false e2 (ihy h hl hb hf hd hz hQ hR hk)
  ·rename_i q _ _ _ _ hc;obtain⟨u,e1,e2⟩:=q0v (qd hf rfl hc);have e1':(q.ev (evl (qx tbl) l))=.b u:=e1;cases u with
   |true=>exact wpIn_cond_true e2 (ihx (h.1 (by rw[e1'];rfl)) hl hb hf hd hz hQ hR hk)
   |false=>exact wpIn_cond_false e2 (ihy (h.2 (by rw[e1'];rfl)) hl hb hf hd hz hQ hR hk)
  ·rename_i q neg hc;obtain⟨u,e1,e2⟩:=qd hf rfl hc;cases u with
   |true=>exact wpIn_cond_true e1 (ihx (h.1 (fun hn=>e2 (by rw[hn];rfl))) hl hb hf hd hz hQ hR hk)
   |false=>exact wpIn_cond_false e1 (ihy (h.2 (fun hn=>e2 (by rw[hn];rfl))) hl hb hf hd hz hQ hR hk)
  ·exact h.elim
 | block id cd ih =>
  intro ids n σ k l B p w a Q h hl hb hf hd hz hQ hR hk;simp only[toT] at h;refine wpIn_block (ih h hl hb hf hd hz hQ hR fun n' r σ' l' B' p' w' a' hl' hpre hB hgo hb' hf' hd' hz'=>?_);cases r with
  |normal=>exact hk n' .normal σ' l' B' p' w' a' hl' hpre hB hgo hb' hf' hd' hz'
  |ret=>exact hk n' .ret σ' l' B' p' w' a' hl' hpre hB hgo hb' hf' hd' hz'
  | exit i =>
   show Exit.inBlock id Q (.exit i) a' w'
   simp only at hgo;by_cases hi:i=id
   ·rw[if_pos (by rw[hi];exact uW id)] at hgo;simp only[Exit.inBlock,if_pos hi];exact hk n' .normal σ' l' B' p' w' a' hl' hpre hB hgo hb' hf' hd' hz'
   ·rw[if_neg (fun e=>hi (gnN e))] at hgo;simp only[Exit.inBlock,if_neg hi];exact hk n' (.exit i) σ' l' B' p' w' a' hl' hpre hB hgo hb' hf' hd' hz'
 |exit id=>
  intro ids n σ k l B p w a Q h hl hb hf hd hz hQ hR hk;exact wpIn_exit (hk n (.exit id) σ l B p w a hl (by rw[←hl];exact uG) (fun _ _=>rfl) h hb hf hd hz)
 |ret=>
  intro ids n σ k l B p w a Q h hl hb hf hd hz hQ hR hk;exact wpIn_ret (hk n .ret σ l B p w a hl (by rw[←hl];exact uG) (fun _ _=>rfl) h hb hf hd hz)
 |label s=>
  intro ids n σ k l B p w a Q h hl hb hf hd hz hQ hR hk;exact wpIn_label (hk n .normal σ l B p w a hl (by rw[←hl];exact uG) (fun _ _=>rfl) h hb hf hd hz)
 |scope cd ih=>
  intro ids n σ k l B p w a Q h hl hb hf hd hz hQ hR hk;simp only[toT] at h;refine q6d (ih h hl hb hf hd hz hQ hR fun n' r σ' l' B' p' w' a' hl' hpre hB hgo hb' hf' hd' hz'=>?_);have:=hk n' r σ' l' B' p' w' a' hl' hpre hB hgo hb' hf' hd' hz';cases r<;>exact this
 | loop cd ih =>
  intro ids n σ k l B p w a Q h hl hb0 hf0 hd hz hQ hR hk;simp only[toT] at h;split at h
  ·rename_i hh hann;split at h
   ·exact h.elim
   ·rename_i hids;have hb:=hb0.un (q4x hh.kill (q09 hh σ));have hf:=SF.un (c:=c.at (qx tbl) l) (q:=q4x hh.kill (q09 hh σ)) hb0.inj hb0.pa (qlh hh hf0);change (qsj _ (heads hh ((q09 hh σ).un (q4x hh.kill (q09 hh σ)))) hh.kill n ((q09 hh σ).un (q4x hh.kill (q09 hh σ))) _ k).go _ _ _ _ at h;generalize heads hh ((q09 hh σ).un (q4x hh.kill (q09 hh σ)))=it at h;generalize (q09 hh σ).un (q4x hh.kill (q09 hh σ))=σ at h hf;obtain⟨ts,ms⟩:=it;unfold qsj at h;simp only at h;split at h
    ·rename_i σ1 va vb hcv;unfold conv at hcv
     split at hcv
     ·rename_i hrb;split at hcv
      ·rename_i va' vb' hva hvb;simp only[gnS] at hcv;obtain⟨rfl,rfl,rfl⟩:=hcv;obtain⟨I,μ,hI,hbody⟩:=h;obtain⟨p1,hb1,hf1⟩:=qhd (c:=c.at (qx tbl) l) hrb hb hf
       -- the rounds
       have key:∀(m:Nat)(da db:List D)(l2:List D)(p:qe)(w:World)(a:Act),n≤l2.length→l2.take n=l→I (da++db)→μ (da++db)<m→Bs c.A c.F w0 S0 p w→SF (c.at (qx tbl) l2) (q8f ts ms hh.kill n (σ.ren (qas σ ts ms))) p w a→ItT c.snap c.A p w a ts da→ItM c.A p w ms db→a.defers=d→a.tmps.size=z→
         Code.roundsIn (FR ro) nn uA cd Q m a w:=by
        intro m
        induction m with
        |zero=>intro da db l2 p w a _ _ _ hm;omega
        | succ m ihm =>
         intro da db l2 p w a hn2 hl2 hIs hm hb hf hta htb' hd hz;rw[roundsIn_succ];have hlen:(da++db).length=(va'++vb').length:=by
          rw[kF,kF,qik hta,qnw htb',q8i hva,q8i hvb]
         have hgo:=hbody (da++db) hlen hIs;have hln:(l.take n++(da++db)).length=n+(va'++vb').length:=by
          rw[kF,hlen];simp[hl]
         have hlt:l.take n=l:=by rw[←hl];exact uG
         have hhead:SF (c.at (qx tbl) (l.take n++(da++db))) (qju ts ms n (q8f ts ms hh.kill n (σ.ren (qas σ ts ms)))) p w a:=
          qo3 (c:=c.at (qx tbl) l2) (c':=c.at (qx tbl) (l.take n++(da++db))) rfl rfl ⟨rfl,rfl,rfl⟩ (fun k hk=>by
           show l2.getD k .u=(l.take n++(da++db)).getD k .u
           rw[qpf hk _ (by omega),←hl2];simp only[gnG];rw[kZ hk]) (fun i hi=>by
           show(l.take n++(da++db)).getD (n+i) .u=_
           simp only[gnG];rw[kT (by simp;omega)]
           congr 2
           simp;omega) hf hta htb'
         refine ih hgo hln hb hhead hd hz hQ hR fun n' r σ' l' B' p' w' a' hl' hpre hB hgo' hb' hf' hd' hz'=>?_;have hpre':l'.take n=l:=by
          have h1:(l'.take (n+(va'++vb').length)).take n=(l.take n++(da++db)).take n:=by rw[hpre]
          rw[kA,kR (Nat.le_add_right _ _)] at h1;rw[h1,kM (by simp;omega),kA,Nat.min_self,hlt]
         have hBo:∀id∈ids,B' id=B id:=fun id hid=>by
          rw[hB id (uI _ hid)];unfold q46;rw[if_neg];intro e;subst e;exact hids (qz.2 hid)
         cases r with
         |ret=>exact hk n' .ret σ' l' B' p' w' a' hl' hpre' hBo hgo' hb' hf' hd' hz'
         |exit i=>exact hk n' (.exit i) σ' l' B' p' w' a' hl' hpre' hBo hgo' hb' hf' hd' hz'
         | normal =>
          simp only at hgo';have hf'':=SF.un (c:=c.at (qx tbl) l') (q:=q4x hh.kill (q7q ts ms σ')) hb'.inj hb'.pa (qkz ts ms hf');have hb'':=hb'.un (q4x hh.kill (q7q ts ms σ'));change SF _ ((q7q ts ms σ').drop hh.kill) _ _ _ at hf'';split at hgo'
          ·rename_i σ2 wa wb hcv2;split at hgo'
           ·rename_i hcov;unfold conv at hcv2
            split at hcv2
            ·rename_i hrb2;split at hcv2
             ·rename_i wa' wb' hwa hwb;simp only[gnS] at hcv2;obtain⟨rfl,rfl,rfl⟩:=hcv2;obtain⟨p2,hb2,hf2⟩:=qhd (c:=c.at (qx tbl) l') hrb2 hb'' hf'';have hbk:B' (jp cd - 1) (X.evs (evl (qx tbl) l') (wa'++wb')):=hgo';rw[hB _ uF] at hbk;unfold q46 at hbk;rw[if_pos rfl,qc9] at hbk;have hnl:n≤l'.length:=by
               have:=congrArg kN hpre';simp at this;omega
              show Exit.then (Code.roundsIn (FR ro) nn uA cd Q m) Q .normal a' w'
              exact ihm (X.evs (evl (qx tbl) l') wa') (X.evs (evl (qx tbl) l') wb') l' p2 w' a' hnl hpre' hbk.1 (by have:=hbk.2;omega) hb2 (q1l hcov hf2) (qjz hf2 hwa) (qj0 hf2 hwb) hd' hz'
             ·cases hcv2
            ·cases hcv2
           ·exact hgo'.elim
          ·exact hgo'.2.elim
       rw[qc9] at hI;exact wpIn_loop_rounds _ (key (μ (X.evs (evl (qx tbl) l) va'++X.evs (evl (qx tbl) l) vb')+1) _ _ l p1 w a (by omega) (by rw[←hl];exact uG) hI (vL _) hb1 (qio hf1) (qjz hf1 hva) (qj0 hf1 hvb) hd hz)
      ·cases hcv
     ·cases hcv
    ·exact h.2.elim
  ·have key:∀(m:Nat){n1:Nat}{σ:St}{l1:List D}{B1:Nat→List D→Prop}{p:qe}{w:World}{a:Act},(qh9 (fun n' σ0=>toT uA tbl ann c.lo z cd ids n' σ0) k m n1 σ).go (qx tbl) R l1 B1→l1.length=n1→n≤n1→l1.take n=l→(∀id∈ids,B1 id=B id)→Bs c.A c.F w0 S0 p w→SF (c.at (qx tbl) l1) σ p w a→a.defers=d→a.tmps.size=z→Code.roundsIn (FR ro) nn uA cd Q m a w:=by
    intro m
    induction m with
    |zero=>intro n1 σ l1 B1 p w a h;exact h.elim
    | succ m ihm =>
     intro n1 σ l1 B1 p w a h hl1 hn1 hp1 hB1 hb hf hd hz;rw[roundsIn_succ];refine ih h hl1 hb hf hd hz hQ hR fun n' r σ' l' B' p' w' a' hl' hpre hB hgo' hb' hf' hd' hz'=>?_;have hpre':l'.take n=l:=by
      rw[←hp1,←hpre,kA,kR hn1]
     have hBo:∀id∈ids,B' id=B id:=fun id hid=>(hB id hid).trans (hB1 id hid);have hle:n≤n':=by
      have h1:=congrArg kN hpre;rw[List.length_take,hl1] at h1;omega
     cases r with
     |ret=>exact hk n' .ret σ' l' B' p' w' a' hl' hpre' hBo hgo' hb' hf' hd' hz'
     |exit i=>exact hk n' (.exit i) σ' l' B' p' w' a' hl' hpre' hBo hgo' hb' hf' hd' hz'
     |normal=>exact ihm hgo' hl' hle hpre' hBo hb' hf' hd' hz'
   exact wpIn_loop_rounds _ (key 128 h hl (uD _) (by rw[←hl];exact uG) (fun _ _=>rfl) hb0 hf0 hd hz)
 |_=>intro ids n σ k l B p w a Q h;exact h.elim
end
end
section
abbrev Rs:=List (ResultVar×Ty×Bool)
def qzy(σ:St):ResultVar→List (Nat×Nat)
 |.tmp s=>(match lkA σ.t s with
  |some (.v _ _ own _)=>own
  |_=>[])
 | .cell s _ => match lkA σ.t s with
  |some (.ref k _ _ _)=>(match lkA σ.m k with
   |some e=>e.own
   |none=>[])
  |_=>[]
def qhi(σ:St):Rs→Nat→List (Nat×Nat)
 |[],_=>[]
 |(rv,t,own)::l,n=>(if own then pairUp (qzy σ rv) (qj n t) else[])++qhi σ l (n+1)
def qae(σ:St):List (Nat×Ar)→List (Nat×Nat)
  |[]=>[]
  | (i, .ref t o) :: l => (match lkA σ.m i with
    |some e=>pairUp e.own (qoi o i t)
    |none=>[])++qae σ l
  |(i,.mref t)::l=>pairUp (qzd σ i) (qj i t)++qae σ l
  |_::l=>qae σ l
def q7n:List (Nat×Ar)→List Nat
  |[]=>[]
  |(i,.ref _ _)::l=>i * 16::q7n l
  |_::l=>q7n l
mutual
/-- The value holds a pointer to the variable. -/
def AV.has(i:Nat):AV→Bool
 |.ref k _ _ _=>uE k i
 |.fn _ l=>qk4 i l
 |.bx _ _ a=>AV.has i a
 |.fr _ a=>AV.has i a
 |.sn _ a=>AV.has i a
 |_=>false
def qk4(i:Nat):List AV→Bool
 |[]=>false
 |a::l=>AV.has i a||qk4 i l
end
mutual
theorem AV.has_ok{c:Cx}{p:qe}{w:World}{i:Nat}:∀(a:AV){v:Value},a.has i=true→a.pd c p w v→∃g,p (i * 16)=some g∧c.At i g
 |.ref k _ _ _,v,h,hx=>by
  have h:=gnN h;subst h;obtain⟨g,hg,-,hat⟩:=hx;exact⟨g,hg,hat⟩
 |.fn _ l,v,h,hx=>by
  obtain⟨vs,-,hl⟩:=hx;exact qjs l (by simpa[AV.has] using h) hl
 |.bx _ _ a,v,h,hx=>by
  obtain⟨g,u,-,-,-,hu⟩:=hx;exact AV.has_ok a (by simpa[AV.has] using h) hu
 |.fr _ a,v,h,hx=>by
  obtain⟨g,u,-,-,-,-,hu⟩:=hx;exact AV.has_ok a (by simpa[AV.has] using h) hu
 |.ff _ _ _ _ _ _ _ _,v,h,_=>by simp[AV.has] at h
 |.sn _ a,v,h,hx=>AV.has_ok a (by simpa[AV.has] using h) hx.2
 |.any,v,h,_=>by simp[AV.has] at h
 |.undef,v,h,_=>by simp[AV.has] at h
 |.v _ _ _ _,v,h,_=>by simp[AV.has] at h
 |.nilS,v,h,_=>by simp[AV.has] at h
 |.nilP,v,h,_=>by simp[AV.has] at h
 |.rd _ _ _ _,v,h,_=>by simp[AV.has] at h
 |.tup _,v,h,_=>by simp[AV.has] at h
 |.gd _ _,v,h,_=>by simp[AV.has] at h
 |.nb _ _,v,h,_=>by simp[AV.has] at h
 |.pt _ _ _ _,v,h,_=>by simp[AV.has] at h
 |.ar _ _ _,v,h,_=>by simp[AV.has] at h
 |.lv _ _,v,h,_=>by simp[AV.has] at h
 |.wf _ _ _ _ _ _ _,v,h,_=>by simp[AV.has] at h
 |.el _ _ _ _,v,h,_=>by simp[AV.has] at h
 |.hd _ _ _,v,h,_=>by simp[AV.has] at h
 |.ax _ _ _ _,v,h,_=>by simp[AV.has] at h
theorem qjs{c:Cx}{p:qe}{w:World}{i:Nat}:∀(l:List AV){vs:List Value},qk4 i l=true→pds c p w l vs→∃g,p (i * 16)=some g∧c.At i g
 |[],vs,h,_=>by simp[qk4] at h
 |a::l,vs,h,hx=>by
  obtain⟨v,r,rfl,h1,h2⟩:=hx;simp only[qk4,uX] at h;rcases h with h|h
  ·exact AV.has_ok a h h1
  ·exact qjs l h h2
end
def q3w(σ:St):List ResultVar→List Nat
 |[]=>[]
 |.cell s _::l=>(match lkA σ.t s with
  |some (.ref k _ _ _)=>k * 16::q3w σ l
  |_=>q3w σ l)
 |_::l=>q3w σ l
def qig(σ:St)(n:Nat)(rv:ResultVar)(t:Ty)(own:Bool):Option X:=match rv with
 |.tmp s=>itT σ (s,t,if own then qj n t else[],[])
 |.cell s T=>match lkA σ.t s with
  |some (.ref k [] 0 t')=>if q5b T t&&Ty.beq t' t then itM σ (k,t,if own then qj n t else[],[]) else none
  |_=>none
def qs4(σ:St):Rs→Nat→Option (List X)
  |[],_=>some []
  | (rv, t, own) :: l, n => match qig σ n rv t own, qs4 σ l (n + 1) with
    |some x,some xs=>some (x::xs)
    |_,_=>none
def qzr(σ:St)(n i:Nat):Bool:=(uV n).any fun t=>match lkA σ.t t with
 |some a=>a.has i
 |none=>false
def qi5(σ:St)(n:Nat):List (Nat×Ar)→Option (List X)
  |[]=>some []
  | (i, .ref t o) :: l => (match itM σ (i, t, qoi o i t, []), qi5 σ n l with
    |some x,some xs=>if qzr σ n i then some (x::xs) else none
    |_,_=>none)
  | (i, .mref t) :: l => (match itT σ (i, t, qj i t, [SNK]), qi5 σ n l with
    |some x,some xs=>if kJ i n&&(kJ i VB&&(q36 t||qb6 t)) then some (x::xs) else none
    |_,_=>none)
  |_::l=>qi5 σ n l
def fin(ct:Ct)(results:List ResultVar)(σ:St):Option (List X):=
 let z:=results.zip ct.rs
 let rr:=qhi σ z ct.ar.length++qae σ ct.all
 let keep:=rr.map (·.1)++(q7n ct.all++q3w σ results)
 let σ2:=(σ.un fun y=> !qr keep y).ren rr
 if reB rr&&uE results.length ct.rs.length then match qs4 σ2 z ct.ar.length,qi5 σ2 ct.ar.length ct.all with
  |some a,some b=>some (a++b)
  |_,_=>none
 else none
def qip(ct:Ct)(results:List ResultVar):Nat→ResD→St→Tree:=fun _ r σ=>match r with
 |.exit i=>.bad (8000000+i)
 |_=>match fin ct results σ with
  |some xs=>.leaf xs
  |none=>.bad 9000000
def q1w:List Ar→Nat
 |[]=>0
 |.val _::l=>q1w l+1
 |.ref _ _::l=>q1w l+1
 |.rref _::l=>q1w l+1
 |.own _::l=>q1w l+1
 |.mref _::l=>q1w l+1
 |.old _::l=>q1w l+1
 |_::l=>q1w l
def Ct.ars(ct:Ct):List Ar:=ct.ar++ct.vr.map (·.2)
def q89:Nat→List (Nat×Ar)→List (Nat×Nat×Ar)
 |_,[]=>[]
 |j,(i,r)::l=>(i,j,r)::q89 (j+q1w [r]) l
def qnp(tb:List (Nat×Nat×Ar)):Nat→Nat→AV
 |0,q=>.sn q .any
 |f+1,q=>.sn q (match tb[q]? with
  |some (_,j,.val t)=>.v (.tok j) t [] []
  |some (i,_,.ref t _)=>.ref i [] 0 t
  |some (_,j,.rref t)=>.rd (.tok j) t [] none
  |some (i,j,.own t)=>.v (.tok j) t (qj i t) []
  |some (i,j,.mref t)=>.sn q (.v (.tok j) t (qj i t) [])
  |some (_,_,.nils)=>.nilS
  |some (_,_,.nilp)=>.nilP
  |some (_,_,.cst t d)=>.v (.lit d) t [] []
  |some (_,_,.fn g ks)=>.fn g (ks.map (qnp tb f))
  |some (_,_,.cell T k)=>.fr T (qnp tb f k)
  |some (_,j,.old t)=>.v (.tok j) t [] [q0d]
  |none=>.any)
def qsd:AV→AV
 |.sn q (.rd x t dep wr)=>.sn q (.rd x t dep wr)
 |.sn _ a=>a
 |a=>a
def qti(tb:List (Nat×Nat×Ar)):Nat→Nat→List (Nat×AV)
 |_,0=>[]
 |q,m+1=>(q,qsd (qnp tb 6 q))::qti tb (q+1) m
def qpx:List (Nat×Nat×Ar)→List (Nat×Ent)
  |[]=>[]
  |(i,j,.ref t o)::l=>(i,⟨.tok j,t,qf4 o i t,[]⟩)::qpx l
  |_::l=>qpx l
def qkn(ct:Ct):St:=⟨qti (q89 0 ct.all) 0 ct.ar.length,qpx (q89 0 ct.all)⟩
def qgu(P:Program)(tbl:Tbl)(ann:Ann)(ct:Ct)(fn:Func)(cd:Code):Tree:=
 toT P tbl ann ct.ar.length fn.ntmps cd [] (q1w ct.ars) (qkn ct) (qip ct fn.results.toList)
def WfA:List Ar→List D→Prop
 |[],ds=>ds=[]
 |.val t::l,ds=>∃d r,ds=d::r∧Wf d t∧WfA l r
 |.ref t _::l,ds=>∃d r,ds=d::r∧Wf d t∧WfA l r
 |.rref t::l,ds=>∃d r,ds=d::r∧Wf d t∧WfA l r
 |.own t::l,ds=>∃d r,ds=d::r∧Wf d t∧WfA l r
 |.mref t::l,ds=>∃d r,ds=d::r∧Wf d t∧WfA l r
 |.old t::l,ds=>∃d r,ds=d::r∧Wf d t∧WfA l r
 |_::l,ds=>WfA l ds
section
variable{A:Bk}{F:Flr}{p:qe}{w:World}
theorem z0.wf{V:List Value}:∀{all:List (Nat×Ar)}{vs:List Value}{ds:List D},z0 V A p w all vs ds→WfA (all.map (·.2)) ds∧ds.length=q1w (all.map (·.2))∧vs.length=all.length
  | [], vs, ds, h => by
    obtain⟨rfl,rfl⟩:=h;exact⟨rfl,rfl,rfl⟩
  | (_, .val t) :: l, vs, ds, h => by
    obtain⟨v,r,d,ds',rfl,rfl,⟨cs,hp,hr⟩,h⟩:=h;obtain⟨h1,h2,h3⟩:=z0.wf h;exact⟨⟨d,ds',rfl,⟨w,_,cs,hr⟩,h1⟩,by simp[q1w,h2],by simp[h3]⟩
  | (i, .ref t o) :: l, vs, ds, h => by
    obtain⟨v,r,d,ds',rfl,rfl,⟨g,cs,T,-,-,-,-,hc⟩,h⟩:=h;obtain⟨h1,h2,h3⟩:=z0.wf h;exact⟨⟨d,ds',rfl,⟨w,_,_,hc.rd (dep':=(qf4 o i t).map (·.2)) (fun x hx=>by cases hx) (fun x hx=>hx)⟩,h1⟩,by simp[q1w,h2],by simp[h3]⟩
  | (_, .rref t) :: l, vs, ds, h => by
    obtain⟨v,r,d,ds',rfl,rfl,⟨b,o,cs,-,-,-,-,hr⟩,h⟩:=h;obtain⟨h1,h2,h3⟩:=z0.wf h;exact⟨⟨d,ds',rfl,⟨w,_,cs,hr⟩,h1⟩,by simp[q1w,h2],by simp[h3]⟩
  | (i, .own t) :: l, vs, ds, h => by
    obtain⟨v,r,d,ds',rfl,rfl,⟨cs,-,hc⟩,h⟩:=h;obtain⟨h1,h2,h3⟩:=z0.wf h;exact⟨⟨d,ds',rfl,⟨w,_,_,hc.rd (dep':=(qj i t).map (·.2)) (fun x hx=>by cases hx) (fun x hx=>hx)⟩,h1⟩,by simp[q1w,h2],by simp[h3]⟩
  | (i, .mref t) :: l, vs, ds, h => by
    obtain⟨v,r,d,ds',rfl,rfl,⟨cs,-,hc⟩,h⟩:=h;obtain⟨h1,h2,h3⟩:=z0.wf h;exact⟨⟨d,ds',rfl,⟨w,_,_,hc.rd (dep':=(qj i t).map (·.2)) (fun x hx=>by cases hx) (fun x hx=>hx)⟩,h1⟩,by simp[q1w,h2],by simp[h3]⟩
  | (_, .old t) :: l, vs, ds, h => by
    obtain⟨v,r,d,ds',rfl,rfl,⟨cs,hp,hr⟩,h⟩:=h;obtain⟨h1,h2,h3⟩:=z0.wf h;exact⟨⟨d,ds',rfl,⟨w,_,cs,hr⟩,h1⟩,by simp[q1w,h2],by simp[h3]⟩
  | (_, .nils) :: l, vs, ds, h => by
    obtain⟨r,rfl,h⟩:=h;obtain⟨h1,h2,h3⟩:=z0.wf h;exact⟨h1,h2,by simp[h3]⟩
  | (_, .nilp) :: l, vs, ds, h => by
    obtain⟨r,rfl,h⟩:=h;obtain⟨h1,h2,h3⟩:=z0.wf h;exact⟨h1,h2,by simp[h3]⟩
  | (_, .cst t d) :: l, vs, ds, h => by
    obtain⟨v,r,rfl,-,h⟩:=h;obtain⟨h1,h2,h3⟩:=z0.wf h;exact⟨h1,h2,by simp[h3]⟩
  | (_, .fn f ks) :: l, vs, ds, h => by
    obtain⟨r,rfl,h⟩:=h;obtain⟨h1,h2,h3⟩:=z0.wf h;exact⟨h1,h2,by simp[h3]⟩
  | (_, .cell T j) :: l, vs, ds, h => by
    obtain⟨b,r,rfl,-,-,-,h⟩:=h;obtain⟨h1,h2,h3⟩:=z0.wf h;exact⟨h1,h2,by simp[h3]⟩
theorem qh6:∀(i:Nat)(l:List Ar),(idx i l).map (·.2)=l
 |_,[]=>rfl
 |i,a::l=>by simp[idx,qh6 (i+1) l]
theorem all_map(ct:Ct):ct.all.map (·.2)=ct.ars:=by simp[Ct.all,Ct.ars,qh6]
theorem qic:∀{i n:Nat}{l:List Ar}{e:Nat×Ar},e∈idx i l→i+l.length=n→i≤e.1∧e.1<n
 |_,_,[],e,h,_=>by cases h
 | i, n, a :: l, e, h, hn => by
  rcases uL.1 h with rfl|h
  ·simp at hn;exact⟨uD _,by simp;omega⟩
  ·obtain⟨h1,h2⟩:=qic (n:=n) h (by simp at hn;omega);exact⟨by omega,h2⟩
theorem qur{ct:Ct}{e:Nat×Ar}(h:e∈ct.all):e.1<ct.ar.length∨VB≤e.1:=by
 rcases vM.1 h with h|h
 ·exact .inl (qic (n:=ct.ar.length) h (by simp)).2
 ·exact .inr (qic h rfl).1
def quc(V:List Value)(A:Bk)(p:qe)(w:World)(i:Nat):Ar→Value→D→Prop
 |.val t,v,d=>∃cs,z4 t cs v∧Rd w (FFD A p []) d t cs
 |.ref t o,v,d=>∃g cs T,p (i * 16)=some g∧v=.pointer (some ⟨g,0,none⟩)∧w.heap[g]? =some (.cells cs T (0,0))∧qc T=some t∧Con A p w d t (qf4 o i t) [] cs.toList
 |.rref t,v,d=>∃b o cs,v=.pointer (some ⟨b,o,none⟩)∧FFD A p [] b∧w.rangeAt b o cs∧0<cs.length∧Rd w (FFD A p []) d t cs
 |.own t,v,d=>∃cs,z4 t cs v∧Con A p w d t (qj i t) [] cs
 |.mref t,v,d=>∃cs,z4 t cs v∧Con A p w d t (qj i t) [] cs
 |.nils,v,_=>v=.slice none 0 0
 |.nilp,v,_=>v=.pointer none
 |.cst t d,v,_=>∃cs,z4 t cs v∧Rd w (FFD A p []) d t cs
 |.fn f ks,v,_=>v=.func (.func f) #[] (ks.map fun k=>V.getD k undef).toArray
 |.cell T j,v,_=>∃b,v=.pointer (some ⟨b,0,none⟩)∧A b∧q3n p b∧w.heap[b]? =some (.cells #[V.getD j undef] T (0,0))
 |.old t,v,d=>∃cs,z4 t cs v∧Rd w (FFD A p [q0d]) d t cs
theorem qcs{V:List Value}:∀{all:List (Nat×Ar)}{j0:Nat}{vs:List Value}{ds:List D}{q i j:Nat}{r:Ar},z0 V A p w all vs ds→(q89 j0 all)[q]? =some (i,j,r)→∃v,vs[q]? =some v∧j0≤j∧quc V A p w i r v (ds.getD (j - j0) .u)
  |[],j0,vs,ds,q,i,j,r,h,hq=>by simp[q89] at hq
  | (i', r') :: l, j0, vs, ds, q, i, j, r, h, hq => by
    cases q with
    | zero =>
      simp only[q89,vA,gnS] at hq;obtain⟨rfl,rfl,rfl⟩:=hq;cases r' with
      |val t=>obtain⟨v,r,d,ds',rfl,rfl,h1,-⟩:=h;exact⟨v,rfl,uD _,by rw[uT];exact h1⟩
      |ref t o=>obtain⟨v,r,d,ds',rfl,rfl,h1,-⟩:=h;exact⟨v,rfl,uD _,by rw[uT];exact h1⟩
      |rref t=>obtain⟨v,r,d,ds',rfl,rfl,h1,-⟩:=h;exact⟨v,rfl,uD _,by rw[uT];exact h1⟩
      |own t=>obtain⟨v,r,d,ds',rfl,rfl,h1,-⟩:=h;exact⟨v,rfl,uD _,by rw[uT];exact h1⟩
      |mref t=>obtain⟨v,r,d,ds',rfl,rfl,h1,-⟩:=h;exact⟨v,rfl,uD _,by rw[uT];exact h1⟩
      |nils=>obtain⟨r,rfl,-⟩:=h;exact⟨_,rfl,uD _,rfl⟩
      |nilp=>obtain⟨r,rfl,-⟩:=h;exact⟨_,rfl,uD _,rfl⟩
      |cst t d=>obtain⟨v,r,rfl,h1,-⟩:=h;exact⟨v,rfl,uD _,h1⟩
      |fn f ks=>obtain⟨r,rfl,-⟩:=h;exact⟨_,rfl,uD _,rfl⟩
      |cell T k=>obtain⟨b,r,rfl,h1,h2,h3,-⟩:=h;exact⟨_,rfl,uD _,⟨b,rfl,h1,h2,h3⟩⟩
      |old t=>obtain⟨v,r,d,ds',rfl,rfl,h1,-⟩:=h;exact⟨v,rfl,uD _,by rw[uT];exact h1⟩
    | succ q =>
      simp only[q89,uO] at hq;have one:∀{v:Value}{vs':List Value}{d:D}{ds':List D},z0 V A p w l vs' ds'→(q89 (j0+1) l)[q]? =some (i,j,r)→∃u,(v::vs')[q+1]? =some u∧j0≤j∧quc V A p w i r u ((d::ds').getD (j - j0) .u):=fun h hq=>by
        obtain⟨u,h1,h2,h3⟩:=qcs h hq;refine⟨u,by simpa using h1,by omega,?_⟩;rw[show j - j0=(j - (j0+1))+1 by omega];simpa using h3
      have non:∀{v:Value}{vs':List Value},z0 V A p w l vs' ds→(q89 j0 l)[q]? =some (i,j,r)→∃u,(v::vs')[q+1]? =some u∧j0≤j∧quc V A p w i r u (ds.getD (j - j0) .u):=fun h hq=>by
        obtain⟨u,h1,h2,h3⟩:=qcs h hq;exact⟨u,by simpa using h1,h2,h3⟩
      cases r' with
      |val t=>obtain⟨v,r,d,ds',rfl,rfl,-,h⟩:=h;exact one h hq
      |ref t o=>obtain⟨v,r,d,ds',rfl,rfl,-,h⟩:=h;exact one h hq
      |rref t=>obtain⟨v,r,d,ds',rfl,rfl,-,h⟩:=h;exact one h hq
      |own t=>obtain⟨v,r,d,ds',rfl,rfl,-,h⟩:=h;exact one h hq
      |mref t=>obtain⟨v,r,d,ds',rfl,rfl,-,h⟩:=h;exact one h hq
      |nils=>obtain⟨r,rfl,h⟩:=h;exact non h hq
      |nilp=>obtain⟨r,rfl,h⟩:=h;exact non h hq
      |cst t d=>obtain⟨v,r,rfl,-,h⟩:=h;exact non h hq
      |fn f ks=>obtain⟨r,rfl,h⟩:=h;exact non h hq
      |cell T k=>obtain⟨b,r,rfl,-,-,-,h⟩:=h;exact non h hq
      |old t=>obtain⟨v,r,d,ds',rfl,rfl,-,h⟩:=h;exact one h hq
section
variable{c:Cx}{n0:Nat}{V:List Value}{all:List (Nat×Ar)}{ds:List D}
theorem qex(hA:c.A=A)(hAt:c.At=fun k g=>(k<n0∨VB≤k)→p (k * 16)=some g)(hsn:c.snap=fun q=>V.getD q undef)(h:z0 V A p w all V ds)(hE:∀k,c.v.E k=ds.getD k .u):∀(f q:Nat),(qnp (q89 0 all) f q).pd c p w (V.getD q undef)
 |0,q=>⟨by rw[hsn],trivial⟩
 | f + 1, q => by
  refine⟨by rw[hsn],?_⟩;have key:∀{i j:Nat}{r:Ar},(q89 0 all)[q]? =some (i,j,r)→quc V A p w i r (V.getD q undef) (c.v.E j):=fun hq=>by
   obtain⟨v,h1,-,h3⟩:=qcs h hq;rw[gnG,h1,hE];exact h3
  split
  ·rename_i i j t hq;obtain⟨cs,hp,hr⟩:=key hq;refine⟨cs,hp,?_⟩;rw[hA];exact Con.of_rd hr
  ·rename_i i j t hq;obtain⟨g,cs,T,hg,e,-⟩:=key hq;exact⟨g,hg,e,by rw[hAt];exact fun _=>hg⟩
  ·rename_i i j t hq;obtain⟨b,o,cs,e,hfb,hrg,h0,hr⟩:=key hq;refine⟨b,o,cs,e,by rw[hA];exact hfb,hrg,h0,?_,trivial⟩
   show Rd w (FFD c.A p []) (c.v.E j) t cs
   rw[hA];exact hr
  ·rename_i i j t hq;obtain⟨cs,hp,hr⟩:=key hq;refine⟨cs,hp,?_⟩
   show Con c.A p w (c.v.E j) t (qj i t) [] cs
   rw[hA];exact hr
  ·rename_i i j t hq;obtain⟨cs,hp,hr⟩:=key hq;refine⟨by rw[hsn],cs,hp,?_⟩
   show Con c.A p w (c.v.E j) t (qj i t) [] cs
   rw[hA];exact hr
  ·rename_i i j hq;exact key hq
  ·rename_i i j hq;exact key hq
  ·rename_i i j t d hq;obtain⟨cs,hp,hr⟩:=key hq;refine⟨cs,hp,?_⟩;rw[hA];exact Con.of_rd hr
  ·rename_i i j g ks hq;refine⟨_,key hq,?_⟩;clear hq
   induction ks with
   |nil=>rfl
   |cons k ks ih=>exact⟨_,_,rfl,qex hA hAt hsn h hE f k,ih⟩
  ·rename_i i j T k hq;obtain⟨b,e,h1,h2,h3⟩:=key hq;exact⟨b,_,by rw[hA];exact h1,h2,e,h3,qex hA hAt hsn h hE f k⟩
  ·rename_i i j t hq;obtain⟨cs,hp,hr⟩:=key hq;refine⟨cs,hp,?_⟩;rw[hA];exact Con.of_rd hr
  ·trivial
theorem qr5{x:AV}{v:Value}(h:x.pd c p w v):(qsd x).pd c p w v:=by
 unfold qsd;split
 ·exact h
 ·exact h.2
 ·exact h
theorem qng(hA:c.A=A)(hAt:c.At=fun k g=>(k<n0∨VB≤k)→p (k * 16)=some g)(hsn:c.snap=fun q=>V.getD q undef)(h:z0 V A p w all V ds)(hE:∀k,c.v.E k=ds.getD k .u):∀(m q t:Nat)(x:AV),lkA (qti (q89 0 all) q m) t=some x→t<q+m∧x.pd c p w (V.getD t undef)
 |0,q,t,x,hx=>by cases hx
 | m + 1, q, t, x, hx => by
  unfold qti at hx;by_cases hqt:q=t
  ·subst hqt;rw[qa] at hx;injection hx with hx;subst hx;exact⟨by omega,qr5 (qex hA hAt hsn h hE 6 q)⟩
  ·rw[qb hqt] at hx;obtain⟨h1,h2⟩:=qng hA hAt hsn h hE m (q+1) t x hx;exact⟨by omega,h2⟩
theorem qmy(hA:c.A=A)(hE:∀k,c.v.E k=ds.getD k .u)(h:z0 V A p w all V ds):∀{tb:List (Nat×Nat×Ar)},(∀e:Nat×Nat×Ar,e∈tb→∃q:Nat,(q89 0 all)[q]? =some e)→∀k e,lkA (qpx tb) k=some e→ju c p w k e
  |[],_,k,e,he=>by cases he
  | (i, j, r) :: l, hm, k, e, he => by
    have go:=qmy hA hE h (tb:=l) fun e he=>hm e (uI _ he);cases r with
    | ref t o =>
      have he':lkA ((i,⟨.tok j,t,qf4 o i t,[]⟩)::qpx l) k=some e:=he;by_cases hik:i=k
      · subst hik;rw[qa] at he';injection he' with he';subst he';obtain⟨q,hq⟩:=hm _ uF;obtain⟨v,-,-,⟨g,cs,T,hg,-,hh,hty,hc⟩⟩:=qcs h hq;refine⟨g,cs,T,hg,hh,hty,?_⟩
        show Con c.A p w (c.v.E j) t (qf4 o i t) [] cs.toList
        rw[hE,hA];exact hc
      · rw[qb hik] at he';exact go k e he'
    |_=>exact go k e he
end
end
def q68(tmps:Array Value):ResultVar→Sem Value
 |.tmp t=>pure (tmps.getD t undef)
 |.cell a t=>do loadVar t (←asAddr (tmps.getD a undef))
theorem results_read(fn:Func)(tmps:Array Value):results fn tmps=(do let vs←fn.results.mapM (q68 tmps);pure (if h:vs.size=1 then vs[0] else .tuple vs)):=by
 unfold results
 congr 1
def Reads(tmps:Array Value)(w:World):List ResultVar→List Value→Prop
 |[],l=>l=[]
 |r::rs,l=>∃v l',l=v::l'∧(q68 tmps r).run uA w=.ok v w∧Reads tmps w rs l'
theorem qj1{fn:Func}{tmps:Array Value}{w:World}{l:List Value}(h:Reads tmps w fn.results.toList l):(results fn tmps).run uA w=.ok (qfe l) w:=by
 have key:∀(rs:List ResultVar)(l:List Value),Reads tmps w rs l→(rs.mapM (q68 tmps)).run uA w=.ok l w:=by
  intro rs
  induction rs with
  |nil=>
   intro l h;cases h;simp
  |cons r rs ih=>
   rintro l⟨v,l',rfl,h1,h2⟩;simp only[List.mapM_cons,Sem.run_bind,h1,Result.andThen_ok,ih l' h2,Sem.run_pure]
 rw[results_read,Array.mapM_eq_mapM_toList];simp only[map_eq_pure_bind,Sem.run_bind,key _ _ h,Result.andThen_ok,Sem.run_pure]
 congr 1
 clear h key
 match l with
 |[]=>rfl
 |[v]=>rfl
 |_::_::_=>rfl
section
variable{c:Cx}{p:qe}{w w0:World}{S0:Nat→Prop}{a:Act}{σ σ':St}
theorem z0a{i:Item}{x:X}(hf:SF c σ p w a)(h:itT σ i=some x):∃v cs,a.tmps[i.1]? =some v∧z4 i.2.1 cs v∧Con c.A p w (x.ev c.v) i.2.1 i.2.2.1 i.2.2.2 cs∧(snB i.2.1 i.2.2.2=true→v=c.snap i.1):=by
 obtain⟨t,ty,own,dep⟩:=i;have:=qjz hf (l:=[(t,ty,own,dep)]) (xs:=[x]) (by simp only[its,h]);obtain⟨y,r,e,h1,-⟩:=this;simp only[X.evs,List.cons.injEq] at e;rw[e.1];exact h1
theorem qz6{i:Item}{x:X}(hf:SF c σ p w a)(h:itM σ i=some x):∃g cs T,p (i.1 * 16)=some g∧w.heap[g]? =some (.cells cs T (0,0))∧qc T=some i.2.1∧Con c.A p w (x.ev c.v) i.2.1 i.2.2.1 i.2.2.2 cs.toList:=by
 obtain⟨t,ty,own,dep⟩:=i;have:=qj0 hf (l:=[(t,ty,own,dep)]) (xs:=[x]) (by simp only[its,h]);obtain⟨y,r,e,h1,-⟩:=this;simp only[X.evs,List.cons.injEq] at e;rw[e.1];exact h1
theorem qlx(hf:SF c σ p w a){n:Nat}{rv:ResultVar}{t:Ty}{own:Bool}{x:X}(h:qig σ n rv t own=some x):∃v,(q68 a.tmps rv).run uA w=.ok v w∧∃cs,z4 t cs v∧Con c.A p w (x.ev c.v) t (if own then qj n t else[]) [] cs:=by
 cases rv with
 |tmp s=>
  obtain⟨v,cs,hv,hp,hc,-⟩:=z0a (i:=(s,t,if own then qj n t else[],[])) hf h;exact⟨v,by simp[q68,show a.tmps[s]? =some v from hv],cs,hp,hc⟩
 | cell s T =>
  simp only[qig] at h;split at h
  ·rename_i k t' hl;split at h
   ·rename_i hok;simp only[gnB] at hok;obtain⟨v,hv,g,hg,rfl,-⟩:=hf.t s _ hl;obtain⟨g',cs,T',hg',hh,hty,hc⟩:=qz6 (i:=(k,t,if own then qj n t else[],[])) hf h;obtain rfl:=gnI (hg.symm.trans hg');have hr:w.rangeAt g 0 cs.toList:=fun j u hj=>by
     rw[cell_of_row w g (0+j) cs T' (0,0) hh,←Array.getElem?_toList];simpa using hj
    obtain⟨u,hu,hp⟩:=q50 (j6 hok.1) hr (hc.rd (dep':=(if own then qj n t else[]).map (·.2)) (fun x hx=>by cases hx) (fun x hx=>hx));refine⟨u,?_,cs.toList,hp,hc⟩;simpa[q68,show a.tmps[s]? =some _ from hv,asAddr,Instr.loadAt,Instr.sureAddr] using hu
   ·cases h
  ·cases h
theorem qmh(hf:SF c σ p w a):∀{rvs:List ResultVar}{ts:List (Ty×Bool)}{n:Nat}{xs:List X},rvs.length=ts.length→qs4 σ (rvs.zip ts) n=some xs→
  ∃l,Reads a.tmps w rvs l∧qcr c.A p w ts n l (X.evs c.v xs)∧xs.length=ts.length
 |[],[],n,xs,_,h=>by
  simp only[List.zip_nil_left,qs4,uC] at h;subst h;exact⟨[],rfl,rfl,rfl⟩
 | rv :: rvs, (t, own) :: ts, n, xs, hl, h => by
  simp only[List.zip_cons_cons,qs4] at h;split at h
  ·rename_i x xs' hx hxs;injection h with h;subst h;obtain⟨l,h1,h2,h3⟩:=qmh hf (by simpa using hl) hxs;obtain⟨v,hv,hc⟩:=qlx hf hx;exact⟨v::l,⟨v,l,rfl,hv,h1⟩,⟨v,l,_,_,rfl,rfl,hc,h2⟩,by simp[h3]⟩
  ·cases h
 |[],_::_,_,_,hl,_=>by cases hl
 |_::_,[],_,_,hl,_=>by cases hl
theorem qw1(hf:SF c σ p w a){n i:Nat}(h:qzr σ n i=true):∃g,p (i * 16)=some g∧c.At i g:=by
 obtain⟨t,-,ht⟩:=uU.1 h;split at ht
 ·rename_i x hx;obtain⟨v,-,hv⟩:=hf.t t x hx;exact AV.has_ok x ht hv
 ·cases ht
theorem qmp{VV:List Value}{p0:qe}(hf:SF c σ p w a){n0 n:Nat}(hAt:c.At=fun k g=>(k<n0∨VB≤k)→p0 (k * 16)=some g):∀{all:List (Nat×Ar)}{xs:List X},(∀e∈all,e.1<n0∨VB≤e.1)→(∀i t,(i,Ar.mref t)∈all→i<n→i<VB→VV[i]? =some (c.snap i)∧(q36 t=true→∃g,c.snap i=.map (some g)∧p0 (i * 16+1)=some g))→qi5 σ n all=some xs→q35 VV c.A p0 p w all (X.evs c.v xs)
  | [], xs, _, _, h => by
    simp only[qi5,uC] at h;subst h;rfl
  | (i, r) :: l, xs, hi, hMr, h => by
    have go:∀{xs},qi5 σ n l=some xs→q35 VV c.A p0 p w l (X.evs c.v xs):=fun h=>qmp hf hAt (all:=l) (fun e he=>hi e (uI _ he)) (fun i t hm=>hMr i t (uI _ hm)) h;cases r with
    | ref t o =>
      simp only[qi5] at h;split at h
      · rename_i x xs' hx hxs;split at h
        · rename_i hk;injection h with h;subst h;obtain⟨g,hg,hat⟩:=qw1 hf hk;obtain⟨g',cs,T,hg',hh,hty,hc⟩:=qz6 (i:=(i,t,qoi o i t,[])) hf hx;obtain rfl:=gnI (hg.symm.trans hg');rw[hAt] at hat;exact⟨_,_,rfl,⟨g,cs,T,hat (hi _ uF),hg,hh,hty,hc⟩,go hxs⟩
        · cases h
      · cases h
    | mref t =>
      simp only[qi5] at h;split at h
      · rename_i x xs' hx hxs;split at h
        · rename_i hk;injection h with h;subst h;simp only[gnB,kH] at hk;obtain⟨k1,k2,k3⟩:=hk;obtain⟨v,cs,hv,hpk,hc,hs⟩:=z0a (i:=(i,t,qj i t,[SNK])) hf hx;by_cases hrw:qb6 t=true
          · have hve:v=c.snap i:=hs (by simp only[snB,gnB];exact⟨k3,rfl⟩);exact⟨_,_,rfl,.inr ⟨hrw,v,cs,by rw[hve];exact(hMr i t uF k1 k2).1,hpk,hc.flat1 (k:=i) (fun _ h=>h) (qcf k3).1⟩,go hxs⟩
          have k3:q36 t=true:=(uN.1 k3).resolve_right hrw;obtain⟨g,hg,hp0⟩:=(hMr i t uF k1 k2).2 k3;have hkv:∃K V,t=.map K V:=by
            cases t with
            |map K V=>exact⟨K,V,rfl⟩
            |_=>cases k3
          obtain⟨K,V',rfl⟩:=hkv;have hve:v=.map (some g):=(hs rfl).trans hg;have hc0:Con c.A p w (x.ev c.v) (.map K V') [(0,i * 16+1)] [SNK] cs:=hc;have hc1:Con c.A p w (x.ev c.v) (.map K V') [(0,i * 16+1)] [] cs:=by
            have h0:Fl c.A p w [SNK] (lkA [(0,i * 16+1)] 0) (x.ev c.v) (.map K V') cs:=hc0
            show Fl c.A p w [] (lkA [(0,i * 16+1)] 0) (x.ev c.v) (.map K V') cs
            rw[qa] at h0⊢;rcases h0 with⟨E,te,l,u,e0,-⟩|h0
            · cases e0
            · exact .inr h0
          have hc2:Fl c.A p w [] (lkA [(0,i * 16+1)] 0) (x.ev c.v) (.map K V') cs:=hc1;rw[qa] at hc2;rcases hc2 with⟨E,te,l,u,e0,-⟩|⟨K1,V1,kt,vt,l,g1,es,clock,e0,-,-,-,rfl,hg1,-⟩
          · cases e0
          · have hpv:[Value.map (some g1)]=[v]:=hpk;injection hpv with hpv;rw[hve] at hpv;injection hpv with hpv;injection hpv with hpv;subst hpv;exact⟨_,_,rfl,.inl ⟨g1,hp0,hg1,hc1⟩,go hxs⟩
        · cases h
      · cases h
    |_=>exact go h
theorem qus{V:List Value}{A:Bk}{p:qe}{w:World}{ct:Ct}{vs:List Value}{ds:List D}(h:z0 V A p w ct.all vs ds)(i:Nat)(t:Ty)(hm:(i,Ar.mref t)∈ct.all)(h1:i<ct.ar.length)(h2:i<VB)(h3:q36 t=true):∃g,vs.getD i undef=.map (some g)∧p (i * 16+1)=some g:=by
 have key:∀{l:List Ar}{k n:Nat}{r:Ar},(n,r)∈idx k l→k≤n∧l[n - k]? =some r:=by
  intro l
  induction l with
  |nil=>intro k n r h;cases h
  | cons x l ih =>
   intro k n r h;rcases uL.1 h with h|h
   ·injection h with e1 e2;subst e1 e2;exact⟨uD _,by simp⟩
   ·obtain⟨q1,q2⟩:=ih h;refine⟨by omega,?_⟩;rw[show n - k=(n - (k+1))+1 by omega];simpa using q2
 have pos:∀(l:List Ar)(k q:Nat),(idx k l)[q]? =l[q]?.map fun r=>(k+q,r):=by
  intro l
  induction l with
  |nil=>intro k q;simp[idx]
  | cons x l ih =>
   intro k q;cases q with
   |zero=>simp[idx]
   |succ q=>
    simp only[idx,uO,ih]
    congr 1
    funext r
    congr 1
    omega
 have hat:ct.all[i]? =some (i,.mref t):=by
  rcases vM.1 hm with hm|hm
  ·obtain⟨-,q⟩:=key hm;rw[vB] at q;unfold Ct.all;rw[uK (by
    have:(idx 0 ct.ar).length=ct.ar.length:=by rw[←List.length_map (f:=(·.2)),qh6]
    omega),pos,q]
   simp
  ·have:=(key hm).1;omega
 have tab:∀(l:List (Nat×Ar))(j q:Nat)(e:Nat×Ar),l[q]? =some e→∃j',(q89 j l)[q]? =some (e.1,j',e.2):=by
  intro l
  induction l with
  |nil=>intro j q e h;simp at h
  | cons x l ih =>
   intro j q e h;cases q with
   |zero=>
    simp only[vA,uC] at h;subst h;exact⟨j,rfl⟩
   |succ q=>
    simp only[uO] at h;exact ih _ q e h
 obtain⟨j',hj⟩:=tab _ 0 _ _ hat;obtain⟨v,hv,-,cs,hpk,hc⟩:=qcs h hj;rw[gnG,hv];have hkv:∃K V,t=.map K V:=by
  cases t with
  |map K V=>exact⟨K,V,rfl⟩
  |_=>cases h3
 obtain⟨K,V',rfl⟩:=hkv;have hc2:Fl A p w [] (lkA [(0,i * 16+1)] 0) (ds.getD (j' - 0) .u) (.map K V') cs:=hc;rw[qa] at hc2;rcases hc2 with⟨E,te,l,u,e0,-⟩|⟨K1,V1,kt,vt,l,g1,es,clock,e0,-,-,-,rfl,hg1,-⟩
 ·cases e0
 ·have hpv:[Value.map (some g1)]=[v]:=hpk;injection hpv with hpv;exact⟨g1,hpv.symm,hg1⟩
end
def cxA(tbl:Tbl)(ct:Ct)(A:Bk)(F:Flr)(p:qe)(vs us:List Value)(ds:List D):Cx:=⟨evl (qx tbl) ds,A,F,ct.ar.length,fun k g=>(k<ct.ar.length∨VB≤k)→p (k * 16)=some g,fun k g hk h2 h=>absurd h (by omega),fun q=>(vs++us).getD q undef⟩
theorem qg9{ct:Ct}{tbl:Tbl}{fn:Func}(hsz:ct.ar.length≤fn.ntmps){A:Bk}{F:Flr}{p:qe}{w:World}{vs us:List Value}{ds:List D}(hfo:Flo F w w)(hpre:Pre ct.ar.length A F p w)(hvl:vs.length=ct.ar.length)(hargs:z0 (vs++us) A p w ct.all (vs++us) ds):
  Bs (cxA tbl ct A F p vs us ds).A (cxA tbl ct A F p vs us ds).F w (pinned p) p w∧SF ((cxA tbl ct A F p vs us ds).at (qx tbl) ds) (qkn ct) p w {tmps:=vs.toArray++kO (fn.ntmps - vs.toArray.size) undef,defers:=[]}:=by
 have huf:Unf (fun b=>pinned p b∨w.heap.size≤b) w:=fun b cs T f hb hc=>by
  rcases hb with⟨x,hx⟩|hb
  ·rcases hpre.obj x b hx with⟨cs',T',h2⟩|⟨es,clock,h2⟩<;>rw[h2] at hc<;>cases hc;rfl
  ·have:=(Array.getElem?_eq_some_iff.1 hc).1;omega
 have hsp:A.k=true→∀b,A b→pinned p b∨w.heap.size≤b:=fun e=>by
  rw[hpre.sp] at e;cases e
 have hb0:Bs (cxA tbl ct A F p vs us ds).A (cxA tbl ct A F p vs us ds).F w (pinned p) p w:=⟨hpre.inj,hpre.bd,But.refl _ _,fun x b hx=>.inl ⟨x,hx⟩,hpre.new,hpre.pa,hpre.obj,hfo,hsp,huf⟩;refine⟨hb0,fun t x hx=>?_,qmy (c:=(cxA tbl ct A F p vs us ds).at (qx tbl) ds) (A:=A) rfl (fun k=>rfl) hargs fun e he=>List.mem_iff_getElem?.1 he⟩;obtain⟨h1,h2⟩:=qng (c:=(cxA tbl ct A F p vs us ds).at (qx tbl) ds) (A:=A) (n0:=ct.ar.length) rfl rfl rfl hargs (fun k=>rfl) _ _ t x hx;have hlt:t<vs.length:=by omega
 refine⟨(vs++us).getD t undef,?_,h2⟩
 show(vs.toArray++_)[t]? =_
 rw[Array.getElem?_append_left (by simpa using hlt),gnG,uK hlt];simp[gnK hlt]
theorem qn3{ct:Ct}{tbl:Tbl}{fn:Func}{A:Bk}{p p':qe}{w w':World}{vs us:List Value}{ds l':List D}{σ':St}{a':Act}{c:Cx}(hcA:c.A=A)(hcAt:c.At=fun k g=>(k<ct.ar.length∨VB≤k)→p (k * 16)=some g)(hcs:∀i,i<VB→c.snap i=(vs++us).getD i undef)(hargs:z0 (vs++us) A p w ct.all (vs++us) ds)
  (hvl:vs.length=ct.ar.length)(hb':Bs c.A c.F w (pinned p) p' w')(hf':SF (c.at (qx tbl) l') σ' p' w' a'){xs:List X}(hfin:fin ct fn.results.toList σ'=some xs):
  ∃rs p2,(results fn a'.tmps).run uA w'=.ok (qfe rs) w'∧Bs A c.F w (pinned p) p2 w'∧qcr A p2 w' ct.rs ct.ar.length rs ((X.evs (evl (qx tbl) l') xs).take ct.rs.length)∧q35 (vs++us) A p p2 w' ct.all ((X.evs (evl (qx tbl) l') xs).drop ct.rs.length):=by
 subst hcA;generalize houts:X.evs (evl (qx tbl) l') xs=outs;unfold fin at hfin;simp only at hfin;split at hfin
 ·rename_i hok;simp only[gnB] at hok;split at hfin
  ·rename_i xa xb hxa hxb;injection hfin with hfin;subst hfin;have hb1:=hb'.un (fun y=> !qr ((qhi σ' (fn.results.toList.zip ct.rs) ct.ar.length++qae σ' ct.all).map (·.1)++(q7n ct.all++q3w σ' fn.results.toList)) y);have hf1:=SF.un (c:=c.at (qx tbl) l') (q:=fun y=> !qr ((qhi σ' (fn.results.toList.zip ct.rs) ct.ar.length++qae σ' ct.all).map (·.1)++(q7n ct.all++q3w σ' fn.results.toList)) y) hb'.inj hb'.pa hf';obtain⟨p2,hb2,hf2⟩:=qhd (c:=c.at (qx tbl) l') hok.1 hb1 hf1;obtain⟨l,h1,h2,h3⟩:=qmh hf2 (gnN hok.2) hxa;have h4:=qmp (p0:=p) (n0:=ct.ar.length) hf2 hcAt (fun e he=>qur he) (VV:=vs++us) (fun i t hm h1 h2=>⟨by
    show _=some (c.snap i)
    rw[hcs i h2,gnG,uK (by omega),gnK (by omega)];rfl,fun h3=>by
    obtain⟨g,e1,e2⟩:=qus hargs i t hm h1 h2 h3;exact⟨g,(hcs i h2).trans e1,e2⟩⟩) hxb
   have hev:X.evs (evl (qx tbl) l') xa++X.evs (evl (qx tbl) l') xb=outs:=by rw[←qc9];exact houts
   have hla:(X.evs (evl (qx tbl) l') xa).length=ct.rs.length:=by rw[qh8,h3]
   refine⟨l,p2,qj1 h1,hb2,?_,?_⟩
   ·rw[←hev,kM (by omega),←hla,uG];exact h2
   ·rw[←hev,←hla,List.drop_left];exact h4
  ·cases hfin
 ·cases hfin
theorem qxu{ct:Ct}{tbl:Tbl}(ann:Ann)(fn:Func)(cd:Code)(htb:ym tbl)(hf:uA.funcs[ct.f]? =some fn)(hb:fn.body=some cd)(hsz:ct.ar.length≤fn.ntmps)
  {A:Bk}{F:Flr}{p:qe}{w:World}{vs us:List Value}{ds:List D}{R:List D→Prop}(hfm:∀te,F.mx te≤flM tbl te)(hfo:Flo F w w)(hpre:Pre ct.ar.length A F p w)(hvl:vs.length=ct.ar.length)(hargs:z0 (vs++us) A p w ct.all (vs++us) ds)
  (h:WfA ct.ars ds→(qgu uA tbl ann ct fn cd).go (qx tbl) R ds fun _ _=>False){P:Ending→World→Prop}
  (hret:∀o rs p' w',R o→Bs A F w (pinned p) p' w'→qcr A p' w' ct.rs ct.ar.length rs (o.take ct.rs.length)→q35 (vs++us) A p p' w' ct.all (o.drop ct.rs.length)→P (.returned (qfe rs)) w')
  (hQ:∀e∈tbl,∀T,e.1.pn=some T→(∃ds,e.2 ds=some [.u])→∀w',But (pinned p) w w'→P (.panicked (q55 T)) w')
  (hR:R [.u]→∀e∈tbl,∀T,e.1.pn=some T→∀w',But (pinned p) w w'→P (.panicked (q55 T)) w')(hsp:spB tbl=false:=by rfl):cd.wp uA (bodyPost uA fn P) {tmps:=vs.toArray++kO (fn.ntmps - vs.toArray.size) undef,defers:=[]} w:=by
 obtain⟨hwf,hdl,-⟩:=hargs.wf;rw[all_map] at hwf hdl;have hgo:=h hwf;obtain⟨hb0,hsf⟩:=qg9 (tbl:=tbl) hsz hfo hpre hvl hargs;refine(wpIn_wide (n:=0)).1 ?_;refine qrt none 0 (c:=cxA tbl ct A F p vs us ds) (S0:=pinned p) (w0:=w) (d:=[]) (z:=fn.ntmps) htb ⟨hfm,fun e=>by rw[hsp] at e;cases e⟩ cd hgo hdl hb0 hsf rfl (by simp;omega) (fun e he T h1 h2 a w2 h3 h4=>⟨h3,hQ e he T h1 h2 w2 h4⟩) (fun h0 e he T h1 a w2 h3 h4=>⟨h3,hR h0 e he T h1 w2 h4⟩) fun n' r σ' l' B' p' w' a' hl' hpre' hB hgo' hb' hf' hd' hz'=>?_;have fin':∀xs,fin ct fn.results.toList σ'=some xs→R (X.evs (evl (qx tbl) l') xs)→a'.defers=[]∧∃v,(results fn a'.tmps).run uA w'=.ok v w'∧P (.returned v) w':=by
  intro xs hfin hout;obtain⟨rs,p2,h1,h2,h3,h4⟩:=qn3 (c:=cxA tbl ct A F p vs us ds) rfl rfl (fun _ _=>rfl) hargs hvl hb' hf' hfin;exact⟨hd',_,h1,hret _ rs p2 w' hout h2 h3 h4⟩
 cases r with
 |exit i=>exact hgo'.elim
 | normal =>
  simp only[qip] at hgo';split at hgo'
  ·rename_i xs hx;exact fin' xs hx hgo'
  ·exact hgo'.elim
 | ret =>
  simp only[qip] at hgo';split at hgo'
  ·rename_i xs hx;exact fin' xs hx hgo'
  ·exact hgo'.elim
theorem qqt{ct:Ct}{tbl:Tbl}(ann:Ann)(fn:Func)(cd:Code)(htb:ym tbl)(hf:uA.funcs[ct.f]? =some fn)(hb:fn.body=some cd)(hsz:ct.ar.length≤fn.ntmps)
  {A:Bk}{F:Flr}{p:qe}{w:World}{vs us:List Value}{ds:List D}{R:List D→Prop}(hfm:∀te,F.mx te≤flM tbl te)(hfo:Flo F w w)(hpre:Pre ct.ar.length A F p w)(hvl:vs.length=ct.ar.length)(hargs:z0 (vs++us) A p w ct.all (vs++us) ds)
  (h:WfA ct.ars ds→(qgu uA tbl ann ct fn cd).go (qx tbl) R ds fun _ _=>False){P:Ending→World→Prop}
  (hret:∀o rs p' w',R o→Bs A F w (pinned p) p' w'→qcr A p' w' ct.rs ct.ar.length rs (o.take ct.rs.length)→q35 (vs++us) A p p' w' ct.all (o.drop ct.rs.length)→P (.returned (qfe rs)) w')
  (hQ:∀e∈tbl,∀T,e.1.pn=some T→(∃ds,e.2 ds=some [.u])→∀w',But (pinned p) w w'→P (.panicked (q55 T)) w')
  (hR:R [.u]→∀e∈tbl,∀T,e.1.pn=some T→∀w',But (pinned p) w w'→P (.panicked (q55 T)) w')(hsp:spB tbl=false:=by rfl):Calls uA ct.f vs.toArray w P:=calls_of_wp hf hb (qxu ann fn cd htb hf hb hsz hfm hfo hpre hvl hargs h hret hQ hR hsp)
def FlF(ct:Ct)(tbl:Tbl)(ds:List D):Prop:=∀F,qa0 ct F ds→∀te,F.mx te≤flM tbl te
theorem FlF.none{ct:Ct}{tbl:Tbl}{ds:List D}(h:ct.fl=[]):FlF ct tbl ds:=fun F hF te=>by rw[hF.zero h];exact vJ _
theorem qyw{ct:Ct}{g:List D→Option (List D)}{tbl:Tbl}(ann:Ann)(fn:Func)(cd:Code)(htb:ym tbl)(hf:uA.funcs[ct.f]? =some fn)(hb:fn.body=some cd)
  (hen:∀args w,(callFunc ct.f args).run uA w=.ok (.enter ct.f args) w)(hsz:ct.ar.length≤fn.ntmps)
  (h:∀ds outs,WfA ct.ars ds→g ds=some outs→(qgu uA tbl ann ct fn cd).go (qx tbl) (fun o=>o=outs) ds fun _ _=>False)(hnp:qew tbl=true:=by rfl)(hkp:ct.kp=[]:=by rfl)(hfl:ct.fl=[]:=by rfl)(hsp:spB tbl=false:=by rfl):FOk ct g:=
 ⟨hen,fun A F p w vs us ds outs hg hfo0 hfo hpre hvl hargs=>qqt ann fn cd htb hf hb hsz (FlF.none hfl F hfo0) hfo hpre hvl hargs (fun hw=>h ds outs hw hg)
  (fun o rs p' w' ho h1 h2 h3=>.inr ⟨rs,p',rfl,h1,by rw[←ho];exact h2,by rw[←ho];exact h3⟩) (fun e he T hT=>(q8d hnp he hT).elim) (fun _ e he T hT=>(q8d hnp he hT).elim) hsp,fun h=>absurd hkp h⟩
theorem ym.nil:ym []:=fun e he=>by cases he
theorem ym.cons{ct:Ct}{g:List D→Option (List D)}{l:Tbl}(h:FOk ct g)(hl:ym l):ym ((ct,g)::l):=fun e he=>by
 rcases uL.1 he with rfl|he
 ·exact h
 ·exact hl e he
end
theorem Wf.row{d:D}{E:TypeId}(h:Wf d (.row E))(hn:qds E=false:=by rfl):∃l te,d=.r l∧qc E=some te∧l.length≤LM te∧∀x∈l,Wf x te:=by
 obtain⟨w,F,cs,h⟩:=h;cases d with
 |r l=>
  obtain⟨E',te,A,cap,e,hte,e3,h1,h2,-,hR⟩:=h;injection e with e;subst e;refine⟨l,te,rfl,hte,h2,fun x hx=>?_⟩;obtain⟨i,hi,rfl⟩:=uS.1 hx;obtain⟨b,o,c,-,-,-,hr⟩:=jg.1 hR i hi;exact⟨w,F,c,hr⟩
 |u=>obtain⟨E,te,e,h',-⟩:=h;injection e with e;subst e;rw[hn] at h';cases h'
 |i n=>rcases h with⟨k,e,-⟩|⟨e,-⟩<;>cases e
 |b x=>cases h.1
 |s x=>cases h.1
 |a l=>obtain⟨T',fs0,e1,-⟩:=h;cases e1
 |mp l=>obtain⟨K,V,kt,vt,g,es,clock,e,-⟩:=h;cases e
theorem Wf.int{d:D}{k:IntKind}(h:Wf d (.int k)):∃n,d=.i n∧yy k n=true:=by
 obtain⟨w,F,cs,h⟩:=h;cases d with
 | i n =>
  rcases h with⟨k',e,-,hr⟩|⟨e,-⟩
  ·injection e with e;subst e;exact⟨n,rfl,hr⟩
  ·cases e
 |u=>obtain⟨E,te,e,-⟩:=h;cases e
 |r l=>obtain⟨E,te,A,cap,e,-⟩:=h;cases e
 |b x=>cases h.1
 |s x=>cases h.1
 |a l=>obtain⟨T',fs0,e1,-⟩:=h;cases e1
 |mp l=>obtain⟨K,V,kt,vt,g,es,clock,e,-⟩:=h;cases e
theorem Wf.str{d:D}(h:Wf d .str):∃x,d=.s x∧x.size≤LIM:=by
 obtain⟨w,F,cs,h⟩:=h;cases d with
 |s x=>exact⟨x,rfl,h.2.2⟩
 |u=>obtain⟨E,te,e,-⟩:=h;cases e
 |r l=>obtain⟨E,te,A,cap,e,-⟩:=h;cases e
 |i n=>rcases h with⟨k,e,-⟩|⟨e,-⟩<;>cases e
 |b x=>cases h.1
 |a l=>obtain⟨T',fs0,e1,-⟩:=h;cases e1
 |mp l=>obtain⟨K,V,kt,vt,g,es,clock,e,-⟩:=h;cases e
def WfL:List D→List Ty→Prop
 |[],fs=>fs=[]
 |d::ds,fs=>∃t ts,fs=t::ts∧Wf d t∧WfL ds ts
theorem RdF.wf{w:World}{F:Nat→Prop}:∀{ds:List D}{fs:List Ty}{cs:List Value},RdF w F ds fs cs→WfL ds fs
 |[],fs,cs,h=>h.1
 |d::ds,fs,cs,h=>by
  obtain⟨t,ts,c1,c2,e1,-,h1,h2⟩:=h;exact⟨t,ts,e1,⟨w,F,c1,h1⟩,RdF.wf h2⟩
theorem Wf.st{d:D}{S:TypeId}(h:Wf d (.st S)):∃ds fs,d=.a ds∧flds S=some fs∧WfL ds fs:=by
 obtain⟨w,F,cs,h⟩:=h;cases d with
 |a l=>
  obtain⟨T',fs0,e1,e2,h⟩:=h;injection e1 with e1;subst e1;exact⟨l,fs0,rfl,e2,RdF.wf h⟩
 |u=>obtain⟨E,te,e,-⟩:=h;cases e
 |r l=>obtain⟨E,te,A,cap,e,-⟩:=h;cases e
 |i n=>rcases h with⟨k,e,-⟩|⟨e,-⟩<;>cases e
 |b x=>cases h.1
 |s x=>cases h.1
 |mp l=>obtain⟨K,V,kt,vt,g,es,clock,e,-⟩:=h;cases e
def qun(e:Ev):List X→Bool
 |[]=>true
 |x::l=>(x.ev e).tt&&qun e l
theorem qn1{e:Ev}:∀{l:List X},qun e l=true→q45 e l
 |[],_=>trivial
 |x::l,h=>by
  simp only[qun,gnB] at h;exact⟨h.1,qn1 h.2⟩
def itf(f:List D→Option (Nat×List D))(id:Nat):Nat→List D→Option (Nat×List D)
 |0,_=>none
 |k+1,st=>match f st with
  |some (j,st')=>if uE j (id+1) then itf f id k st' else some (j,st')
  |none=>none
def qhk:Nat×List D→Nat×List D→Bool:=fun a b=>uE a.1 b.1&&D.beqs a.2 b.2
def Tree.den(S:Nat→List D→Option (List D))(fuel:Nat):Tree→List D→Option (Nat×List D)
 |.bad _,_=>none
 |.need ns t,l=>if qun (evl S l) ns then t.den S fuel l else none
 |.br x t e,l=>if(x.ev (evl S l)).tt then t.den S fuel l else e.den S fuel l
 | .amb x neg t e, l => if (x.ev (evl S l)).rs.isEmpty then (match t.den S fuel l, e.den S fuel l with
   |some a,some b=>if qhk a b then some a else none
   |_,_=>none) else if neg then t.den S fuel l else e.den S fuel l
 |.leaf xs,l=>some (0,X.evs (evl S l) xs)
 |.back id xs,l=>some (id+1,X.evs (evl S l) xs)
 |.loop id n init body,l=>itf (fun st=>body.den S fuel (l.take n++st)) id fuel (X.evs (evl S l) init)
def qx3(R:List D→Prop)(B:Nat→List D→Prop):Nat×List D→Prop
  |(0,xs)=>R xs
  |(id+1,xs)=>B id xs
theorem qn4:∀{l m:List D},D.beqs l m=true→l=m
 |[],[],_=>rfl
 |x::l,y::m,h=>by
  simp only[D.beqs,gnB] at h;rw[(D.beq_iff _ _).1 h.1,qn4 h.2]
 |[],_::_,h=>by simp[D.beqs] at h
 |_::_,[],h=>by simp[D.beqs] at h
theorem qlq{a b:Nat×List D}(h:qhk a b=true):a=b:=by
 obtain⟨i,l⟩:=a;obtain⟨j,m⟩:=b;simp only[qhk,gnB] at h;rw[gnN h.1,qn4 h.2]
theorem qiv{P:Nat→Prop}(h:∃k,P k):∃m,P m∧∀k,P k→m≤k:=by
 obtain⟨k,hk⟩:=h
 induction k using vR with
 | _ k ih =>
  by_cases hl:∃j,j<k∧P j
  ·obtain⟨j,hj,hp⟩:=hl;exact ih j hj hp
  ·exact⟨k,hk,fun j hj=>Nat.le_of_not_lt fun hlt=>hl ⟨j,hlt,hj⟩⟩
open Classical in
noncomputable def q71(P:Nat→Prop):Nat:=if h:∃k,P k then(qiv h).choose else 0
theorem qgk{P:Nat→Prop}(h:∃k,P k):P (q71 P)∧∀k,P k→q71 P≤k:=by
 unfold q71;rw[dif_pos h];exact(qiv h).choose_spec
theorem qpc{S:Nat→List D→Option (List D)}{fuel:Nat}{R:List D→Prop}:∀(t:Tree){l:List D}{B:Nat→List D→Prop}{out:Nat×List D},t.den S fuel l=some out→qx3 R B out→t.go S R l B:=by
 intro t
 induction t with
 |bad n=>intro l B out h;cases h
 | need ns t ih =>
  intro l B out h ho;unfold Tree.den at h;split at h
  ·rename_i hs;exact⟨qn1 hs,ih h ho⟩
  ·cases h
 | br x t e iht ihe =>
  intro l B out h ho;unfold Tree.den at h;refine⟨fun hx=>?_,fun hx=>?_⟩
  ·rw[if_pos hx] at h;exact iht h ho
  ·rw[if_neg (by rw[hx];decide)] at h;exact ihe h ho
 | amb x neg t e iht ihe =>
  intro l B out h ho;unfold Tree.den at h;split at h
  ·split at h
   ·rename_i a b ha hb;split at h
    ·rename_i hs;injection h with h;subst h;have:=qlq hs;subst this;exact⟨fun _=>iht ha ho,fun _=>ihe hb ho⟩
    ·cases h
   ·cases h
  ·rename_i hne;have hne':¬(x.ev (evl S l)).rs=[]:=fun e=>hne (by rw[e];rfl);split at h
   ·rename_i hn;exact⟨fun _=>iht h ho,fun hc=>absurd (hc hn) hne'⟩
   ·rename_i hn;exact⟨fun hc=>absurd (hc (by simpa using hn)) hne',fun _=>ihe h ho⟩
 |leaf xs=>
  intro l B out h ho;simp only[Tree.den,uC] at h;subst h;exact ho
 |back id xs=>
  intro l B out h ho;simp only[Tree.den,uC] at h;subst h;exact ho
 | loop id n init body ih =>
  intro l B out h ho;unfold Tree.den at h;generalize hf:(fun st=>body.den S fuel (l.take n++st))=f at h;have hfe:∀st,body.den S fuel (l.take n++st)=f st:=fun st=>by rw[←hf]
  -- more rounds answer alike
  have mono:∀k st o,itf f id k st=some o→itf f id (k+1) st=some o:=by
   intro k
   induction k with
   |zero=>intro st o h;cases h
   | succ k ihk =>
    intro st o h;unfold itf at h⊢;split at h
    ·rename_i j st' hj;split at h
     ·rename_i hb;rw[if_pos hb];exact ihk _ _ h
     ·rename_i hb;rw[if_neg hb];exact h
    ·cases h
  refine⟨fun st=>∃k o,itf f id k st=some o∧qx3 R B o,fun st=>q71 fun k=>(itf f id k st).isSome=true,⟨fuel,out,h,ho⟩,?_⟩;rintro st - ⟨k,o,hk,hoo⟩;have hex:∃k,(itf f id k st).isSome=true:=⟨k,by rw[hk];rfl⟩;obtain⟨hmin,-⟩:=qgk hex;obtain⟨o',ho'⟩:=kS.1 hmin;have up:∀a b st o,itf f id a st=some o→itf f id (a+b) st=some o:=by
   intro a b
   induction b with
   |zero=>intro st o h;exact h
   |succ b ihb=>intro st o h;exact mono _ _ _ (ihb st o h)
  have hoo':o'=o:=by
   have h1:=up _ k st o' ho';have h2:=up k (q71 fun k=>(itf f id k st).isSome=true) st o hk;rw[Nat.add_comm] at h2;exact gnI (h1.symm.trans h2)
  rw[hoo'] at ho';cases hm:q71 (fun k=>(itf f id k st).isSome=true) with
  |zero=>rw[hm] at ho';cases ho'
  | succ m =>
   rw[hm] at ho';unfold itf at ho';split at ho'
   ·rename_i j st' hj;refine ih ((hfe st).trans hj) ?_;split at ho'
    ·rename_i hb;obtain rfl:=gnN hb
     show q46 B id _ id st'
     unfold q46;rw[if_pos rfl];refine⟨⟨m,o,ho',hoo⟩,?_⟩;have hex':∃k,(itf f id k st').isSome=true:=⟨m,by rw[ho'];rfl⟩
     show _<q71 (fun k=>(itf f id k st).isSome=true)
     rw[hm];exact Nat.lt_succ_of_le ((qgk hex').2 m (by rw[ho'];rfl))
    ·rename_i hb;injection ho' with ho';subst ho';cases j with
     |zero=>exact hoo
     | succ j =>
      show q46 B id _ j st'
      unfold q46;rw[if_neg]
      ·exact hoo
      ·intro e;subst e;exact hb (uW _)
   ·cases ho'
def qq1:Option (Nat×List D)→Option (List D)
 |some (0,xs)=>some xs
 |_=>none
theorem qri{o:Option (Nat×List D)}{xs:List D}(h:qq1 o=some xs):o=some (0,xs):=by
 unfold qq1 at h;split at h
 ·injection h with h;rw[h]
 ·cases h
def qpa(tbl:Tbl)(fuel:Nat)(t:Tree):List D→Option (List D):=fun ds=>qq1 (t.den (qx tbl) fuel ds)
theorem q8p{tbl:Tbl}{fuel:Nat}{t:Tree}{ds outs:List D}(h:qpa tbl fuel t ds=some outs):t.go (qx tbl) (fun o=>o=outs) ds fun _ _=>False:=
 qpc t (qri h) rfl
def q2u(m:List D→Nat)(n:Nat)(g:List D→Option (List D)):List D→Option (List D):=fun ds=>if m ds<n then g ds else none
theorem q4a{ct:Ct}{m:List D→Nat}{g:List D→Option (List D)}(hen:∀args w,(callFunc ct.f args).run uA w=.ok (.enter ct.f args) w)(h:∀n,FOk ct (q2u m n g)→FOk ct (q2u m (n+1) g)):FOk ct g:=by
 have key:∀n,FOk ct (q2u m n g):=by
  intro n
  induction n with
  |zero=>exact⟨hen,fun A F p w vs us ds outs h=>(by simp[q2u] at h),fun _ A F p w vs us ds outs h=>(by simp[q2u] at h)⟩
  |succ n ih=>exact h n ih
 refine⟨hen,fun A F p w vs us ds outs hg f1 f2 hp hl ha=>(key (m ds+1)).call A F p w vs us ds outs ?_ f1 f2 hp hl ha,fun hk A F p w vs us ds outs hg f1 f2 hp hl ha=>(key (m ds+1)).keep hk A F p w vs us ds outs ?_ f1 f2 hp hl ha⟩<;>
 ·simp only[q2u,if_pos (vL _)];exact hg
section
section
variable{c:Cx}{s:Nat→Value}{p:qe}{w:World}
end
def q3y(P:Program)(tbl:Tbl)(ann:Ann)(lo z:Nat):List Code→Nat→St→(Nat→ResD→St→Tree)→Tree
 |[],n,σ,k=>k n .normal σ
 |x::xs,n,σ,k=>toT P tbl ann lo z x [] n σ fun n' r σ'=>match r with
  |.normal=>q3y P tbl ann lo z xs n' σ' k
  |.ret=>k n' .ret σ'
  |.exit i=>k n' (.exit i) σ'
section
variable{c:Cx}{p:qe}{w w0:World}{S0:Nat→Prop}{a:Act}{σ σ':St}{d:List Deferred}{z:Nat}{tbl:Tbl}
end
end
end Go.Proofs.Ytokkfpalbpnpeaa
