/-
 Lemmas for the claims of this seat: the program's functions walked, and plain laws.
-/
import Derived.Test.YtplbdlgmjehckacGreatDoorPkFoTellsFull21
set_option maxRecDepth 100000
set_option maxHeartbeats 25600000
namespace Go.Proofs.YtplbdlgmjehckacGreatDoor
open Go.Lib (hid)
open Go.RowKit
set_option linter.unusedVariables false
set_option linter.unusedSimpArgs false
def zT(w:World)(base b:Nat)(s:B)(v:Value)(r:Ans (List ak×B×Nat))(e:Ending)(w':World):Prop:=
 match r with
 | .bad f=>e=.returned (.tuple #[])∧Kept (oh b v) w w'∧∃at' v',bJ w' b s at' f v'
 | .ok (ns',l',at')=>∃v',e=.returned (.tuple #[])∧Kept (oh b v) w w'∧Wk w' base b s at' v' ns'∧l'=s.drop at'∧∀k,v'.ownBlock=some k→v.ownBlock=some k∨w.heap.size≤k
structure La(w2 wr:World)(b nb:Nat)(s:B)(v:Value)(nm:B)(parent:Int)(at2:Nat)(R:Ans (List bf×B×Nat))(al:List bf)(at':Nat)(av:Value):Prop where
 rd:bJ wr b s at' good v
 node:wr.heap[nb]?=some (.cells #[.string (str nm),.int .i64 parent,av,.int .i64 (at2:Int),.int .i64 0,.int .i64 0] 45 (0,0))
 own:wr.ownsRow (nb+1) 47 4 av al.length (al.map jg).flatten
 few:al.length≤8
 kept:Kept (· = b) w2 wr
 rest:∃f,(s.drop at').length<f∧iW f al (s.drop at') at'=R
def ae2(w2 wr:World)(b:Nat)(s:B)(v:Value)(R:Ans (List bf×B×Nat)):Prop:=
 ∃f at',R=.bad f∧f.err≠0∧bJ wr b s at' f v∧Kept (· = b) w2 wr
def YL(w2 wr:World)(b nb:Nat)(s:B)(v:Value)(nm:B)(parent:Int)(at2:Nat)(R:Ans (List bf×B×Nat)):Prop:=
 (ae2 w2 wr b s v R∧∃av,wr.heap[nb]?=some (.cells #[.string (str nm),.int .i64 parent,av,.int .i64 (at2:Int),.int .i64 0,.int .i64 0] 45 (0,0))) ∨
 ∃al at' av,La w2 wr b nb s v nm parent at2 R al at' av∧R=.ok (al,s.drop at',at')
theorem La.quiet{w2 wr w':World}{b nb:Nat}{s:B}{v:Value}{nm:B}{parent:Int}{at2:Nat}{R:Ans (List bf×B×Nat)}{al:List bf}{at':Nat}{av:Value}
  (h:La w2 wr b nb s v nm parent at2 R al at' av) (hq:Qt wr w'):La w2 w' b nb s v nm parent at2 R al at' av:=by
 obtain⟨n,rfl⟩:=hq;exact⟨h.rd,h.node,h.own,h.few,h.kept.drewN n,h.rest⟩
structure Oa(w2 wr:World)(b nb ab:Nat)(s:B)(v:Value)(nm:B)(parent:Int)(at2:Nat)(al:List bf)(av:Value)(nm5:B)(f:iL)(p:Nat):Prop where
 rd:bJ wr b s p f v
 node:wr.heap[nb]?=some (.cells #[.string (str nm),.int .i64 parent,av,.int .i64 (at2:Int),.int .i64 0,.int .i64 0] 45 (0,0))
 own:wr.ownsRow (nb+1) 47 4 av al.length (al.map jg).flatten
 box:wr.heap[ab]?=some (.cells #[.string (str nm5),.string ⟨#[]⟩,.int .i64 0,.int .i64 0] 47 (0,0))
 kept:Kept (· = b) w2 wr
 alive:f.err=0→f=good
 off:∀k,av.ownBlock=some k→k≠ab
 hbn:b<nb
 hna:nb<ab
 hw2:w2.heap.size=nb
theorem Oa.step{w2 wr wx:World}{b nb ab:Nat}{s:B}{v:Value}{nm:B}{parent:Int}{at2:Nat}{al:List bf}{av:Value}{nm5:B}{f f':iL}{p p':Nat}
  (h:Oa w2 wr b nb ab s v nm parent at2 al av nm5 f p) (hk:Kept (· = b) wr wx) (hr:bJ wx b s p' f' v) (ha:f'.err=0→f'=good):Oa w2 wx b nb ab s v nm parent at2 al av nm5 f' p':=by
 have h1:=h.hbn;have h2:=h.hna;have h3:=h.hw2;exact⟨hr,hk.heap (by omega) h.node,aK h.own hk (λk hk'=>by have:=(h.own.lt k hk').1;omega),hk.heap (by omega) h.box,h.kept.trans hk,ha,h.off,h1,h2,h.hw2⟩
theorem Oa.quiet{w2 wr wx:World}{b nb ab:Nat}{s:B}{v:Value}{nm:B}{parent:Int}{at2:Nat}{al:List bf}{av:Value}{nm5:B}{f:iL}{p:Nat}
  (h:Oa w2 wr b nb ab s v nm parent at2 al av nm5 f p) (hk:Kept (λ_=>False) wr wx):Oa w2 wx b nb ab s v nm parent at2 al av nm5 f p:=
 h.step (hk.mono λ_ _ hh=>hh.elim) (h.rd.kept hk id) h.alive
theorem U4:(Tryz.prog.info? 47).map (λi=>(i.zero,i.size,i.bytes))=some (some (.agg #[.string ⟨#[]⟩,.string ⟨#[]⟩,.int .i64 0,.int .i64 0]),4,48):=A.aa3
theorem U5:(Tryz.prog.info? 45).map (λi=>(i.zero,i.size,i.bytes))=some (some (.agg #[.string ⟨#[]⟩,.int .i64 0,.slice none 0 0,.int .i64 0,.int .i64 0,.int .i64 0]),6,72):=A.aa4
theorem abu{c:UInt8}(h:isVal c=true):32≤(c.toNat:Int)∧(c.toNat:Int)≤126∧((c.toNat:Int)==34)=false∧((c.toNat:Int)==60)=false∧((c.toNat:Int)==38)=false:=by
 simp[isVal]at h;simp;omega
theorem YM{c:UInt8}(h:isVal c=false):(c.toNat:Int)<32∨(32≤(c.toNat:Int)∧126<(c.toNat:Int)) ∨
  (32≤(c.toNat:Int)∧(c.toNat:Int)≤126∧((c.toNat:Int)==34)=true)∨(32≤(c.toNat:Int)∧(c.toNat:Int)≤126∧((c.toNat:Int)==34)=false∧((c.toNat:Int)==60)=true) ∨
  (32≤(c.toNat:Int)∧(c.toNat:Int)≤126∧((c.toNat:Int)==34)=false∧((c.toNat:Int)==60)=false∧((c.toNat:Int)==38)=true):=by
 simp[isVal]at h;simp;omega
theorem abv{al:List bf}{i:Nat}{x:bf}(h:al[i]?=some x)(nm:B):((al.drop i).any λa=>a.name==nm)=((x.name==nm)||((al.drop (i+1)).any λa=>a.name==nm)):=by
 rw[List.drop_eq_getElem_cons (List.getElem?_eq_some_iff.1 h).1,List.any_cons,(List.getElem?_eq_some_iff.1 h).2]
theorem U6{w:World}{base t n:Nat}{av:Value}{al:List bf}{cs:List Value}(h:w.ownsRow base t n av al.length cs):∃ao ac,av=.slice ao al.length ac:=by
 rcases h.2 with⟨rfl,hn⟩ | ⟨g,cap,cur,rfl,_⟩
 ·exact⟨none,0,by rw[hn]⟩
 exact⟨_,cap,rfl⟩
def aip(al:List bf)(lo:Nat)(s:B)(nm:B)(p:Nat):Ans (bf×B×Nat):=
 (aV [61,34] (s.drop p) p).then λx=>(aV [34] (x.1.drop (pVal x.1).length) (x.2+(pVal x.1).length)).then λy=>.ok (⟨nm,pVal x.1,(lo:Int),(y.2:Int)⟩,y.1,y.2)
theorem QV(al:List bf)(s:B)(lo:Nat):pAttr al (s.drop lo) lo=(jO (s.drop (lo+1)) (lo+1)).then λx=>
  if (al.any λa=>a.name==x.1)||al.length==8 then .bad ⟨if al.length=8 then 5 else 7,lo+1⟩ else (aV [61,34] x.2.1 x.2.2).then λx2=>(aV [34] (x2.1.drop (pVal x2.1).length) (x2.2+(pVal x2.1).length)).then λy=>.ok (⟨x.1,pVal x2.1,(lo:Int),(y.2:Int)⟩,y.1,y.2):=by
 unfold pAttr;rw[List.drop_drop]
theorem YN(items:Int→Nat→List ak→B→Nat→Ans (List ak×B×Nat))(s:B)(base b F:Nat)
  (IH:∀(parent:Int) (deep:Nat) (ns:List ak) (at_:Nat) (v:Value) (w:World),s.length-at_<F→deep≤21→Wk w base b s at_ v ns →
   Calls Tryz.prog 78 #[.pointer (some ⟨b,0,none⟩),.int .i64 parent,.int .i64 (deep:Int)] w (zT w base b s v (items parent deep ns (s.drop at_) at_)))
  (NBI:∀p d n l a,NB (items p d n l a))
  (parent:Int) (deep:Nat) (ns:List ak) (at_:Nat) (v:Value) (w:World) (hF:s.length-at_≤F) (Qq:deep≤21) (h:Wk w base b s at_ v ns) :
  Calls Tryz.prog 114 #[.pointer (some ⟨b,0,none⟩),.int .i64 parent,.int .i64 (deep:Int)] w (zT w base b s v (kT items parent deep ns (s.drop at_) at_)):=by
 obtain⟨r,HR⟩:∃r,Hid (kT items parent deep ns (s.drop at_) at_=r):=⟨_,rfl⟩;rw[HR.out];have HI:=hid IH;have H:=hid h;have alE:=hid NBI;have c1:=h.rd.c1;have c4:=h.rd.c4;have hfew:=h.few;have hb:=h.hb;have hbase:=h.hbase;obtain⟨mO,hav,how,_⟩:=h.nodes;obtain⟨vo,vc,hv⟩:∃vo vc,v=.slice vo ns.length vc:=by
  rcases how.2 with⟨rfl,hn⟩ | ⟨g,cap,cur,rfl,_⟩
  ·exact⟨none,0,by rw[hn]⟩
  exact⟨_,cap,rfl⟩
 subst hv;clear h IH NBI hav how;by_cases hd:20<deep
 ·go_enter Tryz.func114,Tryz.ntmps114
  go_wp2_with (go_at_call 80;refine(dP 4 at_ _ b s at_ _ _ H.out.rd rfl).mono ?_;rintro e w4 ⟨rfl,hk4,h4⟩)
  obtain rfl:r=.bad ⟨4,at_⟩:=by rw[←HR.out];unfold kT o9;rw[if_pos hd];rfl
  go_end0
  exact⟨rfl,hk4.mono (λk _ hk=>.inl hk),at_,_,h4⟩
 by_cases hn:ns.length=120
 ·go_enter Tryz.func114,Tryz.ntmps114
  have e8:(120:Int)≤(ns.length:Int):=by omega
  have hdn:¬(20:Int)<(deep:Int):=by omega
  have HN:=hid hn;clear hn;go_wp2_with (go_at_call 80;refine(dP 4 at_ _ b s at_ _ _ H.out.rd rfl).mono ?_;rintro e w4 ⟨rfl,hk4,h4⟩)
  obtain rfl:r=.bad ⟨4,at_⟩:=by rw[←HR.out];unfold kT o9;rw[if_neg hd,if_pos HN.out];rfl
  go_end0
  exact⟨rfl,hk4.mono (λk _ hk=>.inl hk),at_,_,h4⟩
 have e8:decide ((120:Int)≤(ns.length:Int))=false:=by simp;omega
 have hdd:decide ((20:Int)<(deep:Int))=false:=by simp;omega
 have hop:kT items parent deep ns (s.drop at_) at_=(aV [60] (s.drop at_) at_).then λ(l1,ji)=>(jO l1 ji).then λ(nm,l2,at2)=>
   (iW (l2.length+1) [] l2 at2).then λ(al,l3,at3)=>
   (aV [62] l3 at3).then λ(l4,at4)=>
   (jq items deep ns ⟨nm,parent,al,at2,0,0⟩ l4 at4).then λ(ns2,l5,at5)=>
   (aV ([60,47]++nm++[62]) l5 at5).then λ(l6,kS)=>.ok (ns2,l6,kS):=by
  unfold kT o9;rw[if_neg hd,if_neg hn];cases aV [60] (s.drop at_) at_ with
  | bad f=>rfl
  | ok x=>
   simp only[Ans.aN];cases jO x.1 x.2 with
   | bad f=>rfl
   | ok y=>
    simp only[Ans.aN];cases iW (y.2.1.length+1) [] y.2.1 y.2.2 with
    | bad f=>rfl
    | ok z=>
     simp only[Ans.aN];cases aV [62] z.2.1 z.2.2<;>rfl
 rw[hop]at HR;have S0:Hid (St r good _):=hid ⟨λhh=>absurd rfl hh,λ_=>HR.out.symm⟩;clear hop hd hn;go_enter Tryz.func114,Tryz.ntmps114
 go_wp2_with fail
 refine(kX [60] _ b s at_ good _ H.out.rd (λ_=>rfl) (by decide) (by simp)).mono ?_;rintro e w1 ⟨rfl,hk1,f1,ji,h1,hg1,hs1⟩;have hlt1:f1.err=0→at_<ji:=λhh=>by
  rcases hs1.out.2 rfl with⟨_,h⟩ | ⟨h,_⟩
  ·unfold aV at h;split at h
   ·simp only[Ans.ok.injEq,Prod.mk.injEq,List.length_cons,List.length_nil]at h;omega
   cases h
  exact absurd hh h
 have S1:=hid (S0.out.step hs1.out);have K1:=hid hk1;have H1:=hid h1;clear hk1 h1 hs1 S0;go_wp2_with fail
 refine(QU _ b s ji f1 _ H1.out hg1).mono ?_;rintro e w2 ⟨nm,rfl,hk2,f2,at2,h2,hg2,hs2⟩;have hlt2:f2.err=0→at_<at2:=λhh=>by
  by_cases hf:f1.err=0
  ·rcases hs2.out.2 hf with⟨_,hn⟩ | ⟨hn,_⟩
   ·have h3:=(Bl hn).2.2.1;have:=hlt1 hf;omega
   exact absurd hh hn
  have:=hs2.out.1 hf;rw[this]at hh;exact absurd hh hf
 clear hlt1;have S2:=hid (S1.out.step hs2.out);have K2:=hid (K1.out.trans hk2);have H2:=hid h2;have c1':=h2.c1;clear hk2 h2 hs2 S1 c1 c4;go_wp2_with fail
 by_cases hf2:f2.err=0
 ·obtain⟨hgg,apS⟩:=hg2 hf2;have anV:=hlt2 hf2;clear hlt2;subst hgg;obtain⟨R,HRR⟩:∃R,Hid (iW ((s.drop at2).length+1) [] (s.drop at2) at2=R):=⟨_,rfl⟩;obtain⟨nb,oO⟩:∃nb,Hid (w2.heap.size=nb):=⟨_,rfl⟩;have hstart:La w2 (w2.alloc (.cells #[.string (str nm),.int .i64 parent,.slice none 0 0,.int .i64 (at2:Int),.int .i64 0,.int .i64 0] 45)) b nb s
    (.slice vo ns.length vc) nm parent at2 R [] at2 (.slice none 0 0):=
   ⟨H2.out.alloc _,by rw[←oO.out];exact aI _ _,World.ownsRow_nil _ _ _ _,by simp,(Kept.refl _ _).alloc _,⟨_,by omega,HRR.out⟩⟩
  have HS:=hid hstart;have hbw:=H2.out.lt;clear hstart hg1 hg2 hf2 c1' K1 H1;refine(bK true _ _ _ _ _ _ HS.out.rd rfl).mono ?_;rintro e w3 ⟨rfl,hw3⟩;have hnb:=oO.out;rw[hnb]at hbw ⊢;rw[←hw3]at HS;clear hnb hw3;go_upto_block 0 with fail
  go_cut [] (λwx=>YL w2 wx b nb s (.slice vo ns.length vc) nm parent at2 R)
  case first=>as_aux_lemma=>
   go_wp2_with fail
   go_loopg [] (s.length-at2+1) (λk wr=>(ae2 w2 wr b s (.slice vo ns.length vc) R∧(∃av,wr.heap[nb]?=some (.cells #[.string (str nm),.int .i64 parent,av,.int .i64 (at2:Int),.int .i64 0,.int .i64 0] 45 (0,0)))∧k=0) ∨
    ∃al at' av,La w2 wr b nb s (.slice vo ns.length vc) nm parent at2 R al at' av∧k=s.length-at'+1)
   case atStart=>exact .inr ⟨_,_,_,HS.out,rfl⟩
   case round=>as_aux_lemma=>
    rcases hrel with⟨⟨f,at',hRb,hfe,hwk,hkd⟩,⟨av,Bv⟩,rfl⟩ | ⟨al,at',av,hL,hk⟩
    ·as_aux_lemma=>
     have HW:=hid hwk;have HN:=hid Bv;have HKD:=hid hkd;clear hwk Bv hkd;go_wp2_with fail
     refine(NV [32] _ _ _ _ _ _ HW.out hfe).mono ?_;rintro e w4 ⟨rfl,n4,rfl⟩
     as_aux_lemma=>
     go_wp2_with fail
     go_meet
     case rel=>exact .inl ⟨⟨f,at',hRb,hfe,HW.out.drewN n4,HKD.out.drewN n4⟩,av,HN.out⟩
    as_aux_lemma=>
    have HL:=hid hL;have hl:=hL.rd.2.1;have hm:=hL.rd.2.2;clear hL;go_wp2_with fail
    cases hm2:([32]:B).isPrefixOf (s.drop at')with
    | false=>as_aux_lemma=>
     refine(iT [32] false _ _ _ _ _ _ HL.out.rd rfl (by decide) hm2).mono ?_;rintro e w4 ⟨rfl,n4,rfl⟩;have abw:Hid (R=.ok (al,s.drop at',at')):=hid (by
      obtain⟨f,hf,hR⟩:=HL.out.rest;cases f with
      | zero=>omega
      | succ f=>rw[←hR,iW,hm2,if_neg (by simp)])
     clear hm2
     as_aux_lemma=>
     go_wp2_with fail
     go_meet
     case rel=>exact .inr ⟨al,at',av,HL.out.quiet ⟨n4,rfl⟩,abw.out⟩
    | true=>as_aux_lemma=>
     have hlt:at'<s.length:=by
      have:=(List.isPrefixOf_iff_prefix.1 hm2).length_le;rw[List.length_drop]at this;simp at this;omega
     refine(iT [32] true _ _ _ _ _ _ HL.out.rd rfl (by decide) hm2).mono ?_;rintro e w4 ⟨rfl,n4,rfl⟩;have c1:=HL.out.rd.c1;have f1:=HL.out.rd.free 1;have Cm:=hid hm2;clear hm2
     as_aux_lemma=>
     go_wp2_with fail
     refine(QU _ b s (at'+1) good (.slice vo ns.length vc) ((HL.out.rd.drewN n4).set (by omega) (by omega)) (λ_=>rfl)).mono ?_;rintro e w5 ⟨nm5,rfl,hk5,f5,p5,h5,hg5,hs5⟩;obtain⟨A,HA⟩:∃A,Hid (pAttr al (s.drop at') at'=A):=⟨_,rfl⟩;have SA:St A f5 _:=St.step (k:=λx=>if (al.any λa=>a.name==x.1)||al.length==8 then .bad ⟨if al.length=8 then 5 else 7,at'+1⟩ else (aV [61,34] x.2.1 x.2.2).then λx2=>(aV [34] (x2.1.drop (pVal x2.1).length) (x2.2+(pVal x2.1).length)).then λy=>.ok (⟨x.1,pVal x2.1,(at':Int),(y.2:Int)⟩,y.1,y.2)) ⟨λhh=>absurd rfl hh,λ_=>by rw[←HA.out];exact QV al s at'⟩ hs5.out;have S5:=hid SA;have K5:Hid (Kept (· = b) w2 w5):=hid ((((HL.out.kept.drewN n4).setCell (p:=⟨b,1,none⟩) (.inl rfl) _)).trans hk5);have H5:=hid h5;have aiq:¬nb=b:=by omega
     have air:=hk5.heap (k:=nb) aiq (eF HL.out.node ⟨b,1,none⟩ _ aiq);have ais:=hid air;have hown5:=aK HL.out.own (((Kept.refl (· = b) wr).drewN n4).setCell (p:=⟨b,1,none⟩) (.inl rfl) (.int .i64 ((at':Int)+1))) (λk hk=>by have:=(HL.out.own.lt k hk).1;omega);have K5w:=hid hk5;clear SA hs5 hk5 h5 air c1 f1;obtain⟨ab,HAB⟩:∃ab,Hid (w5.heap.size=ab):=⟨_,rfl⟩;obtain⟨w6,HW6⟩:∃x,Hid (w5.alloc (.cells #[.string (str nm5),.string ⟨#[]⟩,.int .i64 0,.int .i64 0] 47 (0,0))=x):=⟨_,rfl⟩;obtain⟨ao,ac,rfl⟩:=U6 HL.out.own;have U7:w5.ownsRow (nb+1) 47 4 (.slice ao al.length ac) al.length (al.map jg).flatten:=aK hown5 K5w.out (λk hk=>by have:=(HL.out.own.lt k hk).1;omega);have hrr:Oa w2 w6 b nb ab s (.slice vo ns.length vc) nm parent at2 al (.slice ao al.length ac) nm5 f5 p5:=by
      rw[←HW6.out];have hnl:=gW ais.out;exact⟨H5.out.alloc _,iw ais.out _,U7.alloc _,by rw[←HAB.out];exact aI _ _,K5.out.alloc _,λhh=>(hg5 hh).1,λk hk=>by have:=(U7.lt k hk).2;have:=HAB.out;omega,hbw,by have:=HAB.out;omega,oO.out⟩
     have alF:=hg5;obtain⟨K,HK⟩:∃K:Ans (bf×B×Nat),Hid (((aV [61,34] (s.drop p5) p5).then λx2=>(aV [34] (x2.1.drop (pVal x2.1).length) (x2.2+(pVal x2.1).length)).then λy=>.ok ((⟨nm5,pVal x2.1,(at':Int),(y.2:Int)⟩:bf),y.1,y.2))=K):=⟨_,rfl⟩;have S6:Hid (St A f5 (if (al.any λa=>a.name==nm5)||al.length==8 then .bad ⟨if al.length=8 then 5 else 7,at'+1⟩ else K)):=hid (by rw[←HK.out];exact S5.out);have x2:=ah hrr.node 2 rfl;have abx:=hid hrr;have h8:=HL.out.few;clear S5 hrr hown5 U7 hg5
     as_aux_lemma=>
     go_upto_region 11 with fail
     rw[HW6.out,HAB.out];go_cut [74] (λc wx=>∃x:Bool,c=.bool x∧wx=w6∧(x=true→f5.err=0∧al.length=8)∧(x=false→f5.err=0→al.length<8))
     case first=>as_aux_lemma=>
      go_wp2_with fail
      refine(NU _ b s p5 f5 _ abx.out.rd).mono ?_;rintro e w7 ⟨rfl,hw7⟩;rw[hw7];clear hw7;by_cases hf:f5.err=0
      ·as_aux_lemma=>
       have hb5:((f5.err:Int)==0)=true:=by simp[hf]
       rw[hb5];by_cases h88:al.length=8
       ·as_aux_lemma=>
        have e8:decide ((8:Int)≤(al.length:Int))=true:=by simp;omega
        have HN:=hid h88;clear h88;go_wp2_with fail
        go_meet
        case rel=>exact⟨true,rfl,rfl,λ_=>⟨hf,HN.out⟩,λhh=>by cases hh⟩
       as_aux_lemma=>
       have e8:decide ((8:Int)≤(al.length:Int))=false:=by simp;omega
       go_wp2_with fail
       go_meet
       case rel=>exact⟨false,rfl,rfl,λhh=>(by cases hh),λ_ _=>by omega⟩
      as_aux_lemma=>
      have hb5:((f5.err:Int)==0)=false:=by simp;omega
      rw[hb5];go_wp2_with fail
      go_meet
      case rel=>exact⟨false,rfl,rfl,λhh=>(by cases hh),λ_ hh=>absurd hh hf⟩
     obtain⟨x,rfl,rfl,hx1,hx2⟩:=hcut
     as_aux_lemma=>
     go_upto_if 74 with fail
     go_cut [] (λwx=>∃f,Hid (Oa w2 wx b nb ab s (.slice vo ns.length vc) nm parent at2 al (.slice ao al.length ac) nm5 f p5)∧Hid (St A f (if (al.any λa=>a.name==nm5) then .bad ⟨7,at'+1⟩ else K))∧(f.err=0→al.length<8∧nm5.length≤20))
     case first=>as_aux_lemma=>
      cases x with
      | true=>as_aux_lemma=>
       obtain⟨hf,h88⟩:=hx1 rfl;have HN:=hid h88;clear h88 hx1 hx2;go_wp2_with (go_at_call 80;refine(dP 5 (at'+1) _ b s p5 f5 _ abx.out.rd hf).mono ?_;rintro e w8 ⟨rfl,hk8,YO⟩)
       go_meet
       case rel=>
        refine⟨⟨5,at'+1⟩,hid (abx.out.step hk8 YO (λhh=>absurd hh (by simp))),hid ⟨λ_=>?_,λhh=>absurd hh (by simp)⟩,λhh=>absurd hh (by simp)⟩;rw[S6.out.2 hf,HN.out];simp
      | false=>as_aux_lemma=>
       have h8':=hx2 rfl;clear hx1 hx2;go_wp2_with fail
       go_meet
       case rel=>
        refine⟨f5,abx,hid ⟨S6.out.1,λhf=>?_⟩,λhf=>⟨h8' hf,(alF hf).2⟩⟩;rw[S6.out.2 hf];have h9:=h8' hf;have:(al.length==8)=false:=by simp;omega
        have h10:¬al.length=8:=by omega
        simp only[this,Bool.or_false,if_neg h10]
     case rest=>as_aux_lemma=>
      obtain⟨f6,agf,S7,h86⟩:=hcut;have x2:=ah agf.out.node 2 rfl;clear abx S6 HW6 HAB;go_wp2_with fail
      go_loopw [81] (λc wy=>∃(i:Nat) (f:iL),i≤al.length∧c=.int .i64 (i:Int)∧Hid (Oa w2 wy b nb ab s (.slice vo ns.length vc) nm parent at2 al (.slice ao al.length ac) nm5 f p5)∧Hid (St A f (if ((al.drop i).any λa=>a.name==nm5) then .bad ⟨7,at'+1⟩ else K))∧(f.err=0→al.length<8∧nm5.length≤20)) (λc _=>al.length-(intOf c).toNat)
      case atStart=>exact⟨0,f6,by omega,rfl,agf,S7,h86⟩
      case round=>as_aux_lemma=>
       obtain⟨i,f,hi,rfl,HRI,SI,h8i⟩:=hrel;obtain⟨wy,hwy⟩:∃x,x=wr:=⟨_,rfl⟩;subst hwy;by_cases hlt:i<al.length
       ·as_aux_lemma=>
        have hx:=List.getElem?_eq_getElem hlt;generalize hgx:al[i]=x at hx;clear hgx;have hany:=abv hx nm5;obtain⟨xb,apU,hxa,g0,g1,g2,g3⟩:=bZ.at (ny HRI.out.own) hx;subst hxa;have aiu:=hid hany;clear hany hx
        as_aux_lemma=>
        go_upto_region 16 with fail
        obtain⟨wz,WT⟩:∃z,Hid (wy.alloc (.cells #[.string (str x.name),.string (str x.val),.int .i64 x.lo,.int .i64 x.hi] 47 (0,0))=z):=⟨_,rfl⟩;have HRZ:=hid (HRI.out.quiet (wx:=wz) (by rw[←WT.out];exact(Kept.refl _ _).alloc _));have z0:wz.cell? ⟨wy.heap.size,0,none⟩=some (.string (str x.name)):=by rw[←WT.out];exact ah (aI wy _) 0 rfl
        have z1:=ah HRZ.out.box 0 rfl;rw[WT.out];clear g0 g1 g2 g3
        as_aux_lemma=>
        go_wp2_with fail
        refine(NU _ b s p5 f _ HRZ.out.rd).mono ?_;rintro e w8 ⟨rfl,hw8⟩;rw[hw8];clear hw8;by_cases hf:f.err=0
        ·as_aux_lemma=>
         have hb5:((f.err:Int)==0)=true:=by simp[hf]
         rw[hb5];cases hxn:(x.name==nm5)with
         | true=>as_aux_lemma=>
          go_wp2_with (go_at_call 80;refine(dP 7 (at'+1) _ b s p5 f _ HRZ.out.rd hf).mono ?_;rintro e w9 ⟨rfl,hk9,vY⟩)
          go_roundw
          case measure=>simp[intOf];omega
          case rel=>
           refine⟨i+1,⟨7,at'+1⟩,by omega,by go_num,hid (HRZ.out.step hk9 vY (λhh=>absurd hh (by simp))),hid ⟨λ_=>?_,λhh=>absurd hh (by simp)⟩,λhh=>absurd hh (by simp)⟩;rw[SI.out.2 hf,aiu.out,hxn,Bool.true_or,if_pos rfl]
         | false=>as_aux_lemma=>
          go_wp2_with fail
          go_roundw
          case measure=>simp[intOf];omega
          case rel=>
           refine⟨i+1,f,by omega,by go_num,HRZ,hid ⟨SI.out.1,λhf'=>?_⟩,h8i⟩;rw[SI.out.2 hf',aiu.out,hxn,Bool.false_or]
        as_aux_lemma=>
        have hb5:((f.err:Int)==0)=false:=by simp;omega
        rw[hb5];go_wp2_with fail
        go_roundw
        case measure=>simp[intOf];omega
        case rel=>exact⟨i+1,f,by omega,by go_num,HRZ,hid ⟨SI.out.1,λhh=>absurd hh hf⟩,h8i⟩
       as_aux_lemma=>
       obtain rfl:i=al.length:=by omega
       have adP:=HRI;have SK:Hid (St A f K):=hid (by
        have:=SI.out;rw[List.drop_length]at this;exact this)
       clear S7 agf SI HRI x2 h86
       as_aux_lemma=>
       go_wp2_with fail
       refine(kX [61,34] _ b s p5 f _ adP.out.rd adP.out.alive (by decide) (by simp)).mono ?_;rintro e w7 ⟨rfl,jD,f7,p7,PY,QN,hs7⟩;have Js:=hid (adP.out.step jD PY QN);have S7:=hid (St.step (by rw[HK.out];exact SK.out) hs7.out);have h87:f7.err=0→al.length<8∧nm5.length≤20:=λhh=>by
        by_cases hf:f.err=0
        ·exact h8i hf
        have:=hs7.out.1 hf;rw[this]at hh;exact absurd hh hf
       have hl7:=PY.2.1;have c07:=PY.c0;have c17:=PY.c1;clear jD PY QN hs7 SK adP;obtain⟨nv,HNV⟩:∃nv,Hid ((pVal (s.drop p7)).length=nv):=⟨_,rfl⟩;have hnv:p7+nv≤s.length:=by
        have:=fJ isVal (s.drop p7);have h2:(pVal (s.drop p7)).length=nv:=HNV.out;unfold pVal at h2;rw[List.length_drop]at this;omega
       have Gs:Hid (∀j,j<nv→∃h:p7+j<s.length,isVal (s[p7+j]'h)=true):=hid λj hj=>by
        have h2:(pVal (s.drop p7)).length=nv:=HNV.out;obtain⟨h3,h4⟩:=pX isVal (s.drop p7) j (by unfold pVal at h2;omega);refine⟨by rw[List.length_drop]at h3;omega,?_⟩;rw[uM s p7 j h3]at h4;exact h4
       have GK:Hid ((h:p7+nv<s.length)→isVal (s[p7+nv]'h)=false):=hid λhlt=>by
        have h2:(pVal (s.drop p7)).length=nv:=HNV.out;unfold pVal at h2;have h5:((s.drop p7).takeWhile isVal).length<(s.drop p7).length:=by rw[List.length_drop];omega
        have h6:=jE isVal (s.drop p7) h5;rw[uM s p7 _ h5]at h6;have:∀k,(hk:k=nv)→(h:p7+k<s.length)→isVal (s[p7+k]'h)=false→isVal (s[p7+nv]'(by omega))=false:=by
         intro k hk;subst hk;exact λ_ h=>h
        exact this _ h2 _ h6
       as_aux_lemma=>
       go_upto_block 4 with fail
       go_cut [13] (λk wx=>wx=w7∧∃e:Nat,k=.int .i64 (e:Int)∧(f7.err=0→e=p7+nv))
       case first=>as_aux_lemma=>
        go_wp2_with fail
        go_loopw [13] (λk wx=>wx=w7∧∃j:Nat,j≤nv∧k=.int .i64 ((p7+j:Nat):Int)) (λk _=>s.length-(intOf k).toNat)
        case atStart=>exact⟨rfl,0,by omega,rfl⟩
        case round=>as_aux_lemma=>
         obtain⟨rfl,j,hj,rfl⟩:=hrel;go_wp2_with fail
         refine(NU _ b s p7 f7 _ Js.out.rd).mono ?_;rintro e w8 ⟨rfl,hw8⟩;rw[hw8];clear hw8;by_cases hf:f7.err=0
         ·as_aux_lemma=>
          have hb5:((f7.err:Int)==0)=true:=by simp[hf]
          rw[hb5];by_cases hlt:j<nv
          ·as_aux_lemma=>
           obtain⟨h3,h2⟩:=Gs.out j hlt;obtain⟨g1,g2,g3,g4,g5⟩:=abu h2;clear h2;go_wp2_with fail
           go_roundw
           case rel=>exact⟨trivial,j+1,by omega,by go_num⟩
           case measure=>simp[intOf];omega
          as_aux_lemma=>
          obtain rfl:j=nv:=by omega
          by_cases h3:p7+j<s.length
          ·as_aux_lemma=>
           rcases YM (GK.out h3)with g1 | ⟨g1,g2⟩ | ⟨g1,g2,g3⟩ | ⟨g1,g2,g3,g4⟩ | ⟨g1,g2,g3,g4,g5⟩
           all_goals
            go_wp2_with fail
            go_meet
            case rel=>exact⟨rfl,_,rfl,λ_=>rfl⟩
          as_aux_lemma=>
          go_wp2_with fail
          go_meet
          case rel=>exact⟨rfl,_,rfl,λ_=>rfl⟩
         as_aux_lemma=>
         have hb5:((f7.err:Int)==0)=false:=by simp;omega
         rw[hb5];go_wp2_with fail
         go_meet
         case rel=>exact⟨rfl,_,rfl,λhh=>absurd hh hf⟩
       case rest=>as_aux_lemma=>
        obtain⟨rfl,e,rfl,he⟩:=hcut;clear Gs GK;by_cases hf:f7.err=0
        ·as_aux_lemma=>
         obtain rfl:=he hf;obtain rfl:=Js.out.alive hf;obtain⟨Jp,apW⟩:=h87 rfl;have S8:=S7.out.2 rfl;have hna:=Js.out.hna;have hbn:=Js.out.hbn;have hba:¬b=ab:=by omega
         have hab:¬ab=b:=by omega
         have c0:=Js.out.rd.c0;have c1:=Js.out.rd.c1;have f1:=Js.out.rd.free 1;have t1:=ah Js.out.box 1 rfl;have u1:=aF Js.out.box 1
         as_aux_lemma=>
         go_wp2_with (go_at_call 79;refine(bK true _ _ _ _ _ _ Js.out.rd rfl).mono ?_;rintro e w8 ⟨rfl,rfl⟩)
         go_region
         go_wp2_with fail
         have hval:(s.drop p7).take nv=pVal (s.drop p7):=by rw[←HNV.out];exact takeWhile_take isVal _
         obtain⟨wv,HWV⟩:∃z,Hid (((w8.setCell ⟨ab,1,none⟩ (.string (str ((s.drop p7).take nv)))).setCell ⟨b,1,none⟩ (.int .i64 ((p7:Int)+(nv:Int)))).drew=z):=⟨_,rfl⟩;have h2b:=Js.out.hw2;have YO:bJ wv b s (p7+nv) good (.slice vo ns.length vc):=by
          rw[←HWV.out];exact((Js.out.rd.kept (S:=(· = ab)) ((Kept.refl (· = ab) w8).setCell (p:=⟨ab,1,none⟩) (.inl rfl) _) hba).set (by simp) hnv).drewN 1
         have hx8:wv.heap[ab]?=some (.cells #[.string (str nm5),.string (str (pVal (s.drop p7))),.int .i64 0,.int .i64 0] 47 (0,0)):=by
          rw[←HWV.out,hval];exact eF (aW Js.out.box 1 _) _ _ hab
         have hk8:Kept (λk=>k=b∨k=ab) w8 wv:=by
          rw[←HWV.out];exact(((Kept.refl _ w8).setCell (p:=⟨ab,1,none⟩) (.inl (.inr rfl)) _).setCell (p:=⟨b,1,none⟩) (.inl (.inl rfl)) _).drew
         have OG:=aK Js.out.own hk8 (λk hk hs=>by
          rcases hs with hs | hs
          ·have:=(Js.out.own.lt k hk).1;omega
          exact Js.out.off k hk hs)
         have Jq:=hk8.heap (k:=nb) (by omega) Js.out.node;have hk2:Kept (· = b) w2 wv:=Js.out.kept.trans' hk8 (λk hk hs=>by rcases hs with hs | hs<;>omega);rw[HWV.out];refine(kX [34] _ b s (p7+nv) good _ YO (λ_=>rfl) (by decide) (by simp)).mono ?_;rintro e w9 ⟨rfl,hk9,f9,p9,vY,Tt,hs9⟩;have S9:Hid (St A f9 (.ok ((⟨nm5,pVal (s.drop p7),(at':Int),(p9:Int)⟩:bf),s.drop p9,p9))):=hid (St.step (A:=A) (f:=good) (k:=λy=>.ok ((⟨nm5,pVal (s.drop p7),(at':Int),(y.2:Int)⟩:bf),y.1,y.2)) ⟨λhh=>absurd rfl hh,λ_=>by rw[S8,←HNV.out,List.drop_drop]⟩ hs9.out);have hn9:=hk9.heap (k:=nb) (by omega) Jq;have ho9:=aK OG hk9 (λk hk=>by have:=(OG.lt k hk).1;omega);have U8:=hk9.heap (k:=ab) hab hx8;have K9:=hid (hk2.trans hk9);have H9:=hid vY;have HO9:=hid ho9;have HN9:=hid hn9;have HX9:=hid U8;have hoff:=Js.out.off;have c1:=vY.c1;have x0:=ah U8 0 rfl;have x1:=ah U8 1 rfl;have x2:=ah U8 2 rfl;have x3:=ah U8 3 rfl;have y2:=aF U8 2;have y3:=aF U8 3;have z2:=ah hn9 2 rfl;have u2:=aF hn9 2;have apZ:=gW U8;have ap0:=vY.2.1;have ap1:=vY.2.2;clear YO hx8 hk8 OG Jq hk2 hk9 vY hs9 hn9 ho9 U8 S8 c0 f1 t1 u1 c07 c17 HWV;have hna':¬nb=ab:=by omega
         have ap2:¬ab=nb:=by omega
         as_aux_lemma=>
         go_upto_region 30 with fail
         obtain⟨wq,DF⟩:∃z,Hid ((w9.setCell ⟨ab,2,none⟩ (.int .i64 (at':Int))).setCell ⟨ab,3,none⟩ (.int .i64 (p9:Int))=z):=⟨_,rfl⟩;have hkq:Kept (· = ab) w9 wq:=by
          rw[←DF.out];exact((Kept.refl (· = ab) w9).setCell (p:=⟨ab,2,none⟩) (.inl rfl) _).setCell (p:=⟨ab,3,none⟩) (.inl rfl) _
         have hxq:wq.heap[ab]?=some (.cells #[.string (str nm5),.string (str (pVal (s.drop p7))),.int .i64 (at':Int),.int .i64 (p9:Int)] 47 (0,0)):=by
          rw[←DF.out];exact aW (aW HX9.out 2 _) 3 _
         have hoq:wq.ownsRow (nb+1) 47 4 (.slice ao al.length ac) al.length (al.map jg).flatten:=aK HO9.out hkq hoff;have hnq:=hkq.heap hna' HN9.out;have hrq:=H9.out.kept hkq hba;have hkw:Kept (· = b) w2 wq:=K9.out.trans' hkq (λk hk hs=>by omega);clear x0 x1 x2 x3 y2 y3 z2 u2 c1;have x0:=ah hxq 0 rfl;have x1:=ah hxq 1 rfl;have x2:=ah hxq 2 rfl;have x3:=ah hxq 3 rfl;have z2:=ah hnq 2 rfl;have u2:=aF hnq 2;have hlq:=gW hnq;have HOQ:=hid hoq;have HNQ:=hid hnq;have HRQ:=hid hrq;have qm:=hid hkw;obtain⟨i0,hi0,hz0,hz1,hz2⟩:=info_parts U4;have Tq:Hid (some nb≠(Value.slice ao al.length ac).ownBlock):=hid λhx=>by
          have:=(HOQ.out.lt nb hx.symm).1;omega
         have z2a:∀o,(wq.alloc o).cell? ⟨nb,2,none⟩=some (.slice ao al.length ac):=λo=>dX z2 o
         have u2a:∀o,(wq.alloc o).frozen? ⟨nb,2,none⟩=false:=λo=>jC (by show nb<_;omega) u2 o
         rw[DF.out];clear hxq hoq hnq hrq hkq hkw
         as_aux_lemma=>
         go_wp2_with (at_builtin;refine wpList_append_lies _ rfl _ _ _ rfl (nb+1) 47 i0 _ 4 48 Tryz.underlying43 hi0 hz0 hz1 hz2 rfl (by omega) _ al.length _ (by rfl) (HOQ.out.alloc _) ⟨wq.heap.size,0,none⟩ 1 1 [.string (str nm5),.string (str (pVal (s.drop p7))),.int .i64 (at':Int),.int .i64 (p9:Int)] (by rfl) (by rfl) (World.news_of_block (cs:=#[.string (str nm5),.string (str (pVal (s.drop p7))),.int .i64 (at':Int),.int .i64 (p9:Int)]) (t:=47) (fr:=(0,0)) (heap_alloc_new wq _)) (by simp[Value.oneCell']) (by omega) (by unfold maxLen;omega) (by omega) (by simp;omega) (wq.heap.size+1) (by simp) ?_;intro gg cap Tv aby tq aix anX;have x11:Tv.cell? ⟨nb,2,none⟩=some (.slice ao al.length ac):=(tq.cell_far _ (by simp;omega) Tq.out).trans (z2a _);have y11:Tv.frozen? ⟨nb,2,none⟩=false:=(tq.frozen_far _ (by simp;omega) Tq.out).trans (u2a _))
         have yH:Kept (λk=>(Value.slice ao al.length ac).ownBlock=some k) wq Tv:=((Kept.refl _ wq).alloc _).grown ⟨tq.os,tq.tape,tq.output,tq.size,tq.block⟩ (λk hk=>.inl hk);have hob:∀k,(Value.slice ao al.length ac).ownBlock=some k→nb+1≤k:=λk hk=>(HOQ.out.lt k hk).1
         have U9:(Tv.setCell ⟨nb,2,none⟩ (.slice (some ⟨gg,0,none⟩) (al.length+1) cap)).heap[nb]?=some (.cells #[.string (str nm),.int .i64 parent,.slice (some ⟨gg,0,none⟩) (al.length+1) cap,.int .i64 (at2:Int),.int .i64 0,.int .i64 0] 45 (0,0)):=by
          have:=aW (yH.heap (λhs=>by have:=hob nb hs;omega) HNQ.out) 2 (.slice (some ⟨gg,0,none⟩) (al.length+1) cap);simpa using this
         have aiy:bJ (Tv.setCell ⟨nb,2,none⟩ (.slice (some ⟨gg,0,none⟩) (al.length+1) cap)) b s p9 f9 (.slice vo ns.length vc):=
          (HRQ.out.kept yH (λhs=>by have:=hob b hs;omega)).kept (S:=(· = nb)) ((Kept.refl (· = nb) Tv).setCell (p:=⟨nb,2,none⟩) (.inl rfl) _) (by omega)
         have hk12:Kept (· = b) w2 (Tv.setCell ⟨nb,2,none⟩ (.slice (some ⟨gg,0,none⟩) (al.length+1) cap)):=
          (qm.out.trans' yH (λk hk hs=>by have:=hob k hs;omega)).setCell (p:=⟨nb,2,none⟩) (.inr (by show w2.heap.size≤nb;omega)) _
         have YP:=ownsRow_setCell_below aby (a:=⟨nb,2,none⟩) (by show nb<nb+1;omega) (.slice (some ⟨gg,0,none⟩) (al.length+1) cap);have aiz:=hid U9;have aiA:=hid aiy;have aiB:=hid hk12;have alI:=hid YP;clear yH U9 aiy hk12 YP tq aby x11 y11 aix;obtain⟨g,hg,hR⟩:=HL.out.rest;cases g with
         | zero=>omega
         | succ g=>as_aux_lemma=>
          unfold iW at hR;rw[Cm.out,if_pos rfl,HA.out]at hR;by_cases hf9:f9.err=0
          ·as_aux_lemma=>
           obtain rfl:=Tt hf9;have hA:=S9.out.2 rfl;have hpos:=yj (HA.out.trans hA);rw[hA]at hR;have UF:Hid (iW g (al++[⟨nm5,pVal (s.drop p7),(at':Int),(p9:Int)⟩]) (s.drop p9) p9=R):=hid hR;clear hR hA;go_roundg (s.length-p9+1)
           case measure=>omega
           case rel=>
            refine .inr ⟨al++[⟨nm5,pVal (s.drop p7),(at':Int),(p9:Int)⟩],p9,_,⟨aiA.out,aiz.out,?_,by simp;omega,aiB.out,g,by rw[List.length_drop]at hg ⊢;omega,UF.out⟩,rfl⟩;have:=alI.out;simpa [jg] using this
          as_aux_lemma=>
          have hA:=S9.out.1 hf9;rw[hA]at hR;have UF:=hid hR;clear hR hA;go_roundg 0
          case measure=>omega
          case rel=>exact .inl ⟨⟨f9,p9,UF.out.symm,hf9,aiA.out,aiB.out⟩,⟨_,aiz.out⟩,rfl⟩
        as_aux_lemma=>
        have hfe:((f7.err:Int)==0)=false:=by simp;omega
        have hrb:r=.bad f7:=by
         have h1:=S7.out.1 hf;obtain⟨g,hg,hR⟩:=HL.out.rest;cases g with
         | zero=>omega
         | succ g=>
          unfold iW at hR;rw[Cm.out,if_pos rfl,HA.out,h1]at hR;rw[S2.out.2 rfl,HRR.out,←hR];rfl
        subst hrb
        as_aux_lemma=>
        go_wp2_with (go_at_call 79;refine(bK false _ _ _ _ _ _ Js.out.rd hfe).mono ?_;rintro e w8 ⟨rfl,rfl⟩)
        go_end0
        exact⟨rfl,(K2.out.trans Js.out.kept).mono (λk _ hk=>.inl hk),_,_,Js.out.rd⟩
  case rest=>
   have hrR:r=R.then λz=>(aV [62] z.2.1 z.2.2).then λu=>(jq items deep ns ⟨nm,parent,z.1,at2,0,0⟩ u.1 u.2).then λx=>(aV ([60,47]++nm++[62]) x.2.1 x.2.2).then λy=>.ok (x.1,y.1,y.2):=by rw[←HRR.out];exact S2.out.2 rfl
   rcases hcut with⟨⟨f,at',hRb,hfe,hwk,hkd⟩,av,Bv⟩ | ⟨al,at',av,hL,abw⟩
   ·have abz:((f.err:Int)==0)=false:=by simp;omega
    have hrb:r=.bad f:=by rw[hrR,hRb];rfl
    clear hrR hRb;go_wp2_with fail
    refine(KW [62] _ _ _ _ _ _ hwk hfe (by decide)).mono ?_;rintro e w4 ⟨rfl,n4,rfl⟩;subst hrb;go_wp2_with (go_at_call 79;refine(bK false _ _ _ _ _ _ (hwk.drewN n4) abz).mono ?_;rintro e w8 ⟨rfl,rfl⟩)
    go_end0
    exact⟨rfl,((K2.out.trans hkd).drewN n4).mono (λk _ hk=>.inl hk),_,_,hwk.drewN n4⟩
   have HL:=hid hL;have S5:Hid (St r good ((aV [62] (s.drop at') at').then λu=>(jq items deep ns ⟨nm,parent,al,at2,0,0⟩ u.1 u.2).then λx=>(aV ([60,47]++nm++[62]) x.2.1 x.2.2).then λy=>.ok (x.1,y.1,y.2))):=hid ⟨λhh=>absurd rfl hh,λ_=>by rw[hrR,abw];rfl⟩;have hge:at2≤at':=zM _ _ _ _ _ _ _ (HRR.out.trans abw);clear hL abw hrR;go_wp2_with fail
   refine(kX [62] _ b s at' good _ HL.out.rd (λ_=>rfl) (by decide) (by simp)).mono ?_;rintro e w6 ⟨rfl,hk6,f6,kS,OL,Dy,hs6⟩;have S6:=hid (S5.out.step hs6.out);have uh:¬nb=b:=by omega
   by_cases Lc:f6.err=0
   ·obtain rfl:=Dy Lc;have hE:=S6.out.2 rfl;have h6:Wk w6 base b s kS (.slice vo ns.length vc) ns:=(H.out.kept ((K2.out.trans HL.out.kept).trans hk6) OL);have yV:=hk6.heap uh HL.out.node;have CG:=aK HL.out.own hk6 (λk hk=>by have:=(HL.out.own.lt k hk).1;omega);have c4:=h6.rd.c4;have f4:=h6.rd.free 4;have z0:=ah yV 0 rfl;have z1:=ah yV 1 rfl;have z2:=ah yV 2 rfl;have z3:=ah yV 3 rfl;have z4:=ah yV 4 rfl;have z5:=ah yV 5 rfl;obtain⟨ali,aa7,zJ,ES⟩:=h6.nodes;have alj:=h6.hbase;have aaW:at'<kS:=by
     rcases hs6.out.2 rfl with⟨_,h⟩ | ⟨h,_⟩
     ·unfold aV at h;split at h
      ·simp only[Ans.ok.injEq,Prod.mk.injEq,List.length_cons,List.length_nil]at h;omega
      cases h
     exact absurd rfl h
    have H6:=hid h6;have Yx:=hid hE;have HN6:=hid yV;have HO6:=hid CG;have Ec:=hid aa7;have HAT:=hid ES;have Fh:=hid ((K2.out.trans HL.out.kept).trans hk6);have Qr:=OL.lt;clear h6 hE yV CG hk6 OL aa7 ES hs6 Dy S6 S5 Lc;obtain⟨j0,hj0,hy0,hy1,hy2⟩:=info_parts U5;have aa8:ns.length+1≤120:=by
     simp at e8;omega
    have h63:ns.length+1≤maxLen:=by unfold maxLen;omega
    have aa9:av.oneCell'=true:=by
     rcases HO6.out.2 with⟨rfl,_⟩ | ⟨g,cap,cur,rfl,_⟩<;>rfl
    have hone:∀u∈bV ⟨nm,parent,al,at2,0,0⟩ av,u.oneCell'=true:=by
     intro u hu;simp only[bV,List.mem_cons,List.not_mem_nil,or_false]at hu;rcases hu with rfl | rfl | rfl | rfl | rfl | rfl<;>first | exact aa9 | rfl
    have hvb:∀k,(Value.slice vo ns.length vc).ownBlock=some k→k≠b:=λk hk=>by
     have:=(zJ.lt k hk).1;omega
    have aa':some b≠(Value.slice vo ns.length vc).ownBlock:=λhx=>hvb b hx.symm rfl
    have HVB:=hid hvb;have abb:=hid aa';clear hvb aa';have UC:∀k,(Value.slice vo ns.length vc).ownBlock=some k→k<nb:=λk hk=>by
     obtain⟨_,_,Na,_⟩:=H.out.nodes;have h1:=(Na.lt k hk).2;have h2:=K2.out.size;have h3:=oO.out;omega
    have hao:∀k,av.ownBlock=some k→k≠b∧(Value.slice vo ns.length vc).ownBlock≠some k∧k<w6.heap.size:=λk hk=>by
     have hl:=HO6.out.lt k hk;refine⟨by omega,λhe=>?_,hl.2⟩;have:=UC k he;omega
    have HAO:=hid hao;have HVN:=hid UC;have HHB:=oO.out;clear hao UC;go_wp2_with (go_at_call 79;refine(bK true _ _ _ _ _ _ H6.out.rd rfl).mono ?_;rintro e w8 ⟨rfl,rfl⟩)
    go_cut [] (λwx=>∃gg cap,Wk wx base b s kS (.slice (some ⟨gg,0,none⟩) (ns.length+1) cap) (ns++[⟨nm,parent,al,at2,0,0⟩])∧Kept (oh b (.slice vo ns.length vc)) w8 wx ∧
     ((Value.slice vo ns.length vc).ownBlock=some gg∨w8.heap.size≤gg))
    case first=>
     go_region_law (refine step_append_lies _ (by rfl) _ _ _ (by rfl) base 45 j0 _ 6 72 Tryz.underlying22 hj0 hy0 hy1 hy2 rfl (by omega) (.slice vo ns.length vc) ns.length _ (by rfl) ((zJ.alloc _).drew) ⟨w8.heap.size,0,none⟩ 1 1 (bV ⟨nm,parent,al,at2,0,0⟩ av) (by rfl) (by rfl) (World.news_of_block (cs:=#[.string (str nm),.int .i64 parent,av,.int .i64 (at2:Int),.int .i64 0,.int .i64 0]) (t:=45) (fr:=(0,0)) (heap_alloc_new w8 _)) hone (by omega) h63 (by omega) (by simp;omega) (w8.heap.size+1) (by simp) ?_;intro gg cap w7 abd nH abe ah1;have d2:=(nH.cell_far ⟨b,4,none⟩ (by simp;omega) abb.out).trans (dX c4 _);have g2:=(nH.frozen_far ⟨b,4,none⟩ (by simp;omega) abb.out).trans (jC (by show b<_;omega) f4 _))
     all_goals
      go_wp2_with fail
      go_meet
      case rel=>
       obtain⟨h8,hk8⟩:=adO (n:=⟨nm,parent,al,at2,0,0⟩) (av:=av) H6.out aa8 Ec.out HAT.out (ny HO6.out) HAO.out abd ⟨nH.os,nH.tape,nH.output,nH.size,nH.block⟩ HVB.out
        (abe.imp id (λh=>by omega))
       exact⟨gg,cap,h8,hk8,abe.imp id (λh=>by omega)⟩
    case rest=>as_aux_lemma=>
     obtain⟨gg,cap,h8,hk8,hgg⟩:=hcut;have hnr:¬oh b (.slice vo ns.length vc) nb:=λhs=>by
      rcases hs with hs | hs
      ·exact uh hs
      have:=HVN.out nb hs;omega
     have Jq:=hk8.heap hnr HN6.out;have hgv:∀k,(Value.slice (some ⟨gg,0,none⟩) (ns.length+1) cap).ownBlock=some k→(Value.slice vo ns.length vc).ownBlock=some k∨w.heap.size≤k:=λk hk=>by
      simp only[Value.ownBlock,Option.some.injEq]at hk;subst hk;rcases hgg with h | h
      ·exact .inl h
      have:=Fh.out.size;exact .inr (by omega)
     have q0:=ah Jq 0 rfl;have H8:=hid h8;have HN8:=hid Jq;have Au:=hid ((Fh.out.mono (T:=oh b (.slice vo ns.length vc)) (λk _ hk=>.inl hk)).trans hk8);have UD:=hid hgv;have ap8:=gW HN6.out;clear h8 Jq hk8 z0 z1 z2 z3 z4 z5 c4 f4 hgv zJ hone aa9;go_upto_region 35 with fail
     go_cut [196] (λc wx=>wx=wc∧c=.bool (nm==aj))
     case first=>
      go_wp2_with fail
      go_meet
      case rel=>exact⟨rfl,rfl⟩
     obtain⟨rfl,rfl⟩:=hcut;go_upto_if 196 with fail
     go_cut [] (λwx=>∃(f:iL) (at9:Nat) (v9:Value) (Qs:List ak),bJ wx b s at9 f v9∧Hid (Kept (oh b (.slice vo ns.length vc)) w wx)∧wx.cell? ⟨nb,0,none⟩=some (.string (str nm)) ∧
      (f.err=0→f=good∧Hid (Wk wx base b s at9 v9 Qs)∧∀k,v9.ownBlock=some k→(Value.slice vo ns.length vc).ownBlock=some k∨w.heap.size≤k) ∧
      Hid (St r f ((aV ([60,47]++nm++[62]) (s.drop at9) at9).then λy=>.ok (Qs,y.1,y.2))))
     case first=>as_aux_lemma=>
      have adH:¬nb=gg:=by
       rcases hgg with h | h
       ·have:=HVN.out _ h;omega
       omega
      by_cases hst:nm=aj
      ·have e1:(nm==aj)=true:=by rw[hst];rfl
       rw[e1];have HST:=hid hst;have c0:=H8.out.rd.c0;have c1:=H8.out.rd.c1;have f1:=H8.out.rd.free 1;have Jp:=H8.out.rd.2.1;have hm8:=H8.out.rd.2.2;clear hst;go_wp2_with fail
       cases hf:bg jY (s.drop kS)with
       | none=>
        refine(BD jY none _ b s kS good _ H8.out.rd (by decide) (by decide) (by unfold iU;rw[hf];rfl)).mono ?_;rintro e w9 ⟨rfl,rfl⟩;have hr0:r=.bad ⟨2,s.length⟩:=by
         rw[Yx.out];unfold jq;rw[if_pos HST.out,hf,List.length_drop];show Ans.bad _=_
         rw[show kS+(s.length-kS)=s.length from by omega]
        go_wp2_with (go_at_call 80;refine(dP 2 s.length _ _ _ _ _ _ H8.out.rd rfl).mono ?_;rintro e w10 ⟨rfl,hk10,JE⟩)
        subst hr0;go_end0
        exact⟨rfl,Au.out.trans (hk10.mono (T:=oh b (.slice vo ns.length vc)) (λk _ hk=>.inl hk)),_,_,JE⟩
       | some e=>
        have hfl:=gY _ _ _ hf;rw[List.length_drop]at hfl;have hsl:jY.length=8:=rfl;rw[hsl]at hfl;refine(DC jY (kS+e) _ b s kS good _ H8.out.rd (by decide) (by decide) (by unfold iU;rw[hf];rfl)).mono ?_;rintro e2 w9 ⟨rfl,rfl⟩;have HF:=hid hf;clear hf;have c4:=H8.out.rd.c4;obtain⟨⟨i4,hi4⟩,⟨i5,hi5⟩,g4,g5,hset⟩:=abt H8.out (kS:Int) ((kS+e:Nat):Int);have hbg:¬b=gg:=by
         obtain⟨_,_,how,_⟩:=H8.out.nodes;have:=(how.lt gg rfl).1;omega
        have alm:¬gg=b:=λh=>hbg h.symm
        have hb1:(ns.length:Int)<((ns.length+1:Nat):Int):=by omega
        have afX:=hid hset;clear hset;go_wp2_with fail
        go_region
        go_wp2_with fail
        have vY:Wk (((w9.setCell ⟨gg,ns.length*6+4,none⟩ (.int .i64 (kS:Int))).setCell ⟨gg,ns.length*6+4+1,none⟩ (.int .i64 ((kS:Int)+(e:Int)))).setCell ⟨b,1,none⟩ (.int .i64 ((kS:Int)+(e:Int)))).drew base b s (kS+e)
          (.slice (some ⟨gg,0,none⟩) (ns.length+1) cap) (ns++[{ (⟨nm,parent,al,at2,0,0⟩:ak)with qE:=(kS:Int),inT:=((kS+e:Nat):Int) }]):=
         (Wk.set afX.out (a':=kS+e) (by simp) (by omega)).quiet ⟨1,rfl⟩
        have hkx:Kept (λk=>k=b∨k=gg) w9 (((w9.setCell ⟨gg,ns.length*6+4,none⟩ (.int .i64 (kS:Int))).setCell ⟨gg,ns.length*6+4+1,none⟩ (.int .i64 ((kS:Int)+(e:Int)))).setCell ⟨b,1,none⟩ (.int .i64 ((kS:Int)+(e:Int)))).drew:=
         ((((Kept.refl (λk=>k=b∨k=gg) w9).setCell (p:=⟨gg,_,none⟩) (.inl (.inr rfl)) _).setCell (p:=⟨gg,_,none⟩) (.inl (.inr rfl)) _).setCell (p:=⟨b,1,none⟩) (.inl (.inl rfl)) _).drew
        have hkk:=Au.out.trans' hkx (λi hi hs=>by
         rcases hs with hs | hs
         ·exact .inl hs
         rcases UD.out i (by rw[hs];rfl)with h | h
         ·exact .inr h
         omega)
        have zK:=ah (hkx.heap (λhs=>by
         rcases hs with hs | hs
         ·exact uh hs
         exact adH hs) HN8.out) 0 rfl
        have hE:=Yx.out;unfold jq at hE;rw[if_pos HST.out,HF.out]at hE;simp only[Ans.aN,List.drop_drop]at hE
        revert vY hkk zK
        clear hkx;generalize World.drew (World.setCell _ _ _)=w10;intro vY hkk zK;go_meet
        case rel=>exact⟨good,kS+e,_,_,vY.rd,hid hkk,zK,λ_=>⟨rfl,hid vY,UD.out⟩,hid ⟨λhh=>absurd rfl hh,λ_=>hE⟩⟩
      have e1:(nm==aj)=false:=by rw[beq_eq_false_iff_ne];exact hst
      rw[e1];have HNS:=hid hst;clear hst;go_wp2_with fail
      have hIC:=HI.out (ns.length:Int) (deep+1) (ns++[⟨nm,parent,al,at2,0,0⟩]) kS _ _ (by
       have h4:=H8.out.rd.2.1;omega) (by simp at hdd;omega) H8.out
      rw[show(((deep+1:Nat)):Int)=(deep:Int)+1 from by omega]at hIC;have hE:=Yx.out;unfold jq at hE;rw[if_neg HNS.out]at hE;obtain⟨ans,hans⟩:∃ans,items (ns.length:Int) (deep+1) (ns++[⟨nm,parent,al,at2,0,0⟩]) (s.drop kS) kS=ans:=⟨_,rfl⟩;have JF:=hid hans;rw[hans]at hE hIC;have HE7:=hid hE;clear hE hans;refine hIC.mono ?_;clear hIC;cases ans with
      | bad f0=>
       rintro e w9 ⟨rfl,hk9,at9,v9,vY⟩;have hfe:f0.err≠0:=alE.out _ _ _ _ _ _ JF.out;have Qu:=hid (Au.out.trans' hk9 (λi hi hs=>by
        rcases hs with hs | hs
        ·exact .inl hs
        rcases UD.out i hs with h | h
        ·exact .inr h
        omega))
       have zK:=ah (hk9.heap (λhs=>by
        rcases hs with hs | hs
        ·exact uh hs
        simp only[Value.ownBlock,Option.some.injEq]at hs;exact adH hs.symm) HN8.out) 0 rfl
       have hE9:=HE7.out;clear hk9;go_wp2_with fail
       go_meet
       case rel=>exact⟨f0,at9,v9,[],vY,Qu,zK,λhh=>absurd hh hfe,hid ⟨λ_=>by rw[hE9];rfl,λhh=>absurd hh hfe⟩⟩
      | ok y=>
       obtain⟨Qs,l9,at9⟩:=y;rintro e w9 ⟨v9,rfl,hk9,vY,rfl,GL⟩;have Qu:=hid (Au.out.trans' hk9 (λi hi hs=>by
        rcases hs with hs | hs
        ·exact .inl hs
        rcases UD.out i hs with h | h
        ·exact .inr h
        omega))
       have zK:=ah (hk9.heap (λhs=>by
        rcases hs with hs | hs
        ·exact uh hs
        simp only[Value.ownBlock,Option.some.injEq]at hs;exact adH hs.symm) HN8.out) 0 rfl
       have hE9:=HE7.out;have alK:∀k,v9.ownBlock=some k→(Value.slice vo ns.length vc).ownBlock=some k∨w.heap.size≤k:=λk hk=>by
        rcases GL k hk with h | h
        ·exact UD.out k h
        have:=Au.out.size;exact .inr (by omega)
       clear hk9 GL;go_wp2_with fail
       go_meet
       case rel=>exact⟨good,at9,v9,Qs,vY.rd,Qu,zK,λ_=>⟨rfl,hid vY,alK⟩,hid ⟨λhh=>absurd rfl hh,λ_=>hE9⟩⟩
     case rest=>as_aux_lemma=>
      obtain⟨f,at9,v9,Qs,vY,Qu,q9,aiC,SR⟩:=hcut;have HR9:=hid vY;have HW9:=hid aiC;clear vY aiC;go_wp2_with fail
      have hword:([60,47]++nm++[62]:B)=60::47::(nm++[62]):=rfl;have SR':=SR.out;rw[hword]at SR';have SR2:=hid SR';clear SR SR' hword;refine(kX (60::47::(nm++[62])) _ b s at9 f v9 HR9.out (λhh=>(HW9.out hh).1) (by simp;omega) (by simp)).mono ?_;rintro e w10 ⟨rfl,hk10,f10,Va,JE,adQ,hs10⟩;have SF:=hid (St.step (k:=λy=>.ok (Qs,y.1,y.2)) SR2.out hs10.out);have UE:=hid hk10;have aiD:=hid JE;have alM:=hid hs10;clear hk10 JE hs10 SR2;go_wp2_with fail
      go_end0
      by_cases hf:f10.err=0
      ·have hf9:f.err=0:=by
        refine Classical.byContradiction λhn=>?_
        rw[alM.out.out.1 hn]at hf;exact hn hf
       obtain⟨rfl,hw,hgv⟩:=HW9.out hf9;obtain rfl:r=.ok (Qs,s.drop Va,Va):=SF.out.2 hf;obtain rfl:=adQ hf;exact⟨v9,rfl,Qu.out.trans (UE.out.mono (T:=oh b (.slice vo ns.length vc)) (λk _ hk=>.inl hk)),hw.out.kept UE.out aiD.out,rfl,hgv⟩
      obtain rfl:r=.bad f10:=SF.out.1 hf;exact⟨rfl,Qu.out.trans (UE.out.mono (T:=oh b (.slice vo ns.length vc)) (λk _ hk=>.inl hk)),_,_,aiD.out⟩
   have abz:((f6.err:Int)==0)=false:=by simp;omega
   obtain rfl:r=.bad f6:=S6.out.1 Lc;go_wp2_with (go_at_call 79;refine(bK false _ _ _ _ _ _ OL abz).mono ?_;rintro e w8 ⟨rfl,rfl⟩)
   go_end0
   exact⟨rfl,((K2.out.trans HL.out.kept).trans hk6).mono (λk _ hk=>.inl hk),_,_,OL⟩
 have hfe:((f2.err:Int)==0)=false:=by simp;omega
 refine(bK false _ _ _ _ _ _ (H2.out.alloc _) hfe).mono ?_;rintro e w3 ⟨rfl,rfl⟩;obtain rfl:r=.bad f2:=S2.out.1 hf2;go_wp2_with fail
 go_end0
 exact⟨rfl,(K2.out.mono (λk _ hk=>.inl hk)).alloc _,_,_,H2.out.alloc _⟩
end Go.Proofs.YtplbdlgmjehckacGreatDoor

