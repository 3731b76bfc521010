/-
 Lemmas for the claims of this seat: the program's functions walked, and plain laws.
-/
import Derived.Test.YtplbdlgmjehckacGreatDoorPkFoTellsFull8
set_option maxRecDepth 100000
set_option maxHeartbeats 6400000
namespace Go.Proofs.YtplbdlgmjehckacGreatDoor
open Go.Lib (hid)
open Go.RowKit
set_option linter.unusedVariables false
set_option linter.unusedSimpArgs false
abbrev um:=dB uQ 1 78 tC
theorem dB.ae6{α:Type}{f:α→Value→List Value}{size e:Nat}{Q:World→(Nat→Prop)→Value→α→Prop}{w wm w':World}{base gg cap:Nat}{v:Value}{xs:List α}{vs:List Value}{x:α}{u:Value}(h:dB f size e Q w base v xs vs)(hQ:pV Q)
  (hu:Q w (λk=>k<base∨v.ownBlock=some k) u x) (hm:Kept (λ_=>False) w wm)
  (hown:w'.ownsRow base e size (.slice (some ⟨gg,0,none⟩) (xs.length+1) cap) (xs.length+1) ((List.zipWith f xs vs).flatten++f x u)) (hg:wm.grownBy w' v.ownBlock) (hat:v.ownBlock=some gg∨w.heap.size≤gg) :
  dB f size e Q w' base (.slice (some ⟨gg,0,none⟩) (xs.length+1) cap) (xs++[x]) (vs++[u]):=by
 have hk:Kept (λk=>v.ownBlock=some k) w w':=(hm.mono (T:=λk=>v.ownBlock=some k) (λ_ _ h=>h.elim)).grown hg (λk hk=>.inl hk);have new:∀ {y:α} {z:Value},Q w (λk=>k<base∨v.ownBlock=some k) z y→Q w' (λk=>k<base∨(Value.slice (some ⟨gg,0,none⟩) (xs.length+1) cap).ownBlock=some k) z y:=λhq=>
  hQ _ _ _ _ _ _ _ hq hk (λk _ hs=>.inr hs) (λk hlt hx=>by
   rcases hx with hx | hx
   ·exact .inl hx
   simp only[Value.ownBlock,Option.some.injEq]at hx;subst hx;rcases hat with h1 | h1
   ·exact .inr h1
   omega)
 refine⟨by simp[h.len],?_,λi y z hy hz=>?_⟩
 ·rw[List.zipWith_append (by rw[h.len])];simpa using hown
 by_cases hi:i<xs.length
 ·rw[List.getElem?_append_left hi]at hy;rw[List.getElem?_append_left (by rw[h.len];exact hi)]at hz;exact new (h.nest i y z hy hz)
 have hi2:=(List.getElem?_eq_some_iff.1 hy).1;simp at hi2;have:i=xs.length:=by omega
 subst this;simp at hy;rw[←h.len]at hz;simp at hz;subst hy;subst hz;exact new hu
theorem xB{f:Nat}{ss:List dZ}{l:B}{a:Nat}{r:Ans (List dZ×B×Nat)}(h:gB (f+1) ss l a=r):
  (if ss.length=8 then .bad ⟨5,a⟩ else (pq l a).then λx=>if ([44]:B).isPrefixOf x.2.1 then (cO (x.2.1.drop 1) (x.2.2+1)).then λy=>gB f (ss++[x.1]) y.1 y.2 else .ok (ss++[x.1],x.2.1,x.2.2))=r:=by
 rw[←h,gB]
structure Xx(w wr:World)(b:Nat)(s:B)(nb:Nat)(md:B)(at0:Nat)(r:Ans (List dZ×B×Nat))(sv:Value)(ss:List dZ)(vs:List Value)(at':Nat):Prop where
 rd:dn wr b s at'
 node:wr.heap[nb]?=some (.cells #[.string (str md),sv,.slice none 0 0,.int .i64 (at0:Int),.int .i64 0] 42 (0,0))
 own:um wr (nb+1) sv ss vs
 res:wr.heap[w.heap.size]?=some (.cells #[.string ⟨#[]⟩,.slice none 0 0,.slice none 0 0,.int .i64 0,.int .i64 0] 42 (0,0))
 few:ss.length≤8
 kept:Kept (· = b) w wr
 rest:∃f,(s.drop at').length<f∧gB f ss (s.drop at') at'=r
structure afn(w wr:World)(b:Nat)(s:B)(nb:Nat)(md:B)(at0:Nat)(r:Ans (List dZ×B×Nat))(sv:Value)(ss:List dZ)(vs:List Value)(at':Nat):Prop where
 rd:dn wr b s at'
 node:wr.heap[nb]?=some (.cells #[.string (str md),sv,.slice none 0 0,.int .i64 (at0:Int),.int .i64 0] 42 (0,0))
 own:um wr (nb+1) sv ss vs
 res:wr.heap[w.heap.size]?=some (.cells #[.string ⟨#[]⟩,.slice none 0 0,.slice none 0 0,.int .i64 0,.int .i64 0] 42 (0,0))
 kept:Kept (· = b) w wr
 ok:r=.ok (ss,s.drop at',at')
structure ajS(w wr:World)(b:Nat)(s:B)(nb:Nat)(md:B)(at0 at':Nat)(ss:List dZ)(ps:dZ)(sv:Value)(vs:List Value)(at4:Nat):Prop where
 rd:dn wr b s at4
 node:wr.heap[nb]?=some (.cells #[.string (str md),sv,.slice none 0 0,.int .i64 (at0:Int),.int .i64 0] 42 (0,0))
 own:um wr (nb+1) sv (ss++[ps]) vs
 res:wr.heap[w.heap.size]?=some (.cells #[.string ⟨#[]⟩,.slice none 0 0,.slice none 0 0,.int .i64 0,.int .i64 0] 42 (0,0))
 kept:Kept (· = b) w wr
 ok:pq (s.drop at') at'=.ok (ps,s.drop at4,at4)
theorem ZG{w wr w4 w5:World}{b nb at0 at' at4 gg cap:Nat}{s md:B}{R:Ans (List dZ×B×Nat)}{v pv:Value}{ss:List dZ}{vs:List Value}{ps:dZ}{o:Obj}
  (hL:Xx w wr b s nb md at0 R v ss vs at') (hb:b<nb) (hblt:b<w.heap.size) (hnb:w.heap.size+1≤nb) (hk4:Kept (· = b) wr.drew w4) (hr4:dn w4 b s at4) (hp:pq (s.drop at') at'=.ok (ps,s.drop at4,at4)) (hpv:tC w4 (λk=>k<wr.heap.size) pv ps)
  (hown5:w5.ownsRow (nb+1) 78 1 (.slice (some ⟨gg,0,none⟩) (ss.length+1) cap) (ss.length+1) ((List.zipWith uQ ss vs).flatten++[pv]))
  (hgrow:(w4.alloc o).grownBy w5 v.ownBlock) (hat:v.ownBlock=some gg∨gg=w4.heap.size+1) :
  ajS w (w5.setCell ⟨nb,1,none⟩ (.slice (some ⟨gg,0,none⟩) (ss.length+1) cap)) b s nb md at0 at' ss ps (.slice (some ⟨gg,0,none⟩) (ss.length+1) cap) (vs++[pv]) at4:=by
 have hlt:=hL.own.own.lt;have hno:¬v.ownBlock=some nb:=λh=>by have:=(hlt nb h).1;omega
 have hkw:Kept (· = b) wr w4:=((Kept.refl (· = b) _).drew).trans hk4;have hk5:Kept (λk=>v.ownBlock=some k) w4 w5:=((Kept.refl _ w4).alloc o).grown hgrow (λk hk=>.inl hk);have o4:um w4 (nb+1) v ss vs:=hL.own.kept dR (by omega) hkw;have hsz:=hkw.size;have o5:um w5 (nb+1) (.slice (some ⟨gg,0,none⟩) (ss.length+1) cap) (ss++[ps]) (vs++[pv]):=by
  refine o4.ae6 dR ?_ ((Kept.refl _ _).alloc o) hown5 hgrow (by rcases hat with h | h;exact .inl h;exact .inr (by omega));exact dR _ _ _ _ (λ_=>False) _ _ hpv (Kept.refl _ _) (λk _ hs=>hs.elim) (λk _ hx=>by
   rcases hx with hx | hx
   ·have:=gW hL.node;show k<wr.heap.size;omega
   exact(hlt k hx).2)
 have hn4:w4.heap[nb]?=_:=hkw.heap (by omega) hL.node;have hw:Kept (· = b) w w4:=hL.kept.trans hkw;have hsw:=hL.kept.size;refine⟨(hr4.kept hk5 (λh=>by have:=(hlt b h).1;omega)).other (by show b≠nb;omega),?_,?_,?_,?_,hp⟩
 ·have:=aW (hk5.heap hno hn4) 1 (.slice (some ⟨gg,0,none⟩) (ss.length+1) cap);simpa using this
 ·exact o5.kept dR (b:=nb) (by omega) ((Kept.refl (· = nb) _).setCell (p:=⟨nb,1,none⟩) (.inl rfl) _)
 ·refine eF (hk5.heap (λh=>by have:=(hlt _ h).1;omega) (hkw.heap (by omega) hL.res)) _ _ (by show w.heap.size≠nb;omega)
 exact((hw.alloc o).grown hgrow (λk hk=>.inr (by have:=(hlt k hk).1;omega))).setCell (p:=⟨nb,1,none⟩) (.inr (by show w.heap.size≤nb;omega)) _
def OC(w:World)(w':World)(u:au)(e:Ending):Prop:=∃sv dv,e=.returned (.agg #[.string (str u.ay),sv,dv,.int .i64 u.lo,.int .i64 u.hi])∧vO w' (λk=>k<w.heap.size) sv u.aZ∧dD w' (λk=>k<w.heap.size) dv u.decls
theorem ZH(md:B)(w:World)(b:Nat)(s:B)(at_:Nat)(m:Int)(h:dn w b s at_)(hm:w.cell? ⟨0,0,none⟩=some (.int .i64 m))(hb0:0<b):
  Calls Tryz.prog 108 #[.pointer (some ⟨b,0,none⟩),.string (str md)] w (CY (kU md (s.drop at_) at_) w b s (OC w)):=by
 obtain⟨r,HR⟩:∃r,Hid (kU md (s.drop at_) at_=r):=⟨_,rfl⟩;rw[HR.out];obtain⟨R,HRR⟩:∃R,Hid (gB ((s.drop at_).length+1) [] (s.drop at_) at_=R):=⟨_,rfl⟩;have HM:=hid hm;obtain⟨i0,hi0,hz0,hz1,hz2⟩:=info_parts AX;have H:=hid h;have hl:=h.2.1;have hmx:=h.2.2;have hblt:=h.lt;have c1:=h.c1;clear h hm;go_enter Tryz.func108,Tryz.ntmps108
 go_upto_block 0 with fail
 obtain⟨nb,oO⟩:∃nb,Hid (w.heap.size+1=nb):=⟨_,rfl⟩;obtain⟨wa,gX⟩:∃x,Hid ((w.alloc (.cells #[.string ⟨#[]⟩,.slice none 0 0,.slice none 0 0,.int .i64 0,.int .i64 0] 42 (0,0))).alloc (.cells #[.string (str md),.slice none 0 0,.slice none 0 0,.int .i64 (at_:Int),.int .i64 0] 42 (0,0))=x):=⟨_,rfl⟩;have hP0:Xx w wa b s nb md at_ R (.slice none 0 0) [] [] at_:=by
  refine⟨by rw[←gX.out];exact(H.out.alloc _).alloc _,?_,dB.nil _ _,?_,by simp,by rw[←gX.out];exact((Kept.refl _ _).alloc _).alloc _,_,Nat.lt_succ_self _,HRR.out⟩
  ·rw[←gX.out,←oO.out];have:=aI (w.alloc (.cells #[.string ⟨#[]⟩,.slice none 0 0,.slice none 0 0,.int .i64 0,.int .i64 0] 42 (0,0))) (.cells #[.string (str md),.slice none 0 0,.slice none 0 0,.int .i64 (at_:Int),.int .i64 0] 42 (0,0));simpa using this
  rw[←gX.out];exact iw (aI _ _) _
 have X8:=hid hP0;have arD:nb≤w.heap.size+1:=by have:=oO.out;omega
 have yL:w.heap.size+1≤nb:=by have:=oO.out;omega
 clear hP0 c1;rw[gX.out,oO.out];have Rq:b<nb:=by omega
 clear gX;go_cut [] (λwx=>∃sv ss vs at',afn w wx b s nb md at_ R sv ss vs at')
 case first=>
  go_wp2_with fail
  go_loopg [] (s.length-at_) (λk wr=>∃sv ss vs at',Xx w wr b s nb md at_ R sv ss vs at'∧k=s.length-at')
  case atStart=>exact⟨_,_,_,at_,X8.out,rfl⟩
  case round=>
   obtain⟨sv,ss,vs,at',hL,hk⟩:=hrel;obtain⟨lo,lc,rfl⟩:=hL.own.form;have HL:=hid hL;have hfew:=hL.few;have hl':=hL.rd.2.1;have x2:=ah hL.node 1 rfl;have y2:=aF hL.node 1;have hnlt:=gW hL.node;have hmr:wr.cell? ⟨0,0,none⟩=some (.int .i64 m):=hL.kept.cell (by show ¬(0=b);omega) HM.out;have HMR:=hid hmr;obtain⟨f0,hf0,hr0⟩:=hL.rest;cases f0 with
   | zero=>omega
   | succ f=>
   have HST:=hid (xB hr0);have HF:=hid hf0;clear hL hr0 hf0 hmr;by_cases h8:ss.length=8
   ·have e8:((ss.length:Int)==8)=true:=by simp;omega
    have hR:Hid (r=.bad ⟨5,at'⟩):=hid (by
     have h1:=HST.out;rw[if_pos h8]at h1;rw[←HR.out];unfold kU;rw[HRR.out,←h1];rfl)
    clear h8;go_wp2_with fail
    refine(iG 5 _ _ _ _ HL.out.rd).mono ?_;rintro e w9 ⟨rfl,zK⟩;go_wp2_with fail
    exact⟨rfl,.bad (HL.out.kept.trans (zK.kept _)) hR.out⟩
   have e8:((ss.length:Int)==8)=false:=by simp;omega
   have Di:Hid (((pq (s.drop at') at').then λx=>if ([44]:B).isPrefixOf x.2.1 then (cO (x.2.1.drop 1) (x.2.2+1)).then λy=>gB f (ss++[x.1]) y.1 y.2 else .ok (ss++[x.1],x.2.1,x.2.2))=R):=hid (by rw[←HST.out,if_neg h8]);have LD:ss.length+1≤8:=by omega
   clear h8;have uh:¬nb=b:=by omega
   have hbn:¬b=nb:=by omega
   have HC:=hid (acJ wr.drew b s at' m HL.out.rd HMR.out hb0);have HB:Hid (∀(g:iL) (w4:World),pq (s.drop at') at'=.bad g→Kept (· = b) wr.drew w4→CY r w b s (OC w) (tK g) w4):=hid λg w4 hp2 hk4=>by
    refine .bad (HL.out.kept.drew.trans hk4) ?_;have h1:=Di.out;rw[hp2]at h1;rw[←HR.out];unfold kU;rw[HRR.out,←h1];rfl
   have h63:ss.length+1≤maxLen:=by unfold maxLen;omega
   have Tq:Hid (some nb≠(Value.slice lo ss.length lc).ownBlock):=hid λhx=>by
    have:=(HL.out.own.own.lt nb hx.symm).1;omega
   go_upto_region 4 with fail
   go_cut [] (λwx=>∃ps sv2 vs2 at4,ajS w wx b s nb md at_ at' ss ps sv2 vs2 at4)
   case' first=>go_region_law
    (first
     | (go_simp;go_at_call 155;go_loud (refine HC.out.mono ?_;rintro e w4 (⟨g,rfl,hk4,hp2⟩ | ⟨ps,at4,⟨pv,rfl,hpv⟩,hk4,hr4,hp2⟩); (exact⟨rfl,HB.out g w4 hp2.out hk4⟩);obtain⟨va,vc,rfl⟩:∃a c,pv=.slice a ps.length c:=(by obtain⟨yT,h1,⟨a,cap,h2,_⟩,_⟩:=hpv;exact⟨a,cap,by simpa [h1] using h2⟩);have aa6:=(HL.out.own.kept (w':=w4) dR (by omega) (((Kept.refl (· = b) _).drew).trans hk4)).own;have hz4:wr.heap.size≤w4.heap.size:=hk4.size;have x4:w4.cell? ⟨nb,1,none⟩=some (.slice lo ss.length lc):=hk4.cell (a:=wr.drew) uh x2;have y4:w4.frozen? ⟨nb,1,none⟩=false:=hk4.frozen (a:=wr.drew) uh hnlt y2;have x4a:∀o,(w4.alloc o).cell? ⟨nb,1,none⟩=some (.slice lo ss.length lc):=λo=>dX x4 o;have y4a:∀o,(w4.alloc o).frozen? ⟨nb,1,none⟩=false:=λo=>jC (by show nb<_;omega) y4 o))
     | (refine step_append_lies _ (by rfl) _ _ _ (by rfl) (nb+1) 78 i0 _ 1 24 Tryz.underlying37 hi0 hz0 hz1 hz2 rfl (by omega) (.slice lo ss.length lc) ss.length _ (by rfl) (aa6.alloc _) ⟨w4.heap.size,0,none⟩ 1 1 [.slice va ps.length vc] (by rfl) (by rfl) (World.news_of_block (cs:=#[.slice va ps.length vc]) (t:=78) (fr:=(0,0)) (heap_alloc_new w4 _)) (by simp[Value.oneCell']) (by omega) h63 (by omega) (by simp;omega) (w4.heap.size+1) (by simp) ?_;intro gg cap w5 hown5 hgrow hat MW;have x5:w5.cell? ⟨nb,1,none⟩=some (.slice lo ss.length lc):=(hgrow.cell_far _ (by simp;omega) Tq.out).trans (x4a _);have y5:w5.frozen? ⟨nb,1,none⟩=false:=(hgrow.frozen_far _ (by simp;omega) Tq.out).trans (y4a _)))
   case rest=>
    obtain⟨ps,sv2,vs2,at4,hMd⟩:=hcut;have ZU:=hid hMd;have hl4:=hMd.rd.2.1;have hlt4:at'<at4:=EY.2 _ _ _ _ _ hMd.ok;have ajU:=hid hMd.ok;clear hMd;cases p44:([44]:B).isPrefixOf (s.drop at4)with
    | false=>
     have hR:Hid (R=.ok (ss++[ps],s.drop at4,at4)):=hid (by rw[←Di.out,ajU.out,Ans.aN];simp only;rw[p44,if_neg (by simp)]);go_wp2_with fail
     refine(lF false [44] _ _ _ _ ZU.out.rd p44).mono ?_;rintro e w6 ⟨rfl,hk6,h6⟩;have h6':dn w6 b s at4:=h6;have hd:afn w w6 b s nb md at_ R sv2 (ss++[ps]) vs2 at4:=
      ⟨h6',hk6.heap (by omega) ZU.out.node,ZU.out.own.kept dR (by omega) hk6,hk6.heap (by omega) ZU.out.res,ZU.out.kept.trans hk6,hR.out⟩
     have JR:=hid hd;clear hk6 h6 h6' hd p44;go_wp2_with fail
     go_meet
     case rel=>exact⟨_,_,_,at4,JR.out⟩
    | true=>
     have Td:Hid (((cO (s.drop (at4+1)) (at4+1)).then λy=>gB f (ss++[ps]) y.1 y.2)=R):=hid (by rw[←Di.out,ajU.out,Ans.aN];simp only;rw[p44,if_pos rfl,List.drop_drop]);go_wp2_with fail
     refine(lF true [44] _ _ _ _ ZU.out.rd p44).mono ?_;rintro e w6 ⟨rfl,hk6,h6⟩;have h6':dn w6 b s (at4+1):=h6;have H6:=hid h6';have Fh:=hid hk6;have Ls:=hid ((ZU.out.kept.trans hk6).cell (by show ¬(0=b);omega) HM.out);clear hk6 h6 h6' p44;go_wp2_with fail
     refine(gI _ _ _ _ m H6.out Ls.out hb0).mono ?_;rintro e w7 (⟨g,rfl,hk,hp⟩ | ⟨wF,rfl,hk,h7,hp⟩)
     ·have hR:Hid (r=.bad g):=hid (by
       have h1:=Td.out;rw[hp.out]at h1;rw[←HR.out];unfold kU;rw[HRR.out,←h1];rfl)
      have KB:=hid ((ZU.out.kept.trans Fh.out).trans hk);clear hk;go_wp2_with fail
      exact⟨rfl,.bad KB.out hR.out⟩
     have hl7:=h7.2.1;have aci:at4+1≤wF:=by obtain⟨_,_,h1,h2,_⟩:=fA hp.out;omega
     have hkk:=Fh.out.trans hk;have hd:Xx w w7 b s nb md at_ R sv2 (ss++[ps]) vs2 wF:=
      ⟨h7,hkk.heap (by omega) ZU.out.node,ZU.out.own.kept dR (by omega) hkk,hkk.heap (by omega) ZU.out.res,by simpa using LD,ZU.out.kept.trans hkk,f,by have:=HF.out;rw[List.length_drop]at this ⊢;omega,by
       have h1:=Td.out;rw[hp.out,Ans.aN]at h1;exact h1⟩
     have JR:=hid hd;clear hk h7 hkk hd;go_wp2_with fail
     go_roundg (s.length-wF)
     case measure=>omega
     case rel=>exact⟨_,_,_,wF,JR.out,rfl⟩
   all_goals
    go_wp2_with fail
    go_meet
    case rel=>exact⟨ps,_,_,at4,ZG HL.out Rq hblt yL hk4 hr4 hp2.out hpv hown5 hgrow hat⟩
 case rest=>
  obtain⟨sv,ss,vs,at',hD⟩:=hcut;obtain⟨lo,lc,rfl⟩:=hD.own.form;have HD:=hid hD;have HE:Hid (((aV [123] (s.drop at') at').then λx=>(iY x.1 x.2).then λy=>(aV [125] y.2.1 y.2.2).then λz=>Ans.ok ((⟨md,ss,y.1,(at_:Int),(z.2:Int)⟩:au),z.1,z.2))=r):=hid (by
   rw[←HR.out];unfold kU;rw[HRR.out,hD.ok];rfl)
  clear hD;go_wp2_with fail
  refine(nO [123] _ _ _ _ HD.out.rd).mono ?_;rintro e w1 (⟨g,rfl,hk,hp⟩ | ⟨ji,rfl,hk,h1,hp⟩)
  ·have hR:Hid (r=.bad g):=hid (by rw[←HE.out,hp.out];rfl);have KB:=hid (HD.out.kept.trans hk);clear hk;go_wp2_with fail
   exact⟨rfl,.bad KB.out hR.out⟩
  have OM:Hid (((iY (s.drop ji) ji).then λy=>(aV [125] y.2.1 y.2.2).then λz=>Ans.ok ((⟨md,ss,y.1,(at_:Int),(z.2:Int)⟩:au),z.1,z.2))=r):=hid (by rw[←HE.out,hp.out];rfl);have J1:=hid hk;have K1:=hid (HD.out.kept.trans hk);have H1:=hid h1;have xP:=hid (K1.out.cell (by show ¬(0=b);omega) HM.out);clear hk h1;go_wp2_with fail
  refine(FZ _ _ _ _ m H1.out xP.out hb0).mono ?_;rintro e w2 (⟨g,rfl,hk,hp⟩ | ⟨ds,at2,⟨dv,rfl,hdv⟩,hk,h2,hp⟩)
  ·have hR:Hid (r=.bad g):=hid (by rw[←OM.out,hp.out];rfl);have KB:=hid (K1.out.trans hk);clear hk;go_wp2_with fail
   exact⟨rfl,.bad KB.out hR.out⟩
  obtain⟨da,dc,rfl⟩:∃a c,dv=.slice a ds.length c:=by
   obtain⟨a,cap,h,_⟩:=hdv.1;exact⟨a,cap,by simpa using h⟩
  have HE2:Hid (((aV [125] (s.drop at2) at2).then λz=>Ans.ok ((⟨md,ss,ds,(at_:Int),(z.2:Int)⟩:au),z.1,z.2))=r):=hid (by rw[←OM.out,hp.out];rfl);have uh:¬nb=b:=by omega
  have hbn:b≠nb:=by omega
  have J2:=hid (J1.out.trans hk);have K2:=hid (K1.out.trans hk);have H2:=hid h2;have hn2:=(J1.out.trans hk).heap uh HD.out.node;have N2:=hid hn2;have n2:=ah hn2 2 rfl;have nf2:=aF hn2 2;have V2:=hid hdv;have aoZ:nb<w1.heap.size:=gW (J1.out.heap uh HD.out.node);have HWS:Hid (w.heap.size≤w1.heap.size):=hid K1.out.size;clear hk h2 hn2 hdv;go_upto_region 9 with fail
  have H3:=hid (H2.out.other (p:=⟨nb,2,none⟩) (x:=.slice da ds.length dc) hbn);have K3:=hid (K2.out.setCell (p:=⟨nb,2,none⟩) (.inr (by show w.heap.size≤nb;omega)) (.slice da ds.length dc));have KN:=hid ((Kept.refl (· = nb) w2).setCell (p:=⟨nb,2,none⟩) (.inl rfl) (.slice da ds.length dc));have hn3:(w2.setCell ⟨nb,2,none⟩ (.slice da ds.length dc)).heap[nb]?=some (.cells #[.string (str md),.slice lo ss.length lc,.slice da ds.length dc,.int .i64 (at_:Int),.int .i64 0] 42 (0,0)):=by
   have:=aW N2.out 2 (.slice da ds.length dc);simpa using this
  have N3:=hid hn3;clear n2 nf2 hn3;generalize (w2.setCell ⟨nb,2,none⟩ (.slice da ds.length dc))=w3 at *;go_wp2_with fail
  refine(nO [125] _ _ _ _ H3.out).mono ?_;rintro e w4 (⟨g,rfl,hk,hp⟩ | ⟨at4,rfl,hk,h4,hp⟩)
  ·have hR:Hid (r=.bad g):=hid (by rw[←HE2.out,hp.out];rfl);have KB:=hid (K3.out.trans hk);clear hk;go_wp2_with fail
   exact⟨rfl,.bad KB.out hR.out⟩
  have hR:Hid (r=.ok (⟨md,ss,ds,(at_:Int),(at4:Int)⟩,s.drop at4,at4)):=hid (by rw[←HE2.out,hp.out];rfl);have c1:=h4.c1;have K4:=hid (K3.out.trans hk);have H4:=hid h4;have hn4:=hk.heap uh N3.out;have N4:=hid hn4;have uY:=hid hk;have hres:w4.heap[w.heap.size]?=some (.cells #[.string ⟨#[]⟩,.slice none 0 0,.slice none 0 0,.int .i64 0,.int .i64 0] 42 (0,0)):=
   hk.heap (by omega) (KN.out.heap (by omega) (J2.out.heap (by omega) HD.out.res))
  have m0:=ah hn4 0 rfl;have m1:=ah hn4 1 rfl;have m2:=ah hn4 2 rfl;have m3:=ah hn4 3 rfl;have m4:=ah hn4 4 rfl;have mf4:=aF hn4 4;have q0:=ah hres 0 rfl;have q1:=ah hres 1 rfl;have q2:=ah hres 2 rfl;have q3:=ah hres 3 rfl;have q4:=ah hres 4 rfl;have qf0:=aF hres 0;have qf1:=aF hres 1;have qf2:=aF hres 2;have qf3:=aF hres 3;have qf4:=aF hres 4;have hnr:¬nb=w.heap.size:=by omega
  have arF:¬w.heap.size=nb:=by omega
  clear hk h4 hn4 hres;have hbr:b≠w.heap.size:=by omega
  have hfin:∀wf,wf=((((((w4.setCell ⟨nb,4,none⟩ (.int .i64 (at4:Int))).setCell ⟨w.heap.size,0,none⟩ (.string (str md))).setCell ⟨w.heap.size,1,none⟩ (.slice lo ss.length lc)).setCell ⟨w.heap.size,2,none⟩ (.slice da ds.length dc)).setCell
    ⟨w.heap.size,3,none⟩ (.int .i64 (at_:Int))).setCell ⟨w.heap.size,4,none⟩ (.int .i64 (at4:Int))) →
    CY r w b s (OC w) (.returned (.agg #[.string (str md),.slice lo ss.length lc,.slice da ds.length dc,.int .i64 (at_:Int),.int .i64 (at4:Int)])) wf:=by
   rintro wf rfl;have kf:Kept (λk=>k=nb∨k=w.heap.size) w4 ((((((w4.setCell ⟨nb,4,none⟩ (.int .i64 (at4:Int))).setCell ⟨w.heap.size,0,none⟩ (.string (str md))).setCell ⟨w.heap.size,1,none⟩ (.slice lo ss.length lc)).setCell ⟨w.heap.size,2,none⟩ (.slice da ds.length dc)).setCell
    ⟨w.heap.size,3,none⟩ (.int .i64 (at_:Int))).setCell ⟨w.heap.size,4,none⟩ (.int .i64 (at4:Int))):=
    ((((((Kept.refl _ w4).setCell (p:=⟨nb,4,none⟩) (.inl (.inl rfl)) _).setCell (p:=⟨w.heap.size,0,none⟩) (.inl (.inr rfl)) _).setCell (p:=⟨w.heap.size,1,none⟩) (.inl (.inr rfl)) _).setCell (p:=⟨w.heap.size,2,none⟩) (.inl (.inr rfl)) _).setCell
     (p:=⟨w.heap.size,3,none⟩) (.inl (.inr rfl)) _).setCell (p:=⟨w.heap.size,4,none⟩) (.inl (.inr rfl)) _
   have k24:Kept (λk=>k=b∨k=nb∨k=w.heap.size) w2 w4:=(KN.out.mono (λk _ h=>.inr (.inl h))).trans (uY.out.mono (λk _ h=>.inl h));have k2f:=k24.trans (kf.mono (λk _ h=>.inr h));have kcf:=(J2.out.mono (T:=λk=>k=b∨k=nb∨k=w.heap.size) (λk _ h=>.inl h)).trans k2f;have hws:=HWS.out;refine .inr ⟨_,at4,⟨_,_,rfl,?_,?_⟩,K4.out.trans' kf (λk hk hs=>by rcases hs with hs | hs<;>omega),H4.out.kept kf (by rintro(h | h)<;>omega),hR⟩
   ·exact lU _ _ _ _ _ _ _ (HD.out.own.done vP dR) kcf (λk _ hs=>by show k<nb+1;rcases hs with hs | hs | hs<;>omega) (λk _ hx=>by have hx':k<w.heap.size:=hx;show k<nb+1;omega)
   exact jB _ _ _ _ _ _ _ V2.out k2f (λk _ hs=>by show k<w1.heap.size;rcases hs with hs | hs | hs<;>omega) (λk _ hx=>by have hx':k<w.heap.size:=hx;show k<w1.heap.size;omega)
  have Jz:=hid hfin;clear hfin;go_wp2_with fail
  refine bodyPost_ret (v:=.agg #[.string (str md),.slice lo ss.length lc,.slice da ds.length dc,.int .i64 (at_:Int),.int .i64 (at4:Int)]) (by simp[results,Tryz.results108,go_sem,q0,q1,q2,q3,q4,m0,m1,m2,m3,m4]) rfl ?_;exact Jz.out _ rfl
abbrev bP:=dB bI 5 42 CO
def RS(b:Nat)(v:Value):Nat→Prop:=λk=>k=b∨v.ownBlock=some k
def AB(w:World)(base b:Nat)(s:B)(lv:Value)(X:Ans (List au×B×Nat))(e:Ending)(w':World):Prop:=
 (∃f,e=tK f∧Kept (RS b lv) w w'∧Hid (X=.bad f)) ∨
 (∃v' rs' vs' at',e=.returned v'∧bP w' base v' rs' vs'∧(∀k,v'.ownBlock=some k→lv.ownBlock=some k∨w.heap.size≤k)∧Kept (RS b lv) w w'∧dn w' b s at'∧rs'.length≤60∧Hid (X=.ok (rs',s.drop at',at')))
theorem oz{f:Nat}{md:B}{rs:List au}{l:B}{a:Nat}{r:Ans (List au×B×Nat)}(h:fC (f+1) md rs l a=r):
  (if (l.isEmpty||([125]:B).isPrefixOf l)=true then .ok (rs,l,a)
  else if (md.isEmpty&&fF.isPrefixOf l)=true then
   (fO (l.drop 6) (a+6)).then λh=>(aP f h.1 rs h.2.1 h.2.2).then λx=>(aV [125] x.2.1 x.2.2).then λy=>aP f md x.1 y.1 y.2
  else if rs.length=60 then .bad ⟨5,a⟩ else (kU md l a).then λx=>aP f md (rs++[x.1]) x.2.1 x.2.2)=r:=by
 rw[←h,fC];split
 ·rfl
 split
 ·cases fO (l.drop 6) (a+6)with
  | bad f=>rfl
  | ok x=>
   simp only[Ans.aN];unfold aP;cases cO x.2.1 x.2.2 with
   | bad f=>rfl
   | ok y=>
    simp only[Ans.aN]
 rfl
structure RLp(w wr:World)(base b:Nat)(s:B)(lv:Value)(md:B)(r:Ans (List au×B×Nat))(v:Value)(rs:List au)(vs:List Value)(at':Nat):Prop where
 rd:dn wr b s at'
 own:bP wr base v rs vs
 few:rs.length≤60
 kept:Kept (RS b lv) w wr
 whence:∀k,v.ownBlock=some k→lv.ownBlock=some k∨w.heap.size≤k
 rest:∃f,(s.drop at').length<f∧fC f md rs (s.drop at') at'=r
structure RDn(w wr:World)(base b:Nat)(s:B)(lv:Value)(r:Ans (List au×B×Nat))(v:Value)(rs:List au)(vs:List Value)(at':Nat):Prop where
 rd:dn wr b s at'
 own:bP wr base v rs vs
 few:rs.length≤60
 kept:Kept (RS b lv) w wr
 whence:∀k,v.ownBlock=some k→lv.ownBlock=some k∨w.heap.size≤k
 ok:r=.ok (rs,s.drop at',at')
theorem iV{w w':World}{b:Nat}{v:Value}(h:Kept (· = b) w w'):Kept (RS b v) w w':=h.mono (λk _ hk=>.inl hk)
theorem V8{w wr w5 w6:World}{base b gg cap at5:Nat}{s md:B}{lv v sv dv:Value}{r:Ans (List au×B×Nat)}{rs:List au}{vs:List Value}{at':Nat}{u:au}{o:Obj}
  (hL:RLp w wr base b s lv md r v rs vs at') (hb:b<base) (hbs:base≤wr.heap.size) (hk5:Kept (· = b) wr w5) (hr5:dn w5 b s at5)
  (hs:vO w5 (λk=>k<wr.heap.size) sv u.aZ) (hd:dD w5 (λk=>k<wr.heap.size) dv u.decls)
  (hown:w6.ownsRow base 42 5 (.slice (some ⟨gg,0,none⟩) (rs.length+1) cap) (rs.length+1) ((List.zipWith bI rs vs).flatten++bI u (.tuple #[sv,dv])))
  (hgrow:(w5.alloc o).grownBy w6 v.ownBlock) (hat:v.ownBlock=some gg∨gg=w5.heap.size+1) :
  dn w6 b s at5∧bP w6 base (.slice (some ⟨gg,0,none⟩) (rs.length+1) cap) (rs++[u]) (vs++[.tuple #[sv,dv]])∧Kept (RS b lv) w w6 ∧
   ∀k,(Value.slice (some ⟨gg,0,none⟩) (rs.length+1) cap).ownBlock=some k→lv.ownBlock=some k∨w.heap.size≤k:=by
 have hlt:=hL.own.own.lt;have hk6:Kept (λk=>v.ownBlock=some k) w5 w6:=((Kept.refl _ w5).alloc o).grown hgrow (λk hk=>.inl hk);have o5:bP w5 base v rs vs:=hL.own.kept bn hb hk5;have hsz:=hk5.size;have hsw:=hL.kept.size;refine⟨hr5.kept hk6 (λh=>by have:=(hlt b h).1;omega),?_,?_,?_⟩
 ·refine o5.push bn ?_ hown hgrow (by rcases hat with h | h;exact .inl h;exact .inr (by omega));have hX:∀k,k<w5.heap.size→(k<base∨v.ownBlock=some k)→k<wr.heap.size:=λk _ hx=>by
   rcases hx with hx | hx
   ·omega
   exact(hlt k hx).2
  exact⟨sv,dv,rfl,lU _ _ _ _ (λ_=>False) _ _ hs (Kept.refl _ _) (λk _ hs=>hs.elim) hX,jB _ _ _ _ (λ_=>False) _ _ hd (Kept.refl _ _) (λk _ hs=>hs.elim) hX⟩
 ·refine((hL.kept.trans (iV hk5)).alloc o).grown hgrow (λk hk=>?_);rcases hL.whence k hk with h | h
  ·exact .inl (.inr h)
  exact .inr h
 intro k hk;simp only[Value.ownBlock,Option.some.injEq]at hk;subst hk;rcases hat with h | h
 ·exact hL.whence _ h
 exact .inr (by omega)
theorem FC(md s:B)(b base:Nat)(m:Int)(hb0:0<b)(hbb:b<base)
  (IH:md=[]→∀(nm:B) (g:Nat) (rs:List au) (vs:List Value) (lv:Value) (at_:Nat) (w:World),nm≠[]→dn w b s at_→w.cell? ⟨0,0,none⟩=some (.int .i64 m)→base≤w.heap.size→bP w base lv rs vs→rs.length≤60→(s.drop at_).length<g →
   Calls Tryz.prog 73 #[.pointer (some ⟨b,0,none⟩),lv,.string (str nm)] w (AB w base b s lv (aP g nm rs (s.drop at_) at_)))
  (g:Nat) (D7:List au) (XD:List Value) (lv:Value) (at_:Nat) (w:World) (h:dn w b s at_) (hm:w.cell? ⟨0,0,none⟩=some (.int .i64 m)) (hbs:base≤w.heap.size) (how:bP w base lv D7 XD) (hfew:D7.length≤60) (hg:(s.drop at_).length<g) :
  Calls Tryz.prog 73 #[.pointer (some ⟨b,0,none⟩),lv,.string (str md)] w (AB w base b s lv (aP g md D7 (s.drop at_) at_)):=by
 obtain⟨r,HR⟩:∃r,Hid (aP g md D7 (s.drop at_) at_=r):=⟨_,rfl⟩;rw[HR.out];have HI:=hid IH;have HM:=hid hm;have HO:=hid how;obtain⟨i0,hi0,hz0,hz1,hz2⟩:=info_parts uF;have H:=hid h;have hl:=h.2.1;have hmx:=h.2.2;have hblt:=h.lt;have HG:=hid hg;clear h hm IH how hg;have adW:md.isEmpty=true∨md.isEmpty=false:=by cases md.isEmpty<;>simp
 go_enter Tryz.func73,Tryz.ntmps73
 go_wp2_with fail
 refine(gI _ _ _ _ m H.out HM.out hb0).mono ?_;rintro e w1 (⟨f,rfl,hk1,hp1⟩ | ⟨ji,rfl,hk1,h1,hp1⟩)
 ·have hR:Hid (r=.bad f):=hid (by rw[←HR.out];unfold aP;rw[hp1.out];rfl);have K1:=hid hk1;clear hk1;go_wp2_with fail
  exact⟨rfl,.inl ⟨_,rfl,iV K1.out,hR⟩⟩
 have hle1:at_≤ji:=by obtain⟨_,_,h1,h2,_⟩:=fA hp1.out;omega
 have X8:Hid (RLp w w1 base b s lv md r lv D7 XD ji):=hid ⟨h1,HO.out.kept bn hbb hk1,hfew,iV hk1,λk hk=>.inl hk,g,Nat.lt_of_le_of_lt (aeG hle1) HG.out,by rw[←HR.out];unfold aP;rw[hp1.out];rfl⟩;have hl1:=h1.2.1;clear hk1 h1 hp1 HR;go_upto_block 0 with fail
 go_cut [1] (λl wx=>∃rs vs at',RDn w wx base b s lv r l rs vs at')
 case first=>
  go_wp2_with fail
  go_loopg [1] (s.length-ji) (λk l wr=>∃rs vs at',RLp w wr base b s lv md r l rs vs at'∧k=s.length-at')
  case atStart=>exact⟨D7,XD,ji,X8.out,rfl⟩
  case round=>
   obtain⟨rs,vs,at',hL,hk⟩:=hrel;have HL:=hid hL;have Xe:=hL.few;have hl':=hL.rd.2.1;have c0:=hL.rd.c0;have c1:=hL.rd.c1;obtain⟨lo,lc,rfl⟩:=hL.own.form;obtain⟨f0,hf0,hr0⟩:=hL.rest;cases f0 with
   | zero=>omega
   | succ f=>
   have HF:=hid hf0;have HST:=hid (oz hr0);clear hL hr0 hf0;by_cases hlt:at'<s.length
   ·have HD:=hid (List.drop_eq_getElem_cons hlt);have e0:decide ((at':Int)<(s.length:Int))=true:=by simp;omega
    cases e1:(((s[at']'hlt).toNat:Int) != 125)with
    | false=>
     have hR:Hid (r=.ok (rs,s.drop at',at')):=hid (by
      rw[←HST.out,if_pos];have:s[at']'hlt=125:=UInt8.toNat_inj.1 (by simp at e1;have:(125:UInt8).toNat=125:=rfl;omega);rw[HD.out,this];rfl)
     go_wp2_with fail
     go_quiet (fail)
     go_wp2_with fail
     go_meet
     case rel=>exact⟨rs,vs,at',HL.out.rd.drewN _,HL.out.own.kept bn hbb ((Kept.refl _ _).drewN _),HL.out.few,HL.out.kept.drewN _,HL.out.whence,hR.out⟩
    | true=>
     have hne:¬s[at']'hlt=125:=λh=>by rw[h]at e1;cases e1
     have hst:=HST.out;rw[if_neg (Tf HD.out hne)]at hst;have Di:=hid hst;clear hst hne;go_wp2_with fail
     go_quiet (fail)
     obtain⟨w2,HW2⟩:∃w2,Hid (wr.drewN nq=w2):=⟨_,rfl⟩;have hq1:Qt wr w2:=⟨nq,HW2.out.symm⟩;have HL2:Hid (RLp w w2 base b s lv md r (.slice lo rs.length lc) rs vs at'):=hid ⟨HL.out.rd.quiet hq1,HL.out.own.kept bn hbb (hq1.kept _),HL.out.few,HL.out.kept.trans (hq1.kept _),HL.out.whence,HL.out.rest⟩;clear hq1 c0 c1;go_upto_region 3 with fail
     rw[HW2.out];obtain⟨q,HQ⟩:∃q,Hid ((md.isEmpty&&fF.isPrefixOf (s.drop at'))=q):=⟨_,rfl⟩;go_cut [37] (λx wx=>x=.bool q∧dn wx b s (at'+if q then 6 else 0)∧Kept (· = b) w2 wx)
     case first=>
      rcases adW with hmd | hmd
      ·obtain⟨q2,rG⟩:∃q2,Hid (fF.isPrefixOf (s.drop at')=q2):=⟨_,rfl⟩;obtain rfl:q=q2:=by rw[←HQ.out,hmd,rG.out];rfl
       go_wp2_with fail
       refine(lF q fF _ _ _ _ HL2.out.rd rG.out).mono ?_;rintro e w3 ⟨rfl,hk3,h3⟩;have H3:Hid (dn w3 b s (at'+if q then 6 else 0)):=hid h3;have K3:=hid hk3;clear hk3 h3;go_wp2_with fail
       go_meet
       case rel=>exact⟨rfl,H3.out,K3.out⟩
      obtain rfl:q=false:=by rw[←HQ.out,hmd];rfl
      go_wp2_with fail
      go_meet
      case rel=>exact⟨rfl,HL2.out.rd,Kept.refl _ _⟩
     case rest=>
      obtain⟨rfl,h3,hk3⟩:=hcut;have K3:=hid hk3;have H3:=hid h3;have ZI:=hid (HL2.out.kept.trans (iV hk3));have O3:=hid (HL2.out.own.kept bn hbb hk3);clear h3 hk3;cases q with
      | true=>
       obtain⟨hmd,hmw⟩:md.isEmpty=true∧fF.isPrefixOf (s.drop at')=true:=by have:=HQ.out;simpa using this
       have ajV:md=[]:=by simpa using hmd
       have ane:=hid ajV;have HE:Hid (((fO (s.drop (at'+6)) (at'+6)).then λh=>(aP f h.1 rs h.2.1 h.2.2).then λx=>(aV [125] x.2.1 x.2.2).then λy=>aP f md x.1 y.1 y.2)=r):=hid (by
        rw[←Di.out,HQ.out,if_pos rfl,List.drop_drop])
       have H3':Hid (dn wc b s (at'+6)):=hid H3.out;have Ar:Hid (wc.cell? ⟨0,0,none⟩=some (.int .i64 m)):=hid (ZI.out.cell (λhs=>by
        rcases hs with hs | hs
        ·have:(0:Nat)=b:=hs;omega
        have:=(HO.out.own.lt 0 hs).1;omega) HM.out)
       clear ajV hmw;go_wp2_with fail
       refine(gI _ _ _ _ m H3'.out Ar.out hb0).mono ?_;rintro e w4 (⟨g,rfl,hk,OD⟩ | ⟨at4,rfl,hk,h4,OD⟩)
       ·have hR:Hid (r=.bad g):=hid (by rw[←HE.out];unfold fO;rw[OD.out];rfl);have KB:=hid (ZI.out.trans (iV hk));clear hk;go_wp2_with fail
        exact⟨rfl,.inl ⟨_,rfl,KB.out,hR⟩⟩
       have J4:=hid hk;have H4:=hid h4;have hl4:=h4.2.1;have arI:at'+6≤at4:=by obtain⟨_,_,h1,h2,_⟩:=fA OD.out;omega
       clear hk h4;by_cases aeI:at4=at'+6
       ·have eg:decide (at'+6<at4)=false:=by simp;omega
        have hR:Hid (r=.bad ⟨2,at4⟩):=hid (by rw[←HE.out];unfold fO;rw[OD.out,Ans.aN];simp only;rw[if_pos aeI];rfl);rw[eg];clear aeI;go_wp2_with fail
        refine(iG 2 _ _ _ _ H4.out).mono ?_;rintro e w9 ⟨rfl,zK⟩;go_wp2_with fail
        exact⟨rfl,.inl ⟨_,rfl,ZI.out.trans (iV (J4.out.trans (zK.kept _))),hR⟩⟩
       have eg:decide (at'+6<at4)=true:=by simp;omega
       have HE4:Hid (((dM (s.drop at4) at4).then λx=>(cO x.2.1 x.2.2).then λy=>(aV [123] y.1 y.2).then λz=>(aP f x.1 rs z.1 z.2).then λu=>(aV [125] u.2.1 u.2.2).then λv=>aP f md u.1 v.1 v.2)=r):=hid (by
        rw[←HE.out];unfold fO;rw[OD.out,Ans.aN];simp only;rw[if_neg aeI];cases dM (s.drop at4) at4 with
        | bad f=>rfl
        | ok x=>
         simp only[Ans.aN];cases cO x.2.1 x.2.2 with
         | bad f=>rfl
         | ok y=>
          simp only[Ans.aN];cases aV [123] y.1 y.2<;>rfl)
       rw[eg];clear aeI;go_wp2_with fail
       refine(oZ _ _ _ _ H4.out).mono ?_;rintro e w5 (⟨g,rfl,hk,xu⟩ | ⟨nm,at5,rfl,hk,h5,xu⟩)
       ·have hR:Hid (r=.bad g):=hid (by rw[←HE4.out,xu.out];rfl);have KB:=hid (ZI.out.trans (iV (J4.out.trans hk)));clear hk;go_wp2_with fail
        exact⟨rfl,.inl ⟨_,rfl,KB.out,hR⟩⟩
       have ZO:Hid (((cO (s.drop at5) at5).then λy=>(aV [123] y.1 y.2).then λz=>(aP f nm rs z.1 z.2).then λu=>(aV [125] u.2.1 u.2.2).then λv=>aP f md u.1 v.1 v.2)=r):=hid (by rw[←HE4.out,xu.out];rfl);have hnm:nm≠[]∧at4<at5:=by
        obtain⟨h1,h2,h3,_⟩:=mP xu.out;exact⟨by rintro rfl;simp at h1,by omega⟩
       have HNM:=hid hnm.1;have ach:=hnm.2;have J5:=hid (J4.out.trans hk);have H5:=hid h5;have Dh:=hid ((J4.out.trans hk).cell (by show ¬(0=b);omega) Ar.out);clear hk h5 hnm;go_wp2_with fail
       refine(gI _ _ _ _ m H5.out Dh.out hb0).mono ?_;rintro e w6 (⟨g,rfl,hk,Xf⟩ | ⟨kS,rfl,hk,h6,Xf⟩)
       ·have hR:Hid (r=.bad g):=hid (by rw[←ZO.out,Xf.out];rfl);have KB:=hid (ZI.out.trans (iV (J5.out.trans hk)));clear hk;go_wp2_with fail
        exact⟨rfl,.inl ⟨_,rfl,KB.out,hR⟩⟩
       have Yx:Hid (((aV [123] (s.drop kS) kS).then λz=>(aP f nm rs z.1 z.2).then λu=>(aV [125] u.2.1 u.2.2).then λv=>aP f md u.1 v.1 v.2)=r):=hid (by rw[←ZO.out,Xf.out];rfl);have aen:at5≤kS:=by obtain⟨_,_,h1,h2,_⟩:=fA Xf.out;omega
       have J6:=hid (J5.out.trans hk);have H6:=hid h6;clear hk h6;go_wp2_with fail
       refine(nO [123] _ _ _ _ H6.out).mono ?_;rintro e w7 (⟨g,rfl,hk,Jt⟩ | ⟨wF,rfl,hk,h7,Jt⟩)
       ·have hR:Hid (r=.bad g):=hid (by rw[←Yx.out,Jt.out];rfl);have KB:=hid (ZI.out.trans (iV (J6.out.trans hk)));clear hk;go_wp2_with fail
        exact⟨rfl,.inl ⟨_,rfl,KB.out,hR⟩⟩
       have HE7:Hid (((aP f nm rs (s.drop wF) wF).then λu=>(aV [125] u.2.1 u.2.2).then λv=>aP f md u.1 v.1 v.2)=r):=hid (by rw[←Yx.out,Jt.out];rfl);have aci:kS≤wF:=by have:=(iM Jt.out).2.1;omega
       have hl7:=h7.2.1;have J7:=hid (J6.out.trans hk);have H7:=hid h7;have Ll:=hid ((J6.out.trans hk).cell (by show ¬(0=b);omega) Ar.out);have anf:base≤w7.heap.size:=by have:=(J6.out.trans hk).size;have:=ZI.out.size;omega
       have O7:=hid (O3.out.kept bn hbb (J6.out.trans hk));have KW7:=hid (ZI.out.trans (iV (J6.out.trans hk)));have QN:(s.drop wF).length<f:=by have:=HF.out;rw[List.length_drop]at this ⊢;omega
       have HC:=hid (HI.out ane.out nm f rs vs (.slice lo rs.length lc) wF w7 HNM.out H7.out Ll.out anf O7.out Xe QN);clear hk h7 QN;go_wp2_with fail
       refine HC.out.mono ?_;rintro e w8 (⟨g,rfl,hk,hp8⟩ | ⟨v8,rs8,vs8,at8,rfl,OG,ajX,hk,h8,LD,hp8⟩)
       ·have hR:Hid (r=.bad g):=hid (by rw[←HE7.out,hp8.out];rfl);have KB:Hid (Kept (RS b lv) w w8):=hid (KW7.out.trans' hk (λk hk hs=>by
         rcases hs with hs | hs
         ·exact .inl hs
         rcases HL.out.whence k hs with h | h
         ·exact .inr h
         omega))
        clear hk;go_wp2_with fail
        exact⟨rfl,.inl ⟨_,rfl,KB.out,hR⟩⟩
       have HE8:Hid (((aV [125] (s.drop at8) at8).then λv=>aP f md rs8 v.1 v.2)=r):=hid (by rw[←HE7.out,hp8.out];rfl);have ajy:wF≤at8:=by
        have h1:=hp8.out;unfold aP at h1;obtain⟨⟨l2,a2⟩,g1,g2⟩:=then_ok h1;obtain⟨_,_,_,h2,_⟩:=fA g1;obtain⟨_,_,_,h3,_⟩:=UJ _ _ _ _ _ _ _ _ HNM.out Xe g2;omega
       have KW8:Hid (Kept (RS b lv) w w8):=hid (KW7.out.trans' hk (λk hk hs=>by
        rcases hs with hs | hs
        ·exact .inl hs
        rcases HL.out.whence k hs with h | h
        ·exact .inr h
        omega))
       have WH8:Hid (∀k,v8.ownBlock=some k→lv.ownBlock=some k∨w.heap.size≤k):=hid (λk hk=>by
        rcases ajX k hk with h | h
        ·exact HL.out.whence k h
        have:=KW7.out.size;exact .inr (by omega))
       obtain⟨lo8,lc8,rfl⟩:=OG.form;have O8:=hid OG;have H8:=hid h8;clear hk OG ajX h8;go_wp2_with fail
       refine(nO [125] _ _ _ _ H8.out).mono ?_;rintro e w9 (⟨g,rfl,hk,hp9⟩ | ⟨at9,rfl,hk,h9,hp9⟩)
       ·have hR:Hid (r=.bad g):=hid (by rw[←HE8.out,hp9.out];rfl);have KB:=hid (KW8.out.trans (iV hk));clear hk;go_wp2_with fail
        exact⟨rfl,.inl ⟨_,rfl,KB.out,hR⟩⟩
       have HE9:Hid (aP f md rs8 (s.drop at9) at9=r):=hid (by rw[←HE8.out,hp9.out];rfl);have arK:at8≤at9:=by have:=(iM hp9.out).2.1;omega
       have J9:=hid hk;have H9:=hid h9;have HM9:Hid (w9.cell? ⟨0,0,none⟩=some (.int .i64 m)):=hid ((KW8.out.trans (iV hk)).cell (λhs=>by
        rcases hs with hs | hs
        ·have:(0:Nat)=b:=hs;omega
        have:=(HO.out.own.lt 0 hs).1;omega) HM.out)
       clear hk h9;go_wp2_with fail
       refine(gI _ _ _ _ m H9.out HM9.out hb0).mono ?_;rintro e w10 (⟨g,rfl,hk,aeJ⟩ | ⟨Va,rfl,hk,h10,aeJ⟩)
       ·have hR:Hid (r=.bad g):=hid (by rw[←HE9.out];unfold aP;rw[aeJ.out];rfl);have KB:=hid (KW8.out.trans (iV (J9.out.trans hk)));clear hk;go_wp2_with fail
        exact⟨rfl,.inl ⟨_,rfl,KB.out,hR⟩⟩
       have aiS:at9≤Va:=by obtain⟨_,_,h1,h2,_⟩:=fA aeJ.out;omega
       have arL:=h10.2.1;have hd:RLp w w10 base b s lv md r (.slice lo8 rs8.length lc8) rs8 vs8 Va:=
        ⟨h10,O8.out.kept bn hbb (J9.out.trans hk),LD,KW8.out.trans (iV (J9.out.trans hk)),WH8.out,f,by have:=HF.out;rw[List.length_drop]at this ⊢;omega,by
         have h1:=HE9.out;unfold aP at h1;rw[aeJ.out]at h1;exact h1⟩
       have JR:=hid hd;clear hk h10 hd;go_wp2_with fail
       go_roundg (s.length-Va)
       case measure=>omega
       case rel=>exact⟨rs8,vs8,Va,JR.out,rfl⟩
      | false=>
       have H3':Hid (dn wc b s at'):=hid H3.out;have Td:Hid ((if rs.length=60 then Ans.bad ⟨5,at'⟩ else (kU md (s.drop at') at').then λx=>aP f md (rs++[x.1]) x.2.1 x.2.2)=r):=hid (by have h1:=Di.out;rw[HQ.out,if_neg (by simp)]at h1;exact h1);by_cases h60:rs.length=60
       ·have e60:((rs.length:Int)==60)=true:=by simp;omega
        have hR:Hid (r=.bad ⟨5,at'⟩):=hid (by rw[←Td.out,if_pos h60]);clear h60;go_wp2_with fail
        refine(iG 5 _ _ _ _ H3'.out).mono ?_;rintro e w9 ⟨rfl,zK⟩;go_wp2_with fail
        exact⟨rfl,.inl ⟨_,rfl,ZI.out.trans (iV (zK.kept _)),hR⟩⟩
       have e60:((rs.length:Int)==60)=false:=by simp;omega
       have ajY:Hid (((kU md (s.drop at') at').then λx=>aP f md (rs++[x.1]) x.2.1 x.2.2)=r):=hid (by rw[←Td.out,if_neg h60]);have agY:rs.length+1≤60:=by omega
       have Ar:Hid (wc.cell? ⟨0,0,none⟩=some (.int .i64 m)):=hid (ZI.out.cell (λhs=>by
        rcases hs with hs | hs
        ·have:(0:Nat)=b:=hs;omega
        have:=(HO.out.own.lt 0 hs).1;omega) HM.out)
       have vg:Hid (RLp w wc base b s lv md r (.slice lo rs.length lc) rs vs at'):=hid ⟨H3'.out,O3.out,HL.out.few,ZI.out,HL.out.whence,HL.out.rest⟩;have ad6:base≤wc.heap.size:=by have:=ZI.out.size;omega
       clear h60;go_wp2_with fail
       refine(ZH md _ _ _ _ m H3'.out Ar.out hb0).mono ?_;rintro e w5 (⟨g,rfl,hk,xu⟩ | ⟨u,at5,⟨sv,dv,rfl,hsv,hdv⟩,hk,h5,xu⟩)
       ·have hR:Hid (r=.bad g):=hid (by rw[←ajY.out,xu.out];rfl);have KB:=hid (ZI.out.trans (iV hk));clear hk;go_wp2_with fail
        exact⟨rfl,.inl ⟨_,rfl,KB.out,hR⟩⟩
       have ZO:Hid (aP f md (rs++[u]) (s.drop at5) at5=r):=hid (by rw[←ajY.out,xu.out];rfl);have ach:at'<at5:=by obtain⟨t,h1,h2,_,_,_,h3,_⟩:=AA xu.out;omega
       have acH:=(O3.out.kept bn hbb hk).own;have J5:=hid hk;have H5:=hid h5;have HSV:=hid hsv;have HDV:=hid hdv;obtain⟨sa,sc,rfl⟩:∃a c,sv=.slice a u.aZ.length c:=by
        obtain⟨yT,h1,⟨a,cap,h2,_⟩,_⟩:=hsv;exact⟨a,cap,by simpa [h1] using h2⟩
       obtain⟨da,dc,rfl⟩:∃a c,dv=.slice a u.decls.length c:=by
        obtain⟨a,cap,h,_⟩:=hdv.1;exact⟨a,cap,by simpa using h⟩
       have hsz5:base≤w5.heap.size:=by have:=hk.size;omega
       clear hk h5 hsv hdv;go_wp2_with (at_builtin;refine wpList_append_lies _ rfl _ _ _ rfl base 42 i0 _ 5 80 Tryz.underlying23 hi0 hz0 hz1 hz2 rfl (by omega) _ rs.length _ (by rfl) (acH.alloc _) ⟨w5.heap.size,0,none⟩ 1 1 (bI u (.tuple #[.slice sa u.aZ.length sc,.slice da u.decls.length dc])) (by rfl) (by rfl) (World.news_of_block (cs:=(bI u (.tuple #[.slice sa u.aZ.length sc,.slice da u.decls.length dc])).toArray) (t:=42) (fr:=(0,0)) (heap_alloc_new w5 _)) (by simp[bI,XE,XF,Value.oneCell']) (by omega) (by unfold maxLen;omega) (by omega) (by simp;omega) (w5.heap.size+1) (by simp) ?_;intro gg cap w6 hown6 hgrow6 ES aaW)
       obtain⟨h6,o6,k6,wh6⟩:=V8 vg.out hbb ad6 J5.out H5.out HSV.out HDV.out hown6 hgrow6 ES;have H6:=hid h6;have O6:=hid o6;have KW6:=hid k6;have WH6:=hid wh6;have Ls:Hid (w6.cell? ⟨0,0,none⟩=some (.int .i64 m)):=hid (k6.cell (λhs=>by
        rcases hs with hs | hs
        ·have:(0:Nat)=b:=hs;omega
        have:=(HO.out.own.lt 0 hs).1;omega) HM.out)
       clear h6 o6 k6 wh6 hown6 hgrow6 acH;refine(gI _ _ _ _ m H6.out Ls.out hb0).mono ?_;rintro e w7 (⟨g,rfl,hk,Jt⟩ | ⟨wF,rfl,hk,h7,Jt⟩)
       ·have hR:Hid (r=.bad g):=hid (by rw[←ZO.out];unfold aP;rw[Jt.out];rfl);have KB:=hid (KW6.out.trans (iV hk));clear hk;go_wp2_with fail
        exact⟨rfl,.inl ⟨_,rfl,KB.out,hR⟩⟩
       have aci:at5≤wF:=by obtain⟨_,_,h1,h2,_⟩:=fA Jt.out;omega
       have hl7:=h7.2.1;have hd:RLp w w7 base b s lv md r (.slice (some ⟨gg,0,none⟩) (rs.length+1) cap) (rs++[u]) (vs++[.tuple #[.slice sa u.aZ.length sc,.slice da u.decls.length dc]]) wF:=
        ⟨h7,O6.out.kept bn hbb hk,by simpa using agY,KW6.out.trans (iV hk),WH6.out,f,by have:=HF.out;rw[List.length_drop]at this ⊢;omega,by
         have h1:=ZO.out;unfold aP at h1;rw[Jt.out]at h1;exact h1⟩
       have JR:=hid hd;clear hk h7 hd;go_wp2_with fail
       go_roundg (s.length-wF)
       case measure=>omega
       case rel=>exact⟨_,_,wF,JR.out,rfl⟩
   have e0:decide ((at':Int)<(s.length:Int))=false:=by simp;omega
   have hR:Hid (r=.ok (rs,s.drop at',at')):=hid (by
    rw[←HST.out,if_pos];rw[List.drop_eq_nil_of_le (by omega)];rfl)
   go_wp2_with fail
   go_quiet (fail)
   go_wp2_with fail
   go_meet
   case rel=>exact⟨rs,vs,at',HL.out.rd.drewN _,HL.out.own.kept bn hbb ((Kept.refl _ _).drewN _),HL.out.few,HL.out.kept.drewN _,HL.out.whence,hR.out⟩
 case rest=>
  obtain⟨rs,vs,at',hD⟩:=hcut;have HD:=hid hD;clear hD;go_wp2_with fail
  go_ret
  exact .inr ⟨_,rs,vs,at',rfl,HD.out.own,HD.out.whence,HD.out.kept,HD.out.rd,HD.out.few,hid HD.out.ok⟩
theorem lY(fb:Nat)(f:iL)(w:World)(v1 v2:Value)(hf:w.heap[fb]?=some (.cells #[v1,v2] 26 (0,0))):
  CallsD Tryz.prog 72 #[.pointer (some ⟨fb,0,none⟩)] (.panicking ({ v:=Xt f,recovered:=false }::[])) w λe u' w'=>
   e=.returned (.tuple #[])∧u'=.panicking ({ v:=Xt f,recovered:=true }::[])∧Kept (· = fb) w w' ∧
    w'.heap[fb]?=some (.cells #[.int .i64 f.err,.int .i64 f.pos] 26 (0,0)):=by
 refine callsD_of_wpS Tryz.func72 rfl λc₀ cs hu=>?_
 apply wpS_seq;apply wpS_region;unfold Xt at hu ⊢;simp[wpOpsS,go_sem,recoverD,hu,Tryz.ntmps72,Exit.thenS];refine wpS_of_wp ?_;have hg:eqGuard .eql 20 (.tmp 5) (.const .nilIface) (.iface 178 (.agg #[.int .i64 (f.err:Int),.int .i64 (f.pos:Int)])) .nilIface=pure ():=rfl;have hta:∀w,(Instr.typeAssert (.iface 178 (.agg #[.int .i64 (f.err:Int),.int .i64 (f.pos:Int)])) 20 178 true).run Tryz.prog w=.ok (.tuple #[.agg #[.int .i64 (f.err:Int),.int .i64 (f.pos:Int)],.bool true]) w:=λw=>by kernel_rfl
 simp only[Array.replicate_succ,Array.replicate_zero,List.push_toArray,List.append_toArray,List.nil_append,List.cons_append,List.setIfInBounds_toArray,List.set_cons_succ,List.set_cons_zero];have g0:=ah hf 0 rfl;have g1:=ah hf 1 rfl;have g0f:=aF hf 0;have g1f:=aF hf 1;have hfl:=gW hf;go_wp2
 simp[bodyPostS,results,Tryz.results72];refine⟨?_,?_⟩
 ·exact((((Kept.refl (· = fb) w).setCell (p:=⟨fb,0,none⟩) (.inl rfl) _).setCell (p:=⟨fb,1,none⟩) (.inl rfl) _).alloc _)
 exact iw (aW (aW hf 0 (.int .i64 f.err)) 1 (.int .i64 f.pos)) _
theorem D8(p:Addr)(w:World):
  CallsD Tryz.prog 72 #[.pointer (some p)] .returning w λe u' w'=>e=.returned (.tuple #[])∧u'=.returning∧w'=w:=by
 refine callsD_of_wpS Tryz.func72 rfl λc₀ cs hu=>?_
 apply wpS_seq;apply wpS_region;simp[wpOpsS,go_sem,recoverD,hu,Tryz.ntmps72,Exit.thenS];refine wpS_of_wp ?_;have hg:eqGuard .eql 20 (.tmp 5) (.const .nilIface) .nilIface .nilIface=pure ():=rfl;simp only[Array.replicate_succ,Array.replicate_zero,List.push_toArray,List.append_toArray,List.nil_append,List.cons_append,List.setIfInBounds_toArray,List.set_cons_succ,List.set_cons_zero];go_wp2
 cases c₀;simp_all [bodyPostS,results,Tryz.results72]
theorem AO(fb lb:Nat)(err pos:Int)(u:FrameMode)(w:World)(v:Value)(hf:w.heap[fb]?=some (.cells #[.int .i64 err,.int .i64 pos] 26 (0,0)))(hl:w.heap[lb]?=some (.cells #[v] 23 (0,0)))(he:(err != 0)=true):
  CallsD Tryz.prog 71 #[.pointer (some ⟨fb,0,none⟩),.pointer (some ⟨lb,0,none⟩)] u w λe u' w'=>u'=u∧(e=.returned (.tuple #[])∧Kept (· = lb) w w'∧w'.heap[lb]?=some (.cells #[.slice none 0 0] 23 (0,0))):=by
 refine callsD_of_wp Tryz.func71 rfl ?_;have g0:=ah hf 0 rfl;have l0:=ah hl 0 rfl;have lf:=aF hl 0;simp[Tryz.ntmps71];simp only[Array.replicate_succ,Array.replicate_zero,List.push_toArray,List.append_toArray,List.nil_append,List.cons_append];go_wp2
 go_end0
 exact⟨rfl,(Kept.refl (· = lb) w).setCell (p:=⟨lb,0,none⟩) (.inl rfl) _,aW hl 0 _⟩
theorem AP(fb lb:Nat)(pos:Int)(u:FrameMode)(w:World)(hf:w.heap[fb]?=some (.cells #[.int .i64 0,.int .i64 pos] 26 (0,0))):
  CallsD Tryz.prog 71 #[.pointer (some ⟨fb,0,none⟩),.pointer (some ⟨lb,0,none⟩)] u w λe u' w'=>u'=u∧(e=.returned (.tuple #[])∧w'=w):=by
 refine callsD_of_wp Tryz.func71 rfl ?_;have g0:=ah hf 0 rfl;simp[Tryz.ntmps71];simp only[Array.replicate_succ,Array.replicate_zero,List.push_toArray,List.append_toArray,List.nil_append,List.cons_append];go_wp2
 go_end0
 exact⟨rfl,rfl⟩
end Go.Proofs.YtplbdlgmjehckacGreatDoor

