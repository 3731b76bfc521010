/-
 Lemmas for the claims of this seat: the program's functions walked, and plain laws.
-/
import Derived.Test.YtplbdlgmjehckacGreatDoorPkFoTellsFull6
import Derived.Deep.AppendLies
import Derived.Test.YtplbdlgmjehckacGreatDoorPkFoTellsFull2
set_option maxRecDepth 100000
set_option maxHeartbeats 3200000
namespace Go.Proofs.YtplbdlgmjehckacGreatDoor
open Go.Lib (hid)
open Go.RowKit
set_option linter.unusedVariables false
set_option linter.unusedSimpArgs false
theorem lF(r:Bool)(word:B)(w:World)(b:Nat)(s:B)(at_:Nat)(h:dn w b s at_)(hp:word.isPrefixOf (s.drop at_)=r):
  Calls Tryz.prog 105 #[.pointer (some ⟨b,0,none⟩),.string (str word)] w λe w'=>e=.returned (.bool r)∧Kept (· = b) w w'∧dn w' b s (at_+if r then word.length else 0):=by
 cases r with
 | false=>exact(qB word w b s at_ h hp).mono λe w' ⟨h1,h2⟩=>⟨h1,(show Qt w w' from h2).kept _,h.quiet h2⟩
 | true=>exact SX word w b s at_ h hp
theorem CY.bad{α:Type}{X:Ans (α×B×Nat)}{w:World}{b:Nat}{s:B}{R:World→α→Ending→Prop}{w':World}{f:iL}(hk:Kept (· = b) w w')(hX:X=.bad f):CY X w b s R (tK f) w':=
 .inl ⟨f,rfl,hk,hid hX⟩
theorem MB{w w2:World}{b nb:Nat}(h:w.heap.size≤nb)(hk:Kept (· = b) w w2)(x y z:Value):
  Kept (· = b) w (((w2.setCell ⟨nb,0,none⟩ x).setCell ⟨nb,1,none⟩ y).setCell ⟨nb,2,none⟩ z):=
 ((hk.setCell (p:=⟨nb,0,none⟩) (.inr h) _).setCell (p:=⟨nb,1,none⟩) (.inr h) _).setCell (p:=⟨nb,2,none⟩) (.inr h) _
theorem Cj{w0 w w':World}{b base e size n:Nat}{v:Value}{xs:List Value}{o:Obj}(hk:Kept (· = b) w0 w)(hb:w0.heap.size=base)(hown:w.ownsRow base e size v n xs)(hg:(w.alloc o).grownBy w' v.ownBlock):Kept (· = b) w0 w':=
 (hk.alloc o).grown hg (λk hk=>.inr (by have:=(hown.lt k hk).1;omega))
theorem Ou{w w':World}{b base e size n at_:Nat}{s:B}{v:Value}{xs:List Value}{o:Obj}(h:dn w b s at_)(hb:b<base)(hown:w.ownsRow base e size v n xs)(hg:(w.alloc o).grownBy w' v.ownBlock):dn w' b s at_:=
 h.kept (((Kept.refl (λk=>v.ownBlock=some k) w).alloc o).grown hg (λk hk=>.inl hk)) (λhk=>by have:=(hown.lt b hk).1;omega)
def acF:bQ:=⟨0,[],[]⟩
def sJ(t:Option bQ):Value:=.tuple #[.agg (dA (t.getD acF)).toArray,.bool t.isSome]
theorem zu{l nm l1:B}{a a1:Nat}(h:dM l a=.ok (nm,l1,a1))(hn:nm≠aj):iF l a =
  if ([61]:B).isPrefixOf l1 then (dM (l1.drop 1) (a1+1)).then λx=>(aV [93] x.2.1 x.2.2).then λy=>.ok ((⟨5,nm,x.1⟩:bQ),y.1,y.2)
  else (aV [93] l1 a1).then λy=>.ok ((⟨4,nm,[]⟩:bQ),y.1,y.2):=by
 unfold iF;rw[h,Ans.aN];simp only;rw[if_neg hn]
theorem Jh{l l1:B}{a a1:Nat}(h:dM l a=.ok (aj,l1,a1)):iF l a=.bad ⟨1,a1⟩:=by
 unfold iF;rw[h,Ans.aN];simp
theorem Ov{l:B}{a:Nat}{f:iL}(h:dM l a=.bad f):iF l a=.bad f:=by unfold iF;rw[h];rfl
theorem ZA(w:World)(b:Nat)(s:B)(at_:Nat)(h:dn w b s at_):
  Calls Tryz.prog 190 #[.pointer (some ⟨b,0,none⟩)] w (CY (iI (s.drop at_) at_) w b s (λ_ t e=>e=.returned (sJ t))):=by
 obtain⟨r,HR⟩:∃r,Hid (iI (s.drop at_) at_=r):=⟨_,rfl⟩;rw[HR.out];obtain⟨nb,oO⟩:∃nb,Hid (w.heap.size=nb):=⟨_,rfl⟩;obtain⟨wa,gX⟩:∃wa,Hid (w.alloc (.cells #[.int .i64 0,.string ⟨#[]⟩,.string ⟨#[]⟩] 158 (0,0))=wa):=⟨_,rfl⟩;have H:Hid (dn wa b s at_):=hid (by rw[←gX.out];exact h.alloc _);have HK:Hid (Kept (· = b) w wa):=hid (by rw[←gX.out];exact(Kept.refl _ _).alloc _);have HN:Hid (wa.heap[nb]?=some (.cells #[.int .i64 0,.string ⟨#[]⟩,.string ⟨#[]⟩] 158 (0,0))):=hid (by rw[←gX.out,←oO.out];exact aI _ _);have hnb:¬nb=b:=by have:=h.lt;have:=oO.out;omega
 have hl:=h.2.1;have hmx:=h.2.2;clear h;go_enter Tryz.func190,Tryz.ntmps190
 go_wp2_with fail
 rw[gX.out,oO.out];cases p1:([46]:B).isPrefixOf (s.drop at_)with
 | true=>
  refine(lF true [46] _ _ _ _ H.out p1).mono ?_;rintro e w1 ⟨rfl,hk1,h1⟩;have h1':dn w1 b s (at_+1):=h1;have HE:Hid (((dM (s.drop (at_+1)) (at_+1)).then λx=>Ans.ok (some (⟨2,x.1,[]⟩:bQ),x.2.1,x.2.2))=r):=hid (by rw[←HR.out];unfold iI;rw[if_pos p1,List.drop_drop]);have H1:=hid h1';have K1:=hid (HK.out.trans hk1);have N1:=hid (hk1.heap hnb HN.out);clear p1 hk1 h1 h1';go_wp2_with fail
  refine(oZ _ _ _ _ H1.out).mono ?_;rintro e w2 (⟨f,rfl,hk2,hp2⟩ | ⟨nm,at2,rfl,hk2,h2,hp2⟩)
  ·have hR:Hid (r=.bad f):=hid (by rw[←HE.out,hp2.out];rfl);have K2:=hid (K1.out.trans hk2);clear hk2;go_wp2_with fail
   exact⟨rfl,.bad K2.out hR.out⟩
  have hR:Hid (r=.ok (some ⟨2,nm,[]⟩,s.drop at2,at2)):=hid (by rw[←HE.out,hp2.out];rfl);have K2:=hid (K1.out.trans hk2);have H2:=hid h2;have hn2:=hk2.heap hnb N1.out;have N2:=hid hn2;have n0:=ah hn2 0 rfl;have n1:=ah hn2 1 rfl;have n2:=ah hn2 2 rfl;have nf0:=aF hn2 0;have nf1:=aF hn2 1;have nf2:=aF hn2 2;clear hk2 h2 hn2;go_wp2_with fail
  refine bodyPost_ret (v:=sJ (some ⟨2,nm,[]⟩)) (by simp[results,Tryz.results190,go_sem,n0,n1,n2,sJ,dA];rfl) rfl ?_;exact .inr ⟨_,at2,rfl,MB (by have:=oO.out;omega) K2.out _ _ _,((H2.out.other (by exact λh=>hnb h.symm)).other (by exact λh=>hnb h.symm)).other (by exact λh=>hnb h.symm),hR⟩
 | false=>
  have P1:=hid p1;refine(qB [46] _ _ _ _ H.out p1).mono ?_;rintro e w0 ⟨rfl,hq0⟩;have H0:=hid (H.out.quiet hq0);have uq:=hid (HK.out.trans ((show Qt wa w0 from hq0).kept _));have yF:=hid (((show Qt wa w0 from hq0).kept (· = b)).heap hnb HN.out);clear p1 hq0 H HK HN;have H:=H0;have HK:=uq;have HN:=yF;clear H0 uq yF;go_wp2_with fail
  cases p1:([35]:B).isPrefixOf (s.drop at_)with
  | true=>
   refine(lF true [35] _ _ _ _ H.out p1).mono ?_;rintro e w1 ⟨rfl,hk1,h1⟩;have h1':dn w1 b s (at_+1):=h1;have HE:Hid (((dM (s.drop (at_+1)) (at_+1)).then λx=>Ans.ok (some (⟨3,x.1,[]⟩:bQ),x.2.1,x.2.2))=r):=hid (by rw[←HR.out];unfold iI;rw[P1.out,if_neg (by simp)];rw[if_pos p1,List.drop_drop]);have H1:=hid h1';have K1:=hid (HK.out.trans hk1);have N1:=hid (hk1.heap hnb HN.out);clear p1 hk1 h1 h1';go_wp2_with fail
   refine(oZ _ _ _ _ H1.out).mono ?_;rintro e w2 (⟨f,rfl,hk2,hp2⟩ | ⟨nm,at2,rfl,hk2,h2,hp2⟩)
   ·have hR:Hid (r=.bad f):=hid (by rw[←HE.out,hp2.out];rfl);have K2:=hid (K1.out.trans hk2);clear hk2;go_wp2_with fail
    exact⟨rfl,.bad K2.out hR.out⟩
   have hR:Hid (r=.ok (some ⟨3,nm,[]⟩,s.drop at2,at2)):=hid (by rw[←HE.out,hp2.out];rfl);have K2:=hid (K1.out.trans hk2);have H2:=hid h2;have hn2:=hk2.heap hnb N1.out;have N2:=hid hn2;have n0:=ah hn2 0 rfl;have n1:=ah hn2 1 rfl;have n2:=ah hn2 2 rfl;have nf0:=aF hn2 0;have nf1:=aF hn2 1;have nf2:=aF hn2 2;clear hk2 h2 hn2;go_wp2_with fail
   refine bodyPost_ret (v:=sJ (some ⟨3,nm,[]⟩)) (by simp[results,Tryz.results190,go_sem,n0,n1,n2,sJ,dA];rfl) rfl ?_;exact .inr ⟨_,at2,rfl,MB (by have:=oO.out;omega) K2.out _ _ _,((H2.out.other (by exact λh=>hnb h.symm)).other (by exact λh=>hnb h.symm)).other (by exact λh=>hnb h.symm),hR⟩
  | false=>
   have P2:=hid p1;obtain⟨w0_,hw0⟩:∃x,x=w0:=⟨_,rfl⟩;subst hw0;refine(qB [35] _ _ _ _ H.out p1).mono ?_;rintro e w0 ⟨rfl,hq0⟩;have H0:=hid (H.out.quiet hq0);have uq:=hid (HK.out.trans ((show Qt w0_ w0 from hq0).kept _));have yF:=hid (((show Qt w0_ w0 from hq0).kept (· = b)).heap hnb HN.out);clear p1 hq0 H HK HN;have H:=H0;have HK:=uq;have HN:=yF;clear H0 uq yF;go_wp2_with fail
   cases p1:firstWord.isPrefixOf (s.drop at_)with
   | true=>
    refine(lF true firstWord _ _ _ _ H.out p1).mono ?_;rintro e w1 ⟨rfl,hk1,h1⟩;have hR:Hid (r=.ok (some ⟨6,[],[]⟩,s.drop (at_+6),at_+6)):=hid (by rw[←HR.out];unfold iI;rw[P1.out,if_neg (by simp),P2.out,if_neg (by simp),if_pos p1,List.drop_drop]);have K2:=hid (HK.out.trans hk1);have H2:Hid (dn w1 b s (at_+6)):=hid h1;have hn2:=hk1.heap hnb HN.out;have n0:=ah hn2 0 rfl;have n1:=ah hn2 1 rfl;have n2:=ah hn2 2 rfl;have nf0:=aF hn2 0;have nf1:=aF hn2 1;have nf2:=aF hn2 2;clear p1 hk1 h1 hn2;go_wp2_with fail
    refine bodyPost_ret (v:=sJ (some ⟨6,[],[]⟩)) (by simp[results,Tryz.results190,go_sem,n0,n1,n2,sJ,dA];rfl) rfl ?_;exact .inr ⟨_,at_+6,rfl,MB (by have:=oO.out;omega) K2.out _ _ _,((H2.out.other (by exact λh=>hnb h.symm)).other (by exact λh=>hnb h.symm)).other (by exact λh=>hnb h.symm),hR⟩
   | false=>
    have P3:=hid p1;obtain⟨ajD,hw0⟩:∃x,x=w0:=⟨_,rfl⟩;subst hw0;refine(qB firstWord _ _ _ _ H.out p1).mono ?_;rintro e w0 ⟨rfl,hq0⟩;have H0:=hid (H.out.quiet hq0);have uq:=hid (HK.out.trans ((show Qt ajD w0 from hq0).kept _));have yF:=hid (((show Qt ajD w0 from hq0).kept (· = b)).heap hnb HN.out);clear p1 hq0 H HK HN;have H:=H0;have HK:=uq;have HN:=yF;clear H0 uq yF;go_wp2_with fail
    cases p1:([91]:B).isPrefixOf (s.drop at_)with
    | true=>
     refine(lF true [91] _ _ _ _ H.out p1).mono ?_;rintro e w1 ⟨rfl,hk1,h1⟩;have h1':dn w1 b s (at_+1):=h1;have HE:Hid (((iF (s.drop (at_+1)) (at_+1)).then λx=>Ans.ok (some x.1,x.2.1,x.2.2))=r):=hid (by
      rw[←HR.out];unfold iI;rw[P1.out,if_neg (by simp),P2.out,if_neg (by simp),P3.out,if_neg (by simp),if_pos p1,List.drop_drop])
     have H1:=hid h1';have K1:=hid (HK.out.trans hk1);have N1:=hid (hk1.heap hnb HN.out);clear p1 hk1 h1 h1';go_wp2_with fail
     refine(oZ _ _ _ _ H1.out).mono ?_;rintro e w2 (⟨f,rfl,hk2,hp2⟩ | ⟨nm,at2,rfl,hk2,h2,hp2⟩)
     ·have hR:Hid (r=.bad f):=hid (by rw[←HE.out,Ov hp2.out];rfl);have K2:=hid (K1.out.trans hk2);clear hk2;go_wp2_with fail
      exact⟨rfl,.bad K2.out hR.out⟩
     have K2:=hid (K1.out.trans hk2);have H2:=hid h2;have N2:=hid (hk2.heap hnb N1.out);clear hk2 h2;by_cases hst:nm=aj
     ·subst hst;have hR:Hid (r=.bad ⟨1,at2⟩):=hid (by rw[←HE.out,Jh hp2.out];rfl);go_wp2_with fail
      refine(iG 1 _ _ _ _ (H2.out.alloc _)).mono ?_;rintro e w3 ⟨rfl,hq3⟩;go_wp2_with fail
      exact⟨rfl,.bad ((K2.out.alloc _).trans (hq3.kept _)) hR.out⟩
     have hsb:(nm==[115,116,121,108,101])=false:=by rw[beq_eq_false_iff_ne];exact hst
     obtain⟨Ph,ZB⟩:∃n2,Hid (w2.heap.size=n2):=⟨_,rfl⟩;obtain⟨wb,jo⟩:∃wb,Hid (w2.alloc (.cells #[.int .i64 4,.string (str nm),.string ⟨#[]⟩] 158 (0,0))=wb):=⟨_,rfl⟩;have H3:Hid (dn wb b s at2):=hid (by rw[←jo.out];exact H2.out.alloc _);have K3:Hid (Kept (· = b) w wb):=hid (by rw[←jo.out];exact K2.out.alloc _);have N3:Hid (wb.heap[nb]?=some (.cells #[.int .i64 0,.string ⟨#[]⟩,.string ⟨#[]⟩] 158 (0,0))):=hid (by rw[←jo.out];exact iw N2.out _);have M3:Hid (wb.heap[Ph]?=some (.cells #[.int .i64 4,.string (str nm),.string ⟨#[]⟩] 158 (0,0))):=hid (by rw[←jo.out,←ZB.out];exact aI _ _);have hnn:¬nb=Ph:=by have:=ZB.out;have:=gW N2.out;omega
     have yL:¬Ph=b:=by have:=ZB.out;have:=H2.out.lt;omega
     have hw2:w.heap.size≤Ph:=by have:=ZB.out;have:=K2.out.size;omega
     go_wp2_with fail
     rw[jo.out,ZB.out];clear jo ZB H2 K2 N2;cases p2:([61]:B).isPrefixOf (s.drop at2)with
     | true=>
      refine(lF true [61] _ _ _ _ H3.out p2).mono ?_;rintro e w4 ⟨rfl,hk4,h4⟩;have h4':dn w4 b s (at2+1):=h4;have HE2:Hid (((dM (s.drop (at2+1)) (at2+1)).then λx=>(aV [93] x.2.1 x.2.2).then λy=>Ans.ok (some (⟨5,nm,x.1⟩:bQ),y.1,y.2))=r):=hid (by
       rw[←HE.out,zu hp2.out hst,if_pos p2,List.drop_drop];cases dM (s.drop (at2+1)) (at2+1)with
       | bad f=>rfl
       | ok x=>
        simp only[Ans.aN];cases aV [93] x.2.1 x.2.2<;>rfl)
      have H4:=hid h4';have K4:=hid (K3.out.trans hk4);have N4:=hid (hk4.heap hnb N3.out);have M4:=hid (hk4.heap yL M3.out);have HP2:=hid p2;clear p2 hk4 h4 h4';go_wp2_with fail
      refine(oZ _ _ _ _ H4.out).mono ?_;rintro e w5 (⟨f,rfl,hk5,xu⟩ | ⟨v,at5,rfl,hk5,h5,xu⟩)
      ·have hR:Hid (r=.bad f):=hid (by rw[←HE2.out,xu.out];rfl);have K5:=hid (K4.out.trans hk5);clear hk5;go_wp2_with fail
       exact⟨rfl,.bad K5.out hR.out⟩
      have WW:Hid (((aV [93] (s.drop at5) at5).then λy=>Ans.ok (some (⟨5,nm,v⟩:bQ),y.1,y.2))=r):=hid (by rw[←HE2.out,xu.out];rfl);have K5:=hid (K4.out.trans hk5);have H5:=hid h5;have N5:=hid (hk5.heap hnb N4.out);have M5:=hid (hk5.heap yL M4.out);have m0:=ah M5.out 0 rfl;have m2:=ah M5.out 2 rfl;have mf0:=aF M5.out 0;have mf2:=aF M5.out 2;clear hk5 h5;go_wp2_with fail
      have HA:=hid ((H5.out.other (p:=⟨Ph,0,none⟩) (x:=.int .i64 5) (by exact λh=>yL h.symm)).other (p:=⟨Ph,2,none⟩) (x:=.string (str v)) (by exact λh=>yL h.symm));have KA:=hid ((K5.out.setCell (p:=⟨Ph,0,none⟩) (.inr hw2) (.int .i64 5)).setCell (p:=⟨Ph,2,none⟩) (.inr hw2) (.string (str v)));have NA:=hid (eF (eF N5.out ⟨Ph,0,none⟩ (.int .i64 5) hnn) ⟨Ph,2,none⟩ (.string (str v)) hnn);have MA:Hid (((w5.setCell ⟨Ph,0,none⟩ (.int .i64 5)).setCell ⟨Ph,2,none⟩ (.string (str v))).heap[Ph]?=some (.cells #[.int .i64 5,.string (str nm),.string (str v)] 158 (0,0))):=hid (by
       have:=aW (aW M5.out 0 (.int .i64 5)) 2 (.string (str v));simpa using this)
      clear m0 m2 mf0 mf2;generalize ((w5.setCell ⟨Ph,0,none⟩ (.int .i64 5)).setCell ⟨Ph,2,none⟩ (.string (str v)))=w6 at *;refine(nO [93] _ _ _ _ HA.out).mono ?_;rintro e w7 (⟨f,rfl,jD,Jt⟩ | ⟨wF,rfl,jD,h7,Jt⟩)
      ·have hR:Hid (r=.bad f):=hid (by rw[←WW.out,Jt.out];rfl);have K7:=hid (KA.out.trans jD);clear jD;go_wp2_with fail
       exact⟨rfl,.bad K7.out hR.out⟩
      have hR:Hid (r=.ok (some ⟨5,nm,v⟩,s.drop wF,wF)):=hid (by rw[←WW.out,Jt.out];rfl);have K7:=hid (KA.out.trans jD);have H7:=hid h7;have V3:=jD.heap hnb NA.out;have ZN:=jD.heap yL MA.out;have n0:=ah V3 0 rfl;have n1:=ah V3 1 rfl;have n2:=ah V3 2 rfl;have nf0:=aF V3 0;have nf1:=aF V3 1;have nf2:=aF V3 2;have m0:=ah ZN 0 rfl;have m1:=ah ZN 1 rfl;have m2:=ah ZN 2 rfl;clear jD h7 V3 ZN;go_wp2_with fail
      refine bodyPost_ret (v:=sJ (some ⟨5,nm,v⟩)) (by simp[results,Tryz.results190,go_sem,n0,n1,n2,sJ,dA];try rfl) rfl ?_;exact .inr ⟨_,wF,rfl,MB (by have:=oO.out;omega) K7.out _ _ _,((H7.out.other (by exact λh=>hnb h.symm)).other (by exact λh=>hnb h.symm)).other (by exact λh=>hnb h.symm),hR⟩
     | false=>
      have WW:Hid (((aV [93] (s.drop at2) at2).then λy=>Ans.ok (some (⟨4,nm,[]⟩:bQ),y.1,y.2))=r):=hid (by
       rw[←HE.out,zu hp2.out hst,p2,if_neg (by simp)];cases aV [93] (s.drop at2) at2<;>rfl)
      refine(qB [61] _ _ _ _ H3.out p2).mono ?_;rintro e w4 ⟨rfl,hq4⟩;have hqk:Kept (· = b) wb w4:=(show Qt wb w4 from hq4).kept _;have HA:=hid (H3.out.quiet hq4);have KA:=hid (K3.out.trans hqk);have NA:=hid (hqk.heap hnb N3.out);have MA:=hid (hqk.heap yL M3.out);clear p2 hq4 hqk;go_wp2_with fail
      refine(nO [93] _ _ _ _ HA.out).mono ?_;rintro e w7 (⟨f,rfl,jD,Jt⟩ | ⟨wF,rfl,jD,h7,Jt⟩)
      ·have hR:Hid (r=.bad f):=hid (by rw[←WW.out,Jt.out];rfl);have K7:=hid (KA.out.trans jD);clear jD;go_wp2_with fail
       exact⟨rfl,.bad K7.out hR.out⟩
      have hR:Hid (r=.ok (some ⟨4,nm,[]⟩,s.drop wF,wF)):=hid (by rw[←WW.out,Jt.out];rfl);have K7:=hid (KA.out.trans jD);have H7:=hid h7;have V3:=jD.heap hnb NA.out;have ZN:=jD.heap yL MA.out;have n0:=ah V3 0 rfl;have n1:=ah V3 1 rfl;have n2:=ah V3 2 rfl;have nf0:=aF V3 0;have nf1:=aF V3 1;have nf2:=aF V3 2;have m0:=ah ZN 0 rfl;have m1:=ah ZN 1 rfl;have m2:=ah ZN 2 rfl;clear jD h7 V3 ZN;go_wp2_with fail
      refine bodyPost_ret (v:=sJ (some ⟨4,nm,[]⟩)) (by simp[results,Tryz.results190,go_sem,n0,n1,n2,sJ,dA];try rfl) rfl ?_;exact .inr ⟨_,wF,rfl,MB (by have:=oO.out;omega) K7.out _ _ _,((H7.out.other (by exact λh=>hnb h.symm)).other (by exact λh=>hnb h.symm)).other (by exact λh=>hnb h.symm),hR⟩
    | false=>
     refine(qB [91] _ _ _ _ H.out p1).mono ?_;rintro e w1 ⟨rfl,hq1⟩;have hR:Hid (r=.ok (none,s.drop at_,at_)):=hid (by rw[←HR.out];unfold iI;rw[P1.out,if_neg (by simp),P2.out,if_neg (by simp),P3.out,if_neg (by simp),p1,if_neg (by simp)]);have hqk:Kept (· = b) w0 w1:=(show Qt w0 w1 from hq1).kept _;have K2:=hid (HK.out.trans hqk);have H2:=hid (H.out.quiet hq1);have hn2:=hqk.heap hnb HN.out;have n0:=ah hn2 0 rfl;have n1:=ah hn2 1 rfl;have n2:=ah hn2 2 rfl;have nf0:=aF hn2 0;have nf1:=aF hn2 1;have nf2:=aF hn2 2;clear p1 hq1 hqk hn2;go_wp2_with fail
     refine bodyPost_ret (v:=sJ none) (by simp[results,Tryz.results190,go_sem,n0,n1,n2,sJ,dA,acF];rfl) rfl ?_;exact .inr ⟨_,at_,rfl,MB (by have:=oO.out;omega) K2.out _ _ _,((H2.out.other (by exact λh=>hnb h.symm)).other (by exact λh=>hnb h.symm)).other (by exact λh=>hnb h.symm),hR⟩
theorem Tc(t:bQ):∀u∈dA t,u.oneCell'=true:=by
 intro u hu;simp only[dA,List.mem_cons,List.not_mem_nil,or_false]at hu;rcases hu with rfl | rfl | rfl<;>rfl
theorem qC{f:Nat}{ts:List bQ}{q:Bool}{l:B}{a:Nat}{r:Ans (List bQ×B×Nat)}(h:dF (f+1) ts q l a=r):
  ((iI l a).then λx=>match x.1 with
  | none=>if q then .ok (ts,l,a) else .bad ⟨2,a⟩
  | some t=>if ts.length=6 then .bad ⟨5,x.2.2⟩ else dF f (ts++[t]) true x.2.1 x.2.2)=r:=by
 rw[←h,dF];cases iI l a with
 | bad f=>rfl
 | ok x=>
  obtain⟨t,l1,a1⟩:=x;cases t<;>rfl
structure acG(w wr:World)(b:Nat)(s:B)(base:Nat)(r:Ans (List bQ×B×Nat))(l:Value)(ts:List bQ)(q:Bool)(at':Nat):Prop where
 rd:dn wr b s at'
 own:wr.ownsRow base 158 3 l ts.length (ts.map dA).flatten
 few:ts.length≤6
 kept:Kept (· = b) w wr
 rest:∃f,(s.drop at').length<f∧dF f ts q (s.drop at') at'=r
theorem Ji(w:World)(b:Nat)(s:B)(at_:Nat)(h:dn w b s at_):
  Calls Tryz.prog 178 #[.pointer (some ⟨b,0,none⟩)] w (CY (eU (s.drop at_) at_) w b s (λw' ts e=>∃v,e=.returned v∧jy w' (λk=>k<w.heap.size) v ts)):=by
 obtain⟨r,HR⟩:∃r,Hid (eU (s.drop at_) at_=r):=⟨_,rfl⟩;rw[HR.out];obtain⟨i0,hi0,hz0,hz1,hz2⟩:=info_parts Lj;obtain⟨base,fB⟩:∃base,Hid (w.heap.size=base):=⟨_,rfl⟩;have hbb:b<base:=by have:=h.lt;have:=fB.out;omega
 have H:=hid h;have hl:=h.2.1;have hmx:=h.2.2;clear h;go_enter Tryz.func178,Tryz.ntmps178
 go_wp2_with fail
 obtain⟨q0,HQ0⟩:∃q0,Hid (([42]:B).isPrefixOf (s.drop at_)=q0):=⟨_,rfl⟩;refine(lF q0 [42] _ _ _ _ H.out HQ0.out).mono ?_;rintro e w1 ⟨rfl,hk1,h1⟩;obtain⟨ji,HA1⟩:∃a,Hid ((at_+if q0 then ([42]:B).length else 0)=a):=⟨_,rfl⟩;rw[HA1.out]at h1;have H1:=hid h1;have uZ:=hid hk1;have hl1:=h1.2.1;obtain⟨n0,yF⟩:∃n0,Hid ((!q0 && !(aJ (s.drop ji)==0))=n0):=⟨_,rfl⟩;have c0:=h1.c0;have c1:=h1.c1;clear h1 hk1;go_upto_region 3 with fail
 go_cut [3,39] (λl x wx=>x=.bool n0∧Qt w1 wx∧wx.ownsRow base 158 3 l 0 [])
 case first=>
  cases q0 with
  | true=>
   obtain rfl:n0=false:=by rw[←yF.out];rfl
   go_wp2_with fail
   go_quiet (fail)
   go_wp2_with fail
   go_meet
   case rel=>exact⟨rfl,⟨_,rfl⟩,World.ownsRow_nil _ _ _ _⟩
  | false=>
   by_cases hlt:ji<s.length
   ·have e0:decide ((ji:Int)<(s.length:Int))=true:=by simp;omega
    have e5:IntKind.i64.wrap ((ji:Int)+1)=(ji:Int)+1:=IntWalk.i64_in _ (by omega);have e6:(0:Int)≤(ji:Int)+1:=by omega
    have e7:((ji:Int)+1).toNat=ji+1:=by omega
    have e8:(ji:Int)+1≤(s.length:Int):=by omega
    have e9:(ji:Int)≤(ji:Int)+1:=by omega
    have HT:Hid (∀x,x=1→named ((s.drop ji).take x)=n0):=hid (λx hx=>by
     subst hx;rw[←yF.out];by_cases h0:aJ (s.drop ji)=0
     ·have:=zq (l:=s.drop ji) (by rw[h0,List.length_drop];omega);rw[h0]at this;simpa [h0] using this
     rw[show(1:Nat)=0+1 from rfl,Jg (by omega) (by omega)];simp[h0])
    go_wp2_with fail
    go_quiet ((go_at_call 154;exact Calls.quiet_of_same (named_is n0 _ _ (HT.out _ (by omega)))))
    go_wp2_with fail
    go_meet
    case rel=>exact⟨rfl,⟨_,rfl⟩,World.ownsRow_nil _ _ _ _⟩
   have e0:decide ((ji:Int)<(s.length:Int))=false:=by simp;omega
   obtain rfl:n0=false:=by
    rw[←yF.out,List.drop_eq_nil_of_le (by omega)];rfl
   go_wp2_with fail
   go_quiet (fail)
   go_wp2_with fail
   go_meet
   case rel=>exact⟨rfl,⟨_,rfl⟩,World.ownsRow_nil _ _ _ _⟩
 case rest=>
  obtain⟨rfl,hq2,how⟩:=hcut;have HOW:=hid how;clear how;have H2:=hid (H1.out.quiet hq2);have iO:=hid (uZ.out.trans (hq2.kept _));clear c0 c1 hq2;have HE:Hid ((if n0 then (dM (s.drop ji) ji).then λx=>dF (x.2.1.length+1) [⟨1,x.1,[]⟩] true x.2.1 x.2.2 else dF ((s.drop ji).length+1) [] q0 (s.drop ji) ji)=r):=hid (by
   rw[←HR.out,←yF.out,←HA1.out];unfold eU uw;have hq:=HQ0.out;cases q0 with
   | true=>rw[if_pos hq];simp
   | false=>
    rw[hq];by_cases h0:aJ (s.drop at_)=0
    ·simp[h0]
    simp[h0];cases dM (s.drop at_) at_ with
    | bad f=>rfl
    | ok x=>rfl)
  go_upto_if 39 with fail
  go_cut [3,4] (λl q wx=>∃ts qb at',q=.bool qb∧acG w wx b s base r l ts qb at')
  case first=>
   cases n0 with
   | false=>
    have hE:=HE.out;rw[if_neg (by simp)]at hE;have HE':=hid hE;clear hE;go_wp2_with fail
    go_meet
    case rel=>exact⟨[],q0,ji,rfl,H2.out,HOW.out,by simp,iO.out,_,by omega,HE'.out⟩
   | true=>
    have hE:=HE.out;rw[if_pos rfl]at hE;have HE':=hid hE;clear hE;go_wp2_with fail
    refine(oZ _ _ _ _ H2.out).mono ?_;rintro e w3 (⟨f,rfl,hk3,hp3⟩ | ⟨nm,at3,rfl,hk3,h3,hp3⟩)
    ·have hR:Hid (r=.bad f):=hid (by rw[←HE'.out,hp3.out];rfl);have K3:=hid (iO.out.trans hk3);clear hk3;go_wp2_with fail
     exact⟨rfl,.bad K3.out hR.out⟩
    have hR:Hid (dF ((s.drop at3).length+1) [⟨1,nm,[]⟩] true (s.drop at3) at3=r):=hid (by rw[←HE'.out,hp3.out];rfl);have K3:=hid (iO.out.trans hk3);have H3:=hid h3;have Nz:=aK HOW.out hk3 (λk hk=>by have:=(HOW.out.lt k hk).1;omega);have hsz:base≤w3.heap.size:=by have:=K3.out.size;have:=fB.out;omega
    clear hk3 h3;go_wp2_with (at_builtin;refine wpList_append_lies _ rfl _ _ _ rfl base 158 i0 _ 3 40 Tryz.underlying154 hi0 hz0 hz1 hz2 rfl (by omega) _ 0 [] (by rfl) (Nz.alloc _) ⟨w3.heap.size,0,none⟩ 1 1 (dA ⟨1,nm,[]⟩) (by rfl) (by rfl) (World.news_of_block (cs:=(dA ⟨1,nm,[]⟩).toArray) (t:=158) (fr:=(0,0)) (heap_alloc_new w3 _)) (Tc _) (by omega) (by unfold maxLen;omega) (by omega) (by simp;omega) (w3.heap.size+1) (by simp) ?_;intro gg cap w4 hown4 hgrow4 EO hlt4)
    go_meet
    case rel=>exact⟨[⟨1,nm,[]⟩],true,at3,rfl,Ou H3.out hbb Nz hgrow4,hown4,by simp,Cj K3.out fB.out Nz hgrow4,_,by omega,hR.out⟩
  case rest=>
   obtain⟨ts0,qb0,at0,rfl,hL0⟩:=hcut;have TM:=hid hL0;clear hL0;go_upto_block 0 with fail
   go_cut [3,4] (λl q wx=>∃ts qb at',q=.bool qb∧acG w wx b s base r l ts qb at'∧Hid (iI (s.drop at') at'=.ok (none,s.drop at',at')))
   case first=>
    go_wp2_with fail
    go_loopg [3,4] (s.length-at0) (λk l q wr=>∃ts qb at',q=.bool qb∧acG w wr b s base r l ts qb at'∧k=s.length-at')
    case atStart=>exact⟨ts0,qb0,at0,rfl,TM.out,rfl⟩
    case round=>
     obtain⟨ts,qb,at',rfl,hL,hk⟩:=hrel;have HL:=hid hL;have hfew:=hL.few;have hl':=hL.rd.2.1;clear hL;go_wp2_with fail
     refine(ZA _ _ _ _ HL.out.rd).mono ?_;rintro e w5 (⟨f,rfl,hk5,xu⟩ | ⟨t,at5,rfl,hk5,h5,xu⟩)
     ·have hR:Hid (r=.bad f):=hid (by
       obtain⟨g,hg,hr⟩:=HL.out.rest;cases g with
       | zero=>omega
       | succ g=>rw[←qC hr,xu.out];rfl)
      have K5:=hid (HL.out.kept.trans hk5);clear hk5;go_wp2_with fail
      exact⟨rfl,.bad K5.out hR.out⟩
     have H5:=hid h5;have K5:=hid (HL.out.kept.trans hk5);have acH:=aK HL.out.own hk5 (λk hk=>by have:=(HL.out.own.lt k hk).1;omega);have hsz:base≤w5.heap.size:=by have:=K5.out.size;have:=fB.out;omega
     have aeD:=hid acH;clear hk5 h5 acH;cases t with
     | none=>
      obtain⟨ht1,ht2⟩:s.drop at'=s.drop at5∧at5=at':=by
       obtain⟨t,h1,h2,_,h3,_⟩:=Aw xu.out;have:=h3 rfl;subst this;exact⟨h1,h2⟩
      subst ht2;rw[show sJ none=.tuple #[.agg #[.int .i64 0,.string (str []),.string (str [])],.bool false] from rfl];go_wp2_with fail
      go_meet
      case rel=>exact⟨ts,qb,at5,rfl,⟨H5.out.alloc _,aeD.out.alloc _,HL.out.few,K5.out.alloc _,HL.out.rest⟩,xu⟩
     | some t=>
      have hlt:at'<at5:=by
       obtain⟨t,h1,h2,h3,_⟩:=Aw xu.out;have:=h3 (by simp);omega
      have hl5:=H5.out.2.1;rw[show sJ (some t)=.tuple #[.agg #[.int .i64 t.kind,.string (str t.name),.string (str t.val)],.bool true] from rfl];by_cases h6:ts.length=6
      ·have e6:((ts.length:Int)==6)=true:=by simp;omega
       have hR:Hid (r=.bad ⟨5,at5⟩):=hid (by
        obtain⟨g,hg,hr⟩:=HL.out.rest;cases g with
        | zero=>omega
        | succ g=>rw[←qC hr,xu.out,Ans.aN];simp only;rw[if_pos h6])
       clear h6;obtain⟨vo,vc,hv⟩:∃vo vc,u3=.slice vo ts.length vc:=by
        rcases aeD.out.2 with⟨h,hn⟩ | ⟨g,cap,cur,h,_⟩
        ·exact⟨none,0,by rw[h,hn]⟩
        exact⟨_,cap,h⟩
       subst hv;go_wp2_with fail
       refine(iG 5 _ _ _ _ (H5.out.alloc _)).mono ?_;rintro e w9 ⟨rfl,zK⟩;go_wp2_with fail
       exact⟨rfl,.bad ((K5.out.alloc _).trans (zK.kept _)) hR.out⟩
      have e6:((ts.length:Int)==6)=false:=by simp;omega
      have hR:Hid (∃g,(s.drop at5).length<g∧dF g (ts++[t]) true (s.drop at5) at5=r):=hid (by
       obtain⟨g,hg,hr⟩:=HL.out.rest;cases g with
       | zero=>omega
       | succ g=>
        have:=qC hr;rw[xu.out,Ans.aN]at this;simp only at this;rw[if_neg h6]at this;exact⟨g,by rw[List.length_drop]at hg ⊢;omega,this⟩)
      obtain⟨vo,vc,hv⟩:∃vo vc,u3=.slice vo ts.length vc:=by
       rcases aeD.out.2 with⟨h,hn⟩ | ⟨g,cap,cur,h,_⟩
       ·exact⟨none,0,by rw[h,hn]⟩
       exact⟨_,cap,h⟩
      subst hv;obtain⟨tk,tn,tv⟩:=t;obtain⟨wb,jo⟩:∃wb,Hid (w5.alloc (.cells #[.int .i64 tk,.string (str tn),.string (str tv)] 158 (0,0))=wb):=⟨_,rfl⟩;have H6:Hid (dn wb b s at5):=hid (by rw[←jo.out];exact H5.out.alloc _);have K6:Hid (Kept (· = b) w wb):=hid (by rw[←jo.out];exact K5.out.alloc _);have zJ:wb.ownsRow base 158 3 (.slice vo ts.length vc) ts.length (ts.map dA).flatten:=by rw[←jo.out];exact aeD.out.alloc _
      have am3:base≤wb.heap.size:=by rw[←jo.out];simp;omega
      have yV:wb.heap[w5.heap.size]?=some (.cells #[.int .i64 tk,.string (str tn),.string (str tv)] 158 (0,0)):=by rw[←jo.out];exact aI _ _
      have n0:=ah yV 0 rfl;have n1:=ah yV 1 rfl;have n2:=ah yV 2 rfl;have acI:ts.length+1≤6:=by omega
      clear yV h6;go_upto_region 7 with fail
      rw[jo.out];go_wp2_with (at_builtin;refine wpList_append_lies _ rfl _ _ _ rfl base 158 i0 _ 3 40 Tryz.underlying154 hi0 hz0 hz1 hz2 rfl (by omega) _ ts.length _ (by rfl) (zJ.alloc _) ⟨wb.heap.size,0,none⟩ 1 1 (dA ⟨tk,tn,tv⟩) (by rfl) (by rfl) (World.news_of_block (cs:=(dA ⟨tk,tn,tv⟩).toArray) (t:=158) (fr:=(0,0)) (heap_alloc_new wb _)) (Tc _) (by omega) (by unfold maxLen;omega) (by omega) (by simp;omega) (wb.heap.size+1) (by simp) ?_;intro gg cap w4 hown4 hgrow4 EO hlt4)
      go_roundg (s.length-at5)
      case measure=>omega
      case rel=>exact⟨ts++[⟨tk,tn,tv⟩],true,at5,rfl,⟨Ou H6.out hbb zJ hgrow4,by simpa [dA] using hown4,by simpa using acI,Cj K6.out fB.out zJ hgrow4,hR.out⟩,rfl⟩
   case rest=>
    obtain⟨ts,qb,at',rfl,hL,HT⟩:=hcut;have hown:=hL.own;have HL:=hid hL;have HR':Hid ((if qb then Ans.ok (ts,s.drop at',at') else .bad ⟨2,at'⟩)=r):=hid (by
     obtain⟨f,hf,hr⟩:=HL.out.rest;cases f with
     | zero=>omega
     | succ f=>
      have:=qC hr;rw[HT.out]at this;exact this)
    clear hL;cases qb with
    | true=>
     have hR:Hid (r=.ok (ts,s.drop at',at')):=hid (by rw[←HR'.out];rfl);go_wp2_with fail
     go_ret
     refine .inr ⟨ts,at',⟨_,rfl,aS Lm (by simp) hown,λk hk=>⟨?_,(hown.lt k hk).2⟩⟩,HL.out.kept,HL.out.rd,hR⟩;have:=(hown.lt k hk).1;have:=fB.out;omega
    | false=>
     have hR:Hid (r=.bad ⟨2,at'⟩):=hid (by rw[←HR'.out];rfl);go_wp2_with fail
     refine(iG 2 _ _ _ _ HL.out.rd).mono ?_;rintro e w9 ⟨rfl,zK⟩;go_wp2_with fail
     exact⟨rfl,.bad (HL.out.kept.trans (zK.kept _)) hR.out⟩
abbrev Ob:=dB kZ 2 156 (λw X u (p:eP)=>jy w X u p.tests)
theorem V4{f:Nat}{ps:List eP}{l:B}{a:Nat}{r:Ans (dZ×B×Nat)}(h:jZ (f+1) ps l a=r):
  ((lH l a).then λx=>match x.1 with
  | none=>.ok (ps,x.2.1,x.2.2)
  | some j=>if ps.length=6 then .bad ⟨5,x.2.2⟩ else (eU x.2.1 x.2.2).then λy=>jZ f (ps++[⟨j,y.1⟩]) y.2.1 y.2.2)=r:=by
 rw[←h,jZ];cases lH l a with
 | bad f=>rfl
 | ok x=>
  obtain⟨t,l1,a1⟩:=x;cases t<;>rfl
theorem Ox{l t:B}{c:UInt8}(h:l=c::t):kG true l=((c==44)||(c==123)):=by
 rw[h];unfold kG;rw[iq,iq];simp
structure afi(w wr:World)(b:Nat)(s:B)(base:Nat)(r:Ans (dZ×B×Nat))(l:Value)(ps:List eP)(vs:List Value)(at':Nat):Prop where
 rd:dn wr b s at'
 own:Ob wr base l ps vs
 few:ps.length≤6
 kept:Kept (· = b) w wr
 rest:∃f,(s.drop at').length<f∧jZ f ps (s.drop at') at'=r
theorem Ih{w:World}{b base:Nat}{v:Value}{ts:List bQ}(hb:base≤w.heap.size)(h:jy w (λk=>k<base) v ts):
  Ob (w.alloc (.cells #[.int .i64 0,v] 156 (0,0))) base (.slice (some ⟨w.heap.size,0,none⟩) 1 1) [⟨0,ts⟩] [v]:=by
 refine⟨rfl,⟨rfl,.inr ⟨w.heap.size,1,_,rfl,hb,aI _ _,Nat.le_refl _,by unfold maxLen;omega,rfl,rfl⟩⟩,?_⟩;intro i p u hp hu;have hi:i=0:=by have:=(List.getElem?_eq_some_iff.1 hp).1;simp at this;exact this
 subst hi;simp at hp hu;subst hp;subst hu;refine h.kept (S:=λ_=>False) ((Kept.refl _ _).alloc _) (λk _ hs=>hs.elim) (λk hk hx=>?_);rcases hx with hx | hx
 ·exact hx
 simp only[Value.ownBlock,Option.some.injEq]at hx;omega
theorem acJ(w:World)(b:Nat)(s:B)(at_:Nat)(m:Int)(h:dn w b s at_)(hm:w.cell? ⟨0,0,none⟩=some (.int .i64 m))(hb0:0<b):
  Calls Tryz.prog 155 #[.pointer (some ⟨b,0,none⟩)] w (CY (pq (s.drop at_) at_) w b s (λw' ps e=>∃v,e=.returned v∧tC w' (λk=>k<w.heap.size) v ps)):=by
 obtain⟨r,HR⟩:∃r,Hid (pq (s.drop at_) at_=r):=⟨_,rfl⟩;rw[HR.out];have HM:=hid hm;obtain⟨i0,hi0,hz0,hz1,hz2⟩:=info_parts Lp;obtain⟨base,fB⟩:∃base,Hid (w.heap.size=base):=⟨_,rfl⟩;have hbb:b<base:=by have:=h.lt;have:=fB.out;omega
 have H:=hid h;have hl:=h.2.1;have hmx:=h.2.2;clear h hm;rw[fB.out];go_enter Tryz.func155,Tryz.ntmps155
 go_wp2_with fail
 refine(Ji _ _ _ _ H.out).mono ?_;rintro e w1 (⟨f,rfl,hk1,hp1⟩ | ⟨ts,ji,⟨v,rfl,hv⟩,hk1,h1,hp1⟩)
 ·have hR:Hid (r=.bad f):=hid (by rw[←HR.out];unfold pq;rw[hp1.out];rfl);have K1:=hid hk1;clear hk1;go_wp2_with fail
  exact⟨rfl,.bad K1.out hR.out⟩
 have hsz:base≤w1.heap.size:=by have:=hk1.size;have:=fB.out;omega
 rw[fB.out]at hv;obtain⟨va,vc,rfl⟩:∃a c,v=.slice a ts.length c:=by
  obtain⟨a,cap,h,_⟩:=hv.1;exact⟨a,cap,by simpa using h⟩
 have hP0:afi w (w1.alloc (.cells #[.int .i64 0,.slice va ts.length vc] 156 (0,0))) b s base r (.slice (some ⟨w1.heap.size,0,none⟩) 1 1) [⟨0,ts⟩] [.slice va ts.length vc] ji:=
  ⟨h1.alloc _,Ih (b:=b) hsz hv,by simp,hk1.alloc _,_,Nat.lt_succ_self _,by rw[←HR.out];unfold pq;rw[hp1.out];rfl⟩
 have X8:=hid hP0;have hl1:=h1.2.1;clear hv hk1 h1 hP0;go_upto_block 0 with fail
 generalize (w1.alloc (.cells #[.int .i64 0,.slice va ts.length vc] 156 (0,0)))=wa at *;clear HR hp1;go_wp2_with fail
 go_loopg [3] (s.length-ji+1) (λk l wr=>∃ps vs at',afi w wr b s base r l ps vs at'∧k=s.length-at'+1)
 case atStart=>exact⟨_,_,ji,X8.out,rfl⟩
 case round=>
  obtain⟨ps,vs,at',hL,hk⟩:=hrel;have HL:=hid hL;have hfew:=hL.few;have hl':=hL.rd.2.1;obtain⟨lo,lc,rfl⟩:=hL.own.form;have hmr:wr.cell? ⟨0,0,none⟩=some (.int .i64 m):=hL.kept.cell (by show ¬(0=b);omega) HM.out;have HMR:=hid hmr;have afj:Hid (∃f,(s.drop at').length<f+1∧((lH (s.drop at') at').then λx=>match x.1 with
   | none=>.ok (ps,x.2.1,x.2.2)
   | some j=>if ps.length=6 then .bad ⟨5,x.2.2⟩ else (eU x.2.1 x.2.2).then λy=>jZ f (ps++[⟨j,y.1⟩]) y.2.1 y.2.2)=r):=hid (by
    obtain⟨f,hf,hr⟩:=hL.rest;cases f with
    | zero=>omega
    | succ f=>exact⟨f,hf,V4 hr⟩)
  obtain⟨f,hf,hrr⟩:=afj.out;have HRR:=hid hrr;clear hL hmr hrr afj;go_wp2_with fail
  refine(gI _ _ _ _ m HL.out.rd HMR.out hb0).mono ?_;rintro e w2 (⟨g,rfl,hk2,hp2⟩ | ⟨at2,rfl,hk2,h2,hp2⟩)
  ·have hR:Hid (r=.bad g):=hid (by rw[←HRR.out];unfold lH;rw[hp2.out];rfl);have K2:=hid (HL.out.kept.trans hk2);clear hk2;go_wp2_with fail
   exact⟨rfl,.bad K2.out hR.out⟩
  have O2:=hid (HL.out.own.kept kN hbb hk2);have K2:=hid (HL.out.kept.trans hk2);have H2:=hid h2;have hl2:=h2.2.1;have qm:=hid hk2;clear hk2 h2;obtain⟨gb,HGB⟩:∃g,Hid (decide (at'<at2)=g):=⟨_,rfl⟩;rw[HGB.out];go_upto_block 2 with fail
  obtain⟨nb,oO⟩:∃nb,Hid (w2.heap.size=nb):=⟨_,rfl⟩;obtain⟨wb,jo⟩:∃wb,Hid (w2.alloc (.cells #[.int .i64 1,.slice none 0 0] 156 (0,0))=wb):=⟨_,rfl⟩;have H3:Hid (dn wb b s at2):=hid (by rw[←jo.out];exact H2.out.alloc _);have K3:Hid (Kept (· = b) w2 wb):=hid (by rw[←jo.out];exact(Kept.refl _ _).alloc _);have N3:Hid (wb.heap[nb]?=some (.cells #[.int .i64 1,.slice none 0 0] 156 (0,0))):=hid (by rw[←jo.out,←oO.out];exact aI _ _);have hnb:¬nb=b:=by have:=H2.out.lt;have:=oO.out;omega
  have yL:w2.heap.size≤nb:=by have:=oO.out;omega
  have iO:Hid (Kept (· = b) wr w2):=hid qm.out;have Cm:Hid (w2.cell? ⟨0,0,none⟩=some (.int .i64 m)):=hid (K2.out.cell (by show ¬(0=b);omega) HM.out);rw[jo.out,oO.out];go_cut [] (λwx=>∃(j:Int) (at3:Nat),dn wx b s at3∧Kept (· = b) w2 wx∧wx.heap[nb]?=some (.cells #[.int .i64 j,.slice none 0 0] 156 (0,0))∧Hid (lH (s.drop at') at'=.ok (some j,s.drop at3,at3)))
  case first=>
   go_wp2_with fail
   cases p1:([62]:B).isPrefixOf (s.drop at2)with
   | true=>
    refine(lF true [62] _ _ _ _ H3.out p1).mono ?_;rintro e w4 ⟨rfl,hk4,h4⟩;have h4':dn w4 b s (at2+1):=h4;have HJ:Hid (((cO (s.drop (at2+1)) (at2+1)).then λx=>Ans.ok (some (2:Int),x.1,x.2))=lH (s.drop at') at'):=hid (by
     unfold lH;rw[hp2.out,Ans.aN];simp only;rw[if_pos p1,List.drop_drop])
    have hn4:=hk4.heap hnb N3.out;have n0:=ah hn4 0 rfl;have nf0:=aF hn4 0;have K4:=hid (K3.out.trans hk4);have H4:=hid h4';have N4:=hid hn4;clear hk4 h4 h4' hn4 p1;go_wp2_with fail
    have hb5:b≠nb:=λhh=>hnb hh.symm
    have h5:=H4.out.other (p:=⟨nb,0,none⟩) (x:=.int .i64 2) hb5;have Tn:(w4.setCell ⟨nb,0,none⟩ (.int .i64 2)).heap[nb]?=some (.cells #[.int .i64 2,.slice none 0 0] 156 (0,0)):=by
     have:=aW N4.out 0 (.int .i64 2);simpa using this
    have K5:=hid (K4.out.setCell (p:=⟨nb,0,none⟩) (.inr yL) (.int .i64 2));have H5:=hid h5;have N5:=hid Tn;have agT:=hid (K5.out.cell (by show ¬(0=b);omega) Cm.out);clear h5 Tn n0 nf0;generalize (w4.setCell ⟨nb,0,none⟩ (.int .i64 2))=w5 at *;refine(gI _ _ _ _ m H5.out agT.out hb0).mono ?_;rintro e w6 (⟨g,rfl,hk6,Xf⟩ | ⟨kS,rfl,hk6,h6,Xf⟩)
    ·have hR:Hid (r=.bad g):=hid (by rw[←HRR.out,←HJ.out,Xf.out];rfl);have K6:=hid ((HL.out.kept.trans iO.out).trans (K5.out.trans hk6));clear hk6;go_wp2_with fail
     exact⟨rfl,.bad K6.out hR.out⟩
    have K6:=hid (K5.out.trans hk6);have H6:=hid h6;have N6:=hid (hk6.heap hnb N5.out);have HJ6:Hid (lH (s.drop at') at'=.ok (some 2,s.drop kS,kS)):=hid (by rw[←HJ.out,Xf.out];rfl);clear hk6 h6;go_wp2_with fail
    go_meet
    case rel=>exact⟨2,kS,H6.out,K6.out,N6.out,HJ6⟩
   | false=>
    have P1:=hid p1;refine(qB [62] _ _ _ _ H3.out p1).mono ?_;rintro e w4 ⟨rfl,hq4⟩;have hqk:Kept (· = b) wb w4:=(show Qt wb w4 from hq4).kept _;have H3':=hid (H3.out.quiet hq4);have K3':=hid (K3.out.trans hqk);have N3':=hid (hqk.heap hnb N3.out);clear p1 hq4 hqk jo H3 K3 N3;have H3:=H3';have K3:=K3';have N3:=N3';clear H3' K3' N3';obtain⟨w4_,hw4⟩:∃x,x=w4:=⟨_,rfl⟩;subst hw4;go_wp2_with fail
    cases p1:([43]:B).isPrefixOf (s.drop at2)with
    | true=>
     refine(lF true [43] _ _ _ _ H3.out p1).mono ?_;rintro e w4 ⟨rfl,hk4,h4⟩;have h4':dn w4 b s (at2+1):=h4;have HJ:Hid (((cO (s.drop (at2+1)) (at2+1)).then λx=>Ans.ok (some (3:Int),x.1,x.2))=lH (s.drop at') at'):=hid (by
      unfold lH;rw[hp2.out,Ans.aN];simp only;rw[P1.out,if_neg (by simp)];rw[if_pos p1,List.drop_drop])
     have hn4:=hk4.heap hnb N3.out;have n0:=ah hn4 0 rfl;have nf0:=aF hn4 0;have K4:=hid (K3.out.trans hk4);have H4:=hid h4';have N4:=hid hn4;clear hk4 h4 h4' hn4 p1;go_wp2_with fail
     have hb5:b≠nb:=λhh=>hnb hh.symm
     have h5:=H4.out.other (p:=⟨nb,0,none⟩) (x:=.int .i64 3) hb5;have Tn:(w4.setCell ⟨nb,0,none⟩ (.int .i64 3)).heap[nb]?=some (.cells #[.int .i64 3,.slice none 0 0] 156 (0,0)):=by
      have:=aW N4.out 0 (.int .i64 3);simpa using this
     have K5:=hid (K4.out.setCell (p:=⟨nb,0,none⟩) (.inr yL) (.int .i64 3));have H5:=hid h5;have N5:=hid Tn;have agT:=hid (K5.out.cell (by show ¬(0=b);omega) Cm.out);clear h5 Tn n0 nf0;generalize (w4.setCell ⟨nb,0,none⟩ (.int .i64 3))=w5 at *;refine(gI _ _ _ _ m H5.out agT.out hb0).mono ?_;rintro e w6 (⟨g,rfl,hk6,Xf⟩ | ⟨kS,rfl,hk6,h6,Xf⟩)
     ·have hR:Hid (r=.bad g):=hid (by rw[←HRR.out,←HJ.out,Xf.out];rfl);have K6:=hid ((HL.out.kept.trans iO.out).trans (K5.out.trans hk6));clear hk6;go_wp2_with fail
      exact⟨rfl,.bad K6.out hR.out⟩
     have K6:=hid (K5.out.trans hk6);have H6:=hid h6;have N6:=hid (hk6.heap hnb N5.out);have HJ6:Hid (lH (s.drop at') at'=.ok (some 3,s.drop kS,kS)):=hid (by rw[←HJ.out,Xf.out];rfl);clear hk6 h6;go_wp2_with fail
     go_meet
     case rel=>exact⟨3,kS,H6.out,K6.out,N6.out,HJ6⟩
    | false=>
     have P2:=hid p1;refine(qB [43] _ _ _ _ H3.out p1).mono ?_;rintro e w4 ⟨rfl,hq4⟩;have hqk:Kept (· = b) w4_ w4:=(show Qt w4_ w4 from hq4).kept _;have H4:=hid (H3.out.quiet hq4);have K4:=hid (K3.out.trans hqk);have N4:=hid (hqk.heap hnb N3.out);clear p1 hq4 hqk;have c0:=H4.out.c0;have c1:=H4.out.c1;have HJ:Hid (lH (s.drop at') at'=if kG gb (s.drop at2) then .ok (none,s.drop at2,at2) else .ok (some 1,s.drop at2,at2)):=hid (by
      unfold lH;rw[hp2.out,Ans.aN];simp only;rw[P1.out,if_neg (by simp),P2.out,if_neg (by simp),HGB.out])
     obtain⟨se,HSE⟩:∃x,Hid (kG gb (s.drop at2)=x):=⟨_,rfl⟩;rw[HSE.out]at HJ;go_upto_region 10 with fail
     go_cut [25] (λx wx=>x=.bool se∧Qt w4 wx)
     case first=>
      cases gb with
      | false=>
       obtain rfl:se=true:=by rw[←HSE.out];rfl
       go_wp2_with fail
       go_quiet (fail)
       go_wp2_with fail
       go_meet
       case rel=>exact⟨rfl,_,rfl⟩
      | true=>
       by_cases hlt:at2<s.length
       ·have e0:((at2:Int)==(s.length:Int))=false:=by simp;omega
        have hd:=List.drop_eq_getElem_cons hlt;have agU:Hid (se=(((s[at2]'hlt)==44)||((s[at2]'hlt)==123))):=hid (by
         rw[←HSE.out];exact Ox hd)
        clear hd;cases e1:(((s[at2]'hlt).toNat:Int)==44)with
        | true=>
         obtain rfl:se=true:=by
          rw[agU.out];have:s[at2]'hlt=44:=UInt8.toNat_inj.1 (by simp at e1;have:(44:UInt8).toNat=44:=rfl;omega);rw[this];rfl
         go_wp2_with fail
         go_quiet (fail)
         go_wp2_with fail
         go_meet
         case rel=>exact⟨rfl,_,rfl⟩
        | false=>
         have hne:¬s[at2]'hlt=44:=λh=>by rw[h]at e1;cases e1
         cases e2:(((s[at2]'hlt).toNat:Int)==123)with
         | true=>
          obtain rfl:se=true:=by
           rw[agU.out];have:s[at2]'hlt=123:=UInt8.toNat_inj.1 (by simp at e2;have:(123:UInt8).toNat=123:=rfl;omega);rw[this];rfl
          clear hne;go_wp2_with fail
          go_quiet (fail)
          go_wp2_with fail
          go_meet
          case rel=>exact⟨rfl,_,rfl⟩
         | false=>
          have hne2:¬s[at2]'hlt=123:=λh=>by rw[h]at e2;cases e2
          obtain rfl:se=false:=by rw[agU.out];simp[hne,hne2]
          clear hne hne2;go_wp2_with fail
          go_quiet (fail)
          go_wp2_with fail
          go_meet
          case rel=>exact⟨rfl,_,rfl⟩
       have e0:((at2:Int)==(s.length:Int))=true:=by simp;omega
       obtain rfl:se=true:=by rw[←HSE.out,List.drop_eq_nil_of_le (by omega)];rfl
       go_wp2_with fail
       go_quiet (fail)
       go_wp2_with fail
       go_meet
       case rel=>exact⟨rfl,_,rfl⟩
     case rest=>
      obtain⟨rfl,hq5⟩:=hcut;have K5:=hid (K4.out.trans (hq5.kept _));have H5:=hid (H4.out.quiet hq5);have N5:=hid ((hq5.kept (· = b)).heap hnb N4.out);clear hq5 c0 c1;cases se with
      | true=>
       have hR:Hid (r=.ok (ps,s.drop at2,at2)):=hid (by rw[←HRR.out,HJ.out];rfl);have hP:=((HL.out.own.kept kN hbb (iO.out.trans K5.out)).done y7 kN);have HPP:=hid hP;clear hP;go_wp2_with fail
       go_ret
       exact .inr ⟨ps,at2,⟨_,rfl,HPP.out⟩,(HL.out.kept.trans iO.out).trans K5.out,H5.out,hR⟩
      | false=>
       have HJ1:Hid (lH (s.drop at') at'=.ok (some 1,s.drop at2,at2)):=hid (by rw[HJ.out];rfl);go_wp2_with fail
       go_meet
       case rel=>exact⟨1,at2,H5.out,K5.out,N5.out,HJ1⟩
  case rest=>
   obtain⟨j,at3,hs3,hk3,hn3,HJ⟩:=hcut;have H3':=hid hs3;have K3':=hid hk3;have N3':=hid hn3;have hl3:=hs3.2.1;have hlt3:at'≤at3:=by
    obtain⟨t,h1,h2,_⟩:=OT _ _ _ _ _ HJ.out;omega
   clear hs3 hk3 hn3;by_cases h6:ps.length=6
   ·have e6:((ps.length:Int)==6)=true:=by simp;omega
    have hR:Hid (r=.bad ⟨5,at3⟩):=hid (by rw[←HRR.out,HJ.out,Ans.aN];simp only;rw[if_pos h6]);clear h6;go_wp2_with fail
    refine(iG 5 _ _ _ _ H3'.out).mono ?_;rintro e w9 ⟨rfl,zK⟩;go_wp2_with fail
    exact⟨rfl,.bad (((HL.out.kept.trans iO.out).trans K3'.out).trans (zK.kept _)) hR.out⟩
   have e6:((ps.length:Int)==6)=false:=by simp;omega
   have HRT:Hid (((eU (s.drop at3) at3).then λy=>jZ f (ps++[⟨j,y.1⟩]) y.2.1 y.2.2)=r):=hid (by rw[←HRR.out,HJ.out,Ans.aN];simp only;rw[if_neg h6]);have acI:ps.length+1≤6:=by omega
   clear h6;go_wp2_with fail
   refine(Ji _ _ _ _ H3'.out).mono ?_;rintro e w5 (⟨g,rfl,hk5,xu⟩ | ⟨TA,at5,⟨v5,rfl,hv5⟩,hk5,h5,xu⟩)
   ·have hR:Hid (r=.bad g):=hid (by rw[←HRT.out,xu.out];rfl);have K5:=hid (((HL.out.kept.trans iO.out).trans K3'.out).trans hk5);clear hk5;go_wp2_with fail
    exact⟨rfl,.bad K5.out hR.out⟩
   obtain⟨va5,vc5,rfl⟩:∃a c,v5=.slice a TA.length c:=by
    obtain⟨a,cap,h,_⟩:=hv5.1;exact⟨a,cap,by simpa using h⟩
   have hR:Hid (∃g,(s.drop at5).length<g∧jZ g (ps++[⟨j,TA⟩]) (s.drop at5) at5=r):=hid (by
    have:=HRT.out;rw[xu.out,Ans.aN]at this;have MW:=oM.2 _ _ _ _ _ xu.out;have:=h5.2.1;exact⟨f,by rw[List.length_drop]at hf ⊢;omega,by assumption⟩)
   have MW:=oM.2 _ _ _ _ _ xu.out;have hl5:=h5.2.1;have Tn:=hk5.heap hnb N3'.out;have n0:=ah Tn 0 rfl;have n1:=ah Tn 1 rfl;have nf1:=aF Tn 1;have N5:=hid Tn;have H5:=hid h5;have K5:=hid (K3'.out.trans hk5);have V5:=hid hv5;have hnlt:nb<wc.heap.size:=gW N3'.out;clear hk5 h5 Tn hv5;have aeE:b≠nb:=λhh=>hnb hh.symm
   have h6:=H5.out.other (p:=⟨nb,1,none⟩) (x:=.slice va5 TA.length vc5) aeE;have k6:=K5.out.setCell (p:=⟨nb,1,none⟩) (.inr yL) (.slice va5 TA.length vc5);have v6:jy (w5.setCell ⟨nb,1,none⟩ (.slice va5 TA.length vc5)) (λk=>k<wc.heap.size) (.slice va5 TA.length vc5) TA:=
    V5.out.kept (S:=(· = nb)) ((Kept.refl (· = nb) _).setCell (p:=⟨nb,1,none⟩) (.inl rfl) _) (λk _ hs=>by have:k=nb:=hs;omega) (λk _ hx=>hx)
   have o6:=HL.out.own.kept kN hbb (iO.out.trans k6);have am3:base≤(w5.setCell ⟨nb,1,none⟩ (.slice va5 TA.length vc5)).heap.size:=by have:=k6.size;have:=iO.out.size;have:=HL.out.kept.size;have:=fB.out;omega
   have Xd:∀k,(Value.slice lo ps.length lc).ownBlock=some k→k<wc.heap.size:=λk hk=>by
    have:=(HL.out.own.own.lt k hk).2;have:=iO.out.size;have:=K3'.out.size;omega
   have ark:base≤wc.heap.size:=by have:=K3'.out.size;have:=iO.out.size;have:=HL.out.kept.size;have:=fB.out;omega
   have H6:=hid h6;have K6:=hid k6;have V6:=hid v6;have O6:=hid o6;have zJ:=o6.own;clear h6 k6 v6 o6;go_upto_region 15 with fail
   generalize hw6:(w5.setCell ⟨nb,1,none⟩ (.slice va5 TA.length vc5))=w6 at *;have n0':w6.cell? ⟨nb,0,none⟩=some (.int .i64 j):=by rw[←hw6];exact ah (aW N5.out 1 _) 0 rfl
   have n1':w6.cell? ⟨nb,1,none⟩=some (.slice va5 TA.length vc5):=by rw[←hw6];exact ah (aW N5.out 1 _) 1 rfl
   clear hw6 n0 n1 nf1;go_wp2_with (at_builtin;refine wpList_append_lies _ rfl _ _ _ rfl base 156 i0 _ 2 32 Tryz.underlying78 hi0 hz0 hz1 hz2 rfl (by omega) _ ps.length _ (by rfl) (zJ.alloc _) ⟨w6.heap.size,0,none⟩ 1 1 (kZ ⟨j,TA⟩ (.slice va5 TA.length vc5)) (by rfl) (by rfl) (World.news_of_block (cs:=(kZ ⟨j,TA⟩ (.slice va5 TA.length vc5)).toArray) (t:=156) (fr:=(0,0)) (heap_alloc_new w6 _)) (by simp[kZ,Value.oneCell']) (by omega) (by unfold maxLen;omega) (by omega) (by simp;omega) (w6.heap.size+1) (by simp) ?_;intro gg cap w4 hown4 hgrow4 EO hlt4)
   go_roundg (s.length-at5+1)
   case measure=>omega
   case rel=>
    refine⟨ps++[⟨j,TA⟩],vs++[.slice va5 TA.length vc5],at5,⟨Ou H6.out hbb zJ hgrow4,?_,by simpa using acI,Cj ((HL.out.kept.trans iO.out).trans K6.out) fB.out zJ hgrow4,hR.out⟩,rfl⟩;refine O6.out.push kN ?_ hown4 hgrow4 (by rcases EO with h | h;exact .inl h;exact .inr (by omega));exact V6.out.kept (S:=λ_=>False) (Kept.refl _ _) (λk _ hs=>hs.elim) (λk _ hx=>by
     rcases hx with hx | hx
     ·show k<wc.heap.size;omega
     exact Xd k hx)
theorem V7(c:UInt8):decide (0≤Lib.indexByte [35,46,37,45] c)=(decide (c.toNat=35)||decide (c.toNat=46)||decide (c.toNat=37)||decide (c.toNat=45)):=by
 have h:∀a b:UInt8,(a==b)=decide (b.toNat=a.toNat):=λa b=>by
  rw[Bool.eq_iff_iff,beq_iff_eq,decide_eq_true_eq];constructor
  ·rintro rfl;rfl
  intro h;exact(UInt8.toNat_inj.1 h).symm
 have e35:(35:UInt8).toNat=35:=rfl;have e46:(46:UInt8).toNat=46:=rfl;have e37:(37:UInt8).toNat=37:=rfl;have e45:(45:UInt8).toNat=45:=rfl;simp only[Lib.indexByte,h,e35,e46,e37,e45];by_cases h1:c.toNat=35
 ·simp[h1]
 by_cases h2:c.toNat=46
 ·simp[h2]
 by_cases h3:c.toNat=37
 ·simp[h3]
 by_cases h4:c.toNat=45
 ·simp[h4]
 simp[h1,h2,h3,h4]
theorem acL(c:UInt8)(w:World):
  Calls Tryz.prog 157 #[.int .u8 (c.toNat:Int)] w λe w'=>e=.returned (.bool (isWord c))∧w'=w:=by
 have hc:=c.toNat_lt;have hcI:(c.toNat:Int)<256:=by omega
 have hs:Hid (decide (0≤Lib.indexByte [35,46,37,45] c)=(decide (c.toNat=35)||decide (c.toNat=46)||decide (c.toNat=37)||decide (c.toNat=45))):=hid (V7 c);by_cases h1:97≤c.toNat∧c.toNat≤122
 ·have e:isWord c=true:=by unfold isWord isLow;simp[h1.1,h1.2]
  have q1:(97:Int)≤(c.toNat:Int):=by omega
  have q2:(c.toNat:Int)≤122:=by omega
  rw[e];go_enter Tryz.func157,Tryz.ntmps157
  go_wp2_with fail
  go_ret
  exact⟨rfl,rfl⟩
 by_cases h2:48≤c.toNat∧c.toNat≤57
 ·have e:isWord c=true:=by unfold isWord;simp[h2.1,h2.2]
  have q1:(48:Int)≤(c.toNat:Int):=by omega
  have q2:(c.toNat:Int)≤57:=by omega
  rw[e];go_enter Tryz.func157,Tryz.ntmps157
  go_wp2_with fail
  go_ret
  exact⟨rfl,rfl⟩
 have e:isWord c=decide (0≤Lib.indexByte [35,46,37,45] c):=by
  rw[hs.out];unfold isWord isLow;have a1:(decide (97≤c.toNat)&&decide (c.toNat≤122))=false:=by simp;omega
  have a2:(decide (48≤c.toNat)&&decide (c.toNat≤57))=false:=by simp;omega
  rw[a1,a2];simp
 have e1:decide ((97:Int)≤(c.toNat:Int))=decide (97≤c.toNat):=by rw[Bool.eq_iff_iff];simp;omega
 rw[e];clear e;have hcall:∀W,Calls Tryz.prog 181 #[.string ⟨#[35,46,37,45]⟩,.int .u8 (c.toNat:Int)] W λe w'=>e=.returned (.int .i64 (Lib.indexByte [35,46,37,45] c))∧w'=W:=λW=>by
  have:=Tryz.strings_IndexByte (str [35,46,37,45]) (c.toNat:Int) W;have hcc:(c.toNat:Int).toNat.toUInt8=c:=by simp
  rw[hcc]at this;exact this
 have HC:=hid hcall;clear hcall hs;clear e1;by_cases h3:97≤c.toNat
 ·have q1:decide ((97:Int)≤(c.toNat:Int))=true:=by simp;omega
  have q2:decide ((c.toNat:Int)≤122)=false:=by simp;omega
  have q3:decide ((48:Int)≤(c.toNat:Int))=true:=by simp;omega
  have q4:decide ((c.toNat:Int)≤57)=false:=by simp;omega
  go_enter Tryz.func157,Tryz.ntmps157
  go_wp2_with fail
  refine(HC.out _).mono ?_;rintro e w1 ⟨rfl,rfl⟩;go_wp2_with fail
  go_ret
  exact⟨rfl,rfl⟩
 by_cases h4:48≤c.toNat
 ·have q1:decide ((97:Int)≤(c.toNat:Int))=false:=by simp;omega
  have q3:decide ((48:Int)≤(c.toNat:Int))=true:=by simp;omega
  have q4:decide ((c.toNat:Int)≤57)=false:=by simp;omega
  go_enter Tryz.func157,Tryz.ntmps157
  go_wp2_with fail
  refine(HC.out _).mono ?_;rintro e w1 ⟨rfl,rfl⟩;go_wp2_with fail
  go_ret
  exact⟨rfl,rfl⟩
 have q1:decide ((97:Int)≤(c.toNat:Int))=false:=by simp;omega
 have q3:decide ((48:Int)≤(c.toNat:Int))=false:=by simp;omega
 go_enter Tryz.func157,Tryz.ntmps157
 go_wp2_with fail
 refine(HC.out _).mono ?_;rintro e w1 ⟨rfl,rfl⟩;go_wp2_with fail
 go_ret
 exact⟨rfl,rfl⟩
theorem Oy:∀ws:List B,Lib.join ws [32]=gU ws
 | []=>rfl
 | [w]=>by simp[Lib.join,gU]
 | w::x::ws=>by
  have:=Oy (x::ws);rw[GY w (x::ws) (by simp),←this];simp[Lib.join,List.intercalate,List.intersperse]
end Go.Proofs.YtplbdlgmjehckacGreatDoor

