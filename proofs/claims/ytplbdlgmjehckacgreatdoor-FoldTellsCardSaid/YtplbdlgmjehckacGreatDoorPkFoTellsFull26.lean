/-
 Lemmas for the claims of this seat: the program's functions walked, and plain laws.
-/
import Derived.Test.YtplbdlgmjehckacGreatDoorPkFoTellsFull25
set_option maxRecDepth 100000
set_option maxHeartbeats 12800000
namespace Go.Proofs.YtplbdlgmjehckacGreatDoor
open Go.Lib (hid)
open Go.RowKit
set_option linter.unusedVariables false
set_option linter.unusedSimpArgs false
def abT(w:World)(base b:Nat)(s:B)(v lv:Value)(X:Ans (List au×B×Nat))(e:Ending)(w':World):Prop:=
 ∃(v':Value) (rs:List au) (vs:List Value) (f:iL) (p:Nat),e=.returned v'∧bP w' base v' rs vs∧(∀k,v'.ownBlock=some k→lv.ownBlock=some k∨w.heap.size≤k)∧Kept (RS b lv) w w'∧bJ w' b s p f v∧(f.err=0→f=good)∧rs.length≤60∧Hid (Step good X f (rs,s.drop p,p))
structure DK(w wr:World)(base b:Nat)(s:B)(v lv l:Value)(rs:List au)(vs:List Value)(f:iL)(p:Nat):Prop where
 rd:bJ wr b s p f v
 own:bP wr base l rs vs
 few:rs.length≤60
 kept:Kept (RS b lv) w wr
 whence:∀k,l.ownBlock=some k→lv.ownBlock=some k∨w.heap.size≤k
 al:f.err=0→f=good
theorem DK.step{w wr wx:World}{base b:Nat}{s:B}{v lv l:Value}{rs:List au}{vs:List Value}{f f':iL}{p p':Nat}(h:DK w wr base b s v lv l rs vs f p)(hb:b<base)(hk:Kept (· = b) wr wx)(hr:bJ wx b s p' f' v)(ha:f'.err=0→f'=good):DK w wx base b s v lv l rs vs f' p':=
 ⟨hr,h.own.kept bn hb hk,h.few,h.kept.trans (iV hk),h.whence,ha⟩
structure Rn(w wr:World)(b nb:Nat)(s md:B)(a0:Nat)(v sv:Value)(ss:List dZ)(vs:List Value)(f:iL)(p:Nat):Prop where
 rd:bJ wr b s p f v
 node:wr.heap[nb]?=some (.cells #[.string (str md),sv,.slice none 0 0,.int .i64 (a0:Int),.int .i64 0] 42 (0,0))
 own:um wr (nb+1) sv ss vs
 few:ss.length≤8
 kept:Kept (· = b) w wr
 al:f.err=0→f=good
theorem Rn.step{w wr wx:World}{b nb:Nat}{s md:B}{a0:Nat}{v sv:Value}{ss:List dZ}{vs:List Value}{f f':iL}{p p':Nat}(h:Rn w wr b nb s md a0 v sv ss vs f p)(hb:b<nb)(hk:Kept (· = b) wr wx)(hr:bJ wx b s p' f' v)(ha:f'.err=0→f'=good):Rn w wx b nb s md a0 v sv ss vs f' p':=
 ⟨hr,hk.heap (by show ¬nb=b;omega) h.node,h.own.kept dR (by omega) hk,h.few,h.kept.trans hk,ha⟩
structure Y0(w wr:World)(b nb:Nat)(s md:B)(a0:Nat)(v sv dv:Value)(ss:List dZ)(ds:List aC)(f:iL)(p:Nat):Prop where
 rd:bJ wr b s p f v
 node:wr.heap[nb]?=some (.cells #[.string (str md),sv,dv,.int .i64 (a0:Int),.int .i64 0] 42 (0,0))
 aZ:vO wr (λk=>k<nb+1) sv ss
 decls:dD wr (λk=>k<nb+1) dv ds
 kept:Kept (· = b) w wr
 al:f.err=0→f=good
theorem Y0.step{w wr wx:World}{b nb:Nat}{s md:B}{a0:Nat}{v sv dv:Value}{ss:List dZ}{ds:List aC}{f f':iL}{p p':Nat}(h:Y0 w wr b nb s md a0 v sv dv ss ds f p)(hb:b<nb)(hk:Kept (· = b) wr wx)(hr:bJ wx b s p' f' v)(ha:f'.err=0→f'=good):Y0 w wx b nb s md a0 v sv dv ss ds f' p':=
 ⟨hr,hk.heap (by show ¬nb=b;omega) h.node,lU _ _ _ _ _ _ _ h.aZ hk (λk _ hs=>by have:k=b:=hs;show k<nb+1;omega) (λk _ hx=>hx),jB _ _ _ _ _ _ _ h.decls hk (λk _ hs=>by have:k=b:=hs;show k<nb+1;omega) (λk _ hx=>hx),h.kept.trans hk,ha⟩
theorem Vq{w wr w5 w6:World}{base b gg cap p0 p5:Nat}{s:B}{v lv l sv dv:Value}{rs:List au}{vs:List Value}{u:au}{f0 f5:iL}{o:Obj}
  (hL:DK w wr base b s v lv l rs vs f0 p0) (hb:b<base) (hbs:base≤wr.heap.size) (hk5:Kept (· = b) wr w5) (hr5:bJ w5 b s p5 f5 v) (ha5:f5.err=0→f5=good) (hfew:rs.length+1≤60)
  (hs:vO w5 (λk=>k<wr.heap.size) sv u.aZ) (hd:dD w5 (λk=>k<wr.heap.size) dv u.decls)
  (hown:w6.ownsRow base 42 5 (.slice (some ⟨gg,0,none⟩) (rs.length+1) cap) (rs.length+1) ((List.zipWith bI rs vs).flatten++bI u (.tuple #[sv,dv])))
  (hgrow:(w5.alloc o).grownBy w6 l.ownBlock) (hat:l.ownBlock=some gg∨gg=w5.heap.size+1) :
  DK w w6 base b s v lv (.slice (some ⟨gg,0,none⟩) (rs.length+1) cap) (rs++[u]) (vs++[.tuple #[sv,dv]]) f5 p5:=by
 have hlt:=hL.own.own.lt;have hk6:Kept (λk=>l.ownBlock=some k) w5 w6:=((Kept.refl _ w5).alloc o).grown hgrow (λk hk=>.inl hk);have o5:bP w5 base l rs vs:=hL.own.kept bn hb hk5;have hsz:=hk5.size;have hsw:=hL.kept.size;refine⟨hr5.kept hk6 (λh=>by have:=(hlt b h).1;omega),?_,by simpa using hfew,?_,?_,ha5⟩
 ·refine o5.push bn ?_ hown hgrow (by rcases hat with h | h;exact .inl h;exact .inr (by omega));have hX:∀k,k<w5.heap.size→(k<base∨l.ownBlock=some k)→k<wr.heap.size:=λk _ hx=>by
   rcases hx with hx | hx
   ·omega
   exact(hlt k hx).2
  exact⟨sv,dv,rfl,lU _ _ _ _ (λ_=>False) _ _ hs (Kept.refl _ _) (λk _ hs=>hs.elim) hX,jB _ _ _ _ (λ_=>False) _ _ hd (Kept.refl _ _) (λk _ hs=>hs.elim) hX⟩
 ·refine((hL.kept.trans (iV hk5)).alloc o).grown hgrow (λk hk=>?_);rcases hL.whence k hk with h | h
  ·exact .inl (.inr h)
  exact .inr h
 intro k hk;simp only[Value.ownBlock,Option.some.injEq]at hk;subst hk;rcases hat with h | h
 ·exact hL.whence _ h
 exact .inr (by omega)
theorem Il(md s:B)(b base:Nat)(v:Value)(hbb:b<base)
  (IH:md=[]→∀(nm:B) (g:Nat) (rs:List au) (vs:List Value) (lv:Value) (a:Nat) (w:World),nm≠[]→bJ w b s a good v→base≤w.heap.size→bP w base lv rs vs→rs.length≤60→(s.drop a).length<g →
   Calls Tryz.prog 81 #[.pointer (some ⟨b,0,none⟩),lv,.string (str nm)] w (abT w base b s v lv (aP g nm rs (s.drop a) a)))
  (g:Nat) (D7:List au) (XD:List Value) (lv:Value) (a:Nat) (w:World) (h:bJ w b s a good v) (hbs:base≤w.heap.size) (how:bP w base lv D7 XD) (hfew:D7.length≤60) (hg:(s.drop a).length<g) :
  Calls Tryz.prog 81 #[.pointer (some ⟨b,0,none⟩),lv,.string (str md)] w (abT w base b s v lv (aP g md D7 (s.drop a) a)):=by
 obtain⟨R,HR⟩:∃R,Hid (aP g md D7 (s.drop a) a=R):=⟨_,hid rfl⟩;rw[HR.out];have HI:=hid IH;have HO:=hid how;obtain⟨i0,hi0,hz0,hz1,hz2⟩:=info_parts uF;obtain⟨j0,hj0,hy0,hy1,hy2⟩:=info_parts AX;have H:=hid h;have hl:=h.2.1;have hmx:=h.2.2;have HG:=hid hg;clear h IH how hg;go_enter Tryz.func81,Tryz.ntmps81
 go_wp2_with fail
 refine(iE _ b s a good v H.out (λ_=>rfl)).mono ?_;rintro e w1 ⟨f1,p1,rfl,hk1,h1,hg1,hs1⟩;have xP:Hid (Mid good R f1 (fC g md D7 (s.drop p1) p1)):=hid (by
  have:=Mid.start (aP g md D7 (s.drop a) a) good;rw[HR.out]at this;exact(this.eq (Y:=(cO (s.drop a) a).then λy=>fC g md D7 y.1 y.2) (λ_=>by rw[←HR.out];rfl)).step hs1.out)
 have HL1:Hid (DK w w1 base b s v lv lv D7 XD f1 p1):=hid ⟨h1,HO.out.kept bn hbb hk1,hfew,iV hk1,λk hk=>.inl hk,hg1⟩;have hn1:f1.err=0→s.length-p1<g:=λhh=>by
  have h1:=tu hs1.out hh;have h2:=HG.out;rw[List.length_drop]at h2;omega
 have hl1:=h1.2.1;clear hk1 h1 hg1 hs1 HO H HR;go_upto_block 0 with fail
 go_cut [1] (λl wx=>∃(rs:List au) (vs:List Value) (f:iL) (p:Nat),Hid (DK w wx base b s v lv l rs vs f p)∧Hid (Mid good R f (.ok (rs,s.drop p,p))))
 case rest=>
  obtain⟨rs,vs,f,p,HL,HM⟩:=hcut;go_wp2_with fail
  go_ret
  have HSF:Hid (Step good R f (rs,s.drop p,p)):=hid (Mid.fin HM.out);exact⟨_,rs,vs,f,p,rfl,HL.out.own,HL.out.whence,HL.out.kept,HL.out.rd,HL.out.al,HL.out.few,HSF⟩
 case first=>
  go_wp2_with fail
  go_loopg [1] (s.length-p1+1) (λk l wr=>∃(rs:List au) (vs:List Value) (f:iL) (p n:Nat),Hid (DK w wr base b s v lv l rs vs f p)∧Hid (Mid good R f (fC n md rs (s.drop p) p))∧(f.err=0→s.length-p<n∧k=s.length-p+1))
  case atStart=>exact⟨D7,XD,f1,p1,g,HL1,xP,λhf=>⟨hn1 hf,rfl⟩⟩
  case round=>
   obtain⟨rs,vs,f,p,n,HL,HM,hal⟩:=hrel;obtain⟨lo,lc,rfl⟩:=HL.out.own.form;have hfew:=HL.out.few;have c0:=HL.out.rd.c0;have c1:=HL.out.rd.c1;by_cases hf:f.err=0
   ·obtain rfl:=HL.out.al hf;obtain⟨hn,hk⟩:=hal rfl;clear hal hf;obtain⟨n,rfl⟩:∃m,n=m+1:=⟨n-1,by omega⟩;have hlp:=HL.out.rd.2.1;by_cases hlt:p<s.length
    ·have hne:(s.drop p).isEmpty=false:=by
      cases hx:s.drop p with
      | nil=>have:=congrArg List.length hx;rw[List.length_drop]at this;simp at this;omega
      | cons a t=>rfl
     cases hm1:([125]:B).isPrefixOf (s.drop p)with
     | true=>
      have HX:Hid (Mid good R good (.ok (rs,s.drop p,p))):=hid (HM.out.eq (λ_=>Ii (by rw[hne,hm1];rfl)));have xP:=hid hm1;clear hm1;go_wp2_with fail
      go_quiet (first | (go_at_call 79;exact Calls.quiet_of_same (bK true _ b s p good v HL.out.rd rfl)) | (go_at_call 112;exact Calls.quiet_of (iT [125] true _ b s p good v HL.out.rd rfl (by decide) xP.out)))
      go_wp2_with fail
      go_meet
      case rel=>exact⟨rs,vs,good,p,hid (HL.out.step hbb ((Kept.refl _ _).drewN _) (HL.out.rd.drewN _) (λ_=>rfl)),HX⟩
     | false=>
      have DL:Hid (((s.drop p).isEmpty||([125]:B).isPrefixOf (s.drop p))=false):=hid (by rw[hne,hm1];rfl);have xP:=hid hm1;clear hm1 hne;go_wp2_with fail
      go_quiet (first | (go_at_call 79;exact Calls.quiet_of_same (bK true _ b s p good v HL.out.rd rfl)) | (go_at_call 112;exact Calls.quiet_of (iT [125] false _ b s p good v HL.out.rd rfl (by decide) xP.out)))
      obtain⟨w2,HW2⟩:∃x,Hid (wr.drewN nq=x):=⟨_,hid rfl⟩;have HL2:Hid (DK w w2 base b s v lv (.slice lo rs.length lc) rs vs good p):=hid (by rw[←HW2.out];exact HL.out.step hbb ((Kept.refl _ _).drewN _) (HL.out.rd.drewN _) (λ_=>rfl));rw[HW2.out];clear HL c0 c1 xP HW2;have adW:md.isEmpty=true∨md.isEmpty=false:=by cases md.isEmpty<;>simp
      go_upto_region 3 with fail
      obtain⟨q,HQ⟩:∃q,Hid ((md.isEmpty&&fF.isPrefixOf (s.drop p))=q):=⟨_,hid rfl⟩;go_cut [35] (λx wx=>x=.bool q∧Hid (bJ wx b s (p+if q=true then 6 else 0) good v)∧Hid (Kept (· = b) w2 wx))
      case first=>
       rcases adW with hmd | hmd
       ·obtain⟨q2,rG⟩:∃q2,Hid (fF.isPrefixOf (s.drop p)=q2):=⟨_,hid rfl⟩;obtain rfl:q=q2:=by rw[←HQ.out,hmd,rG.out];rfl
        cases q with
        | true=>
         go_wp2_with fail
         refine(NW fF _ b s p good v HL2.out.rd rfl (by decide) (by decide) rG.out).mono ?_;rintro e w3 ⟨rfl,hk3,h3⟩;have H3:Hid (bJ w3 b s (p+if true=true then 6 else 0) good v):=hid h3;have K3:=hid hk3;clear hk3 h3;go_wp2_with fail
         go_meet
         case rel=>exact⟨rfl,H3,K3⟩
        | false=>
         go_wp2_with fail
         refine(Hy fF _ b s p good v HL2.out.rd (by decide) (λ_=>rG.out)).mono ?_;rintro e w3 ⟨rfl,nq3,rfl⟩;have H3:Hid (bJ (w2.drewN nq3) b s (p+if false=true then 6 else 0) good v):=hid (HL2.out.rd.drewN _);have K3:Hid (Kept (· = b) w2 (w2.drewN nq3)):=hid ((Kept.refl _ _).drewN _);go_wp2_with fail
         go_meet
         case rel=>exact⟨rfl,H3,K3⟩
       obtain rfl:q=false:=by rw[←HQ.out,hmd];rfl
       go_wp2_with fail
       go_meet
       case rel=>exact⟨rfl,hid HL2.out.rd,hid (Kept.refl _ _)⟩
      case rest=>
       obtain⟨rfl,H3,K3⟩:=hcut;obtain⟨w3,hw3⟩:∃x,x=wc:=⟨_,rfl⟩;subst hw3;have vg:=hid (HL2.out.step hbb K3.out H3.out (λ_=>rfl));clear HL2 K3 H3 adW;cases q with
       | true=>
        obtain rfl:md=[]:=by
         have:=HQ.out;cases md with
         | nil=>rfl
         | cons a t=>simp at this
        have HLm:Hid (DK w w3 base b s v lv (.slice lo rs.length lc) rs vs good (p+6)):=hid vg.out;have HMm:Hid (Mid good R good ((cO (s.drop (p+6)) (p+6)).then (kM1 n [] rs (p+6)))):=hid (HM.out.eq (λ_=>by rw[Oc DL.out HQ.out,List.drop_drop,abU]));clear vg HM DL HQ HL1 xP;go_wp2_with fail
        refine(iE _ b s (p+6) good v HLm.out.rd (λ_=>rfl)).mono ?_;rintro e w4 ⟨f4,p4,rfl,hk4,h4,hg4,hs4⟩;have Lr:Hid (Mid good R f4 (kM1 n [] rs (p+6) (s.drop p4,p4))):=hid (HMm.out.step (k:=kM1 n [] rs (p+6)) hs4.out);have OD:f4.err=0→p+6≤p4:=λhh=>tu hs4.out hh
        have FX:=hid (HLm.out.step hbb hk4 h4 hg4);clear hk4 h4 hs4 HLm HMm;obtain⟨gb,HGB⟩:∃g,Hid (decide (p+6<p4)=g):=⟨_,hid rfl⟩;rw[HGB.out];have c1:=FX.out.rd.c1;go_upto_if 38 with fail
        go_cut [] (λwx=>∃(f5:iL),Hid (DK w wx base b s v lv (.slice lo rs.length lc) rs vs f5 p4)∧(f5.err=0→p+6≤p4)∧Hid (Mid good R f5 ((dM (s.drop p4) p4).then (kM2 n [] rs))))
        case first=>
         cases gb with
         | true=>
          have hlt4:p+6<p4:=by simpa using HGB.out
          have Dh:Hid (Mid good R f4 ((dM (s.drop p4) p4).then (kM2 n [] rs))):=hid (Lr.out.eq (λ_=>by
           show kM1 n [] rs (p+6) (s.drop p4,p4)=_
           unfold kM1;rw[if_neg (by show ¬p4=p+6;omega)]))
          go_wp2_with fail
          go_meet
          case rel=>exact⟨f4,FX,OD,Dh⟩
         | false=>
          have hge4:¬p+6<p4:=by simpa using HGB.out
          by_cases hf4:f4.err=0
          ·have HX:Hid (kM1 n [] rs (p+6) (s.drop p4,p4)=.bad ⟨2,p4⟩):=hid (by
            have:=OD hf4;unfold kM1;rw[if_pos (by show p4=p+6;omega)])
           go_wp2_with fail
           refine(dP 2 p4 _ b s p4 f4 v FX.out.rd hf4).mono ?_;rintro e w5 ⟨rfl,hk5,h5⟩;have ZM:=hid (FX.out.step hbb hk5 h5 (λhh=>absurd hh (by simp)));clear hk5 h5;go_wp2_with fail
           go_meet
           case rel=>exact⟨⟨2,p4⟩,ZM,λhh=>absurd hh (by simp),hid (Lr.out.kill hf4 HX.out (by simp))⟩
          go_wp2_with fail
          refine(qK 2 (p4:Int) _ b s p4 f4 v FX.out.rd hf4).mono ?_;rintro e w5 ⟨rfl,hw5⟩;rw[hw5];clear hw5;go_wp2_with fail
          go_meet
          case rel=>exact⟨f4,FX,OD,hid (Lr.out.dead hf4)⟩
        case rest=>
         obtain⟨f5,ZM,xu,Dh⟩:=hcut;obtain⟨w5,hw5⟩:∃x,x=wc:=⟨_,rfl⟩;subst hw5;clear FX OD Lr HGB hg4 c1;by_cases hf5:f5.err=0
         ·obtain rfl:=ZM.out.al hf5;have aqu:=xu hf5;clear hf5 xu;go_wp2_with fail
          refine(bK true _ b s p4 good v ZM.out.rd rfl).mono ?_;rintro e w6 ⟨rfl,hw6⟩;rw[hw6];clear hw6;go_wp2_with fail
          refine(oQ _ b s p4 good v ZM.out.rd (λ_=>rfl)).mono ?_;rintro e w7 ⟨nm,rfl,jD,f7,p7,h7,QN,aqv,hs7⟩;have Ll:=hid (Dh.out.step (k:=kM2 n [] rs) hs7.out);have HL7:=hid (ZM.out.step hbb jD h7 (λhh=>(QN hh).1));have HK7:=hid jD;have aiZ:f7.err=0→nm≠[]∧p4<p7:=λhh=>by
           rcases hs7.out.2 rfl with⟨_,h⟩ | ⟨h,_⟩
           ·obtain⟨h1,h2,h3,_⟩:=mP h;exact⟨by rintro rfl;simp at h1,by omega⟩
           exact absurd hh h
          clear jD h7 QN hs7 Dh;go_wp2_with fail
          refine(iE _ b s p7 f7 v HL7.out.rd HL7.out.al).mono ?_;rintro e w8 ⟨f8,p8,rfl,hk8,h8,hg8,hs8⟩;have HM8:=hid (Ll.out.step (k:=kM3 n [] rs nm) hs8.out);have HL8:=hid (HL7.out.step hbb hk8 h8 hg8);have Au:=hid (HK7.out.trans hk8);have hp8:f8.err=0→f7.err=0∧p7≤p8:=λhh=>by
           by_cases h:f7.err=0
           ·obtain rfl:=HL7.out.al h;exact⟨rfl,tu hs8.out hh⟩
           rw[hs8.out.1 h]at hh;exact absurd hh h
          clear hk8 h8 hg8 hs8 Ll;go_wp2_with fail
          refine(kX [123] _ b s p8 f8 v HL8.out.rd HL8.out.al (by decide) (by simp)).mono ?_;rintro e w9 ⟨rfl,hk9,f9,p9,h9,Tt,hs9⟩;have HM9:=hid (HM8.out.step (k:=kM4 n [] rs nm) hs9.out);have Tz:=hid (HL8.out.step hbb hk9 h9 Tt);have Qu:=hid (Au.out.trans hk9);have hp9:f9.err=0→f8.err=0∧p8≤p9:=λhh=>by
           by_cases h:f8.err=0
           ·rcases hs9.out.2 h with⟨_,h2⟩ | ⟨h2,_⟩
            ·exact⟨h,by have:=(iM h2).2.1;omega⟩
            exact absurd hh h2
           rw[hs9.out.1 h]at hh;exact absurd hh h
          clear hk9 h9 Tt hs9 HM8 HL7 HL8 HK7 Au;by_cases hf9:f9.err=0
          ·obtain⟨h1,al9⟩:=hp9 hf9;obtain⟨h2,ama⟩:=hp8 h1;obtain⟨ags,amb⟩:=aiZ h2;obtain rfl:=Tz.out.al hf9;have ai0:base≤w9.heap.size:=by have:=Tz.out.kept.size;omega
           have hl9:=Tz.out.rd.2.1;have Tt:(s.drop p9).length<n:=by rw[List.length_drop];omega
           have HC:=hid (HI.out (by simp) nm n rs vs (.slice lo rs.length lc) p9 w9 ags Tz.out.rd ai0 Tz.out.own Tz.out.few Tt);have Ti:Hid (p<p9):=hid (by omega);have HNM:=hid ags;clear h1 h2 hp9 hp8 aiZ hf9 ai0 Tt al9 ama amb ags;go_wp2_with fail
           refine(bK true _ b s p9 good v Tz.out.rd rfl).mono ?_;rintro e w10 ⟨rfl,Vr⟩;rw[Vr];clear Vr;go_wp2_with fail
           refine HC.out.mono ?_;rintro e Tv ⟨v11,Ro,agt,f11,p11,rfl,YP,ae9,yH,h11,Ig,abV,hs11⟩;have abW:=hid (HM9.out.step (k:=kM5 n []) hs11.out);have agu:f11.err=0→p9≤p11:=λhh=>by
            rcases hs11.out.2 rfl with⟨_,h1⟩ | ⟨h1,_⟩
            ·unfold aP at h1;obtain⟨⟨l2,a2⟩,g1,g2⟩:=then_ok h1;obtain⟨_,_,_,h2,_⟩:=fA g1;obtain⟨_,_,_,h3,_⟩:=UJ _ _ _ _ _ _ _ _ HNM.out Tz.out.few g2;omega
            exact absurd hh h1
           obtain⟨amc,amd,rfl⟩:=YP.form;have Y1:Hid (DK w Tv base b s v lv (.slice amc Ro.length amd) Ro agt f11 p11):=hid ⟨h11,YP,abV,Tz.out.kept.trans' yH (λk hk hs=>by
             rcases hs with hs | hs
             ·exact .inl hs
             ·rcases Tz.out.whence k hs with h | h
              ·exact .inr h
              omega),λk hk=>by
             rcases ae9 k hk with h | h
             ·exact Tz.out.whence k h
             have:=Tz.out.kept.size;exact .inr (by omega),Ig⟩
           clear YP ae9 yH h11 Ig abV hs11 HM9 HC;go_wp2_with fail
           refine(kX [125] _ b s p11 f11 v Y1.out.rd Y1.out.al (by decide) (by simp)).mono ?_;rintro e w12 ⟨rfl,hk12,f12,p12,h12,ai1,adZ⟩;have ad1:Hid (Mid good R f12 ((cO (s.drop p12) p12).then λy=>fC n [] Ro y.1 y.2)):=hid (abW.out.step (k:=λy=>aP n [] Ro y.1 y.2) adZ.out);have ad2:=hid (Y1.out.step hbb hk12 h12 ai1);have ame:f12.err=0→f11.err=0∧p11≤p12:=λhh=>by
            by_cases h:f11.err=0
            ·rcases adZ.out.2 h with⟨_,h2⟩ | ⟨h2,_⟩
             ·exact⟨h,by have:=(iM h2).2.1;omega⟩
             exact absurd hh h2
            rw[adZ.out.1 h]at hh;exact absurd hh h
           clear hk12 h12 ai1 adZ abW;go_wp2_with fail
           refine(iE _ b s p12 f12 v ad2.out.rd ad2.out.al).mono ?_;rintro e Xb ⟨f13,p13,rfl,BI,h13,abR,Vp⟩;have ai2:Hid (Mid good R f13 (fC n [] Ro (s.drop p13) p13)):=hid (ad1.out.step (k:=λy=>fC n [] Ro y.1 y.2) Vp.out);have ai3:=hid (ad2.out.step hbb BI h13 abR);have amf:f13.err=0→f12.err=0∧p12≤p13:=λhh=>by
            by_cases h:f12.err=0
            ·obtain rfl:=ad2.out.al h;exact⟨rfl,tu Vp.out hh⟩
            rw[Vp.out.1 h]at hh;exact absurd hh h
           have aqw:=h13.2.1;clear BI h13 abR Vp ad1;go_wp2_with fail
           by_cases ai4:f13.err=0
           ·obtain⟨h1,h2⟩:=amf ai4;obtain⟨h3,h4⟩:=ame h1;have h5:=agu h3;have h6:=Ti.out;go_roundg (s.length-p13+1)
            case measure=>omega
            case rel=>exact⟨Ro,agt,f13,p13,n,ai3,ai2,λ_=>⟨by omega,rfl⟩⟩
           go_roundg 0
           case measure=>omega
           case rel=>exact⟨Ro,agt,f13,p13,n,ai3,ai2,λhh=>absurd hh ai4⟩
          have hf':((f9.err:Int)==0)=false:=by simp;omega
          go_wp2_with fail
          refine(bK false _ b s p9 f9 v Tz.out.rd hf').mono ?_;rintro e w10 ⟨rfl,Vr⟩;rw[Vr];clear Vr;go_wp2_with fail
          go_meet
          case rel=>exact⟨rs,vs,f9,p9,Tz,hid (HM9.out.dead hf9)⟩
         have hf':((f5.err:Int)==0)=false:=by simp;omega
         go_wp2_with fail
         refine(bK false _ b s p4 f5 v ZM.out.rd hf').mono ?_;rintro e w6 ⟨rfl,hw6⟩;rw[hw6];clear hw6;go_wp2_with fail
         go_meet
         case rel=>exact⟨rs,vs,f5,p4,ZM,hid (Dh.out.dead hf5)⟩
       | false=>
        have H60:Hid (rs.length=60→fC (n+1) md rs (s.drop p) p=.bad ⟨5,p⟩):=hid (λh=>Ri DL.out HQ.out h);by_cases h60:rs.length=60
        ·have abm:(60:Int)≤(rs.length:Int):=by omega
         have HX:=hid (H60.out h60);have c1:=vg.out.rd.c1;clear h60 H60;go_wp2_with fail
         refine(dP 5 p _ b s p good v vg.out.rd rfl).mono ?_;rintro e w4 ⟨rfl,hk4,h4⟩;have FX:=hid (vg.out.step hbb hk4 h4 (λhh=>absurd hh (by simp)));clear hk4 h4;go_wp2_with fail
         go_meet
         case rel=>exact⟨rs,vs,⟨5,p⟩,p,FX,hid (HM.out.kill rfl HX.out (by simp))⟩
        have Ar:Hid (Mid good R good ((kU md (s.drop p) p).then λx=>aP n md (rs++[x.1]) x.2.1 x.2.2)):=hid (HM.out.eq (λ_=>Rj DL.out HQ.out h60));have abm:¬(60:Int)≤(rs.length:Int):=by omega
        clear H60 h60;have HL:Hid (DK w w3 base b s v lv (.slice lo rs.length lc) rs vs good p):=hid vg.out;have Xe:rs.length+1≤60:=by omega
        clear vg HM HI xP;obtain⟨RS0,HRS⟩:∃x,Hid (gB ((s.drop p).length+1) [] (s.drop p) p=x):=⟨_,hid rfl⟩;obtain⟨RU,HRU⟩:∃x,Hid (kU md (s.drop p) p=x):=⟨_,hid rfl⟩;have Lr:Hid (Mid good R good (RU.then λx=>aP n md (rs++[x.1]) x.2.1 x.2.2)):=hid (by rw[←HRU.out];exact Ar.out);have HMU:Hid (Mid good RU good (RS0.then (Vm md p))):=hid (by
         have:=Mid.start (kU md (s.drop p) p) good;rw[HRU.out]at this;exact this.eq (λ_=>by rw[←HRU.out,abM,HRS.out]))
        have HMS:Hid (Mid good RS0 good (gB ((s.drop p).length+1) [] (s.drop p) p)):=hid (by rw[HRS.out];exact Mid.start _ _);clear Ar;have c1:=HL.out.rd.c1;go_upto_block 2 with fail
        obtain⟨nb,oO⟩:∃x,Hid (w3.heap.size=x):=⟨_,hid rfl⟩;obtain⟨wa,gX⟩:∃x,Hid (w3.alloc (.cells #[.string (str md),.slice none 0 0,.slice none 0 0,.int .i64 (p:Int),.int .i64 0] 42 (0,0))=x):=⟨_,hid rfl⟩;have HXL:Hid (Rn w3 wa b nb s md p v (.slice none 0 0) [] [] good p):=hid (by
         rw[←gX.out,←oO.out];exact⟨HL.out.rd.alloc _,aI _ _,dB.nil _ _,by simp,(Kept.refl _ _).alloc _,λ_=>rfl⟩)
        rw[gX.out,oO.out];go_cut [] (λwx=>∃(sv:Value) (ss:List dZ) (us:List Value) (f:iL) (p':Nat),Hid (Rn w3 wx b nb s md p v sv ss us f p')∧Hid (Mid good RS0 f (.ok (ss,s.drop p',p'))))
        case first=>
         go_wp2_with fail
         go_loopg [] (s.length-p+1) (λk wr=>∃(sv:Value) (ss:List dZ) (us:List Value) (f:iL) (p' n':Nat),Hid (Rn w3 wr b nb s md p v sv ss us f p')∧Hid (Mid good RS0 f (gB n' ss (s.drop p') p'))∧(f.err=0→s.length-p'<n'∧k=s.length-p'+1))
         case atStart=>exact⟨_,[],[],good,p,_,HXL,HMS,λ_=>⟨by rw[List.length_drop];omega,rfl⟩⟩
         case round=>
          obtain⟨sv,ss,us,f,p',m,HX,HMX,hal⟩:=hrel;obtain⟨so,sc,rfl⟩:=HX.out.own.form;have LD:=HX.out.few;by_cases hf:f.err=0
          ·obtain rfl:=HX.out.al hf;obtain⟨hm,hk'⟩:=hal rfl;clear hal hf;obtain⟨m,rfl⟩:∃x,m=x+1:=⟨m-1,by omega⟩;have n1:=ah HX.out.node 1 rfl;have x1:=HX.out.rd.c1;by_cases h8:ss.length=8
           ·have h8I:(8:Int)≤(ss.length:Int):=by omega
            have HB:=hid (Vk (n:=m) (l:=s.drop p') (a:=p') h8);clear h8;go_wp2_with fail
            refine(bK true _ b s p' good v HX.out.rd rfl).mono ?_;rintro e w5 ⟨rfl,hw5⟩;rw[hw5];clear hw5;go_wp2_with fail
            refine(dP 5 p' _ b s p' good v HX.out.rd rfl).mono ?_;rintro e w6 ⟨rfl,hk6,h6⟩;have hnb:¬nb=b:=by have:=HL.out.rd.lt;have:=oO.out;omega
            have hbn:b<nb+1:=by have:=HL.out.rd.lt;have:=oO.out;omega
            have Io:Hid (Rn w3 w6 b nb s md p v (.slice so ss.length sc) ss us ⟨5,p'⟩ p'):=hid ⟨h6,hk6.heap hnb HX.out.node,HX.out.own.kept dR hbn hk6,LD,HX.out.kept.trans hk6,λhh=>absurd hh (by simp)⟩;clear hk6 h6;go_wp2_with fail
            go_meet
            case rel=>exact⟨_,ss,us,⟨5,p'⟩,p',Io,hid (HMX.out.kill rfl HB.out (by simp))⟩
           have ami:Hid (Mid good RS0 good ((pq (s.drop p') p').then (xA m ss))):=hid (HMX.out.eq (λ_=>Vl h8));have h8I:¬(8:Int)≤(ss.length:Int):=by omega
           have aod:ss.length+1≤8:=by omega
           have Rq:b<nb:=by have:=HL.out.rd.lt;have:=oO.out;omega
           have ad4:w3.heap.size≤nb:=by have:=oO.out;omega
           have uh:¬nb=b:=by omega
           have hnlt:=gW HX.out.node;have y1:=aF HX.out.node 1;have h63:ss.length+1≤maxLen:=by unfold maxLen;omega
           have Tq:Hid (some nb≠(Value.slice so ss.length sc).ownBlock):=hid λhx=>by
            have:=(HX.out.own.own.lt nb hx.symm).1;omega
           clear h8;go_wp2_with fail
           refine(bK true _ b s p' good v HX.out.rd rfl).mono ?_;rintro e w5 ⟨rfl,hw5⟩;rw[hw5];clear hw5;have HC:=hid (abI wr.drew b s p' good v HX.out.rd (λ_=>rfl));go_upto_region 20 with fail
           go_cut [] (λwx=>∃(ps:dZ) (sv2:Value) (us2:List Value) (f4:iL) (p4:Nat),Hid (Rn w3 wx b nb s md p v sv2 (ss++[ps]) us2 f4 p4)∧Hid (Mid good RS0 f4 (xA m ss (ps,s.drop p4,p4)))∧(f4.err=0→p'<p4))
           case' first=>go_region_law
            (first
             | (go_simp;go_at_call 119;go_loud (refine HC.out.mono ?_;rintro e w4 ⟨pv,ps,f4,p4,rfl,hk4,hr4,hg4,hpv,aqy,hs4⟩;obtain⟨va,vc,rfl⟩:∃a c,pv=.slice a ps.length c:=(by obtain⟨yT,h1,⟨a,cap,h2,_⟩,_⟩:=hpv;exact⟨a,cap,by simpa [h1] using h2⟩);have aa6:=(HX.out.own.kept (w':=w4) dR (by omega) (((Kept.refl (· = b) _).drew).trans hk4)).own;have hz4:wr.heap.size≤w4.heap.size:=hk4.size;have x4:w4.cell? ⟨nb,1,none⟩=some (.slice so ss.length sc):=hk4.cell (a:=wr.drew) uh n1;have y4:w4.frozen? ⟨nb,1,none⟩=false:=hk4.frozen (a:=wr.drew) uh hnlt y1;have x4a:∀o,(w4.alloc o).cell? ⟨nb,1,none⟩=some (.slice so ss.length sc):=λo=>dX x4 o;have y4a:∀o,(w4.alloc o).frozen? ⟨nb,1,none⟩=false:=λo=>jC (by show nb<_;omega) y4 o))
             | (refine step_append_lies _ (by rfl) _ _ _ (by rfl) (nb+1) 78 j0 _ 1 24 Tryz.underlying37 hj0 hy0 hy1 hy2 rfl (by omega) (.slice so ss.length sc) ss.length _ (by rfl) (aa6.alloc _) ⟨w4.heap.size,0,none⟩ 1 1 [.slice va ps.length vc] (by rfl) (by rfl) (World.news_of_block (cs:=#[.slice va ps.length vc]) (t:=78) (fr:=(0,0)) (heap_alloc_new w4 _)) (by simp[Value.oneCell']) (by omega) h63 (by omega) (by simp;omega) (w4.heap.size+1) (by simp) ?_;intro gg cap w5 hown5 hgrow hat MW;have x5:w5.cell? ⟨nb,1,none⟩=some (.slice so ss.length sc):=(hgrow.cell_far _ (by simp;omega) Tq.out).trans (x4a _);have y5:w5.frozen? ⟨nb,1,none⟩=false:=(hgrow.frozen_far _ (by simp;omega) Tq.out).trans (y4a _)))
           case rest=>
            obtain⟨ps,sv2,us2,f4,p4,HX4,ai6,hlt4⟩:=hcut;obtain⟨w4,hw4⟩:∃x,x=wc:=⟨_,rfl⟩;subst hw4;go_wp2_with fail
            refine(oq [44] _ b s p4 f4 v HX4.out.rd (by decide) (by simp)).mono ?_;rintro e w5 ⟨x5,rfl,hk5,p5,h5,hx1,hx2⟩;have HX5:=hid (HX4.out.step Rq hk5 h5 HX4.out.al);clear hk5 h5 n1 y1 x1;cases x5 with
            | false=>
             obtain⟨rfl,hm1⟩:=hx2 rfl;have Dh:Hid (Mid good RS0 f4 (.ok (ss++[ps],s.drop p5,p5))):=hid (ai6.out.eq (λhh=>by
              show xA m ss (ps,s.drop p5,p5)=_
              unfold xA;rw[if_neg (by simp[hm1 hh])]))
             clear hx1 hx2 hm1;go_wp2_with fail
             go_meet
             case rel=>exact⟨_,ss++[ps],us2,f4,p5,HX5,Dh⟩
            | true=>
             obtain⟨hf4,hm1,rfl⟩:=hx1 rfl;obtain rfl:=HX4.out.al hf4;have aoe:=hlt4 hf4;have Dh:Hid (Mid good RS0 good ((cO (s.drop (p4+1)) (p4+1)).then λy=>gB m (ss++[ps]) y.1 y.2)):=hid (ai6.out.eq (λ_=>by
              show xA m ss (ps,s.drop p4,p4)=_
              unfold xA;rw[if_pos hm1,List.drop_drop]))
             clear hx1 hx2 hm1 hlt4 hf4;go_wp2_with fail
             refine(iE _ b s (p4+1) good v HX5.out.rd (λ_=>rfl)).mono ?_;rintro e w6 ⟨f6,p6,rfl,hk6,h6,Dy,hs6⟩;have Ls:Hid (Mid good RS0 f6 (gB m (ss++[ps]) (s.drop p6) p6)):=hid (Dh.out.step (k:=λy=>gB m (ss++[ps]) y.1 y.2) hs6.out);have Io:=hid (HX5.out.step Rq hk6 h6 Dy);have Xf:f6.err=0→p4+1≤p6:=λhh=>tu hs6.out hh
             have hl6:=h6.2.1;clear hk6 h6 Dy hs6;go_wp2_with fail
             by_cases Lc:f6.err=0
             ·have aqz:=Xf Lc;go_roundg (s.length-p6+1)
              case measure=>omega
              case rel=>exact⟨_,ss++[ps],us2,f6,p6,m,Io,Ls,λ_=>⟨by omega,rfl⟩⟩
             go_roundg 0
             case measure=>omega
             case rel=>exact⟨_,ss++[ps],us2,f6,p6,m,Io,Ls,λhh=>absurd hh Lc⟩
           all_goals
            go_wp2_with fail
            go_meet
            case rel=>
             obtain⟨q1,q2,q3,q4⟩:=YX HX.out.node HX.out.own Rq HX.out.kept ad4 (((Kept.refl (· = b) wr).drew).trans hk4) hr4 hpv hown5 hgrow hat;exact⟨ps,_,_,f4,p4,hid ⟨q1,q2,q3,by simp;omega,q4,hg4⟩,hid (ami.out.step (k:=xA m ss) hs4.out),λhh=>by
              rcases hs4.out.2 rfl with⟨_,h⟩ | ⟨h,_⟩
              ·exact EY.2 _ _ _ _ _ h
              exact absurd hh h⟩
          have hf':((f.err:Int)==0)=false:=by simp;omega
          go_wp2_with fail
          refine(bK false _ b s p' f v HX.out.rd hf').mono ?_;rintro e w5 ⟨rfl,hw5⟩;rw[hw5];clear hw5;go_wp2_with fail
          go_meet
          case rel=>exact⟨_,ss,us,f,p',HX,hid (HMX.out.dead hf)⟩
        case rest=>
         obtain⟨sv,ss,us,f5,p5,HX5,ai7⟩:=hcut;obtain⟨w5,hw5⟩:∃x,x=wc:=⟨_,rfl⟩;subst hw5;obtain⟨so,sc,rfl⟩:=HX5.out.own.form;have Rq:b<nb:=by have:=HL.out.rd.lt;have:=oO.out;omega
         have ad4:w3.heap.size≤nb:=by have:=oO.out;omega
         have aqA:nb≤w3.heap.size:=by have:=oO.out;omega
         have Dh:Hid (Mid good RU f5 ((aV [123] (s.drop p5) p5).then λy=>(iY y.1 y.2).then (zZ md p ss))):=hid (HMU.out.step (k:=Vm md p) (Mid.fin ai7.out));clear ai7 HMU HMS;go_wp2_with fail
         refine(kX [123] _ b s p5 f5 v HX5.out.rd HX5.out.al (by decide) (by simp)).mono ?_;rintro e w6 ⟨rfl,hk6,f6,p6,h6,Dy,hs6⟩;have Ls:Hid (Mid good RU f6 ((iY (s.drop p6) p6).then (zZ md p ss))):=hid (Dh.out.step (k:=λy=>(iY y.1 y.2).then (zZ md p ss)) hs6.out);have Io:=hid (HX5.out.step Rq hk6 h6 Dy);clear hk6 h6 Dy hs6 Dh HX5;have x1:=Io.out.rd.c1;obtain⟨xb,HXB⟩:∃q,Hid (((f6.err:Int)==0)=q):=⟨_,hid rfl⟩;go_wp2_with fail
         refine(bK xb _ b s p6 f6 v Io.out.rd HXB.out).mono ?_;rintro e w7 ⟨rfl,hw7⟩;rw[hw7];clear hw7;go_upto_if 108 with fail
         go_cut [] (λwx=>∃(do_:Option Addr) (dc:Nat) (ds:List aC) (f:iL) (p7:Nat),Hid (Y0 w3 wx b nb s md p v (.slice so ss.length sc) (.slice do_ ds.length dc) ss ds f p7)∧Hid (Mid good RU f (zZ md p ss (ds,s.drop p7,p7))))
         case first=>
          cases xb with
          | true=>
           have n2:=ah Io.out.node 2 rfl;have y2:=aF Io.out.node 2;go_wp2_with fail
           refine(Ij _ b s p6 f6 v Io.out.rd Io.out.al).mono ?_;rintro e w8 ⟨l8,ds8,f8,p8,rfl,hk8,h8,hg8,yX,LD,hs8⟩;have HM8:Hid (Mid good RU f8 (zZ md p ss (ds8,s.drop p8,p8))):=hid (Ls.out.step (k:=zZ md p ss) hs8.out);obtain⟨do8,dc8,rfl⟩:=Aa yX;have Jq:=hk8.heap (by show ¬nb=b;omega) Io.out.node;have hnl:=gW Io.out.node;have HY8:Hid (Y0 w3 (w8.setCell ⟨nb,2,none⟩ (.slice do8 ds8.length dc8)) b nb s md p v (.slice so ss.length sc) (.slice do8 ds8.length dc8) ss ds8 f8 p8):=hid (by
            have hks:Kept (· = nb) w8 (w8.setCell ⟨nb,2,none⟩ (.slice do8 ds8.length dc8)):=(Kept.refl (· = nb) _).setCell (p:=⟨nb,2,none⟩) (.inl rfl) _;have hkk:Kept (λk=>k=b∨k=nb) w6 (w8.setCell ⟨nb,2,none⟩ (.slice do8 ds8.length dc8)):=(hk8.mono (λk _ h=>.inl h)).trans (hks.mono (λk _ h=>.inr h));refine⟨h8.kept hks (by omega),?_,lU _ _ _ _ _ _ _ (Io.out.own.done vP dR) hkk (λk _ hs=>by show k<nb+1;omega) (λk _ hx=>hx),?_,(Io.out.kept.trans hk8).setCell (p:=⟨nb,2,none⟩) (.inr ad4) _,hg8⟩
            ·have:=aW Jq 2 (.slice do8 ds8.length dc8);simpa using this
            exact⟨(aS ku (by simp) yX).kept hks (λk hk hs=>by have:=(yX.lt k hk).1;omega),λk hk=>⟨λhx=>by have:=(yX.lt k hk).1;omega,Nat.lt_of_lt_of_le (yX.lt k hk).2 hks.size⟩⟩)
           have m2:=ah Jq 2 rfl;have mf2:=aF Jq 2;clear hk8 h8 hg8 yX hs8 Jq n2 y2;go_wp2_with fail
           go_meet
           case rel=>exact⟨do8,dc8,ds8,f8,p8,HY8,HM8⟩
          | false=>
           have Lc:¬f6.err=0:=by have:=HXB.out;simp at this;omega
           have HY8:Hid (Y0 w3 w6 b nb s md p v (.slice so ss.length sc) (.slice none 0 0) ss [] f6 p6):=hid ⟨Io.out.rd,Io.out.node,Io.out.own.done vP dR,⟨aH.nil _ _,λk hk=>by cases hk⟩,Io.out.kept,Io.out.al⟩;go_wp2_with fail
           go_meet
           case rel=>exact⟨none,0,[],f6,p6,HY8,hid (Ls.out.dead Lc)⟩
         case rest=>
          obtain⟨da,dc,ds,f8,p8,HY8,HM8⟩:=hcut;obtain⟨w8,hw8⟩:∃x,x=wc:=⟨_,rfl⟩;subst hw8;clear Io Ls x1;have ai8:Hid (Mid good RU f8 ((aV [125] (s.drop p8) p8).then λu=>Ans.ok ((⟨md,ss,ds,(p:Int),(u.2:Int)⟩:au),u.1,u.2))):=hid HM8.out;go_wp2_with fail
          refine(kX [125] _ b s p8 f8 v HY8.out.rd HY8.out.al (by decide) (by simp)).mono ?_;rintro e w9 ⟨rfl,hk9,f9,p9,h9,Tt,hs9⟩;have HSU:Hid (Step good RU f9 ((⟨md,ss,ds,(p:Int),(p9:Int)⟩:au),s.drop p9,p9)):=hid (Mid.fin (ai8.out.step (k:=λu=>Ans.ok ((⟨md,ss,ds,(p:Int),(u.2:Int)⟩:au),u.1,u.2)) hs9.out));have Xg:=hid (HY8.out.step Rq hk9 h9 Tt);have HM9:Hid (Mid good R f9 (aP n md (rs++[⟨md,ss,ds,(p:Int),(p9:Int)⟩]) (s.drop p9) p9)):=hid (Lr.out.step (k:=λx=>aP n md (rs++[x.1]) x.2.1 x.2.2) HSU.out);have HP9:Hid (f9.err=0→p<p9):=hid (λhh=>by
           rcases HSU.out.2 rfl with⟨_,h⟩ | ⟨h,_⟩
           ·rw[←HRU.out]at h;obtain⟨t,h1,h2,_,_,_,h3,_⟩:=AA h;omega
           exact absurd hh h)
          clear hk9 h9 Tt hs9 HM8 ai8 HY8 Lr HSU;have x1:=Xg.out.rd.c1;have m4:=ah Xg.out.node 4 rfl;have mf4:=aF Xg.out.node 4;go_upto_region 28 with fail
          obtain⟨wu,HWU⟩:∃x,Hid (w9.setCell ⟨nb,4,none⟩ (.int .i64 (p9:Int))=x):=⟨_,hid rfl⟩;have hks:Kept (· = nb) w9 wu:=by rw[←HWU.out];exact(Kept.refl (· = nb) _).setCell (p:=⟨nb,4,none⟩) (.inl rfl) _
          have hnu:wu.heap[nb]?=some (.cells #[.string (str md),.slice so ss.length sc,.slice da ds.length dc,.int .i64 (p:Int),.int .i64 (p9:Int)] 42 (0,0)):=by
           rw[←HWU.out];have:=aW Xg.out.node 4 (.int .i64 (p9:Int));simpa using this
          have ZJ:Hid (bJ wu b s p9 f9 v):=hid (Xg.out.rd.kept hks (by omega));have PD:Hid (vO wu (λk=>k<w3.heap.size) (.slice so ss.length sc) ss):=hid (lU _ _ _ _ _ _ _ Xg.out.aZ hks (λk _ hs=>by have:k=nb:=hs;show k<nb+1;omega) (λk _ hx=>by have hx':k<w3.heap.size:=hx;show k<nb+1;omega));have JR:Hid (dD wu (λk=>k<w3.heap.size) (.slice da ds.length dc) ds):=hid (jB _ _ _ _ _ _ _ Xg.out.decls hks (λk _ hs=>by have:k=nb:=hs;show k<nb+1;omega) (λk _ hx=>by have hx':k<w3.heap.size:=hx;show k<nb+1;omega));have HKU:Hid (Kept (· = b) w3 wu):=hid (by rw[←HWU.out];exact Xg.out.kept.setCell (p:=⟨nb,4,none⟩) (.inr ad4) _);have vw:=hid Xg.out.al;have how:=(HL.out.own.kept bn hbb HKU.out).own;have ad6:base≤w3.heap.size:=by have:=HL.out.kept.size;omega
          have hzu:w3.heap.size≤wu.heap.size:=HKU.out.size;have n0:=ah hnu 0 rfl;have n1:=ah hnu 1 rfl;have n2:=ah hnu 2 rfl;have n3:=ah hnu 3 rfl;have n4:=ah hnu 4 rfl;clear Xg x1 m4 mf4 hks hnu;rw[HWU.out];clear HWU;go_wp2_with (at_builtin;refine wpList_append_lies _ rfl _ _ _ rfl base 42 i0 _ 5 80 Tryz.underlying23 hi0 hz0 hz1 hz2 rfl (by omega) _ rs.length _ (by rfl) (how.alloc _) ⟨wu.heap.size,0,none⟩ 1 1 (bI ⟨md,ss,ds,(p:Int),(p9:Int)⟩ (.tuple #[.slice so ss.length sc,.slice da ds.length dc])) (by rfl) (by rfl) (World.news_of_block (cs:=(bI ⟨md,ss,ds,(p:Int),(p9:Int)⟩ (.tuple #[.slice so ss.length sc,.slice da ds.length dc])).toArray) (t:=42) (fr:=(0,0)) (heap_alloc_new wu _)) (by simp[bI,XE,XF,Value.oneCell']) (by omega) (by unfold maxLen;omega) (by omega) (by simp;omega) (wu.heap.size+1) (by simp) ?_;intro gg cap w10 abX Xh afc aog)
          have ad7:=hid (Vq HL.out hbb ad6 HKU.out ZJ.out vw.out Xe PD.out JR.out abX Xh afc);clear abX Xh afc how n0 n1 n2 n3 n4;refine(iE _ b s p9 f9 v ad7.out.rd ad7.out.al).mono ?_;rintro e Tv ⟨f11,p11,rfl,yH,h11,Ig,hs11⟩;have abW:Hid (Mid good R f11 (fC n md (rs++[⟨md,ss,ds,(p:Int),(p9:Int)⟩]) (s.drop p11) p11)):=hid (Mid.step (k:=λy=>fC n md (rs++[⟨md,ss,ds,(p:Int),(p9:Int)⟩]) y.1 y.2) (HM9.out.eq (λ_=>rfl)) hs11.out);have Y1:=hid (ad7.out.step hbb yH h11 Ig);have agu:f11.err=0→f9.err=0∧p9≤p11:=λhh=>by
           by_cases h:f9.err=0
           ·obtain rfl:=ad7.out.al h;exact⟨rfl,tu hs11.out hh⟩
           rw[hs11.out.1 h]at hh;exact absurd hh h
          have aqC:=h11.2.1;clear yH h11 Ig hs11 HM9;go_wp2_with fail
          by_cases ai':f11.err=0
          ·obtain⟨h1,h2⟩:=agu ai';have h3:=HP9.out h1;go_roundg (s.length-p11+1)
           case measure=>omega
           case rel=>exact⟨_,_,f11,p11,n,Y1,abW,λ_=>⟨by omega,rfl⟩⟩
          go_roundg 0
          case measure=>omega
          case rel=>exact⟨_,_,f11,p11,n,Y1,abW,λhh=>absurd hh ai'⟩
    have hne:(s.drop p).isEmpty=true:=by rw[List.drop_eq_nil_of_le (by omega)];rfl
    have HX:Hid (Mid good R good (.ok (rs,s.drop p,p))):=hid (HM.out.eq (λ_=>Ii (by rw[hne];rfl)));have hge:¬(p:Int)<(s.length:Int):=by omega
    clear hne;go_wp2_with fail
    go_quiet (first | (go_at_call 79;exact Calls.quiet_of_same (bK true _ b s p good v HL.out.rd rfl)) | fail)
    go_wp2_with fail
    go_meet
    case rel=>exact⟨rs,vs,good,p,hid (HL.out.step hbb ((Kept.refl _ _).drewN _) (HL.out.rd.drewN _) (λ_=>rfl)),HX⟩
   have hf':((f.err:Int)==0)=false:=by simp;omega
   go_wp2_with fail
   go_quiet (first | (go_at_call 79;exact Calls.quiet_of_same (bK false _ b s p f v HL.out.rd hf')) | fail)
   go_wp2_with fail
   go_meet
   case rel=>exact⟨rs,vs,f,p,hid (HL.out.step hbb ((Kept.refl _ _).drewN _) (HL.out.rd.drewN _) HL.out.al),hid (HM.out.dead hf)⟩
theorem aar{w wx:World}{b:Nat}(h0:wx.heap[b]?=some (.cells #[.int .i64 0,.int .i64 0] 26 (0,0)))(hk:Kept (λ_=>False) w wx)(hb:w.heap.size≤b)(x y:Value):
  ((wx.setCell ⟨b,0,none⟩ x).setCell ⟨b,1,none⟩ y).cell? ⟨b,0,none⟩=some x∧((wx.setCell ⟨b,0,none⟩ x).setCell ⟨b,1,none⟩ y).cell? ⟨b,1,none⟩=some y ∧
   Kept (λ_=>False) w ((wx.setCell ⟨b,0,none⟩ x).setCell ⟨b,1,none⟩ y):=by
 have h1:=aW (aW h0 0 x) 1 y;exact⟨ah h1 0 rfl,ah h1 1 rfl,(hk.setCell (.inr hb) _).setCell (.inr hb) _⟩
theorem BL(s:B)(w:World)(hs:s.length≤9223372036854775807):
  Calls Tryz.prog 37 #[.string (str s)] w (FY w (dW s)):=by
 obtain⟨r,HR⟩:∃r,Hid (dW s=r):=⟨_,rfl⟩;rw[HR.out];obtain⟨w0,HW0⟩:∃x,Hid (w.alloc (.cells #[.int .i64 0,.int .i64 0] 26 (0,0))=x):=⟨_,rfl⟩;have uq:Hid (Kept (λ_=>False) w w0):=hid (by rw[←HW0.out];exact(Kept.refl _ w).alloc _);have AL:Hid (w0.heap[w.heap.size]?=some (.cells #[.int .i64 0,.int .i64 0] 26 (0,0))):=hid (by rw[←HW0.out];exact aI w _);have hz0:w0.heap.size=w.heap.size+1:=by rw[←HW0.out];simp
 by_cases hl:4000<s.length
 ·obtain rfl:r=.bad ⟨4,0⟩:=by rw[←HR.out];unfold dW;rw[if_pos hl]
  have hlI:4000<(s.length:Int):=by omega
  obtain⟨q0,q1,q2⟩:=aar AL.out uq.out (Nat.le_refl _) (.int .i64 4) (.int .i64 0);have f0:=aF AL.out 0;have f1:=aF AL.out 1;have c0:=ah AL.out 0 rfl;have c1:=ah AL.out 1 rfl;go_enter Tryz.func37,Tryz.ntmps37
  go_upto_region 1 with fail
  rw[HW0.out];go_wp2_with fail
  refine bodyPost_ret (v:=.tuple #[.slice none 0 0,.agg #[.int .i64 4,.int .i64 0]]) (by simp[results,Tryz.results37,go_sem,q0,q1]) rfl ?_;exact⟨rfl,q2.below⟩
 have hE:=HR.out;unfold dW at hE;rw[if_neg hl]at hE;have HE:=hid hE;clear hE;have hlI:(s.length:Int)≤4000:=by omega
 obtain⟨wb,jo⟩:∃x,Hid (w0.heap.size=x):=⟨_,rfl⟩;obtain⟨w1,HW1⟩:∃x,Hid (w0.alloc (.cells #[.string (str s),.int .i64 0,.int .i64 0,.int .i64 0,.slice none 0 0] 149 (0,0))=x):=⟨_,rfl⟩;have hwk:bJ w1 wb s 0 good (.slice none 0 0):=by
  rw[←HW1.out,←jo.out];exact⟨aI w0 _,Nat.zero_le _,by omega⟩
 have hk1:Kept (λ_=>False) w w1:=by rw[←HW1.out];exact uq.out.alloc _
 have hz1:w1.heap.size=w0.heap.size+1:=by rw[←HW1.out];simp
 have HC:=Ij w1 wb s 0 good _ hwk (λ_=>rfl);rw[List.drop_zero]at HC;have xq:wb=w.heap.size+1:=by rw[←jo.out];exact hz0
 have BF:w1.heap.size=w.heap.size+2:=by omega
 have abA:=hid BF;clear BF;have HF1:Hid (w1.heap[w.heap.size]?=some (.cells #[.int .i64 0,.int .i64 0] 26 (0,0))):=hid (by rw[←HW1.out];exact iw AL.out _);have uZ:=hid hk1;replace HC:=hid HC;clear hwk hk1;go_enter Tryz.func37,Tryz.ntmps37
 go_upto_region 1 with fail
 rw[HW0.out];go_upto_region 4 with fail
 rw[HW1.out,←xq];have abB:=hid xq;clear hz0 hz1 xq;go_wp2_with fail
 refine HC.out.mono ?_;rintro e w2 ⟨l,ds,f,a,rfl,hk2,h2,hg2,hown,hfew,hs2⟩;obtain⟨lo,lc,rfl⟩:=Aa hown;have xq:=abB.out;have BF:=abA.out;have Gs:Hid (∀wx,Kept (λk=>k=wb∨k=w.heap.size) w2 wx→dD wx (λk=>k<w.heap.size) (.slice lo ds.length lc) ds):=hid (λwx hk=>by
  have hr:=aS ku (by simp) hown;have hb:∀k,(Value.slice lo ds.length lc).ownBlock=some k→w1.heap.size≤k∧k<w2.heap.size:=λk hk=>hown.lt k hk
  exact⟨hr.kept hk (λk hk' hs=>by have:=(hb k hk').1;omega),λk hk'=>⟨by have:=(hb k hk').1;omega,Nat.lt_of_lt_of_le (hb k hk').2 hk.size⟩⟩)
 have HF2:Hid (w2.heap[w.heap.size]?=some (.cells #[.int .i64 0,.int .i64 0] 26 (0,0))):=hid (hk2.heap (by omega) HF1.out);have iO:Hid (Kept (λ_=>False) w w2):=hid (uZ.out.trans' hk2 (λk hk hs=>by omega));have PZ:Hid (¬w.heap.size=wb):=hid (by omega);have HLE:Hid (w.heap.size≤wb):=hid (by omega);have H2:=hid h2;have c1:=h2.c1;have hla:=h2.2.1;have HS2:=hs2;clear hk2 h2 hown hs2 xq BF;go_upto_region 5 with fail
 go_cut [25] (λc wx=>wx=w2∧c=.bool (decide (f.err=0∧a<s.length)))
 case first=>
  by_cases hf:f.err=0
  ·obtain rfl:=hg2 hf;by_cases hend:a<s.length
   ·have hc:decide (good.err=0∧a<s.length)=true:=by simp[good,hend]
    go_wp2_with (go_at_call 79;refine(bK true _ _ _ _ _ _ H2.out rfl).mono ?_;rintro e w3 ⟨rfl,rfl⟩)
    go_meet
    case rel=>exact⟨rfl,by rw[hc]⟩
   have hc:decide (good.err=0∧a<s.length)=false:=by simp[good];omega
   go_wp2_with (go_at_call 79;refine(bK true _ _ _ _ _ _ H2.out rfl).mono ?_;rintro e w3 ⟨rfl,rfl⟩)
   go_meet
   case rel=>exact⟨rfl,by rw[hc]⟩
  have hc:decide (f.err=0∧a<s.length)=false:=by simp[hf]
  have hf':((f.err:Int)==0)=false:=by simp;omega
  go_wp2_with (go_at_call 79;refine(bK false _ _ _ _ _ _ H2.out hf').mono ?_;rintro e w3 ⟨rfl,rfl⟩)
  go_meet
  case rel=>exact⟨rfl,by rw[hc]⟩
 case rest=>
  obtain⟨rfl,rfl⟩:=hcut;go_upto_if 25 with fail
  obtain⟨w2,hw2⟩:∃x,x=wc:=⟨_,rfl⟩;subst hw2;go_cut [] (λwx=>∃g,Hid (bJ wx wb s a g (.slice none 0 0))∧Hid (Kept (· = wb) w2 wx)∧(g.err=0→r=.ok ds)∧(g.err≠0→r=.bad g))
  case first=>
   by_cases hf:f.err=0
   ·obtain rfl:=hg2 hf;have hok:iY s 0=.ok (ds,s.drop a,a):=by
     rcases HS2.out.2 rfl with⟨_,h⟩ | ⟨h,_⟩
     ·exact h
     exact absurd rfl h
    have hE:=HE.out;rw[hok]at hE;simp only[Ans.aN]at hE;by_cases hend:a<s.length
    ·have hr:Hid (r=.bad ⟨2,a⟩):=hid (by rw[←hE,if_neg (λh=>by have:=congrArg List.length h;rw[List.length_drop]at this;simp at this;omega)]);have hc:decide (good.err=0∧a<s.length)=true:=by simp[good,hend]
     rw[hc];clear hE hok;go_wp2_with fail
     refine(dP 2 a _ wb s a good _ H2.out rfl).mono ?_;rintro e w4 ⟨rfl,hk4,h4⟩;have uY:=hid hk4;have H4:=hid h4;clear hk4 h4;go_wp2_with fail
     go_meet
     case rel=>exact⟨⟨2,a⟩,H4,uY,λhh=>absurd hh (by simp),λ_=>hr.out⟩
    have hr:Hid (r=.ok ds):=hid (by rw[←hE,if_pos (List.drop_of_length_le (by omega))]);have hc:decide (good.err=0∧a<s.length)=false:=by simp[good];omega
    rw[hc];clear hE hok;go_wp2_with fail
    go_meet
    case rel=>exact⟨good,H2,hid (Kept.refl _ _),λ_=>hr.out,λhh=>absurd rfl hh⟩
   have hbad:iY s 0=.bad f:=by
    rcases HS2.out.2 rfl with⟨h,_⟩ | ⟨_,h⟩
    ·exact absurd h hf
    exact h
   have hE:=HE.out;rw[hbad]at hE;have hr:Hid (r=.bad f):=hid (by rw[←hE];rfl);have hc:decide (f.err=0∧a<s.length)=false:=by simp[hf]
   rw[hc];clear hE hbad;go_wp2_with fail
   go_meet
   case rel=>exact⟨f,H2,hid (Kept.refl _ _),λhh=>absurd hh hf,λ_=>hr.out⟩
  case rest=>
   obtain⟨g,HG,ET,hg0,hg1⟩:=hcut;have Ld:Hid (wc.heap[w.heap.size]?=some (.cells #[.int .i64 0,.int .i64 0] 26 (0,0))):=hid (ET.out.heap PZ.out HF2.out);have qm:Hid (Kept (λ_=>False) w wc):=hid (iO.out.trans' ET.out (λk hk hs=>by have:=HLE.out;omega));have x0:=ah Ld.out 0 rfl;have x1:=ah Ld.out 1 rfl;have y0:=aF Ld.out 0;have y1:=aF Ld.out 1;clear c1;by_cases hg:g.err=0
   ·have hr:=hg0 hg;subst hr;obtain⟨q0,q1,q2⟩:=aar Ld.out qm.out (Nat.le_refl _) (.int .i64 0) (.int .i64 0);have HD:=hid (Gs.out ((wc.setCell ⟨w.heap.size,0,none⟩ (.int .i64 0)).setCell ⟨w.heap.size,1,none⟩ (.int .i64 0)) (((ET.out.mono (T:=λk=>k=wb∨k=w.heap.size) (λk _ hk=>.inl hk)).setCell (p:=⟨w.heap.size,0,none⟩) (.inl (.inr rfl)) _).setCell (p:=⟨w.heap.size,1,none⟩) (.inl (.inr rfl)) _));have Q2:=hid q2;clear hg0 hg1 q2;go_wp2_with (go_at_call 79;refine(bK true _ _ _ _ _ _ HG.out (by simp[hg])).mono ?_;rintro e w3 ⟨rfl,rfl⟩)
    refine bodyPost_ret (v:=.tuple #[.slice lo ds.length lc,.agg #[.int .i64 0,.int .i64 0]]) (by simp[results,Tryz.results37,go_sem,q0,q1]) rfl ?_;exact⟨_,rfl,Q2.out.below,HD.out⟩
   have hr:=hg1 hg;subst hr;have hgf:((g.err:Int)==0)=false:=by simp;omega
   obtain⟨q0,q1,q2⟩:=aar Ld.out qm.out (Nat.le_refl _) (.int .i64 (g.err:Int)) (.int .i64 (g.pos:Int));have z2:=HG.out.c2;have z3:=HG.out.c3;obtain⟨wf,Ei⟩:∃x,Hid ((wc.setCell ⟨w.heap.size,0,none⟩ (.int .i64 (g.err:Int))).setCell ⟨w.heap.size,1,none⟩ (.int .i64 (g.pos:Int))=x):=⟨_,hid rfl⟩;rw[Ei.out]at q0 q1 q2;have Q0:=hid q0;have Q1:=hid q1;have Q2:=hid q2;clear hg0 hg1 q0 q1 q2;go_wp2_with (go_at_call 79;refine(bK false _ _ _ _ _ _ HG.out hgf).mono ?_;rintro e w3 ⟨rfl,rfl⟩)
   go_region
   go_wp2_with fail
   rw[Ei.out];have p0:wf.drew.cell? ⟨w.heap.size,0,none⟩=some (.int .i64 (g.err:Int)):=Q0.out;have p1:wf.drew.cell? ⟨w.heap.size,1,none⟩=some (.int .i64 (g.pos:Int)):=Q1.out;refine bodyPost_ret (v:=.tuple #[.slice none 0 0,.agg #[.int .i64 (g.err:Int),.int .i64 (g.pos:Int)]]) (by simp[results,Tryz.results37,go_sem,p0,p1]) rfl ?_;exact⟨rfl,Q2.out.drew.below⟩
end Go.Proofs.YtplbdlgmjehckacGreatDoor

