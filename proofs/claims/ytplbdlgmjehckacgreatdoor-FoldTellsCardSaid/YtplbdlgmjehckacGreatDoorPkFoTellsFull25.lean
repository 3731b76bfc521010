/-
 Lemmas for the claims of this seat: the program's functions walked, and plain laws.
-/
import Derived.Test.YtplbdlgmjehckacGreatDoorPkFoTellsFull24
set_option maxRecDepth 100000
set_option maxHeartbeats 12800000
namespace Go.Proofs.YtplbdlgmjehckacGreatDoor
open Go.Lib (hid)
open Go.RowKit
set_option linter.unusedVariables false
set_option linter.unusedSimpArgs false
def xA(n:Nat)(ss:List dZ)(x:dZ×B×Nat):Ans (List dZ×B×Nat):=
 if ([44]:B).isPrefixOf x.2.1 then (cO (x.2.1.drop 1) (x.2.2+1)).then λy=>gB n (ss++[x.1]) y.1 y.2 else .ok (ss++[x.1],x.2.1,x.2.2)
theorem Vk{n:Nat}{ss:List dZ}{l:B}{a:Nat}(h:ss.length=8):gB (n+1) ss l a=.bad ⟨5,a⟩:=by
 rw[←xB rfl,if_pos h]
theorem Vl{n:Nat}{ss:List dZ}{l:B}{a:Nat}(h:ss.length≠8):gB (n+1) ss l a=(pq l a).then (xA n ss):=by
 rw[←xB rfl,if_neg h];rfl
def zZ(md:B)(a:Nat)(ss:List dZ)(z:List aC×B×Nat):Ans (au×B×Nat):=
 (aV [125] z.2.1 z.2.2).then λu=>.ok (⟨md,ss,z.1,(a:Int),(u.2:Int)⟩,u.1,u.2)
def Vm(md:B)(a:Nat)(x:List dZ×B×Nat):Ans (au×B×Nat):=
 (aV [123] x.2.1 x.2.2).then λy=>(iY y.1 y.2).then (zZ md a x.1)
theorem abM(md l:B)(a:Nat):kU md l a=(gB (l.length+1) [] l a).then (Vm md a):=rfl
theorem Ii{n:Nat}{md:B}{rs:List au}{l:B}{a:Nat}(h:(l.isEmpty||([125]:B).isPrefixOf l)=true):fC (n+1) md rs l a=.ok (rs,l,a):=by
 rw[←oz rfl,if_pos h]
theorem Oc{n:Nat}{md:B}{rs:List au}{l:B}{a:Nat}(h:(l.isEmpty||([125]:B).isPrefixOf l)=false)(h2:(md.isEmpty&&fF.isPrefixOf l)=true):
  fC (n+1) md rs l a=(fO (l.drop 6) (a+6)).then λh=>(aP n h.1 rs h.2.1 h.2.2).then λx=>(aV [125] x.2.1 x.2.2).then λy=>aP n md x.1 y.1 y.2:=by
 rw[←oz rfl,if_neg (by simp[h]),if_pos h2]
theorem Ri{n:Nat}{md:B}{rs:List au}{l:B}{a:Nat}(h:(l.isEmpty||([125]:B).isPrefixOf l)=false)(h2:(md.isEmpty&&fF.isPrefixOf l)=false)(h3:rs.length=60):
  fC (n+1) md rs l a=.bad ⟨5,a⟩:=by
 rw[←oz rfl,if_neg (by simp[h]),if_neg (by simp[h2]),if_pos h3]
theorem Rj{n:Nat}{md:B}{rs:List au}{l:B}{a:Nat}(h:(l.isEmpty||([125]:B).isPrefixOf l)=false)(h2:(md.isEmpty&&fF.isPrefixOf l)=false)(h3:rs.length≠60):
  fC (n+1) md rs l a=(kU md l a).then λx=>aP n md (rs++[x.1]) x.2.1 x.2.2:=by
 rw[←oz rfl,if_neg (by simp[h]),if_neg (by simp[h2]),if_neg h3]
theorem YX{w0 wr w4 w5:World}{b nb p4 gg cap:Nat}{s md:B}{v sv pv:Value}{a0:Int}{ss:List dZ}{vs:List Value}{ps:dZ}{f4:iL}{o:Obj}
  (hn:wr.heap[nb]?=some (.cells #[.string (str md),sv,.slice none 0 0,.int .i64 a0,.int .i64 0] 42 (0,0))) (hO:um wr (nb+1) sv ss vs) (hb:b<nb)
  (hw0:Kept (· = b) w0 wr) (h0:w0.heap.size≤nb) (hkw:Kept (· = b) wr w4) (hr4:bJ w4 b s p4 f4 v) (hpv:tC w4 (λk=>k<wr.heap.size) pv ps)
  (hown5:w5.ownsRow (nb+1) 78 1 (.slice (some ⟨gg,0,none⟩) (ss.length+1) cap) (ss.length+1) ((List.zipWith uQ ss vs).flatten++[pv]))
  (hgrow:(w4.alloc o).grownBy w5 sv.ownBlock) (hat:sv.ownBlock=some gg∨gg=w4.heap.size+1) :
  bJ (w5.setCell ⟨nb,1,none⟩ (.slice (some ⟨gg,0,none⟩) (ss.length+1) cap)) b s p4 f4 v ∧
  (w5.setCell ⟨nb,1,none⟩ (.slice (some ⟨gg,0,none⟩) (ss.length+1) cap)).heap[nb]?=some (.cells #[.string (str md),.slice (some ⟨gg,0,none⟩) (ss.length+1) cap,.slice none 0 0,.int .i64 a0,.int .i64 0] 42 (0,0)) ∧
  um (w5.setCell ⟨nb,1,none⟩ (.slice (some ⟨gg,0,none⟩) (ss.length+1) cap)) (nb+1) (.slice (some ⟨gg,0,none⟩) (ss.length+1) cap) (ss++[ps]) (vs++[pv]) ∧
  Kept (· = b) w0 (w5.setCell ⟨nb,1,none⟩ (.slice (some ⟨gg,0,none⟩) (ss.length+1) cap)):=by
 have hlt:=hO.own.lt;have hno:¬sv.ownBlock=some nb:=λh=>by have:=(hlt nb h).1;omega
 have hk5:Kept (λk=>sv.ownBlock=some k) w4 w5:=((Kept.refl _ w4).alloc o).grown hgrow (λk hk=>.inl hk);have o4:um w4 (nb+1) sv ss vs:=hO.kept dR (by omega) hkw;have o5:um w5 (nb+1) (.slice (some ⟨gg,0,none⟩) (ss.length+1) cap) (ss++[ps]) (vs++[pv]):=by
  refine o4.ae6 dR ?_ ((Kept.refl _ _).alloc o) hown5 hgrow (by rcases hat with h | h;exact .inl h;exact .inr (by omega));exact dR _ _ _ _ (λ_=>False) _ _ hpv (Kept.refl _ _) (λk _ hs=>hs.elim) (λk _ hx=>by
   rcases hx with hx | hx
   ·have:=gW hn;show k<wr.heap.size;omega
   exact(hlt k hx).2)
 have hn4:w4.heap[nb]?=_:=hkw.heap (by omega) hn;have hset:Kept (· = nb) w5 (w5.setCell ⟨nb,1,none⟩ (.slice (some ⟨gg,0,none⟩) (ss.length+1) cap)):=(Kept.refl (· = nb) _).setCell (p:=⟨nb,1,none⟩) (.inl rfl) _;refine⟨(hr4.kept hk5 (λh=>by have:=(hlt b h).1;omega)).kept hset (by omega),?_,o5.kept dR (b:=nb) (by omega) hset,?_⟩
 ·have:=aW (hk5.heap hno hn4) 1 (.slice (some ⟨gg,0,none⟩) (ss.length+1) cap);simpa using this
 exact(((hw0.trans hkw).alloc o).grown hgrow (λk hk=>.inr (by have:=(hlt k hk).1;omega))).setCell (p:=⟨nb,1,none⟩) (.inr (by show w0.heap.size≤nb;omega)) _
theorem Vo:(Tryz.prog.info? 59).map (λi=>(i.zero,i.size,i.bytes))=some (some (.agg #[.string ⟨#[]⟩,.string ⟨#[]⟩,.bool false]),3,40):=by kernel_rfl
theorem Aa{w:World}{base t n:Nat}{av:Value}{xs:List Value}(h:w.ownsRow base t 3 av n xs):∃ao ac,av=.slice ao n ac:=by
 rcases h.2 with⟨rfl,hn⟩ | ⟨g,cap,cur,rfl,_⟩
 ·exact⟨none,0,by rw[hn]⟩
 exact⟨_,cap,rfl⟩
structure uo(w wr:World)(b:Nat)(s:B)(v:Value)(f0:iL)(R:Ans (List aC×B×Nat))(X:Ans (List aC×B×Nat))(l:Value)(ds:List aC)(f:iL)(p:Nat):Prop where
 rd:bJ wr b s p f v
 kept:Kept (· = b) w wr
 al:f.err=0→f=good
 own:wr.ownsRow w.heap.size 59 3 l ds.length (ds.map aA).flatten
 few:ds.length≤20
 mid:Hid (Mid f0 R f X)
section
variable {w wr wx:World} {b:Nat} {s:B} {v:Value} {f0 f:iL} {R X Y:Ans (List aC×B×Nat)} {l:Value} {ds:List aC} {p:Nat}
theorem uo.quiet(h:uo w wr b s v f0 R X l ds f p)(hq:Qt wr wx):uo w wx b s v f0 R X l ds f p:=
 ⟨h.rd.quiet hq,h.kept.trans (hq.kept _),h.al,aK h.own (hq.kept (λ_=>False)) (λ_ _=>id),h.few,h.mid⟩
theorem uo.turn(h:uo w wr b s v f0 R X l ds f p)(hm:Mid f0 R f Y):uo w wr b s v f0 R Y l ds f p:=⟨h.rd,h.kept,h.al,h.own,h.few,hid hm⟩
end
def abN(nm:B)(x:B×B×Nat):Ans (aC×B×Nat):=(fK x.2.1 x.2.2).then λy=>.ok (⟨nm,x.1,y.1⟩,y.2.1,y.2.2)
def abO(nm:B)(x:B×Nat):Ans (aC×B×Nat):=(zy x.1 x.2).then (abN nm)
def abP(nm:B)(x:B×Nat):Ans (aC×B×Nat):=(cO x.1 x.2).then (abO nm)
def abQ(nm:B)(x:B×Nat):Ans (aC×B×Nat):=(aV [58] x.1 x.2).then (abP nm)
def Rk(n:Nat)(ds:List aC)(x:aC×B×Nat):Ans (List aC×B×Nat):=if [59].isPrefixOf x.2.1 then (cO (x.2.1.drop 1) (x.2.2+1)).then λy=>cZ n (ds++[x.1]) y.1 y.2 else .ok (ds++[x.1],x.2.1,x.2.2)
theorem Ij(w:World)(b:Nat)(s:B)(a:Nat)(f0:iL)(v:Value)(h:bJ w b s a f0 v)(hg:f0.err=0→f0=good):
  Calls Tryz.prog 83 #[.pointer (some ⟨b,0,none⟩)] w λe w'=>∃(l:Value) (ds:List aC) (f':iL) (a':Nat),e=.returned l∧Kept (· = b) w w'∧bJ w' b s a' f' v∧(f'.err=0→f'=good) ∧
   w'.ownsRow w.heap.size 59 3 l ds.length (ds.map aA).flatten∧ds.length≤20∧Hid (Step f0 (iY (s.drop a) a) f' (ds,s.drop a',a')):=by
 obtain⟨R,HR⟩:∃R,Hid (iY (s.drop a) a=R):=⟨_,rfl⟩;rw[HR.out];have H:=hid h;have hbw:b<w.heap.size:=h.lt;have hls:=h.2.2;clear h;go_enter Tryz.func83,Tryz.ntmps83
 go_wp2_with fail
 refine(iE _ b s a f0 v H.out hg).mono ?_;rintro e w1 ⟨f1,p1,rfl,hk1,h1,hg1,hs1⟩;have hst:uo w w1 b s v f0 R (cZ ((s.drop p1).length+1) [] (s.drop p1) p1) (.slice none 0 0) [] f1 p1:=
  ⟨h1,hk1,hg1,World.ownsRow_nil _ _ _ _,by simp,hid (by
   have:=Mid.start (iY (s.drop a) a) f0;rw[HR.out]at this;have h2:Mid f0 R f0 ((cO (s.drop a) a).then λx=>cZ (x.1.length+1) [] x.1 x.2):=by
    refine this.eq λ_=>?_
    rw[←HR.out];rfl
   exact h2.step (k:=λx=>cZ (x.1.length+1) [] x.1 x.2) hs1.out)⟩
 have HST:=hid hst;clear hst hk1 h1 hs1 hg1;go_upto_block 0 with fail
 go_cut [3] (λl wx=>∃ds f p,Hid (uo w wx b s v f0 R (.ok (ds,s.drop p,p)) l ds f p))
 case rest=>as_aux_lemma=>
  obtain⟨ds,f,p,HL⟩:=hcut;go_wp2_with fail
  go_ret
  exact⟨_,ds,f,p,rfl,HL.out.kept,HL.out.rd,HL.out.al,HL.out.own,HL.out.few,hid HL.out.mid.out.fin⟩
 case first=>as_aux_lemma=>
  go_wp2_with fail
  go_loopg [3] (s.length-p1+1) (λk l wr=>∃ds f p n,Hid (uo w wr b s v f0 R (cZ n ds (s.drop p) p) l ds f p)∧(f.err=0→s.length-p<n∧k=s.length-p+1))
  case atStart=>exact⟨[],f1,p1,_,HST,λhf=>⟨by rw[List.length_drop];omega,rfl⟩⟩
  case round=>
   obtain⟨ds,f,p,n,HL,hal⟩:=hrel;have c0:=HL.out.rd.c0;have c1:=HL.out.rd.c1;have hlp:=HL.out.rd.2.1;obtain⟨lo,lc,hlv⟩:=Aa HL.out.own;subst hlv;by_cases hf:f.err=0
   ·obtain rfl:=HL.out.al hf;obtain⟨hn,hk⟩:=hal rfl;clear hal hf;obtain⟨n,rfl⟩:∃m,n=m+1:=⟨n-1,by omega⟩;by_cases hlt:p<s.length
    ·have hne:(s.drop p).isEmpty=false:=by
      cases hx:s.drop p with
      | nil=>have:=congrArg List.length hx;rw[List.length_drop]at this;simp at this;omega
      | cons a t=>rfl
     cases hm1:([125]:B).isPrefixOf (s.drop p)with
     | true=>
      have hX:=Ib (n:=n) (ds:=ds) (l:=s.drop p) (a:=p) (by rw[hne,hm1];rfl);have HX:=hid (HL.out.mid.out.eq (λ_=>hX));have xP:=hid hm1;clear hX hm1;go_wp2_with fail
      go_quiet (first | (go_at_call 79;exact Calls.quiet_of_same (bK true _ b s p good v HL.out.rd rfl)) | (go_at_call 112;exact Calls.quiet_of (iT [125] true _ b s p good v HL.out.rd rfl (by decide) xP.out)))
      go_wp2_with fail
      go_meet
      case rel=>exact⟨ds,good,p,hid ((HL.out.turn HX.out).quiet ⟨_,rfl⟩)⟩
     | false=>
      have xP:=hid hm1;have hcond:((s.drop p).isEmpty||([125]:B).isPrefixOf (s.drop p))=false:=by rw[hne,hm1];rfl
      have Lu:=hid hcond;clear hm1 hcond;by_cases h20:ds.length=20
      ·have HX:Hid (cZ (n+1) ds (s.drop p) p=.bad ⟨5,p⟩):=hid (QZ Lu.out h20);have alZ:(20:Int)≤(ds.length:Int):=by omega
       clear h20;go_wp2_with fail
       go_quiet (first | (go_at_call 79;exact Calls.quiet_of_same (bK true _ b s p good v HL.out.rd rfl)) | (go_at_call 112;exact Calls.quiet_of (iT [125] false _ b s p good v HL.out.rd rfl (by decide) xP.out)))
       have HL2:=hid (HL.out.quiet (wx:=wr.drewN nq) ⟨_,rfl⟩)
       revert HL2
       generalize wr.drewN nq=w2;intro HL2;clear c0 c1;have c1:=HL2.out.rd.c1;go_wp2_with fail
       refine(dP 5 p _ b s p good v HL2.out.rd rfl).mono ?_;rintro e w3 ⟨rfl,hk3,h3⟩;have oJ:=hid hk3;have H3:=hid h3;clear hk3 h3;go_wp2_with fail
       go_meet
       case rel=>exact⟨ds,⟨5,p⟩,p,hid ⟨H3.out,HL2.out.kept.trans oJ.out,λhh=>absurd hh (by simp),aK HL2.out.own oJ.out (λk hk hs=>by have:=(HL2.out.own.lt k hk).1;omega),HL2.out.few,hid (HL2.out.mid.out.kill rfl HX.out (by simp))⟩⟩
      have HX:Hid (cZ (n+1) ds (s.drop p) p=(qQ (s.drop p) p).then (Rk n ds)):=hid (Q5 Lu.out h20);have hfew:=HL.out.few;have alZ:¬(20:Int)≤(ds.length:Int):=by omega
      go_wp2_with fail
      go_quiet (first | (go_at_call 79;exact Calls.quiet_of_same (bK true _ b s p good v HL.out.rd rfl)) | (go_at_call 112;exact Calls.quiet_of (iT [125] false _ b s p good v HL.out.rd rfl (by decide) xP.out)))
      have HL2:=hid (HL.out.quiet (wx:=wr.drewN nq) ⟨_,rfl⟩)
      revert HL2
      generalize wr.drewN nq=w2;intro HL2;clear c0 c1 xP;go_wp2_with fail
      refine(oQ _ b s p good v HL2.out.rd (λ_=>rfl)).mono ?_;rintro e w3 ⟨nm,rfl,hk3,f3,p3,h3,hg3,alO,hs3⟩;obtain⟨D,HD⟩:∃D,Hid (qQ (s.drop p) p=D):=⟨_,rfl⟩;have M3:Hid (Mid good D f3 _):=hid (Mid.step (k:=λx=>(cO x.2.1 x.2.2).then (abQ x.1)) (by
       have:=Mid.start (qQ (s.drop p) p) good;rw[HD.out]at this;exact this.eq (λ_=>by rw[←HD.out];rfl)) hs3.out)
      obtain⟨db,HDB⟩:∃x,Hid (w3.heap.size=x):=⟨_,rfl⟩;obtain⟨w4,Dn⟩:∃x,Hid (w3.alloc (.cells #[.string (str nm),.string ⟨#[]⟩,.bool false] 59 (0,0))=x):=⟨_,rfl⟩;have hbox:rW w2 w4 b db s v nm [] false f3 p3:=by
       rw[←Dn.out,←HDB.out];exact⟨h3.alloc _,aI w3 _,hk3.alloc _,λhh=>(hg3 hh).1,hk3.size,h3.lt⟩
      have HB4:=hid hbox;clear hk3 h3 hs3 hbox hg3;go_upto_region 7 with fail
      rw[Dn.out,HDB.out];clear Dn HDB;go_wp2_with fail
      refine(iE _ b s p3 f3 v HB4.out.rd HB4.out.al).mono ?_;rintro e w5 ⟨f5,p5,rfl,hk5,h5,hg5,hs5⟩;have HB5:=hid (HB4.out.step hk5 h5 hg5);have M5:=hid (M3.out.step (k:=abQ nm) hs5.out);clear hk5 h5 hg5 hs5 HB4 M3;go_wp2_with fail
      refine(kX [58] _ b s p5 f5 v HB5.out.rd HB5.out.al (by decide) (by simp)).mono ?_;rintro e w6 ⟨rfl,hk6,f6,p6,h6,Dy,hs6⟩;have ZQ:=hid (HB5.out.step hk6 h6 Dy);have M6:=hid (M5.out.step (k:=abP nm) hs6.out);clear hk6 h6 Dy hs6 HB5 M5;go_wp2_with fail
      refine(iE _ b s p6 f6 v ZQ.out.rd ZQ.out.al).mono ?_;rintro e w7 ⟨f7,p7,rfl,jD,h7,QN,hs7⟩;have yI:=hid (ZQ.out.step jD h7 QN);have M7:=hid (M6.out.step (k:=abO nm) hs7.out);clear jD h7 QN hs7 ZQ M6;obtain⟨V,HV⟩:∃V,Hid (zy (s.drop p7) p7=V):=⟨_,rfl⟩;go_upto_block 2 with fail
      go_cut [] (λwx=>∃f vl p ws,Hid (rW w2 wx b db s v nm vl false f p)∧vl.length≤6100∧Hid (Mid f7 V f (if ws=([]:List B) then .bad ⟨2,p⟩ else .ok (vl,s.drop p,p)))∧(f.err=0→(vl=[]↔ws=[])))
      case first=>as_aux_lemma=>
       go_wp2_with fail
       go_loopg [] (s.length-p7+1) (λk wx=>∃f vl p ws n,Hid (rW w2 wx b db s v nm vl false f p)∧vl.length≤6100∧Hid (Mid f7 V f (jI n ws (s.drop p) p))∧(f.err=0→s.length-p<n∧k=s.length-p+1∧vl=gU ws∧vl.length≤60∧(vl=[]↔ws=[])))
       case atStart=>exact⟨f7,[],p7,[],(s.drop p7).length+1,yI,by simp,hid (by
        have:=Mid.start (zy (s.drop p7) p7) f7;rw[HV.out]at this;exact this.eq (λ_=>by rw[←HV.out];rfl)),λhf=>⟨by rw[List.length_drop];omega,rfl,rfl,by simp,by simp⟩⟩
       case round=>
        obtain⟨f,vl,p,ws,n,HB,hvl,HM,hal⟩:=hrel;have c0:=HB.out.rd.c0;have c1:=HB.out.rd.c1;have hlp:=HB.out.rd.2.1;by_cases hf:f.err=0
        ·obtain rfl:=HB.out.al hf;obtain⟨hn,hk,hvj,aqo,hvn⟩:=hal rfl;clear hal hf;obtain⟨n,rfl⟩:∃m,n=m+1:=⟨n-1,by omega⟩;by_cases hlt:p<s.length
         ·have hi0:(0:Int)≤(p:Int):=by omega
          have hi1:(p:Int)<(s.length:Int):=by omega
          cases hwd:isWord (s[p]'hlt)with
          | false=>
           have htk:(s.drop p).takeWhile isWord=[]:=by rw[List.drop_eq_getElem_cons hlt,List.takeWhile_cons,hwd];rfl
           have HX:=hid (HM.out.eq (λ_=>QY (n:=n) (ws:=ws) (a:=p) htk));have HW:=hid hwd;clear htk hwd;go_wp2_with fail
           go_quiet (first | (go_at_call 79;exact Calls.quiet_of_same (bK true _ b s p good v HB.out.rd rfl)) | (go_at_call 120;exact Calls.quiet_of_same (BG _ false _ HW.out)))
           have HB2:=hid (HB.out.quiet (wx:=wr.drewN nq) ⟨_,rfl⟩);go_wp2_with fail
           go_meet
           case rel=>exact⟨good,vl,p,ws,HB2,hvl,hid (HX.out.eq (λ_=>by rw[hvj])),λ_=>hvn⟩
          | true=>
           have HW:=hid hwd;clear hwd;go_wp2_with fail
           go_quiet (first | (go_at_call 79;exact Calls.quiet_of_same (bK true _ b s p good v HB.out.rd rfl)) | (go_at_call 120;exact Calls.quiet_of_same (BG _ true _ HW.out)))
           have HB2:=hid (HB.out.quiet (wx:=wr.drewN nq) ⟨_,rfl⟩)
           revert HB2
           generalize wr.drewN nq=w8;intro HB2;clear c0 c1;have c0:=HB2.out.rd.c0;have c1:=HB2.out.rd.c1;obtain⟨nw,ZL⟩:∃x,Hid (((s.drop p).takeWhile isWord).length=x):=⟨_,rfl⟩;have hnw:p+nw≤s.length:=by
            have:=fJ isWord (s.drop p);have h2:=ZL.out;rw[List.length_drop]at this;omega
           have aqp:0<nw:=by
            have h2:=ZL.out;rw[List.drop_eq_getElem_cons hlt,List.takeWhile_cons,HW.out,if_pos rfl]at h2;simp at h2;omega
           have Gs:Hid (∀j,j<nw→∃h:p+j<s.length,isWord (s[p+j]'h)=true):=hid λj hj=>by
            have h2:=ZL.out;obtain⟨h3,h4⟩:=pX isWord (s.drop p) j (by omega);refine⟨by rw[List.length_drop]at h3;omega,?_⟩;rw[List.getElem_drop]at h4;exact h4
           have GK:Hid ((h:p+nw<s.length)→isWord (s[p+nw]'h)=false):=hid λhlt=>by
            have h2:((s.drop p).takeWhile isWord).length=nw:=ZL.out;have h5:((s.drop p).takeWhile isWord).length<(s.drop p).length:=by rw[List.length_drop];omega
            have h6:=jE isWord (s.drop p) h5;rw[List.getElem_drop]at h6;have:∀k,(hk:k=nw)→(h:p+k<s.length)→isWord (s[p+k]'h)=false→isWord (s[p+nw]'(by omega))=false:=by
             intro k hk;subst hk;exact λ_ h=>h
            exact this _ h2 _ h6
           go_upto_block 4 with fail
           go_cut [5] (λk wx=>wx=w8∧k=.int .i64 ((p+nw:Nat):Int))
           case first=>
            go_wp2_with fail
            go_loopw [5] (λk wx=>wx=w8∧∃j:Nat,j≤nw∧k=.int .i64 ((p+j:Nat):Int)) (λk _=>s.length-(intOf k).toNat)
            case atStart=>exact⟨rfl,0,by omega,rfl⟩
            case round=>
             obtain⟨rfl,j,hj,rfl⟩:=hrel;by_cases hlt2:j<nw
             ·obtain⟨h3,h2⟩:=Gs.out j hlt2;have HCW:=hid (BG (s[p+j]'h3) true wr h2);clear h2;go_wp2_with (go_at_call 120;refine HCW.out.mono ?_;rintro e w9 ⟨rfl,rfl⟩)
              go_roundw
              case rel=>exact⟨trivial,j+1,by omega,by go_num⟩
              case measure=>simp[intOf];omega
             obtain rfl:j=nw:=by omega
             by_cases h3:p+j<s.length
             ·have HCW:=hid (BG (s[p+j]'h3) false wr (GK.out h3));go_wp2_with (go_at_call 120;refine HCW.out.mono ?_;rintro e w9 ⟨rfl,rfl⟩)
              go_meet
              case rel=>exact⟨rfl,rfl⟩
             go_wp2_with fail
             go_meet
             case rel=>exact⟨rfl,rfl⟩
           case rest=>
            obtain⟨rfl,rfl⟩:=hcut;have d1:=ah HB2.out.box 1 rfl;have e1:=aF HB2.out.box 1;clear Gs GK c0 c1;obtain⟨word,LC⟩:∃x,Hid ((s.drop p).takeWhile isWord=x):=⟨_,rfl⟩;have hwl:word.length=nw:=by rw[←LC.out];exact ZL.out
            have htake:(s.drop p).take nw=word:=by rw[←LC.out,←ZL.out];exact takeWhile_take _ _
            have YZ:=hid htake;have HVJ:=hid hvj;have aqs:word.length≤6000:=by omega
            clear htake hvj;obtain⟨vp,HVP⟩:∃x,Hid ((if ws=[] then [] else vl++[32])=x):=⟨_,hid rfl⟩;have hvp:vp.length≤61:=by
             rw[←HVP.out];split
             ·simp
             simp;omega
            go_upto_if 95 with fail
            go_cut [] (λwx=>Hid (rW w2 wx b db s v nm vp false good p))
            case first=>
             by_cases hve:vl=[]
             ·have e0:vp=[]:=by rw[←HVP.out,if_pos (hvn.1 hve)]
              subst hve;go_wp2_with fail
              go_meet
              case rel=>rw[e0];exact HB2
             have e0:vp=vl++[32]:=by rw[←HVP.out,if_neg (λh=>hve (hvn.2 h))]
             have hem:vl.isEmpty=false:=by cases vl with | nil=>exact absurd rfl hve | cons a t=>rfl
             have zQ:=hid (HB2.out.put (vl++[32]));go_wp2_with fail
             go_meet
             case rel=>rw[e0];exact zQ
             all_goals (exfalso;rename_i hx;rw[hem]at hx;cases hx)
            case rest=>
             have HB3:=hid hcut.out;clear hcut d1 e1 HB2;have d1:=ah HB3.out.box 1 rfl;have e1:=aF HB3.out.box 1;have c0:=HB3.out.rd.c0;have c1:=HB3.out.rd.c1;have k1:=HB3.out.rd.free 1;have g1:¬db=b:=by have:=HB3.out.hb;omega
             have htake:=YZ.out;have Rl:gU (ws++[word])=vp++word:=by
              rw[Ia,←HVP.out];split
              ·rfl
              rw[HVJ.out];simp
             have hne:(s.drop p).takeWhile isWord≠[]:=by
              rw[LC.out];intro h;rw[h]at hwl;simp at hwl;omega
             obtain⟨w9,HW9⟩:∃x,Hid ((wc.setCell ⟨db,1,none⟩ (.string (str (vp++word)))).drew=x):=⟨_,hid rfl⟩;have HB4:Hid (rW w2 w9 b db s v nm (vp++word) false good p):=hid (by rw[←HW9.out];exact(HB3.out.put _).quiet ⟨1,rfl⟩);have HJ:=hid Rl;have PZ:=hid hne;clear Rl hne;go_upto_region 16 with fail
             go_region
             go_upto_region 17 with fail
             rw[HW9.out];clear HB3 d1 e1 c0 c1 k1 htake HW9;have d1:=ah HB4.out.box 1 rfl;have c1:=HB4.out.rd.c1;have k1:=HB4.out.rd.free 1;by_cases h60:60<vp.length+word.length
             ·have abm:(60:Int)<(vp.length:Int)+(word.length:Int):=by omega
              have HX:Hid (jI (n+1) ws (s.drop p) p=.bad ⟨4,p⟩):=hid (YT PZ.out (by rw[LC.out,HJ.out,List.length_append];exact h60));go_wp2_with fail
              refine(dP 4 p _ b s p good v HB4.out.rd rfl).mono ?_;rintro e w10 ⟨rfl,hk10,h10⟩;have pR:=hid (HB4.out.step hk10 h10 (λhh=>absurd hh (by simp)));clear hk10 h10;go_wp2_with fail
              go_meet
              case rel=>exact⟨⟨4,p⟩,_,p,ws,pR,by rw[List.length_append];omega,hid (HM.out.kill rfl HX.out (by simp)),λhh=>absurd hh (by simp)⟩
             have abm:¬(60:Int)<(vp.length:Int)+(word.length:Int):=by omega
             have HX:Hid (jI (n+1) ws (s.drop p) p=(cO (s.drop (p+nw)) (p+nw)).then λx=>jI n (ws++[word]) x.1 x.2):=hid (by
              rw[YU PZ.out (by rw[LC.out,HJ.out,List.length_append];exact h60),LC.out,hwl,List.drop_drop])
             have HB5:Hid (rW w2 (w9.setCell ⟨b,1,none⟩ (.int .i64 ((p+nw:Nat):Int))) b db s v nm (vp++word) false good (p+nw)):=hid (HB4.out.set rfl hnw);go_wp2_with fail
             refine(iE _ b s (p+nw) good v HB5.out.rd (λ_=>rfl)).mono ?_;rintro e w10 ⟨f10,p10,rfl,hk10,h10,adQ,hs10⟩;have pR:=hid (HB5.out.step hk10 h10 adQ);have M10:=hid ((HM.out.eq (λ_=>HX.out)).step (k:=λx=>jI n (ws++[word]) x.1 x.2) hs10.out);have hgt:f10.err=0→p+nw≤p10:=λhh=>by
              rcases hs10.out.2 rfl with⟨_,h⟩ | ⟨h,_⟩
              ·obtain⟨g,_,_,hh,_⟩:=MG _ _ _ _ _ (Nat.le_refl _) h;omega
              exact absurd hh h
             have aiS:=h10.2.1;clear hk10 h10 adQ hs10;go_wp2_with fail
             by_cases aiT:f10.err=0
             ·have al1:=hgt aiT;go_roundg (s.length-p10+1)
              case measure=>omega
              case rel=>exact⟨f10,vp++word,p10,ws++[word],n,pR,by rw[List.length_append];omega,M10,λ_=>⟨by omega,rfl,HJ.out.symm,by rw[List.length_append];omega,by
               constructor
               ·intro h;have:=congrArg List.length h;rw[List.length_append,List.length_nil]at this;omega
               intro h;simp at h⟩⟩
             go_roundg 0
             case measure=>omega
             case rel=>exact⟨f10,vp++word,p10,ws++[word],n,pR,by rw[List.length_append];omega,M10,λhh=>absurd hh aiT⟩
         have hd:decide ((p:Int)<(s.length:Int))=false:=by simp;omega
         have htk:(s.drop p).takeWhile isWord=[]:=by rw[List.drop_of_length_le (show s.length≤p by omega)];rfl
         have HX:=hid (HM.out.eq (λ_=>QY (n:=n) (ws:=ws) (a:=p) htk));clear htk;go_wp2_with fail
         go_quiet (first | (go_at_call 79;exact Calls.quiet_of_same (bK true _ b s p good v HB.out.rd rfl)))
         have HB2:=hid (HB.out.quiet (wx:=wr.drewN nq) ⟨_,rfl⟩);go_wp2_with fail
         go_meet
         case rel=>exact⟨good,vl,p,ws,HB2,hvl,hid (HX.out.eq (λ_=>by rw[hvj])),λ_=>hvn⟩
        have hf':((f.err:Int)==0)=false:=by simp;omega
        go_wp2_with fail
        go_quiet ((go_at_call 79;exact Calls.quiet_of_same (bK false _ _ _ _ _ _ HB.out.rd hf')))
        have HB2:=hid (HB.out.quiet (wx:=wr.drewN nq) ⟨_,rfl⟩);go_wp2_with fail
        go_meet
        case rel=>exact⟨f,vl,p,ws,HB2,hvl,hid (HM.out.dead hf),λhh=>absurd hh hf⟩
      case rest=>as_aux_lemma=>
       obtain⟨f8,vl,p8,ws,vN,hvl,M8,hvn⟩:=hcut;have d1:=ah vN.out.box 1 rfl;have c1:=vN.out.rd.c1;clear yI;go_upto_if 132 with fail
       go_cut [] (λwx=>∃f p,Hid (rW w2 wx b db s v nm vl false f p)∧Hid (Step f7 V f (vl,s.drop p,p)))
       case first=>
        by_cases hve:vl=[]
        ·have HVE:=hid (hvn);have HE:=hid hve;subst hve;by_cases hf:f8.err=0
         ·have hwe:ws=[]:=(hvn hf).1 rfl;have HX:Hid ((if ws=([]:List B) then (.bad ⟨2,p8⟩:Ans (B×B×Nat)) else .ok ([],s.drop p8,p8))=.bad ⟨2,p8⟩):=hid (by rw[if_pos hwe]);clear hvn hwe;go_wp2_with fail
          refine(dP 2 p8 _ b s p8 f8 v vN.out.rd hf).mono ?_;rintro e w10 ⟨rfl,hk10,h10⟩;have pR:=hid (vN.out.step hk10 h10 (λhh=>absurd hh (by simp)));clear hk10 h10;go_wp2_with fail
          go_meet
          case rel=>exact⟨⟨2,p8⟩,p8,pR,hid (Mid.fin (M8.out.kill hf HX.out (by simp)))⟩
         clear hvn;go_wp2_with fail
         refine(qK 2 (p8:Int) _ b s p8 f8 v vN.out.rd hf).mono ?_;rintro e w10 ⟨rfl,rfl⟩;go_wp2_with fail
         go_meet
         case rel=>exact⟨f8,p8,vN,hid (Mid.fin (M8.out.dead hf))⟩
        have hem:vl.isEmpty=false:=by cases vl with | nil=>exact absurd rfl hve | cons a t=>rfl
        have HS:Hid (Step f7 V f8 (vl,s.drop p8,p8)):=hid (Mid.fin (M8.out.eq (λhf=>by rw[if_neg (λh=>hve ((hvn hf).2 h))])));clear hvn;go_wp2_with fail
        all_goals first
         | (exfalso;have hx:vl.isEmpty=true:=(by assumption);rw[hem]at hx;cases hx;done)
         | go_meet
        case rel=>exact⟨f8,p8,vN,HS⟩
       case rest=>
        obtain⟨f9,p9,Fp,S9⟩:=hcut;have hM7:Mid good D f7 (V.then (abN nm)):=by rw[←HV.out];exact M7.out
        have M9:=hid (hM7.step S9.out);clear hM7;clear vN M8 S9 d1 c1;go_wp2_with fail
        refine(oq [33] _ b s p9 f9 v Fp.out.rd (by decide) (by simp)).mono ?_;rintro e w10 ⟨x,rfl,hk10,p10,h10,hx1,hx2⟩;have pR:=hid (Fp.out.step hk10 h10 Fp.out.al);clear hk10 h10;go_upto_if 140 with fail
        go_cut [] (λwx=>∃st f p,Hid (rW w2 wx b db s v nm vl st f p)∧Hid (Step f9 (fK (s.drop p9) p9) f (st,s.drop p,p)))
        case first=>
         cases x with
         | false=>
          obtain⟨rfl,hno⟩:=hx2 rfl;have HS:Hid (Step f9 (fK (s.drop p10) p10) f9 (false,s.drop p10,p10)):=hid (by
           by_cases hf:f9.err=0
           ·exact⟨λhh=>absurd hf hh,λ_=>.inl ⟨hf,by unfold fK;rw[hno hf];rfl⟩⟩
           exact Step.dead hf)
          clear hx1 hx2 hno;go_wp2_with fail
          go_meet
          case rel=>exact⟨false,f9,p10,pR,HS⟩
         | true=>
          obtain⟨hf,hyes,rfl⟩:=hx1 rfl;have hM:Mid f9 (fK (s.drop p9) p9) f9 ((aV bM (s.drop (p9+[33].length)) (p9+[33].length)).then λx=>(cO x.1 x.2).then λy=>.ok (true,y.1,y.2)):=(Mid.start _ _).eq (λ_=>by
           unfold fK;rw[hyes,if_pos rfl,List.drop_drop];rfl)
          have HM:=hid hM;clear hx1 hx2 hM hyes;go_wp2_with fail
          refine(kX bM _ b s (p9+[33].length) f9 v pR.out.rd pR.out.al (by decide) (by decide)).mono ?_;rintro e Tv ⟨rfl,yH,f11,p11,h11,Ig,hs11⟩;have EW:=hid (pR.out.step yH h11 Ig);have M11:=hid (HM.out.step (k:=λx=>(cO x.1 x.2).then λy=>.ok (true,y.1,y.2)) hs11.out);clear yH h11 Ig hs11 pR HM;have d2:=ah EW.out.box 2 rfl;have e2:=aF EW.out.box 2;have DJ:=hid (EW.out.strong true);go_wp2_with fail
          refine(iE _ b s p11 f11 v DJ.out.rd DJ.out.al).mono ?_;rintro e Xb ⟨f13,p13,rfl,BI,h13,abR,Vp⟩;have JG:=hid (DJ.out.step BI h13 abR);have M13:=hid (Mid.fin (M11.out.step (k:=λy=>.ok (true,y.1,y.2)) Vp.out));clear BI h13 abR Vp;go_wp2_with fail
          go_meet
          case rel=>exact⟨true,f13,p13,JG,M13⟩
        case rest=>
         obtain⟨st,f14,Vj,zX,S14⟩:=hcut;have M14:Hid (Step good D f14 ((⟨nm,vl,st⟩:aC),s.drop Vj,Vj)):=hid (Mid.fin (M9.out.step (k:=λy=>.ok ((⟨nm,vl,y.1⟩:aC),y.2.1,y.2.2)) S14.out));clear pR M9 S14 hx1 hx2;obtain⟨d,HDD⟩:∃x:aC,Hid ((⟨nm,vl,st⟩:aC)=x):=⟨_,hid rfl⟩;have MX:Hid (Mid f0 R f14 (Rk n ds (d,s.drop Vj,Vj))):=hid ((HL2.out.mid.out.eq (λ_=>HX.out)).step (k:=Rk n ds) (by rw[HD.out,←HDD.out];exact M14.out));have al3:f14.err=0→p<Vj:=λhh=>by
          rcases M14.out.2 rfl with⟨_,h⟩ | ⟨h,_⟩
          ·exact FB.2 _ _ _ _ _ (HD.out.trans h)
          exact absurd hh h
         have how:=aK HL2.out.own zX.out.kept (λk hk hs=>by have:=(HL2.out.own.lt k hk).1;omega);have HOW:=hid how;have hbs:w.heap.size≤wc.heap.size:=Nat.le_trans HL2.out.kept.size zX.out.kept.size;obtain⟨i0,hi0,hz0,hz1,hz2⟩:=info_parts Vo;have d0:=ah zX.out.box 0 rfl;have d1:=ah zX.out.box 1 rfl;have d2:=ah zX.out.box 2 rfl;clear how M14 M7 HD;go_wp2_with (at_builtin;refine wpList_append_lies _ rfl _ _ _ rfl w.heap.size 59 i0 _ 3 40 Tryz.underlying38 hi0 hz0 hz1 hz2 rfl (by omega) _ ds.length _ (by rfl) (HOW.out.alloc _) ⟨wc.heap.size,0,none⟩ 1 1 [.string (str nm),.string (str vl),.bool st] (by rfl) (by rfl) (World.news_of_block (cs:=#[.string (str nm),.string (str vl),.bool st]) (t:=59) (fr:=(0,0)) (heap_alloc_new wc _)) (by simp[Value.oneCell']) (by omega) (by unfold maxLen;omega) (by omega) (by simp;omega) (wc.heap.size+1) (by simp) ?_;intro gg cap EP jG dG nY F9)
         have BJ:Kept (λk=>(Value.slice lo ds.length lc).ownBlock=some k) wc EP:=((Kept.refl _ wc).alloc _).grown ⟨dG.os,dG.tape,dG.output,dG.size,dG.block⟩ (λk hk=>.inl hk);have hob:∀k,(Value.slice lo ds.length lc).ownBlock=some k→w.heap.size≤k:=λk hk=>(HOW.out.lt k hk).1
         have al4:Hid (bJ EP b s Vj f14 v):=hid (zX.out.rd.kept BJ (λhs=>by have:=hob b hs;omega));have al5:Hid (Kept (· = b) w EP):=hid ((HL2.out.kept.trans zX.out.kept).trans' BJ (λk hk hs=>by have:=hob k hs;omega));have abS:EP.ownsRow w.heap.size 59 3 (.slice (some ⟨gg,0,none⟩) (ds.length+1) cap) (ds++[d]).length ((ds++[d]).map aA).flatten:=by
          have:=jG;rw[←HDD.out];simpa [aA] using this
         have aiU:=hid abS;have ae8:=zX.out.al;clear BJ hob jG dG nY abS d0 d1 d2;go_wp2_with fail
         refine(oq [59] _ b s Vj f14 v al4.out (by decide) (by simp)).mono ?_;rintro e w16 ⟨x,rfl,Ik,p16,h16,hx1,hx2⟩;have aiV:=hid (al5.out.trans Ik);have agl:=hid (aK aiU.out Ik (λk hk hs=>by have:=(aiU.out.lt k hk).1;omega));have H16:=hid h16;clear Ik h16;cases x with
         | false=>
          obtain⟨rfl,hno⟩:=hx2 rfl;have HM:Hid (Mid f0 R f14 (.ok (ds++[d],s.drop p16,p16))):=hid (MX.out.eq (λhf=>by unfold Rk;rw[if_neg (by rw[hno hf];simp)]));clear hx1 hx2 hno;go_wp2_with fail
          go_meet
          case rel=>exact⟨ds++[d],f14,p16,hid ⟨H16.out,aiV.out,ae8,agl.out,by simp;omega,HM⟩⟩
         | true=>
          obtain⟨hf,hyes,rfl⟩:=hx1 rfl;have HM:Hid (Mid f0 R f14 ((cO (s.drop (Vj+[59].length)) (Vj+[59].length)).then λy=>cZ n (ds++[d]) y.1 y.2)):=hid (MX.out.eq (λhf=>by unfold Rk;rw[hyes,if_pos rfl,List.drop_drop];rfl));have an6:=al3 hf;clear hx1 hx2 hyes;go_wp2_with fail
          refine(iE _ b s (Vj+[59].length) f14 v H16.out ae8).mono ?_;rintro e w18 ⟨f18,p18,rfl,agn,h18,aiW,agp⟩;have al6:=hid (HM.out.step (k:=λy=>cZ n (ds++[d]) y.1 y.2) agp.out);have hgt:f18.err=0→Vj+1≤p18:=λhh=>by
           rcases agp.out.2 hf with⟨_,h⟩ | ⟨h,_⟩
           ·obtain⟨g,_,_,hg,_⟩:=MG _ _ _ _ _ (Nat.le_refl _) h;simp at hg;omega
           exact absurd hh h
          have an7:=h18.2.1;have xW:Hid (uo w w18 b s v f0 R (cZ n (ds++[d]) (s.drop p18) p18) (.slice (some ⟨gg,0,none⟩) (ds.length+1) cap) (ds++[d]) f18 p18):=hid ⟨h18,aiV.out.trans agn,aiW,aK agl.out agn (λk hk hs=>by have:=(agl.out.lt k hk).1;omega),by simp;omega,al6⟩;clear agn h18 aiW agp;go_wp2_with fail
          by_cases aiX:f18.err=0
          ·have al1:=hgt aiX;go_roundg (s.length-p18+1)
           case measure=>omega
           case rel=>exact⟨ds++[d],f18,p18,n,xW,λ_=>⟨by omega,rfl⟩⟩
          go_roundg 0
          case measure=>omega
          case rel=>exact⟨ds++[d],f18,p18,n,xW,λhh=>absurd hh aiX⟩
    have hX:=Ib (n:=n) (ds:=ds) (l:=s.drop p) (a:=p) (by rw[List.drop_of_length_le (show s.length≤p by omega)];rfl);have HX:=hid (HL.out.mid.out.eq (λ_=>hX));have hd:decide ((p:Int)<(s.length:Int))=false:=by simp;omega
    clear hX;go_wp2_with fail
    go_quiet (first | (go_at_call 79;exact Calls.quiet_of_same (bK true _ b s p good v HL.out.rd rfl)))
    go_wp2_with fail
    go_meet
    case rel=>exact⟨ds,good,p,hid ((HL.out.turn HX.out).quiet ⟨_,rfl⟩)⟩
   have hf':((f.err:Int)==0)=false:=by simp;omega
   go_wp2_with fail
   go_quiet ((go_at_call 79;exact Calls.quiet_of_same (bK false _ _ _ _ _ _ HL.out.rd hf')))
   go_wp2_with fail
   go_meet
   case rel=>exact⟨ds,f,p,hid ((HL.out.turn (HL.out.mid.out.dead hf)).quiet ⟨_,rfl⟩)⟩
end Go.Proofs.YtplbdlgmjehckacGreatDoor

