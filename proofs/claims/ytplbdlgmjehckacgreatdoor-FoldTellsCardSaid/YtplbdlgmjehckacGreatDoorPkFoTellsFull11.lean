/-
 Lemmas for the claims of this seat: the program's functions walked, and plain laws.
-/
import Derived.Test.YtplbdlgmjehckacGreatDoorPkFoTellsFull10
import Derived.Test.YtplbdlgmjehckacGreatDoorPkFoTellsFull3
set_option maxRecDepth 100000
set_option maxHeartbeats 3200000
namespace Go.Proofs.YtplbdlgmjehckacGreatDoor
open Go.Lib (hid)
open Go.RowKit
set_option linter.unusedVariables false
set_option linter.unusedSimpArgs false
def FK(w:World)(b o:Nat)(p:eP):Prop:=∃tv,w.cell? ⟨b,o,none⟩=some (.int .i64 p.join)∧w.cell? ⟨b,o+1,none⟩=some tv∧jf w tv p.tests
theorem FK.kept{w w':World}{b o:Nat}{p:eP}(h:FK w b o p)(hk:Kept (λ_=>False) w w'):FK w' b o p:=by
 obtain⟨tv,h1,h2,h3⟩:=h;exact⟨tv,hk.cell id h1,hk.cell id h2,lJ.kept h3 hk⟩
theorem aac(w:World)(v:Value)(ns:List ak)(k:Nat)(hv:aX w v ns)(hk:k<ns.length)(hs:Short ns)(hn0:ns.length≤1048576)(b o:Nat)(p:eP)(hp:FK w b o p)(m:Int)(hm:w.cell? ⟨0,0,none⟩=some (.int .i64 m)):
  Calls Tryz.prog 182 #[v,.int .i64 (k:Int),.pointer (some ⟨b,o,none⟩)] w λe w'=>e=.returned (.bool (mQ ns k p))∧Kept (λ_=>False) w w':=by
 obtain⟨r,HR⟩:∃r,Hid (mQ ns k p=r):=⟨_,rfl⟩;rw[HR.out];obtain⟨tv,p0,p1,ht⟩:=hp;obtain⟨ta,tc,rfl,ada,MN⟩:=jf.form ht;unfold maxLen at MN;have HT:=hid ht;have HV:=hid hv;have HS:=hid hs;have HM:=hid hm;have HP1:=hid p1;clear hv hs hm ht p0;go_enter Tryz.func182,Tryz.ntmps182
 go_wp2_with fail
 go_loopw [13] (λi wr=>∃j:Nat,j≤p.tests.length∧i=.int .i64 j∧Hid (Kept (λ_=>False) w wr)∧Hid ((p.tests.take j).all (uG ns k)=true)) (λi _=>p.tests.length-(intOf i).toNat)
 case atStart=>exact⟨0,by omega,rfl,hid (Kept.refl _ _),hid rfl⟩
 case round=>
  obtain⟨j,hj,rfl,HK,HJ⟩:=hrel;by_cases hlt:j<p.tests.length
  ·have hx:=List.getElem?_eq_getElem hlt;generalize hgx:p.tests[j]=t at hx;clear hgx;obtain⟨tb,to_,rfl,t0,t1,t2⟩:=jf.at (lJ.kept HT.out HK.out) hx;have HTA:Hid (FH wr tb (to_+j*3) t):=hid ⟨t0,t1,t2⟩;have hpc:wr.cell? ⟨b,o+1,none⟩=some (.slice (some ⟨tb,to_,none⟩) p.tests.length tc):=HK.out.cell id HP1.out;have hm1:=hid (HK.out.cell id HM.out);have HX:=hid hx;clear hx t0 t1 t2 p1;cases vF:uG ns k t with
   | false=>
    have hr:Hid (false=r):=hid (by
     rw[←HR.out];unfold mQ;symm;rw[List.all_eq_false];exact⟨t,List.mem_of_getElem? HX.out,by simp[vF]⟩)
    have Jk:=hid vF;clear vF;go_wp2_with (go_at_call 194;refine(O9 wr _ ns k (aO.kept HV.out HK.out) hk HS.out hn0 tb (to_+j*3) t HTA.out m hm1.out).mono ?_;rintro e w2 ⟨rfl,hb2⟩;rw[Jk.out])
    go_ret
    exact⟨eu hr.out,HK.out.trans (Kept.of_below hb2)⟩
   | true=>
    have Jk:=hid vF;clear vF;go_wp2_with (go_at_call 194;refine(O9 wr _ ns k (aO.kept HV.out HK.out) hk HS.out hn0 tb (to_+j*3) t HTA.out m hm1.out).mono ?_;rintro e w2 ⟨rfl,hb2⟩;rw[Jk.out])
    go_roundw
    case measure=>simp[intOf];omega
    case rel=>
     refine⟨j+1,by omega,by go_num,hid (HK.out.trans (Kept.of_below hb2)),hid ?_⟩;rw[List.take_add_one,HX.out,Option.toList_some,List.all_append,HJ.out];simp[Jk.out]
  obtain rfl:j=p.tests.length:=by omega
  go_wp2_with fail
  go_ret
  have h1:=HJ.out;rw[List.take_length]at h1;exact⟨eu (by rw[←HR.out];unfold mQ;exact h1.symm),HK.out⟩
def Fit(ns:List ak):Prop:=∀n∈ns,-9223372036854775808≤n.parent∧n.parent≤9223372036854775807
structure AU(ns:List ak):Prop where
 short:Short ns
 few:ns.length≤1048576
 fit:Fit ns
def FM(w:World)(r:Bool)(e:Ending)(w':World):Prop:=e=.returned (.bool r)∧Kept (λ_=>False) w w'
theorem sK{ns:List ak}{k:Nat}{x:ak}(h:ns[k]?=some x):parentOf ns k=x.parent:=by unfold parentOf;rw[h]
def vG(ns:List ak)(q:Int→Bool)(k:Nat)(u:Int):Bool:=if 0≤u∧u<(k:Int) then q u||(ups ns u.toNat).any (λx=>q (x:Int)) else false
theorem Wn(ns:List ak)(q:Int→Bool)(k:Nat):(ups ns k).any (λx=>q (x:Int))=vG ns q k (parentOf ns k):=by
 rw[FN];unfold vG;split
 ·rename_i h
  rw[List.any_cons,Int.toNat_of_nonneg h.1]
 rfl
theorem Pg{ns:List ak}{q:Int→Bool}{k u:Nat}(hu:u<k)(h:parentOf ns u<(u:Int)):(ups ns u).any (λx=>q (x:Int))=vG ns q k (parentOf ns u):=by
 rw[Wn];unfold vG;by_cases h0:0≤parentOf ns u
 ·rw[if_pos ⟨h0,h⟩,if_pos ⟨h0,by omega⟩]
 rw[if_neg (by omega),if_neg (by omega)]
theorem aad{ns:List ak}{u:Nat}(h:(u:Int)≤parentOf ns u):ups ns u=[]:=by
 rw[FN,if_neg (by omega)]
theorem FP{s:dZ}{n:Nat}{p:eP}(hn:1≤n)(hp:s[n-1]?=some p):(s.take n).reverse=p::(s.take (n-1)).reverse:=by
 obtain⟨j,rfl⟩:∃j,n=j+1:=⟨n-1,by omega⟩;rw[Nat.add_sub_cancel]at hp ⊢;rw[List.take_add_one,hp,Option.toList_some,List.reverse_append]
 rfl
theorem FQ(ns:List ak)(k:Int)(h:ns.length≤1048576): -1≤jJ ns k∧jJ ns k≤1048576:=by
 have hl:∀(p:Int) (j:Nat),j≤ns.length → -1≤ig ns p j∧ig ns p j≤1048576:=by
  intro p j
  induction j with
  | zero=>intro _;exact⟨by simp[ig],by simp[ig]⟩
  | succ j ih=>
   intro hj;unfold ig;split
   ·omega
   exact ih (by omega)
 unfold jJ;split
 ·omega
 rename_i h0
 split
 ·exact hl _ _ (by omega)
 omega
theorem aft(ns:List ak)(hns:AU ns)(s:dZ)(m:Int):∀(n:Nat),1≤n→n≤s.length→∀(w:World) (v sv:Value) (k:Int),aX w v ns→PartsAt w sv s→(-9223372036854775808≤k∧k≤9223372036854775807)→w.cell? ⟨0,0,none⟩=some (.int .i64 m) →
  Calls Tryz.prog 160 #[v,.int .i64 k,sv,.int .i64 (n:Int)] w (FM w (CU ns (s.take n).reverse k)):=by
 intro n
 induction n with
 | zero=>intro h;omega
 | succ n0 ih=>
 intro hn1 hnl w v sv k hv hp hk hm;obtain⟨n,hnn⟩:∃n,n=n0+1:=⟨_,rfl⟩;rw[←hnn]at hn1 hnl ⊢;have IH:=hid ih;have Wp:=hid hnn;clear ih hnn;have hpx:∃p,s[n-1]?=some p:=⟨_,List.getElem?_eq_getElem (by omega)⟩;obtain⟨p,hpp⟩:=hpx;obtain⟨q,HQ⟩:∃q,Hid (CU ns (s.take (n-1)).reverse=q):=⟨_,rfl⟩;have hR0:CU ns (s.take n).reverse k=(vW ns k&&mQ ns k.toNat p&&((s.take (n-1)).reverse.isEmpty||lK ns p.join q k.toNat)):=by
  rw[FP hn1 hpp,CU,HQ.out]
 obtain⟨r,HR⟩:∃r,Hid (CU ns (s.take n).reverse k=r):=⟨_,rfl⟩;rw[HR.out];have hR:=hid (hR0.symm.trans HR.out);clear hR0;obtain⟨na,qj,rfl,EM,pJ⟩:=hv.form;obtain⟨pa,MO,rfl,TQ,zC⟩:=bH.form hp;unfold maxLen at pJ zC;obtain⟨pb,po,tv,rfl,hpc,hpt⟩:=bH.at hp hpp;have HPA:Hid (FK w pb (po+(n-1)*2) p):=hid ⟨tv,hpc 0 _ rfl,hpc 1 _ rfl,hpt⟩;have HNI:Hid ((n:Int)-1=((n-1:Nat):Int)):=hid (by omega);have pj:w.cell? ⟨pb,po+(n-1)*2,none⟩=some (.int .i64 p.join):=hpc 0 _ rfl;have HV:=hid hv;have HP:=hid hp;have HM:=hid hm;have HPP:=hid hpp;have hfew:=hns.few;obtain⟨hk1,hk2⟩:=hk;clear hv hp hm hpp hpc hpt;by_cases h0:k<0
 ·have hr:Hid (false=r):=hid (by
   rw[←hR.out];have:vW ns k=false:=by simp[vW];omega
   simp[this])
  go_enter Tryz.func160,Tryz.ntmps160
  go_wp2_with fail
  go_ret
  exact⟨eu hr.out,Kept.refl _ _⟩
 by_cases h1:(ns.length:Int)≤k
 ·have hr:Hid (false=r):=hid (by
   rw[←hR.out];have:vW ns k=false:=by simp[vW];omega
   simp[this])
  go_enter Tryz.func160,Tryz.ntmps160
  go_wp2_with fail
  go_ret
  exact⟨eu hr.out,Kept.refl _ _⟩
 obtain⟨kn,rfl⟩:∃j:Nat,k=j:=⟨k.toNat,by omega⟩;have hkl:kn<ns.length:=by omega
 have hin:vW ns (kn:Int)=true:=by simp[vW];omega
 have hR2:Hid ((mQ ns kn p&&((s.take (n-1)).reverse.isEmpty||lK ns p.join q kn))=r):=hid (by rw[←hR.out,hin];simp);have OE:=hid (aac w _ ns kn HV.out hkl hns.short hns.few pb _ p HPA.out m HM.out);clear hin;cases hpart:mQ ns kn p with
 | false=>
  rw[hpart]at OE hR2;have hr:Hid (false=r):=hid (by rw[←hR2.out];rfl);clear hpart;go_enter Tryz.func160,Tryz.ntmps160
  go_wp2_with (go_at_call 182;refine OE.out.mono ?_;rintro e w2 ⟨rfl,hk2⟩)
  go_ret
  exact⟨eu hr.out,hk2⟩
 | true=>
  rw[hpart]at OE hR2;clear hpart;have hx:=List.getElem?_eq_getElem hkl;generalize hgx:ns[kn]=x at hx;clear hgx;have HX:=hid hx;have hpf:=hns.fit x (List.mem_of_getElem? hx);have hpo:Hid (parentOf ns kn=x.parent):=hid (sK hx);clear hx;by_cases h1n:n=1
  ·have hr:Hid (true=r):=hid (by rw[←hR2.out,h1n];rfl);have g:((n:Int)==1)=true:=by simp[h1n]
   clear h1n;go_enter Tryz.func160,Tryz.ntmps160
   go_wp2_with (go_at_call 182;refine OE.out.mono ?_;rintro e w2 ⟨rfl,hk2⟩)
   go_ret
   exact⟨eu hr.out,hk2⟩
  have g:((n:Int)==1)=false:=by simp;omega
  have hne:(s.take (n-1)).reverse.isEmpty=false:=by
   rw[List.isEmpty_eq_false_iff];intro h;have h2:(s.take (n-1)).reverse.length=n-1:=by rw[List.length_reverse,List.length_take];omega
   rw[h]at h2;simp at h2;omega
  have hR3:Hid (lK ns p.join q kn=r):=hid (by rw[←hR2.out,hne];simp);have IH2:Hid (∀(w:World) (k:Int),aX w (.slice na ns.length qj) ns→PartsAt w (.slice (some ⟨pb,po,none⟩) (List.length s) MO) s→(-9223372036854775808≤k∧k≤9223372036854775807)→w.cell? ⟨0,0,none⟩=some (.int .i64 m) →
    Calls Tryz.prog 160 #[.slice na ns.length qj,.int .i64 k,.slice (some ⟨pb,po,none⟩) (List.length s) MO,.int .i64 ((n:Int)-1)] w (FM w (q k))):=hid (by
   intro w k h1 h2 h3 h4;have:=IH.out (by have:=Wp.out;omega) (by have:=Wp.out;omega) w _ _ k h1 h2 h3 h4;rw[show n0=n-1 from by have:=Wp.out;omega,HQ.out]at this;rw[HNI.out];exact this)
  clear hne h1n;by_cases hj2:p.join=2
  ·have e2:(p.join==2)=true:=by simp[hj2]
   have hr:Hid (q x.parent=r):=hid (by rw[←hR3.out,←hpo.out];unfold lK;rw[if_pos hj2]);clear hj2;obtain⟨nb,qY,av,rfl,g0,g1,g2,g3,g4,g5,hav⟩:=HV.out.at HX.out;go_enter Tryz.func160,Tryz.ntmps160
   go_wp2_with fail
   refine OE.out.mono ?_;rintro e w2 ⟨rfl,hk2⟩;have g1':=hk2.cell id g1;have pj':=hk2.cell id pj;have MP:=hid (aO.kept HV.out hk2);have HP2:=hid (fP.kept HP.out hk2);have Cm:=hid (hk2.cell id HM.out);clear g0 g1 g2 g3 g4 g5 hav pj;go_wp2_with (go_at_call 160;refine(IH2.out w2 x.parent MP.out HP2.out hpf Cm.out).mono ?_;rintro e w3 ⟨rfl,hk3⟩)
   go_ret
   exact⟨eu hr.out,hk2.trans hk3⟩
  have e2:(p.join==2)=false:=by simp[hj2]
  by_cases hj3:p.join=3
  ·have e3:(p.join==3)=true:=by simp[hj3]
   have hr:Hid (q (jJ ns (kn:Int))=r):=hid (by rw[←hR3.out];unfold lK;rw[if_neg hj2,if_pos hj3]);have haf:=FQ ns (kn:Int) hns.few;clear hj2 hj3;go_enter Tryz.func160,Tryz.ntmps160
   go_wp2_with fail
   refine OE.out.mono ?_;rintro e w2 ⟨rfl,hk2⟩;have pj':=hk2.cell id pj;have MP:=hid (aO.kept HV.out hk2);have HP2:=hid (fP.kept HP.out hk2);have Cm:=hid (hk2.cell id HM.out);clear pj;go_wp2_with fail
   refine(JW w2 _ ns (kn:Int) MP.out (by omega)).mono ?_;rintro e w3 ⟨rfl,hq3⟩;have hk3:Kept (λ_=>False) w2 w3:=hq3.kept _;have Wq:=hid (aO.kept MP.out hk3);have HP3:=hid (fP.kept HP2.out hk3);have Ar:=hid (hk3.cell id Cm.out);go_wp2_with (go_at_call 160;refine(IH2.out w3 _ Wq.out HP3.out (by omega) Ar.out).mono ?_;rintro e w4 ⟨rfl,hk4⟩)
   go_ret
   exact⟨eu hr.out,(hk2.trans hk3).trans hk4⟩
  have e3:(p.join==3)=false:=by simp[hj3]
  by_cases hj1:p.join=1
  ·have e1:(p.join==1)=true:=by simp[hj1]
   have hr:Hid (vG ns q kn x.parent=r):=hid (by rw[←hR3.out,←hpo.out,←Wn];unfold lK;rw[if_neg hj2,if_neg hj3,if_pos hj1]);clear hj1 hj2 hj3;obtain⟨nb,qY,av,rfl,g0,g1,g2,g3,g4,g5,hav⟩:=HV.out.at HX.out;go_enter Tryz.func160,Tryz.ntmps160
   go_wp2_with fail
   refine OE.out.mono ?_;rintro e w2 ⟨rfl,hk2⟩;have g1':=hk2.cell id g1;have pj':=hk2.cell id pj;have MP:=hid (aO.kept HV.out hk2);have HP2:=hid (fP.kept HP.out hk2);have Cm:=hid (hk2.cell id HM.out);have iO:=hid hk2;clear g0 g1 g2 g3 g4 g5 hav pj hk2;go_wp2_with fail
   go_loopw [9] (λu wr=>∃z:Int,u=.int .i64 z ∧ -9223372036854775808≤z∧z≤9223372036854775807∧Hid (Kept (λ_=>False) w2 wr)∧Hid (vG ns q kn z=r)) (λu _=>(intOf u+1).toNat)
   case atStart=>exact⟨x.parent,rfl,hpf.1,hpf.2,hid (Kept.refl _ _),hr⟩
   case round=>
    obtain⟨z,rfl,hz1,hz2,HK,HU⟩:=hrel;by_cases hz:0≤z∧z<(kn:Int)
    ·obtain⟨u,rfl⟩:∃u:Nat,z=u:=⟨z.toNat,by omega⟩;have hul:u<ns.length:=by omega
     have huk:u<kn:=by omega
     have d1:(0:Int)≤(u:Int):=by omega
     have d2:(u:Int)<(kn:Int):=by omega
     have hU:Hid ((q (u:Int)||(ups ns u).any (λx=>q (x:Int)))=r):=hid (by
      rw[←HU.out];unfold vG;rw[if_pos hz];rfl)
     have hy:=List.getElem?_eq_getElem hul;generalize qX:ns[u]=y at hy;clear qX;have hyf:=hns.fit y (List.mem_of_getElem? hy);have hyo:Hid (parentOf ns u=y.parent):=hid (sK hy);have hvr:=aO.kept MP.out HK.out;obtain⟨Ph,ahw,av2,hbb,_,y1,_⟩:=hvr.at hy;cases hbb;have HVR:=hid hvr;have HPR:=hid (fP.kept HP2.out HK.out);have HMR:=hid (HK.out.cell id Cm.out);clear hy hz hvr;have AV:=hid (IH2.out wr (u:Int) HVR.out HPR.out (by omega) HMR.out);cases hq:q (u:Int)with
     | true=>
      rw[hq]at AV hU;have hrr:Hid (true=r):=hid (by rw[←hU.out];rfl);clear hq y1;go_wp2_with (go_at_call 160;refine AV.out.mono ?_;rintro e w3 ⟨rfl,hk3⟩)
      go_ret
      exact⟨eu hrr.out,(iO.out.trans HK.out).trans hk3⟩
     | false=>
      rw[hq]at AV hU;clear hq;go_wp2_with fail
      refine AV.out.mono ?_;rintro e w3 ⟨rfl,hk3⟩;have y1':=hk3.cell id y1;have oJ:=hid (HK.out.trans hk3);clear y1 hk3;by_cases hyu:(u:Int)≤y.parent
      ·have hrr:Hid (false=r):=hid (by rw[←hU.out,aad (by rw[hyo.out];exact hyu)];rfl);go_wp2_with fail
       go_ret
       exact⟨eu hrr.out,iO.out.trans oJ.out⟩
      have hrr:Hid (vG ns q kn y.parent=r):=hid (by
       rw[←hU.out,Bool.false_or,Pg huk (by rw[hyo.out];omega),hyo.out])
      go_wp2_with fail
      go_roundw
      case measure=>simp[intOf];omega
      case rel=>exact⟨y.parent,rfl,hyf.1,hyf.2,oJ,hrr⟩
    have hrr:Hid (false=r):=hid (by rw[←HU.out];unfold vG;rw[if_neg hz]);by_cases hz0:0≤z
    ·have XG:¬z<(kn:Int):=λh=>hz ⟨hz0,h⟩
     clear hz;go_wp2_with fail
     go_ret
     exact⟨eu hrr.out,iO.out.trans HK.out⟩
    clear hz;go_wp2_with fail
    go_ret
    exact⟨eu hrr.out,iO.out.trans HK.out⟩
  have e1:(p.join==1)=false:=by simp[hj1]
  have hr:Hid (false=r):=hid (by rw[←hR3.out];unfold lK;rw[if_neg hj2,if_neg hj3,if_neg hj1]);clear hj1 hj2 hj3;go_enter Tryz.func160,Tryz.ntmps160
  go_wp2_with fail
  refine OE.out.mono ?_;rintro e w2 ⟨rfl,hk2⟩;have pj':=hk2.cell id pj;clear pj;go_wp2_with fail
  go_ret
  exact⟨eu hr.out,hk2⟩
theorem Pj(ns:List ak)(hns:AU ns)(s:dZ)(m:Int)(w:World)(v sv:Value)(k:Int)(hv:aX w v ns)(hp:PartsAt w sv s)(hk : -9223372036854775808≤k∧k≤9223372036854775807)(hm:w.cell? ⟨0,0,none⟩=some (.int .i64 m)):
  Calls Tryz.prog 121 #[v,.int .i64 k,sv] w (FM w (mV ns k s)):=by
 obtain⟨r,HR⟩:∃r,Hid (mV ns k s=r):=⟨_,rfl⟩;rw[HR.out];obtain⟨na,qj,rfl,EM,pJ⟩:=hv.form;obtain⟨pa,MO,rfl,TQ,zC⟩:=bH.form hp;unfold maxLen at pJ zC;have hfew:=hns.few;by_cases hs0:s=[]
 ·have hl0:List.length s=0:=by simp[hs0]
  have hr:Hid (false=r):=hid (by rw[←HR.out,hs0];rfl);rw[hl0];clear hl0 hv hp;go_enter Tryz.func121,Tryz.ntmps121
  go_wp2_with fail
  go_ret
  exact⟨eu hr.out,Kept.refl _ _⟩
 have hl0:0<List.length s:=List.length_pos_iff.2 hs0;have hR:Hid (CU ns s.reverse k=r):=hid (by
  rw[←HR.out];unfold mV;rw[show s.isEmpty=false from by simpa using hs0];rfl)
 by_cases h0:k<0
 ·have hr:Hid (false=r):=hid (by
   rw[←hR.out];cases h:CU ns s.reverse k with
   | false=>rfl
   | true=>have:=E5 h;simp[vW]at this;omega)
  clear hv hp;go_enter Tryz.func121,Tryz.ntmps121
  go_wp2_with fail
  go_ret
  exact⟨eu hr.out,Kept.refl _ _⟩
 by_cases h1:(ns.length:Int)≤k
 ·have hr:Hid (false=r):=hid (by
   rw[←hR.out];cases h:CU ns s.reverse k with
   | false=>rfl
   | true=>have:=E5 h;simp[vW]at this;omega)
  clear hv hp;go_enter Tryz.func121,Tryz.ntmps121
  go_wp2_with fail
  go_ret
  exact⟨eu hr.out,Kept.refl _ _⟩
 have HC:=hid (aft ns hns s m (List.length s) (by omega) (Nat.le_refl _) w _ _ k hv hp hk hm);rw[List.take_length,hR.out]at HC;clear hv hp;go_enter Tryz.func121,Tryz.ntmps121
 go_wp2_with (go_at_call 160;refine HC.out.mono ?_;rintro e w3 ⟨rfl,hk3⟩)
 go_ret
 exact⟨rfl,hk3⟩
def iJ(s:dZ):Nat:=(s.map λp=>p.tests.length).sum
def vX(x:lX):Value:=.agg #[.int .i64 (x.a:Int),.int .i64 (x.b:Int),.int .i64 (x.c:Int)]
def pF(w:World)(c:Nat)(x:lX):Prop:=w.heap[c]?=some (.cells #[.int .i64 (x.a:Int),.int .i64 (x.b:Int),.int .i64 (x.c:Int)] 119 (0,0))
def lX.low(x:lX)(n:Nat):Prop:=x.a≤n∧x.b≤n∧x.c≤n
theorem CV{x:lX}{n:Nat}(h:x.low n)(t:bQ):(jA x t).low (n+1):=by
 obtain⟨h1,h2,h3⟩:=h;unfold jA;split
 ·exact⟨by simp;omega,by simp;omega,by simp;omega⟩
 split
 ·exact⟨by simp;omega,by simp;omega,by simp;omega⟩
 split
 ·exact⟨by simp;omega,by simp;omega,by simp;omega⟩
 exact⟨by omega,by omega,by omega⟩
theorem Ed(s:dZ)(i:Nat){p:eP}(h:s[i]?=some p):iJ (s.take (i+1))=iJ (s.take i)+p.tests.length:=by
 unfold iJ;rw[List.take_add_one,h,Option.toList_some,List.map_append,List.sum_append];simp
theorem JY(s:dZ)(i:Nat):iJ (s.take i)≤iJ s:=by
 unfold iJ
 conv=>rhs;rw[←List.take_append_drop i s,List.map_append,List.sum_append]
 omega
structure Jl(w wr:World)(x:lX)(n:Nat):Prop where
 at_:pF wr (w.heap.size+1) x
 res:pF wr w.heap.size ⟨0,0,0⟩
 kept:Kept (λ_=>False) w wr
 low:x.low n
theorem Jl.alloc{w wr:World}{x:lX}{n:Nat}(h:Jl w wr x n)(o:Obj):Jl w (wr.alloc o) x n:=⟨iw h.at_ o,iw h.res o,h.kept.alloc o,h.low⟩
theorem Jl.cell{w wr:World}{x:lX}{n:Nat}(h:Jl w wr x n):wr.cell? ⟨w.heap.size+1,0,none⟩=some (.int .i64 (x.a:Int))∧wr.cell? ⟨w.heap.size+1,1,none⟩=some (.int .i64 (x.b:Int))∧wr.cell? ⟨w.heap.size+1,2,none⟩=some (.int .i64 (x.c:Int)):=
 ⟨ah h.at_ 0 rfl,ah h.at_ 1 rfl,ah h.at_ 2 rfl⟩
theorem Jl.put{w wr:World}{x y:lX}{n m:Nat}(h:Jl w wr x n)(j:Nat)(z:Int)(hy:(#[Value.int .i64 (x.a:Int),.int .i64 (x.b:Int),.int .i64 (x.c:Int)]).setIfInBounds j (.int .i64 z)=#[.int .i64 (y.a:Int),.int .i64 (y.b:Int),.int .i64 (y.c:Int)])(hl:y.low m):
  Jl w (wr.setCell ⟨w.heap.size+1,j,none⟩ (.int .i64 z)) y m:=by
 refine⟨?_,eF h.res _ _ (by show w.heap.size≠w.heap.size+1;omega),h.kept.setCell (p:=⟨w.heap.size+1,j,none⟩) (.inr (by show w.heap.size≤w.heap.size+1;omega)) _,hl⟩;have:=aW h.at_ j (.int .i64 z);rw[hy]at this;exact this
theorem low_mono{x:lX}{n m:Nat}(h:x.low n)(hn:n≤m):x.low m:=⟨Nat.le_trans h.1 hn,Nat.le_trans h.2.1 hn,Nat.le_trans h.2.2 hn⟩
theorem XJ(s:dZ)(w:World)(sv:Value)(hp:PartsAt w sv s)(hn:iJ s≤1048576):
  Calls Tryz.prog 122 #[sv] w λe w'=>e=.returned (vX (qZ s))∧Kept (λ_=>False) w w':=by
 obtain⟨pa,MO,rfl,TQ,zC⟩:=bH.form hp;unfold maxLen at zC;have HP:=hid hp;have HN:=hid hn;clear hp hn;have hw0:Jl w ((w.alloc (.cells #[.int .i64 0,.int .i64 0,.int .i64 0] 119 (0,0))).alloc (.cells #[.int .i64 0,.int .i64 0,.int .i64 0] 119 (0,0))) ⟨0,0,0⟩ 0:=by
  refine⟨?_,iw (aI w _) _,((Kept.refl _ w).alloc _).alloc _,Nat.le_refl _,Nat.le_refl _,Nat.le_refl _⟩;have:=aI (w.alloc (.cells #[.int .i64 0,.int .i64 0,.int .i64 0] 119 (0,0))) (.cells #[.int .i64 0,.int .i64 0,.int .i64 0] 119 (0,0));simpa [pF] using this
 have HW0:=hid hw0;clear hw0;go_enter Tryz.func122,Tryz.ntmps122
 go_wp2_with fail
 go_loopw [10] (λi wr=>∃(k:Nat) (x:lX),k≤List.length s∧i=.int .i64 k∧Hid (Jl w wr x (iJ (s.take k)))∧Hid ((s.take k).foldl FT ⟨0,0,0⟩=x)) (λi _=>List.length s-(intOf i).toNat)
 case atStart=>exact⟨0,⟨0,0,0⟩,by omega,rfl,HW0,hid rfl⟩
 case round=>
  obtain⟨i,x0,hi,rfl,HL,HX0⟩:=hrel;obtain⟨bU,hwr0⟩:∃x,x=wr:=⟨_,rfl⟩;subst hwr0;by_cases hlt:i<List.length s
  ·have hx:=List.getElem?_eq_getElem hlt;generalize hgx:s[i]=p at hx;clear hgx;obtain⟨pb,po,tv,rfl,hpc,hpt⟩:=bH.at HP.out hx;have p0:bU.cell? ⟨pb,po+i*2,none⟩=some (.int .i64 p.join):=HL.out.kept.cell id (hpc 0 _ rfl);have p1:bU.cell? ⟨pb,po+i*2+1,none⟩=some tv:=HL.out.kept.cell id (hpc 1 _ rfl);obtain⟨ta,tc,rfl,ada,MN⟩:=jf.form hpt;unfold maxLen at MN;have hnt:=Ed s i hx;have hnl:=JY s (i+1);have Pm:=hid hnt;have hbase:Hid (iJ (s.take i)+p.tests.length≤1048576):=hid (by have:=HN.out;omega);have HX:=hid hx;have OE:=hid hpt;clear hx hpc hpt hnt hnl;go_upto_region 5 with fail
   obtain⟨wa,gX⟩:∃x',Hid (bU.alloc (.cells #[.int .i64 p.join,.slice ta p.tests.length tc] 156 (0,0))=x'):=⟨_,rfl⟩;have c1:wa.cell? ⟨bU.heap.size,1,none⟩=some (.slice ta p.tests.length tc):=by rw[←gX.out];exact ah (aI bU _) 1 rfl
   have FU:Hid (Jl w wa x0 (iJ (s.take i))):=hid (by rw[←gX.out];exact HL.out.alloc _);clear p0 p1;rw[gX.out];go_wp2_with fail
   go_loopw [17] (λj wx=>∃(l:Nat) (x:lX),l≤p.tests.length∧j=.int .i64 l∧Hid (Jl w wx x (iJ (s.take i)+l))∧Hid ((p.tests.take l).foldl jA x0=x)) (λj _=>p.tests.length-(intOf j).toNat)
   case atStart=>exact⟨0,x0,by omega,rfl,FU,hid rfl⟩
   case round=>
    obtain⟨l,x,hl,rfl,HM,HXJ⟩:=hrel;by_cases hlt2:l<p.tests.length
    ·have hy:=List.getElem?_eq_getElem hlt2;generalize qX:p.tests[l]=t at hy;clear qX;obtain⟨tb,to_,rfl,t0,t1,t2⟩:=jf.at (lJ.kept OE.out HM.out.kept) hy;have HY:=hid hy;clear hy;go_upto_region 8 with fail
     obtain⟨wb,jo⟩:∃x',Hid (wr.alloc (.cells #[.int .i64 t.kind,.string (str t.name),.string (str t.val)] 158 (0,0))=x'):=⟨_,rfl⟩;have d0:wb.cell? ⟨wr.heap.size,0,none⟩=some (.int .i64 t.kind):=by rw[←jo.out];exact ah (aI wr _) 0 rfl
     have Jm:Hid (Jl w wb x (iJ (s.take i)+l)):=hid (by rw[←jo.out];exact HM.out.alloc _);obtain⟨x1,x2,x3⟩:=Jm.out.cell;have hlow:=Jm.out.low;obtain⟨l1,l2,l3⟩:=hlow;have hb1:=hbase.out;have fz:=aF Jm.out.at_;have f0:=fz 0;have f1:=fz 1;have f2:=fz 2;have hnx:Hid ((p.tests.take (l+1)).foldl jA x0=jA x t):=hid (by
      rw[List.take_add_one,HY.out,Option.toList_some,List.foldl_append,HXJ.out];rfl)
     have E8:=hid (CV Jm.out.low t);obtain⟨xa,xb,xc⟩:=x;simp only at x1 x2 x3 l1 l2 l3;clear t0 t1 t2 fz;rw[jo.out];by_cases k3:t.kind=3
     ·have e3:(t.kind==3)=true:=by simp[k3]
      have hy:Hid (jA ⟨xa,xb,xc⟩ t=⟨xa+1,xb,xc⟩):=hid (by simp[jA,k3]);rw[hy.out]at hnx E8;clear k3;go_wp2_with fail
      go_roundw
      case measure=>simp[intOf];omega
      case rel=>exact⟨l+1,_,by omega,by go_num,hid (Jm.out.put 0 _ (by simp) E8.out),hnx⟩
     have e3:(t.kind==3)=false:=by simp[k3]
     by_cases k1:t.kind=1
     ·have e1:(t.kind==1)=true:=by simp[k1]
      have hy:Hid (jA ⟨xa,xb,xc⟩ t=⟨xa,xb,xc+1⟩):=hid (by simp[jA,k1]);rw[hy.out]at hnx E8;clear k3 k1;go_wp2_with fail
      go_roundw
      case measure=>simp[intOf];omega
      case rel=>exact⟨l+1,_,by omega,by go_num,hid (Jm.out.put 2 _ (by simp) E8.out),hnx⟩
     have e1:(t.kind==1)=false:=by simp[k1]
     by_cases k2:t.kind=2
     ·have e2:(t.kind==2)=true:=by simp[k2]
      have hy:Hid (jA ⟨xa,xb,xc⟩ t=⟨xa,xb+1,xc⟩):=hid (by simp[jA,k2]);rw[hy.out]at hnx E8;clear k3 k1 k2;go_wp2_with fail
      go_roundw
      case measure=>simp[intOf];omega
      case rel=>exact⟨l+1,_,by omega,by go_num,hid (Jm.out.put 1 _ (by simp) E8.out),hnx⟩
     have e2:(t.kind==2)=false:=by simp[k2]
     by_cases k4:t.kind=4
     ·have e4:(t.kind==4)=true:=by simp[k4]
      have hy:Hid (jA ⟨xa,xb,xc⟩ t=⟨xa,xb+1,xc⟩):=hid (by simp[jA,k4]);rw[hy.out]at hnx E8;clear k3 k1 k2 k4;go_wp2_with fail
      go_roundw
      case measure=>simp[intOf];omega
      case rel=>exact⟨l+1,_,by omega,by go_num,hid (Jm.out.put 1 _ (by simp) E8.out),hnx⟩
     have e4:(t.kind==4)=false:=by simp[k4]
     by_cases k5:t.kind=5
     ·have e5:(t.kind==5)=true:=by simp[k5]
      have hy:Hid (jA ⟨xa,xb,xc⟩ t=⟨xa,xb+1,xc⟩):=hid (by simp[jA,k5]);rw[hy.out]at hnx E8;clear k3 k1 k2 k4 k5;go_wp2_with fail
      go_roundw
      case measure=>simp[intOf];omega
      case rel=>exact⟨l+1,_,by omega,by go_num,hid (Jm.out.put 1 _ (by simp) E8.out),hnx⟩
     have e5:(t.kind==5)=false:=by simp[k5]
     by_cases k6:t.kind=6
     ·have e6:(t.kind==6)=true:=by simp[k6]
      have hy:Hid (jA ⟨xa,xb,xc⟩ t=⟨xa,xb+1,xc⟩):=hid (by simp[jA,k6]);rw[hy.out]at hnx E8;clear k3 k1 k2 k4 k5 k6;go_wp2_with fail
      go_roundw
      case measure=>simp[intOf];omega
      case rel=>exact⟨l+1,_,by omega,by go_num,hid (Jm.out.put 1 _ (by simp) E8.out),hnx⟩
     have e6:(t.kind==6)=false:=by simp[k6]
     have hy:Hid (jA ⟨xa,xb,xc⟩ t=⟨xa,xb,xc⟩):=hid (by simp[jA,k3,k1,k2,k4,k5,k6]);clear k3 k1 k2 k4 k5 k6;rw[hy.out]at hnx E8;go_wp2_with fail
     go_roundw
     case measure=>simp[intOf];omega
     case rel=>exact⟨l+1,_,by omega,by go_num,hid ⟨Jm.out.at_,Jm.out.res,Jm.out.kept,E8.out⟩,hnx⟩
    obtain rfl:l=p.tests.length:=by omega
    go_wp2_with fail
    go_roundw
    case measure=>simp[intOf];omega
    case rel=>
     refine⟨i+1,x,by omega,by go_num,hid ?_,hid ?_⟩
     ·rw[Pm.out];exact HM.out
     rw[List.take_add_one,HX.out,Option.toList_some,List.foldl_append,HX0.out];have:=HXJ.out;rw[List.take_length]at this;exact this
  obtain rfl:i=List.length s:=by omega
  obtain⟨x1,x2,x3⟩:=HL.out.cell;have r0:=aF HL.out.res 0;have r1:=aF HL.out.res 1;have r2:=aF HL.out.res 2;have q0:bU.cell? ⟨w.heap.size,0,none⟩=some (.int .i64 ((0:Nat):Int)):=ah HL.out.res 0 rfl;have q1:bU.cell? ⟨w.heap.size,1,none⟩=some (.int .i64 ((0:Nat):Int)):=ah HL.out.res 1 rfl;have q2:bU.cell? ⟨w.heap.size,2,none⟩=some (.int .i64 ((0:Nat):Int)):=ah HL.out.res 2 rfl;have hfin:Hid (qZ s=x0):=hid (by have:=HX0.out;rw[List.take_length]at this;exact this);go_wp2_with fail
  have hz:(((bU.setCell ⟨w.heap.size,0,none⟩ (.int .i64 (x0.a:Int))).setCell ⟨w.heap.size,1,none⟩ (.int .i64 (x0.b:Int))).setCell ⟨w.heap.size,2,none⟩ (.int .i64 (x0.c:Int))).heap[w.heap.size]?=some (.cells #[.int .i64 (x0.a:Int),.int .i64 (x0.b:Int),.int .i64 (x0.c:Int)] 119 (0,0)):=by
   have:=aW (aW (aW HL.out.res 0 (.int .i64 (x0.a:Int))) 1 (.int .i64 (x0.b:Int))) 2 (.int .i64 (x0.c:Int));simpa using this
  have kz:Kept (λ_=>False) w (((bU.setCell ⟨w.heap.size,0,none⟩ (.int .i64 (x0.a:Int))).setCell ⟨w.heap.size,1,none⟩ (.int .i64 (x0.b:Int))).setCell ⟨w.heap.size,2,none⟩ (.int .i64 (x0.c:Int))):=((HL.out.kept.setCell (p:=⟨w.heap.size,0,none⟩) (.inr (Nat.le_refl _)) _).setCell (p:=⟨w.heap.size,1,none⟩) (.inr (Nat.le_refl _)) _).setCell (p:=⟨w.heap.size,2,none⟩) (.inr (Nat.le_refl _)) _;generalize (((bU.setCell ⟨w.heap.size,0,none⟩ (.int .i64 (x0.a:Int))).setCell ⟨w.heap.size,1,none⟩ (.int .i64 (x0.b:Int))).setCell ⟨w.heap.size,2,none⟩ (.int .i64 (x0.c:Int)))=wz at *;have z0:wz.cell? ⟨w.heap.size,0,none⟩=some (.int .i64 (x0.a:Int)):=ah hz 0 rfl;have z1:wz.cell? ⟨w.heap.size,1,none⟩=some (.int .i64 (x0.b:Int)):=ah hz 1 rfl;have z2:wz.cell? ⟨w.heap.size,2,none⟩=some (.int .i64 (x0.c:Int)):=ah hz 2 rfl;refine bodyPost_ret (v:=vX x0) (by simp[results,Tryz.results122,go_sem,z0,z1,z2,vX]) rfl ?_;rw[hfin.out];exact⟨rfl,kz⟩
def FV(w:World)(b:Nat)(x:lX):Prop:=w.cell? ⟨b,0,none⟩=some (.int .i64 (x.a:Int))∧w.cell? ⟨b,1,none⟩=some (.int .i64 (x.b:Int))∧w.cell? ⟨b,2,none⟩=some (.int .i64 (x.c:Int))
theorem pF.ints{w:World}{b:Nat}{x:lX}(h:pF w b x):FV w b x:=⟨ah h 0 rfl,ah h 1 rfl,ah h 2 rfl⟩
def FW(x y:lX)(k:Nat):Prop:=(0<k→x.a=y.a)∧(1<k→x.b=y.b)∧(2<k→x.c=y.c)
theorem Pn{w:World}{b1 b2:Nat}{x y:lX}{n:Nat}(h1:FV w b1 x)(h2:FV w b2 y)(hx:x.low n)(hy:y.low n){k:Nat}(hk:k<3)(hs:FW x y k):
  ∃u v:Nat,w.cell? ⟨b1,0+k,none⟩=some (.int .i64 (u:Int))∧w.cell? ⟨b2,0+k,none⟩=some (.int .i64 (v:Int))∧u≤n∧v≤n∧(u<v→oI y x=false∧oI x y=true)∧(v<u→oI y x=true)∧(u=v→FW x y (k+1)):=by
 obtain⟨p0,p1,p2⟩:=h1;obtain⟨q0,q1,q2⟩:=h2;obtain⟨l0,l1,l2⟩:=hx;obtain⟨m0,m1,m2⟩:=hy;obtain⟨s0,s1,s2⟩:=hs;rcases(by omega:k=0∨k=1∨k=2)with rfl | rfl | rfl
 ·refine⟨_,_,p0,q0,l0,m0,λh=>?_,λh=>?_,λh=>⟨λ_=>h,by omega,by omega⟩⟩
  ·constructor<;>(simp[oI];omega)
  simp[oI];omega
 ·have e0:=s0 (by omega);refine⟨_,_,p1,q1,l1,m1,λh=>?_,λh=>?_,λh=>⟨λ_=>e0,λ_=>h,by omega⟩⟩
  ·constructor<;>(simp[oI];omega)
  simp[oI];omega
 have e0:=s0 (by omega);have e1:=s1 (by omega);refine⟨_,_,p2,q2,l2,m2,λh=>?_,λh=>?_,λh=>⟨λ_=>e0,λ_=>e1,λ_=>h⟩⟩
 ·constructor<;>(simp[oI];omega)
 simp[oI];omega
def wo(x y:lX):Int:=if oI y x=true then 1 else if oI x y=true then -1 else 0
theorem MQ(w:World)(b1 b2:Nat)(x y:lX)(h1:FV w b1 x)(h2:FV w b2 y)(hx:x.low 1048576)(hy:y.low 1048576):
  Calls Tryz.prog 96 #[.slice (some ⟨b1,0,none⟩) 3 3,.slice (some ⟨b2,0,none⟩) 3 3] w λe w'=>e=.returned (.int .i64 (wo x y))∧w'=w:=by
 have H1:=hid h1;have H2:=hid h2;have HX:=hid hx;have HY:=hid hy;clear h1 h2 hx hy;go_enter Tryz.func96,Tryz.ntmps96
 go_wp2_with fail
 go_loopw [11] (λi wr=>∃k:Nat,k≤3∧i=.int .i64 k∧wr=w∧Hid (FW x y k)) (λi _=>3-(intOf i).toNat)
 case atStart=>exact⟨0,by omega,rfl,rfl,hid ⟨by omega,by omega,by omega⟩⟩
 case round=>
  obtain⟨k,hk,rfl,rfl,HS⟩:=hrel;by_cases hlt:k<3
  ·obtain⟨u,v,c1,c2,hu,hv,hA,hB,hC⟩:=Pn H1.out H2.out HX.out HY.out hlt HS.out;have HA:=hid hA;have HB:=hid hB;have HC:=hid hC;clear hA hB hC;have HK:=hid (Tryz.cmp_Compare_int (u:Int) (v:Int) wr);have ed:decide ((k:Int)<3)=true:=by simp;omega
   have ee:decide (3≤(k:Int))=false:=by simp;omega
   rw[Nat.zero_add]at c1 c2;by_cases g1:u<v
   ·have e1:Lib.compareInt (u:Int) (v:Int) = -1:=by unfold Lib.compareInt;rw[if_pos (by omega)]
    rw[e1]at HK;clear e1;go_wp2_with (go_at_call 95;refine HK.out.mono ?_;rintro e w2 ⟨rfl,rfl⟩)
    go_ret
    exact⟨by unfold wo;rw[(HA.out g1).1,(HA.out g1).2];rfl,rfl⟩
   by_cases g2:v<u
   ·have e1:Lib.compareInt (u:Int) (v:Int)=1:=by unfold Lib.compareInt;rw[if_neg (by omega),if_pos (by omega)]
    rw[e1]at HK;clear e1;go_wp2_with (go_at_call 95;refine HK.out.mono ?_;rintro e w2 ⟨rfl,rfl⟩)
    go_ret
    exact⟨by unfold wo;rw[HB.out g2];rfl,rfl⟩
   have e1:Lib.compareInt (u:Int) (v:Int)=0:=by unfold Lib.compareInt;rw[if_neg (by omega),if_neg (by omega)]
   rw[e1]at HK;clear e1;go_wp2_with (go_at_call 95;refine HK.out.mono ?_;rintro e w2 ⟨rfl,rfl⟩)
   go_roundw
   case measure=>simp[intOf];omega
   case rel=>exact⟨k+1,by omega,by go_num,trivial,hid (HC.out (by omega))⟩
  obtain rfl:k=3:=by omega
  go_wp2_with fail
  go_ret
  refine⟨?_,rfl⟩;obtain⟨s0,s1,s2⟩:=HS.out;obtain⟨xa,xb,xc⟩:=x;obtain⟨ya,yb,yc⟩:=y;have h1:=s0 (by omega);have h2:=s1 (by omega);have h3:=s2 (by omega);simp only at h1 h2 h3;subst h1;subst h2;subst h3;simp[wo,oI]
theorem sN:(Tryz.prog.info? 119).map (λi=>(i.zero,i.size,i.bytes))=some (some (.agg #[.int .i64 0,.int .i64 0,.int .i64 0]),3,24):=by kernel_rfl
def MR(r:au)(u:Value):Value:=.agg (bI r u).toArray
def ru(aZ:List dZ):Prop:=aZ.length≤1048576∧∀s∈aZ,iJ s≤1048576
theorem CW(s:dZ):(qZ s).low (iJ s):=by
 suffices h:∀(ps:List eP) (x:lX) (n:Nat),x.low n→(ps.foldl FT x).low (n+iJ ps) by
  have:=h s ⟨0,0,0⟩ 0 ⟨Nat.le_refl _,Nat.le_refl _,Nat.le_refl _⟩
  rwa [Nat.zero_add]at this
 intro ps
 induction ps with
 | nil=>intro x n h;exact h
 | cons p ps ih=>
  intro x n h;have h1:(FT x p).low (n+p.tests.length):=by
   unfold FT;generalize p.tests=ts
   induction ts generalizing x n with
   | nil=>exact h
   | cons t ts iht=>have:=iht (jA x t) (n+1) (CV h t);simp only[List.foldl_cons,List.length_cons];rwa [show n+(ts.length+1)=n+1+ts.length by omega]
  have:=ih _ _ h1;have e:iJ (p::ps)=p.tests.length+iJ ps:=by simp[iJ]
  rw[e,←Nat.add_assoc];exact this
structure XK(w wr:World)(c:Nat)(acc:lX×Bool):Prop where
 at_:pF wr (c+1) acc.1
 res:pF wr c ⟨0,0,0⟩
 new:w.heap.size≤c
 kept:Kept (λ_=>False) w wr
 low:acc.1.low 1048576
theorem XK.nT{w wr wx:World}{c:Nat}{acc:lX×Bool}(h:XK w wr c acc)(hk:Kept (λ_=>False) wr wx):XK w wx c acc:=⟨hk.heap id h.at_,hk.heap id h.res,h.new,h.kept.trans hk,h.low⟩
theorem XK.put{w wr:World}{c:Nat}{acc:lX×Bool}(h:XK w wr c acc)(x y z:Nat)(hl:lX.low ⟨x,y,z⟩ 1048576)(b:Bool):
  XK w (((wr.setCell ⟨c+1,0,none⟩ (.int .i64 (x:Int))).setCell ⟨c+1,1,none⟩ (.int .i64 (y:Int))).setCell ⟨c+1,2,none⟩ (.int .i64 (z:Int))) c (⟨x,y,z⟩,b):=by
 have hn:=h.new;refine⟨?_,eF (eF (eF h.res _ _ (by show c≠c+1;omega)) _ _ (by show c≠c+1;omega)) _ _ (by show c≠c+1;omega),hn,
  ((h.kept.setCell (p:=⟨c+1,0,none⟩) (.inr (by show w.heap.size≤c+1;omega)) _).setCell (p:=⟨c+1,1,none⟩) (.inr (by show w.heap.size≤c+1;omega)) _).setCell (p:=⟨c+1,2,none⟩) (.inr (by show w.heap.size≤c+1;omega)) _,hl⟩
 have:=aW (aW (aW h.at_ 0 (.int .i64 (x:Int))) 1 (.int .i64 (y:Int))) 2 (.int .i64 (z:Int));simpa [pF] using this
theorem XK.drewN{w wr:World}{c:Nat}{acc:lX×Bool}(h:XK w wr c acc)(n:Nat):XK w (wr.drewN n) c acc:=h.nT ((Kept.refl _ wr).drewN n)
def Po(w:World)(r:lX×Bool)(e:Ending)(w':World):Prop:=e=.returned (.tuple #[vX r.1,.bool r.2])∧Kept (λ_=>False) w w'
theorem Pq(ns:List ak)(hns:AU ns)(r:au)(u:Value)(m:Int)(w:World)(v:Value)(k:Int)(hv:aX w v ns)(hr:rC w u r)(hf:ru r.aZ)(hk : -9223372036854775808≤k∧k≤9223372036854775807)(hm:w.cell? ⟨0,0,none⟩=some (.int .i64 m)):
  Calls Tryz.prog 84 #[v,.int .i64 k,MR r u] w (Po w (kD ns k r.aZ)):=by
 obtain⟨sv,dv,rfl,hs,hd⟩:=hr;obtain⟨sa,scap,rfl,hsc1,hsc2⟩:=bH.form hs;obtain⟨da,yC,rfl,Pv,wJ⟩:=bC.form hd;unfold maxLen at hsc2 wJ;have hfew:=hf.1;have HV:=hid hv;have HSL:=hid hs;have HF:=hid hf.2;have HM:=hid hm;have HK:=hid hk;clear hv hs hd hf hm;show Calls Tryz.prog 84 #[v,.int .i64 k,.agg #[.string (str r.ay),.slice sa r.aZ.length scap,.slice da r.decls.length yC,.int .i64 r.lo,.int .i64 r.hi]] w _
 have hb0:XK w (((w.alloc (.cells #[.string (str r.ay),.slice sa r.aZ.length scap,.slice da r.decls.length yC,.int .i64 r.lo,.int .i64 r.hi] 42 (0,0))).alloc (.cells #[.int .i64 0,.int .i64 0,.int .i64 0] 119 (0,0))).alloc (.cells #[.int .i64 0,.int .i64 0,.int .i64 0] 119 (0,0))) (w.heap.size+1) (⟨0,0,0⟩,false):=by
  refine⟨?_,?_,by omega,(((Kept.refl _ w).alloc _).alloc _).alloc _,Nat.zero_le _,Nat.zero_le _,Nat.zero_le _⟩
  ·have:=aI ((w.alloc (.cells #[.string (str r.ay),.slice sa r.aZ.length scap,.slice da r.decls.length yC,.int .i64 r.lo,.int .i64 r.hi] 42 (0,0))).alloc (.cells #[.int .i64 0,.int .i64 0,.int .i64 0] 119 (0,0))) (.cells #[.int .i64 0,.int .i64 0,.int .i64 0] 119 (0,0));simpa [pF] using this
  have:=aI (w.alloc (.cells #[.string (str r.ay),.slice sa r.aZ.length scap,.slice da r.decls.length yC,.int .i64 r.lo,.int .i64 r.hi] 42 (0,0))) (.cells #[.int .i64 0,.int .i64 0,.int .i64 0] 119 (0,0));exact iw (by simpa [pF] using this) _
 have HB0:=hid hb0;clear hb0;go_enter Tryz.func84,Tryz.ntmps84
 go_wp2_with fail
 obtain⟨i0,hi0,hz0,hz1,hz2⟩:=info_parts AX;obtain⟨j0,hj0,hy0,hy1,hy2⟩:=info_parts sN;go_loopw [9,16] (λf i wr=>∃(j:Nat) (acc:lX×Bool),j≤List.length r.aZ∧i=.int .i64 j∧f=.bool acc.2∧Hid (XK w wr (w.heap.size+1) acc)∧Hid ((r.aZ.take j).foldl (jc ns k) (⟨0,0,0⟩,false)=acc)) (λ_ i _=>List.length r.aZ-(intOf i).toNat)
 case atStart=>exact⟨0,(⟨0,0,0⟩,false),by omega,rfl,rfl,HB0,hid rfl⟩
 case round=>
  obtain⟨j,acc,hj,rfl,rfl,HL,HX0⟩:=hrel;obtain⟨bU,hwr0⟩:∃x,x=wr:=⟨_,rfl⟩;subst hwr0;by_cases hlt:j<List.length r.aZ
  ·have hx:=List.getElem?_eq_getElem hlt;generalize hgx:r.aZ[j]=s at hx;clear hgx;obtain⟨pb,po,pv,rfl,hpc,hpt⟩:=bH.at HSL.out hx;have p0:bU.cell? ⟨pb,po+j,none⟩=some pv:=HL.out.kept.cell id (by have:=hpc 0 _ rfl;simpa using this);obtain⟨pa,pc,rfl,TQ,zC⟩:=bH.form hpt;unfold maxLen at zC;have OE:=hid (fP.kept hpt HL.out.kept);have hnx:Hid ((r.aZ.take (j+1)).foldl (jc ns k) (⟨0,0,0⟩,false)=jc ns k acc s):=hid (by
    rw[List.take_add_one,hx,Option.toList_some,List.foldl_append,HX0.out];rfl)
   have Pm:=hid (HF.out s (List.mem_of_getElem? hx));obtain⟨hit,HIT⟩:∃x,Hid (mV ns k s=x):=⟨_,rfl⟩;have Px:=Pj ns hns s m bU v _ k (aO.kept HV.out HL.out.kept) OE.out HK.out (HL.out.kept.cell id HM.out);rw[HIT.out]at Px;have Px:=hid Px;clear hx hpc hpt;obtain⟨⟨xa,xb,xc⟩,done⟩:=acc;cases hit with
   | false=>
    have hn2:Hid (jc ns k (⟨xa,xb,xc⟩,done) s=(⟨xa,xb,xc⟩,done)):=hid (by unfold jc;rw[HIT.out];rfl);rw[hn2.out]at hnx;go_wp2_with (go_at_call 121;refine Px.out.mono ?_;rintro e w3 ⟨rfl,hk3⟩)
    go_roundw
    case measure=>simp[intOf];omega
    case rel=>exact⟨j+1,_,by omega,by go_num,by trivial,hid (HL.out.nT hk3),hnx⟩
   | true=>
    obtain⟨⟨ya,yb,yc⟩,JZ⟩:∃x,Hid (qZ s=x):=⟨_,rfl⟩;have HYL:Hid (lX.low ⟨ya,yb,yc⟩ 1048576):=hid (low_mono (by rw[←JZ.out];exact CW s) Pm.out);have hn2:Hid (jc ns k (⟨xa,xb,xc⟩,done) s=if (!done||oI ⟨xa,xb,xc⟩ ⟨ya,yb,yc⟩)=true then (⟨ya,yb,yc⟩,true) else (⟨xa,xb,xc⟩,done)):=hid (by unfold jc;rw[HIT.out,JZ.out];simp);rw[hn2.out]at hnx;clear hn2;go_upto_region 7 with(go_at_call 121;refine Px.out.mono ?_;rintro e w3 ⟨rfl,hk3⟩)
    have HW:=XJ s w3 _ (fP.kept OE.out hk3) Pm.out;rw[JZ.out]at HW;unfold vX at HW;simp only at HW;have HW:=hid HW;have oJ:=hid hk3;clear hk3;go_upto_region 8 with(go_at_call 122;refine HW.out.mono ?_;rintro e w4 ⟨rfl,hk4⟩)
    have FX:=hid (HL.out.nT (oJ.out.trans hk4));obtain⟨wa,gX⟩:∃x,Hid (w4.alloc (.cells #[.int .i64 (ya:Int),.int .i64 (yb:Int),.int .i64 (yc:Int)] 119 (0,0))=x):=⟨_,rfl⟩;have hy:pF wa w4.heap.size ⟨ya,yb,yc⟩:=by rw[←gX.out];exact aI w4 _
    have hka:Kept (λ_=>False) w4 wa:=by rw[←gX.out];exact(Kept.refl _ w4).alloc _
    have FU:=hid (FX.out.nT hka);have HY:=hid hy;have hne:w.heap.size+2<w4.heap.size:=by
     have h1:=FX.out.at_;have:=(Array.getElem?_eq_some_iff.1 h1).1;omega
    clear hy hka;rw[gX.out];clear hk4 p0;cases done with
    | false=>
     have hn2:(if (!false||oI ⟨xa,xb,xc⟩ ⟨ya,yb,yc⟩)=true then ((⟨ya,yb,yc⟩:lX),true) else ((⟨xa,xb,xc⟩:lX),false))=(⟨ya,yb,yc⟩,true):=rfl;rw[hn2]at hnx;clear hn2;obtain⟨x1,x2,x3⟩:=FU.out.at_.ints;obtain⟨y1,y2,y3⟩:=HY.out.ints;have fz:=aF FU.out.at_;have f0:=fz 0;have f1:=fz 1;have f2:=fz 2;simp only at x1 x2 x3 y1 y2 y3;clear fz;go_wp2_with fail
     go_quiet (fail)
     go_wp2_with fail
     go_roundw
     case measure=>simp[intOf];omega
     case rel=>exact⟨j+1,_,by omega,by go_num,by trivial,hid ((FU.out.drewN nq).put ya yb yc HYL.out true),hnx⟩
    | true=>
     have HC:Hid (∀n,Calls Tryz.prog 96 #[.slice (some ⟨w4.heap.size,0,none⟩) 3 3,.slice (some ⟨w.heap.size+2,0,none⟩) 3 3] (wa.drewN n) λe w'=>e=.returned (.int .i64 (wo ⟨ya,yb,yc⟩ ⟨xa,xb,xc⟩))∧w'=wa.drewN n):=hid (λn=>MQ (wa.drewN n) w4.heap.size (w.heap.size+2) ⟨ya,yb,yc⟩ ⟨xa,xb,xc⟩ HY.out.ints FU.out.at_.ints HYL.out FU.out.low);obtain⟨lt,Ti⟩:∃b,Hid (oI ⟨xa,xb,xc⟩ ⟨ya,yb,yc⟩=b):=⟨_,rfl⟩;obtain⟨x1,x2,x3⟩:=FU.out.at_.ints;obtain⟨y1,y2,y3⟩:=HY.out.ints;have fz:=aF FU.out.at_;have f0:=fz 0;have f1:=fz 1;have f2:=fz 2;simp only at x1 x2 x3 y1 y2 y3;clear fz;cases lt with
     | true=>
      have hn2:(if (!true||true)=true then ((⟨ya,yb,yc⟩:lX),true) else ((⟨xa,xb,xc⟩:lX),true))=(⟨ya,yb,yc⟩,true):=rfl;rw[Ti.out,hn2]at hnx;clear hn2;have hc:wo ⟨ya,yb,yc⟩ ⟨xa,xb,xc⟩=1:=by unfold wo;rw[Ti.out];rfl
      rw[hc]at HC;clear hc;go_wp2_with fail
      go_quiet ((go_at_call 96;exact Calls.quiet_of_same (HC.out _)))
      go_wp2_with fail
      go_roundw
      case measure=>simp[intOf];omega
      case rel=>exact⟨j+1,_,by omega,by go_num,by trivial,hid ((FU.out.drewN nq).put ya yb yc HYL.out true),hnx⟩
     | false=>
      have hn2:(if (!true||false)=true then ((⟨ya,yb,yc⟩:lX),true) else ((⟨xa,xb,xc⟩:lX),true))=(⟨xa,xb,xc⟩,true):=rfl;rw[Ti.out,hn2]at hnx;clear hn2;cases hgt:oI ⟨ya,yb,yc⟩ ⟨xa,xb,xc⟩with
      | true=>
       have hc:wo ⟨ya,yb,yc⟩ ⟨xa,xb,xc⟩ = -1:=by unfold wo;rw[Ti.out,hgt];rfl
       rw[hc]at HC;clear hc hgt;go_wp2_with fail
       go_quiet ((go_at_call 96;exact Calls.quiet_of_same (HC.out _)))
       go_wp2_with fail
       go_roundw
       case measure=>simp[intOf];omega
       case rel=>exact⟨j+1,_,by omega,by go_num,by trivial,hid (FU.out.drewN nq),hnx⟩
      | false=>
       have hc:wo ⟨ya,yb,yc⟩ ⟨xa,xb,xc⟩=0:=by unfold wo;rw[Ti.out,hgt];rfl
       rw[hc]at HC;clear hc hgt;go_wp2_with fail
       go_quiet ((go_at_call 96;exact Calls.quiet_of_same (HC.out _)))
       go_wp2_with fail
       go_roundw
       case measure=>simp[intOf];omega
       case rel=>exact⟨j+1,_,by omega,by go_num,by trivial,hid (FU.out.drewN nq),hnx⟩
  obtain⟨⟨xa,xb,xc⟩,done⟩:=acc;obtain rfl:j=List.length r.aZ:=by omega
  have HE:Hid (kD ns k r.aZ=(⟨xa,xb,xc⟩,done)):=hid (by unfold kD;rw[←HX0.out,List.take_length]);obtain⟨x1,x2,x3⟩:=HL.out.at_.ints;have hres:=HL.out.res;have fz:=aF hres;have f0:=fz 0;have f1:=fz 1;have f2:=fz 2;obtain⟨q0,q1,q2⟩:=hres.ints;simp only at x1 x2 x3 q0 q1 q2;clear fz;go_wp2_with fail
  have hz:(((bU.setCell ⟨w.heap.size+1,0,none⟩ (.int .i64 (xa:Int))).setCell ⟨w.heap.size+1,1,none⟩ (.int .i64 (xb:Int))).setCell ⟨w.heap.size+1,2,none⟩ (.int .i64 (xc:Int))).heap[w.heap.size+1]?=some (.cells #[.int .i64 (xa:Int),.int .i64 (xb:Int),.int .i64 (xc:Int)] 119 (0,0)):=by
   have:=aW (aW (aW hres 0 (.int .i64 (xa:Int))) 1 (.int .i64 (xb:Int))) 2 (.int .i64 (xc:Int));simpa using this
  have kz:Kept (λ_=>False) w (((bU.setCell ⟨w.heap.size+1,0,none⟩ (.int .i64 (xa:Int))).setCell ⟨w.heap.size+1,1,none⟩ (.int .i64 (xb:Int))).setCell ⟨w.heap.size+1,2,none⟩ (.int .i64 (xc:Int))):=((HL.out.kept.setCell (p:=⟨w.heap.size+1,0,none⟩) (.inr (by show w.heap.size≤w.heap.size+1;omega)) _).setCell (p:=⟨w.heap.size+1,1,none⟩) (.inr (by show w.heap.size≤w.heap.size+1;omega)) _).setCell (p:=⟨w.heap.size+1,2,none⟩) (.inr (by show w.heap.size≤w.heap.size+1;omega)) _;generalize (((bU.setCell ⟨w.heap.size+1,0,none⟩ (.int .i64 (xa:Int))).setCell ⟨w.heap.size+1,1,none⟩ (.int .i64 (xb:Int))).setCell ⟨w.heap.size+1,2,none⟩ (.int .i64 (xc:Int)))=wz at *;have z0:wz.cell? ⟨w.heap.size+1,0,none⟩=some (.int .i64 (xa:Int)):=ah hz 0 rfl;have z1:wz.cell? ⟨w.heap.size+1,1,none⟩=some (.int .i64 (xb:Int)):=ah hz 1 rfl;have z2:wz.cell? ⟨w.heap.size+1,2,none⟩=some (.int .i64 (xc:Int)):=ah hz 2 rfl;refine bodyPost_ret (v:=.tuple #[vX ⟨xa,xb,xc⟩,.bool done]) (by simp[results,Tryz.results84,go_sem,z0,z1,z2,vX]) rfl ?_;rw[HE.out];exact⟨rfl,kz⟩
def yO(b:Bool):Int:=if b then 1 else 0
theorem aae(b:Bool)(w:World):Calls Tryz.prog 93 #[.bool b] w λe w'=>e=.returned (.int .i64 (yO b))∧w'=w:=by
 cases b with
 | true=>
  go_enter Tryz.func93,Tryz.ntmps93
  go_wp2_with fail
  go_ret
  exact⟨rfl,rfl⟩
 | false=>
  go_enter Tryz.func93,Tryz.ntmps93
  go_wp2_with fail
  go_ret
  exact⟨rfl,rfl⟩
def or3(x y z:Int):Int:=if x=0 then (if y=0 then z else y) else x
def Ws(w:World)(b o:Nat)(x y z:Int):Prop:=w.cell? ⟨b,o,none⟩=some (.int .i64 x)∧w.cell? ⟨b,o+1,none⟩=some (.int .i64 y)∧w.cell? ⟨b,o+2,none⟩=some (.int .i64 z)
theorem aaf(w:World)(x y z:Int):Ws (w.alloc (.cells #[.int .i64 x,.int .i64 y,.int .i64 z] 3 (0,0))).drew w.heap.size 0 x y z:=
 ⟨ah (aI w (.cells #[.int .i64 x,.int .i64 y,.int .i64 z] 3 (0,0))) 0 rfl,ah (aI w (.cells #[.int .i64 x,.int .i64 y,.int .i64 z] 3 (0,0))) 1 rfl,ah (aI w (.cells #[.int .i64 x,.int .i64 y,.int .i64 z] 3 (0,0))) 2 rfl⟩
theorem XL{w:World}{b o:Nat}{x y z:Int}(h:Ws w b o x y z){k:Nat}(hk:k<3):∃u:Int,w.cell? ⟨b,o+k,none⟩=some (.int .i64 u)∧(k=0→u=x)∧(k=1→u=y)∧(k=2→u=z):=by
 obtain⟨h0,h1,h2⟩:=h;rcases(by omega:k=0∨k=1∨k=2)with rfl | rfl | rfl
 ·exact⟨x,h0,λ_=>rfl,by omega,by omega⟩
 ·exact⟨y,h1,by omega,λ_=>rfl,by omega⟩
 exact⟨z,h2,by omega,by omega,λ_=>rfl⟩
theorem afy(w:World)(b:Nat)(x y z:Int)(h:Ws w b 0 x y z):
  Calls Tryz.prog 94 #[.slice (some ⟨b,0,none⟩) 3 3] w λe w'=>e=.returned (.int .i64 (or3 x y z))∧Kept (λ_=>False) w w':=by
 have H:=hid h;clear h;go_enter Tryz.func94,Tryz.ntmps94
 go_wp2_with fail
 go_loopw [8] (λi wr=>∃k:Nat,k≤3∧i=.int .i64 (k:Int)∧wr=w∧Hid ((0<k→x=0)∧(1<k→y=0)∧(2<k→z=0))) (λi _=>3-(intOf i).toNat)
 case atStart=>exact⟨0,by omega,rfl,rfl,hid ⟨by omega,by omega,by omega⟩⟩
 case round=>
  obtain⟨k,hk,rfl,rfl,HS⟩:=hrel;by_cases hlt:k<3
  ·obtain⟨u,c,u0,u1,u2⟩:=XL H.out hlt;have HU:=hid (And.intro u0 (And.intro u1 u2));have ed:decide ((k:Int)<3)=true:=by simp;omega
   have ee:decide (3≤(k:Int))=false:=by simp;omega
   rw[Nat.zero_add]at c;clear u0 u1 u2;by_cases g:u=0
   ·subst g;go_wp2_with fail
    go_roundw
    case measure=>simp[intOf];omega
    case rel=>
     refine⟨k+1,by omega,by go_num,by trivial,hid ?_⟩;obtain⟨s0,s1,s2⟩:=HS.out;obtain⟨u0,u1,u2⟩:=HU.out;refine⟨λ_=>?_,λ_=>?_,λ_=>?_⟩
     ·by_cases h:k=0
      ·exact(u0 h).symm
      exact s0 (by omega)
     ·by_cases h:k=1
      ·exact(u1 h).symm
      exact s1 (by omega)
     by_cases h:k=2
     ·exact(u2 h).symm
     exact s2 (by omega)
   have e0:(u != 0)=true:=by simpa using g
   have hr:Hid (u=or3 x y z):=hid (by
    obtain⟨s0,s1,s2⟩:=HS.out;obtain⟨u0,u1,u2⟩:=HU.out;unfold or3;rcases(by omega:k=0∨k=1∨k=2)with h | h | h
    ·have:=u0 h;rw[if_neg (by rw[←this];exact g)];exact this
    ·have:=u1 h;rw[if_pos (s0 (by omega)),if_neg (by rw[←this];exact g)];exact this
    have:=u2 h;rw[if_pos (s0 (by omega)),if_pos (s1 (by omega))];exact this)
   clear g;go_wp2_with fail
   go_ret
   exact⟨yB hr.out,Kept.refl _ _⟩
  obtain rfl:k=3:=by omega
  go_wp2_with fail
  go_ret
  refine⟨yB ?_,Kept.refl _ _⟩;obtain⟨s0,s1,s2⟩:=HS.out;unfold or3;rw[if_pos (s0 (by omega)),if_pos (s1 (by omega)),s2 (by omega)]
def xQ(w:World)(b o:Nat)(x:lX):Prop:=Ws w b o (x.a:Int) (x.b:Int) (x.c:Int)
theorem XM{w:World}{b1 o1 b2 o2:Nat}{x y:lX}{n:Nat}(h1:xQ w b1 o1 x)(h2:xQ w b2 o2 y)(hx:x.low n)(hy:y.low n){k:Nat}(hk:k<3)(hs:FW x y k):
  ∃u v:Nat,w.cell? ⟨b1,o1+k,none⟩=some (.int .i64 (u:Int))∧w.cell? ⟨b2,o2+k,none⟩=some (.int .i64 (v:Int))∧u≤n∧v≤n∧(u<v→oI y x=false∧oI x y=true)∧(v<u→oI y x=true)∧(u=v→FW x y (k+1)):=by
 obtain⟨p0,p1,p2⟩:=h1;obtain⟨q0,q1,q2⟩:=h2;obtain⟨l0,l1,l2⟩:=hx;obtain⟨m0,m1,m2⟩:=hy;obtain⟨s0,s1,s2⟩:=hs;rcases(by omega:k=0∨k=1∨k=2)with rfl | rfl | rfl
 ·refine⟨_,_,p0,q0,l0,m0,λh=>?_,λh=>?_,λh=>⟨λ_=>h,by omega,by omega⟩⟩
  ·constructor<;>(simp[oI];omega)
  simp[oI];omega
 ·have e0:=s0 (by omega);refine⟨_,_,p1,q1,l1,m1,λh=>?_,λh=>?_,λh=>⟨λ_=>e0,λ_=>h,by omega⟩⟩
  ·constructor<;>(simp[oI];omega)
  simp[oI];omega
 have e0:=s0 (by omega);have e1:=s1 (by omega);refine⟨_,_,p2,q2,l2,m2,λh=>?_,λh=>?_,λh=>⟨λ_=>e0,λ_=>e1,λ_=>h⟩⟩
 ·constructor<;>(simp[oI];omega)
 simp[oI];omega
theorem MS(w:World)(b1 o1 b2 o2:Nat)(x y:lX)(h1:xQ w b1 o1 x)(h2:xQ w b2 o2 y)(hx:x.low 1048576)(hy:y.low 1048576):
  Calls Tryz.prog 96 #[.slice (some ⟨b1,o1,none⟩) 3 3,.slice (some ⟨b2,o2,none⟩) 3 3] w λe w'=>e=.returned (.int .i64 (wo x y))∧w'=w:=by
 have H1:=hid h1;have H2:=hid h2;have HX:=hid hx;have HY:=hid hy;clear h1 h2 hx hy;go_enter Tryz.func96,Tryz.ntmps96
 go_wp2_with fail
 go_loopw [11] (λi wr=>∃k:Nat,k≤3∧i=.int .i64 k∧wr=w∧Hid (FW x y k)) (λi _=>3-(intOf i).toNat)
 case atStart=>exact⟨0,by omega,rfl,rfl,hid ⟨by omega,by omega,by omega⟩⟩
 case round=>
  obtain⟨k,hk,rfl,rfl,HS⟩:=hrel;by_cases hlt:k<3
  ·obtain⟨u,v,c1,c2,hu,hv,hA,hB,hC⟩:=XM H1.out H2.out HX.out HY.out hlt HS.out;have HA:=hid hA;have HB:=hid hB;have HC:=hid hC;clear hA hB hC;have HK:=hid (Tryz.cmp_Compare_int (u:Int) (v:Int) wr);have ed:decide ((k:Int)<3)=true:=by simp;omega
   have ee:decide (3≤(k:Int))=false:=by simp;omega
   by_cases g1:u<v
   ·have e1:Lib.compareInt (u:Int) (v:Int) = -1:=by unfold Lib.compareInt;rw[if_pos (by omega)]
    rw[e1]at HK;clear e1;go_wp2_with (go_at_call 95;refine HK.out.mono ?_;rintro e w2 ⟨rfl,rfl⟩)
    go_ret
    exact⟨by unfold wo;rw[(HA.out g1).1,(HA.out g1).2];rfl,rfl⟩
   by_cases g2:v<u
   ·have e1:Lib.compareInt (u:Int) (v:Int)=1:=by unfold Lib.compareInt;rw[if_neg (by omega),if_pos (by omega)]
    rw[e1]at HK;clear e1;go_wp2_with (go_at_call 95;refine HK.out.mono ?_;rintro e w2 ⟨rfl,rfl⟩)
    go_ret
    exact⟨by unfold wo;rw[HB.out g2];rfl,rfl⟩
   have e1:Lib.compareInt (u:Int) (v:Int)=0:=by unfold Lib.compareInt;rw[if_neg (by omega),if_neg (by omega)]
   rw[e1]at HK;clear e1;go_wp2_with (go_at_call 95;refine HK.out.mono ?_;rintro e w2 ⟨rfl,rfl⟩)
   go_roundw
   case measure=>simp[intOf];omega
   case rel=>exact⟨k+1,by omega,by go_num,trivial,hid (HC.out (by omega))⟩
  obtain rfl:k=3:=by omega
  go_wp2_with fail
  go_ret
  refine⟨?_,rfl⟩;obtain⟨s0,s1,s2⟩:=HS.out;obtain⟨xa,xb,xc⟩:=x;obtain⟨ya,yb,yc⟩:=y;have h1:=s0 (by omega);have h2:=s1 (by omega);have h3:=s2 (by omega);simp only at h1 h2 h3;subst h1;subst h2;subst h3;simp[wo,oI]
def aY(c:aB):List Value:=[.string (str c.d.name),.string (str c.d.val),.bool c.d.strong,.bool c.own,.int .i64 (c.w.a:Int),.int .i64 (c.w.b:Int),.int .i64 (c.w.c:Int)]
def sO(w:World)(b o:Nat)(c:aB):Prop:=∀j v,(aY c)[j]?=some v→w.cell? ⟨b,o+j,none⟩=some v
theorem sO.kept{w w':World}{b o:Nat}{c:aB}{S:Nat→Prop}(h:sO w b o c)(hk:Kept S w w')(hs:¬S b):sO w' b o c:=λj v hj=>hk.cell hs (h j v hj)
def aag(x y:aB):Int:=or3 (Lib.compareInt (yO x.d.strong) (yO y.d.strong)) (Lib.compareInt (yO x.own) (yO y.own)) (wo x.w y.w)
theorem XO(x y:aB):0≤aag x y↔gV x y=true:=by
 obtain⟨⟨_,_,s1⟩,o1,w1⟩:=x;obtain⟨⟨_,_,s2⟩,o2,w2⟩:=y;unfold aag or3 gV wo Lib.compareInt yO;simp only;cases hA:oI w2 w1 with
 | true=>
  have hB:=CX hA;cases s1<;>cases s2<;>cases o1<;>cases o2<;>simp[hB]
 | false=>
  cases hB:oI w1 w2<;>cases s1<;>cases s2<;>cases o1<;>cases o2<;>simp
theorem XP(w:World)(b1 o1 b2 o2:Nat)(x y:aB)(h1:sO w b1 o1 x)(h2:sO w b2 o2 y)(hx:x.w.low 1048576)(hy:y.w.low 1048576):
  Calls Tryz.prog 57 #[.pointer (some ⟨b1,o1,none⟩),.pointer (some ⟨b2,o2,none⟩)] w λe w'=>e=.returned (.int .i64 (aag x y))∧Kept (λ_=>False) w w':=by
 have x2:w.cell? ⟨b1,o1+2,none⟩=some (.bool x.d.strong):=h1 2 _ rfl;have x3:w.cell? ⟨b1,o1+3,none⟩=some (.bool x.own):=h1 3 _ rfl;have y2:w.cell? ⟨b2,o2+2,none⟩=some (.bool y.d.strong):=h2 2 _ rfl;have y3:w.cell? ⟨b2,o2+3,none⟩=some (.bool y.own):=h2 3 _ rfl;have HXI:Hid (xQ w b1 (o1+4) x.w):=hid ⟨h1 4 _ rfl,h1 5 _ rfl,h1 6 _ rfl⟩;have HYI:Hid (xQ w b2 (o2+4) y.w):=hid ⟨h2 4 _ rfl,h2 5 _ rfl,h2 6 _ rfl⟩;obtain⟨r,HR⟩:∃r,Hid (aag x y=r):=⟨_,rfl⟩;rw[HR.out];have HX:=hid hx;have HY:=hid hy;clear h1 h2 hx hy;go_enter Tryz.func57,Tryz.ntmps57
 go_upto_region 2 with fail
 go_region_held3 (λw'=>w'.cell? ⟨b1,o1+2,none⟩=some (.bool x.d.strong)∧w'.cell? ⟨b1,o1+3,none⟩=some (.bool x.own)∧w'.cell? ⟨b2,o2+2,none⟩=some (.bool y.d.strong)∧w'.cell? ⟨b2,o2+3,none⟩=some (.bool y.own)) (first | exact⟨hk8.cell id (dX x2 _),hk8.cell id (dX x3 _),hk8.cell id (dX y2 _),hk8.cell id (dX y3 _)⟩ | exact⟨x2,x3,y2,y3⟩ | exact⟨dX x2 _,dX x3 _,dX y2 _,dX y3 _⟩ | go_keep)
  ((first
   | (go_at_call 93;refine(aae _ _).mono ?_;rintro e w5 ⟨rfl,rfl⟩)
   | (go_at_call 95;refine(Tryz.cmp_Compare_int _ _ _).mono ?_;rintro e w6 ⟨rfl,rfl⟩)
   | (go_at_call 96;refine(MS _ _ _ _ _ x.w y.w (by exact HXI.out) (by exact HYI.out) HX.out HY.out).mono ?_;rintro e w7 ⟨rfl,rfl⟩)
   | (go_at_call 94;refine(afy _ _ (Lib.compareInt (yO x.d.strong) (yO y.d.strong)) (Lib.compareInt (yO x.own) (yO y.own)) (wo x.w y.w) (aaf w _ _ _)).mono ?_;rintro e w8 ⟨rfl,hk8⟩)))
 all_goals
  go_wp2_with fail
  go_ret
  exact⟨yB HR.out,(((Kept.refl _ w).alloc _).drew).trans hk8⟩
theorem TR(w:World)(b o:Nat)(r:au)(mv:Value)(ay:List B)(h:w.cell? ⟨b,o,none⟩=some (.string (str r.ay)))(hm:jR w mv ay):
  Calls Tryz.prog 92 #[.pointer (some ⟨b,o,none⟩),mv] w λe w'=>e=.returned (.bool (counts r ay))∧Kept (λ_=>False) w w':=by
 obtain⟨q,HQ⟩:∃q,Hid (counts r ay=q):=⟨_,rfl⟩;rw[HQ.out];cases he:r.ay.isEmpty with
 | true=>
  have hr:Hid (true=q):=hid (by rw[←HQ.out];unfold counts;rw[he];rfl);have e1:(r.ay==[])=true:=by simpa using he
  clear he;go_enter Tryz.func92,Tryz.ntmps92
  go_wp2_with fail
  go_ret
  exact⟨eu hr.out,Kept.refl _ _⟩
 | false=>
  have hr:ay.contains r.ay=q:=by rw[←HQ.out];unfold counts;rw[he];simp
  have e1:(r.ay==[])=false:=by simpa using he
  have HC:=wH w mv ay r.ay hm;rw[hr]at HC;replace HC:=hid HC;clear he hr;go_enter Tryz.func92,Tryz.ntmps92
  go_wp2_with (go_at_call 136;refine HC.out.mono ?_;rintro e w2 ⟨rfl,hk2⟩)
  go_ret
  exact⟨rfl,hk2⟩
end Go.Proofs.YtplbdlgmjehckacGreatDoor

