/-
 Lemmas for the claims of this seat: the program's functions walked, and plain laws.
-/
import Derived.Test.YtplbdlgmjehckacGreatDoorPkFoTellsFull31
set_option maxRecDepth 100000
set_option maxHeartbeats 6400000
namespace Go.Proofs.YtplbdlgmjehckacGreatDoor
open Go.Lib (hid)
open Go.RowKit
set_option linter.unusedVariables false
set_option linter.unusedSimpArgs false
theorem RZ(w:World)(va vb:Value)(ps:List eP)(ha:PartsAt w va ps)(hb:PartsAt w vb ps):
  Calls Tryz.prog 39 #[va,vb] w λe w'=>e=.returned (.bool true)∧Qt w w':=by
 obtain⟨aa,ca,rfl,agO,VK⟩:=bH.form ha;obtain⟨ab,cb,rfl,agP,hcb2⟩:=bH.form hb;unfold maxLen at VK hcb2;have HA:=hid ha;have HB:=hid hb;clear ha hb;go_enter Tryz.func39,Tryz.ntmps39
 go_wp2
 go_loopw [14] (λi wr=>∃k:Nat,k≤ps.length∧i=.int .i64 k∧Hid (Qt w wr)) (λi _=>ps.length-(intOf i).toNat)
 case atStart=>exact⟨0,by omega,rfl,Qt.refl _⟩
 case round=>
  obtain⟨i,hi,rfl,HQ⟩:=hrel;obtain⟨bU,hwr0⟩:∃x,x=wr:=⟨_,rfl⟩;subst hwr0;by_cases hlt:i<ps.length
  ·have hx:=List.getElem?_eq_getElem hlt;generalize hgx:ps[i]=x at hx;clear hgx;obtain⟨b,off,u,rfl,hc,hu⟩:=bH.at (fP.quiet HA.out HQ.out) hx;obtain⟨b2,off2,u2,rfl,hc2,hu2⟩:=bH.at (fP.quiet HB.out HQ.out) hx;have g0:bU.cell? ⟨b,off+i*2,none⟩=some (.int .i64 x.join):=hc 0 _ rfl;have g1:bU.cell? ⟨b,off+i*2+1,none⟩=some u:=hc 1 _ rfl;have r0:bU.cell? ⟨b2,off2+i*2,none⟩=some (.int .i64 x.join):=hc2 0 _ rfl;have r1:bU.cell? ⟨b2,off2+i*2+1,none⟩=some u2:=hc2 1 _ rfl;obtain⟨a5,cap5,rfl,ach,hcap5⟩:=jf.form hu;obtain⟨a6,cap6,rfl,aen,hcap6⟩:=jf.form hu2;unfold maxLen at hcap5 hcap6;have HT:=hid hu;have HT2:=hid hu2;clear hx hu hu2 hc hc2;go_wp2_with fail
   go_quiet (fail)
   go_wp2_with fail
   go_loopw [49] (λj wx=>∃l:Nat,l≤x.tests.length∧j=.int .i64 l∧Hid (Qt bU wx)) (λj _=>x.tests.length-(intOf j).toNat)
   case atStart=>exact⟨0,by omega,rfl,⟨nq,rfl⟩⟩
   case round=>
    obtain⟨l,hl,rfl,rG⟩:=hrel;by_cases hlt2:l<x.tests.length
    ·have hy:=List.getElem?_eq_getElem hlt2;generalize qX:x.tests[l]=y at hy;clear qX;obtain⟨b3,FD,rfl,hp⟩:=aH.at (lJ.quiet HT.out rG.out) (k:=l) (r:=dA y) (by simp[hy]);obtain⟨b4,Oj,rfl,hq⟩:=aH.at (lJ.quiet HT2.out rG.out) (k:=l) (r:=dA y) (by simp[hy]);have p0:wr.cell? ⟨b3,FD+l*3,none⟩=some _:=hp 0 _ rfl;have p1:wr.cell? ⟨b3,FD+l*3+1,none⟩=some _:=hp 1 _ rfl;have p2:wr.cell? ⟨b3,FD+l*3+2,none⟩=some _:=hp 2 _ rfl;have q0:wr.cell? ⟨b4,Oj+l*3,none⟩=some _:=hq 0 _ rfl;have q1:wr.cell? ⟨b4,Oj+l*3+1,none⟩=some _:=hq 1 _ rfl;have q2:wr.cell? ⟨b4,Oj+l*3+2,none⟩=some _:=hq 2 _ rfl;obtain⟨nn,hnn⟩:=rG.out;have g2':wr.cell? ⟨b,off+i*2+1,none⟩=some (.slice (some ⟨b3,FD,none⟩) x.tests.length cap5):=by rw[hnn];exact g1
     have r2':wr.cell? ⟨b2,off2+i*2+1,none⟩=some (.slice (some ⟨b4,Oj,none⟩) x.tests.length cap6):=by rw[hnn];exact r1
     clear hy g0 r0 g1 r1 hnn hp hq;go_wp2_with fail
     go_quiet (fail)
     go_wp2_with fail
     go_roundw
     case rel=>exact⟨l+1,by omega,by go_num,Qt.trans rG.out ⟨nq,rfl⟩⟩
     case measure=>simp[intOf];omega
    go_wp2_with fail
    go_roundw
    case rel=>exact⟨i+1,by omega,by go_num,Qt.trans HQ.out rG.out⟩
    case measure=>simp[intOf];omega
  go_wp2
  go_ret
  exact⟨rfl,HQ.out⟩
theorem JM(w:World)(va vb:Value)(rs:List au)(ha:gy w va rs)(hb:gy w vb rs):
  Calls Tryz.prog 16 #[va,vb] w λe w'=>e=.returned (.bool true)∧Qt w w':=by
 obtain⟨aa,ca,rfl,agO,VK⟩:=bH.form ha;obtain⟨ab,cb,rfl,agP,hcb2⟩:=bH.form hb;unfold maxLen at VK hcb2;have HA:=hid ha;have HB:=hid hb;clear ha hb;go_enter Tryz.func16,Tryz.ntmps16
 go_wp2
 go_loopw [14] (λi wr=>∃k:Nat,k≤rs.length∧i=.int .i64 k∧Hid (Qt w wr)) (λi _=>rs.length-(intOf i).toNat)
 case atStart=>exact⟨0,by omega,rfl,Qt.refl _⟩
 case round=>
  obtain⟨i,hi,rfl,HQ⟩:=hrel;obtain⟨bU,hwr0⟩:∃x,x=wr:=⟨_,rfl⟩;subst hwr0;by_cases hlt:i<rs.length
  ·have hx:=List.getElem?_eq_getElem hlt;generalize hgx:rs[i]=x at hx;clear hgx;obtain⟨b,off,u,rfl,hc,sv,dv,rfl,hs1,hd1⟩:=bH.at (eG.quiet HA.out HQ.out) hx;obtain⟨b2,off2,u2,rfl,hc2,sv2,dv2,rfl,hs2,hd2⟩:=bH.at (eG.quiet HB.out HQ.out) hx;obtain⟨a5,cap5,rfl,ach,hcap5⟩:=bH.form hs1;obtain⟨a6,cap6,rfl,aen,hcap6⟩:=bH.form hs2;obtain⟨a7,amW,rfl,aci,ajx⟩:=bC.form hd1;obtain⟨a8,amX,rfl,ajy,ajz⟩:=bC.form hd2;have g0:bU.cell? ⟨b,off+i*5,none⟩=some (.string (str x.ay)):=hc 0 _ rfl;have g1:bU.cell? ⟨b,off+i*5+1,none⟩=some (.slice a5 x.aZ.length cap5):=hc 1 _ rfl;have g2:bU.cell? ⟨b,off+i*5+2,none⟩=some (.slice a7 x.decls.length amW):=hc 2 _ rfl;have g3:bU.cell? ⟨b,off+i*5+3,none⟩=some (.int .i64 x.lo):=hc 3 _ rfl;have g4:bU.cell? ⟨b,off+i*5+4,none⟩=some (.int .i64 x.hi):=hc 4 _ rfl;have r0:bU.cell? ⟨b2,off2+i*5,none⟩=some (.string (str x.ay)):=hc2 0 _ rfl;have r1:bU.cell? ⟨b2,off2+i*5+1,none⟩=some (.slice a6 x.aZ.length cap6):=hc2 1 _ rfl;have r2:bU.cell? ⟨b2,off2+i*5+2,none⟩=some (.slice a8 x.decls.length amX):=hc2 2 _ rfl;have r3:bU.cell? ⟨b2,off2+i*5+3,none⟩=some (.int .i64 x.lo):=hc2 3 _ rfl;have r4:bU.cell? ⟨b2,off2+i*5+4,none⟩=some (.int .i64 x.hi):=hc2 4 _ rfl;unfold maxLen at hcap5 hcap6 ajx ajz;have HS:=hid hs1;have HS2:=hid hs2;have HD:=hid hd1;have HD2:=hid hd2;clear hx hs1 hs2 hd1 hd2 hc hc2;go_wp2_with fail
   go_quiet ((go_at_call 38;exact Calls.quiet_of (JL _ _ _ _ HD.out HD2.out)))
   clear g0 g2 g3 g4 r0 r2 r3 r4;go_wp2_with fail
   go_loopw [76] (λj wx=>∃l:Nat,l≤x.aZ.length∧j=.int .i64 l∧Hid (Qt bU wx)) (λj _=>x.aZ.length-(intOf j).toNat)
   case atStart=>exact⟨0,by omega,rfl,⟨nq,rfl⟩⟩
   case round=>
    obtain⟨l,hl,rfl,rG⟩:=hrel;by_cases hlt2:l<x.aZ.length
    ·have hy:=List.getElem?_eq_getElem hlt2;generalize qX:x.aZ[l]=y at hy;clear qX;obtain⟨b3,FD,u3,rfl,hp,hu3⟩:=bH.at (qJ.quiet HS.out rG.out) hy;obtain⟨b4,Oj,u4,rfl,hq,hu4⟩:=bH.at (qJ.quiet HS2.out rG.out) hy;have p0:wr.cell? ⟨b3,FD+l,none⟩=some u3:=by have h:=hp 0 u3 rfl;simpa using h
     have q0:wr.cell? ⟨b4,Oj+l,none⟩=some u4:=by have h:=hq 0 u4 rfl;simpa using h
     obtain⟨nn,hnn⟩:=rG.out;have g2':wr.cell? ⟨b,off+i*5+1,none⟩=some (.slice (some ⟨b3,FD,none⟩) x.aZ.length cap5):=by rw[hnn];exact g1
     have r2':wr.cell? ⟨b2,off2+i*5+1,none⟩=some (.slice (some ⟨b4,Oj,none⟩) x.aZ.length cap6):=by rw[hnn];exact r1
     have HU:=hid hu3;have HU2:=hid hu4;clear hy g1 r1 hnn hp hq hu3 hu4;go_wp2_with fail
     go_quiet ((go_at_call 39;exact Calls.quiet_of (RZ _ _ _ _ HU.out HU2.out)))
     go_wp2_with fail
     go_roundw
     case rel=>exact⟨l+1,by omega,by go_num,Qt.trans rG.out ⟨nq,rfl⟩⟩
     case measure=>simp[intOf];omega
    go_wp2_with fail
    go_roundw
    case rel=>exact⟨i+1,by omega,by go_num,Qt.trans HQ.out rG.out⟩
    case measure=>simp[intOf];omega
  go_wp2
  go_ret
  exact⟨rfl,HQ.out⟩
theorem Zk(s:B)(hs:s.length≤9223372036854775807):∃(l:List ak) (rs:List au) (fe fp:Int),(fe=0→Ef l rs∧(∀r∈rs,∀d∈r.decls,d.name.length≤1048576)∧l.length≤120∧rs.length≤60) ∧
  (∀(w:World) (m:Int),w.cell? ⟨0,0,none⟩=some (.int .i64 m)→Calls Tryz.prog 13 #[.string (str s)] w λe w'=>∃lv rv,e=.returned (.tuple #[lv,rv,.agg #[.int .i64 fe,.int .i64 fp]])∧Kept (λ_=>False) w w'∧aX w' lv l∧gy w' rv rs) ∧
  (∀(w:World),0<w.heap.size→Calls Tryz.prog 14 #[.string (str s)] w λe w'=>∃lv rv,e=.returned (.tuple #[lv,rv,.agg #[.int .i64 fe,.int .i64 fp]])∧Kept (λ_=>False) w w'∧aX w' lv l∧gy w' rv rs):=by
 have nn:∀w:World,aX w (.slice none 0 0) []:=λw=>⟨[],rfl,aH.nil _ _,λi n av hn=>by simp at hn⟩
 have rn:∀w:World,gy w (.slice none 0 0) []:=λw=>⟨[],rfl,aH.nil _ _,λi n av hn=>by simp at hn⟩
 cases hp:rP s with
 | bad f=>
  refine⟨[],[],f.err,f.pos,λh=>?_,λw m hm=>?_,λw hw=>?_⟩
  ·have:=xg hp;omega
  ·refine(Ht s m w hm hs).mono λe w' hh=>?_
   rw[hp]at hh;exact⟨_,_,hh.1,hh.2,nn _,rn _⟩
  refine(DN s w hw hs).mono λe w' hh=>?_
  rw[hp]at hh;exact⟨_,_,hh.1,hh.2,nn _,rn _⟩
 | ok x=>
  have hlim:=IW hp;refine⟨x.1,x.2,0,0,λ_=>⟨hlim.ca (gone:=x.2) (λr h=>h) (Nat.le_refl _),λr hr d hd=>?_,hlim.nodes,hlim.most⟩,λw m hm=>?_,λw hw=>?_⟩
  ·have:=((hlim.rule r hr).1.each d hd).1;omega
  ·refine(Ht s m w hm hs).mono λe w' hh=>?_
   rw[hp]at hh;exact hh
  refine(DN s w hw hs).mono λe w' hh=>?_
  rw[hp]at hh;exact hh
theorem Zl(s:B)(hs:s.length≤9223372036854775807):∃(t:B) (a b:Int),
  (∀(w:World) (m:Int),w.cell? ⟨0,0,none⟩=some (.int .i64 m)→Calls Tryz.prog 19 #[.string (str s)] w λe w'=>e=.returned (.tuple #[.string (str t),.agg #[.int .i64 a,.int .i64 b]])∧Kept (λ_=>False) w w') ∧
  (∀(w:World) (m:Int),w.cell? ⟨0,0,none⟩=some (.int .i64 m)→Calls Tryz.prog 20 #[.string (str s)] w λe w'=>e=.returned (.tuple #[.string (str t),.agg #[.int .i64 a,.int .i64 b]])∧Kept (λ_=>False) w w'):=by
 have key:∃(t:B) (a b:Int),∀(w:World) (e:Ending) (w':World),uS w s e w'→e=.returned (.tuple #[.string (str t),.agg #[.int .i64 a,.int .i64 b]])∧Kept (λ_=>False) w w':=by
  unfold uS;cases hp:rP s with
  | bad f=>exact⟨[],f.err,f.pos,λw e w' h=>⟨h.2,h.1⟩⟩
  | ok x=>
   by_cases hx:∃st,ni x.1 x.2 st
   ·obtain⟨st,hst⟩:=hx;cases hf:RF s x.1 x.2 st with
    | bad f=>
     refine⟨[],f.err,f.pos,λw e w' h=>⟨?_,h.1⟩⟩;obtain⟨su,hsu,he⟩:=h.2;rw[he,←hst.unique hsu,hf];rfl
    | ok t=>
     refine⟨t,0,0,λw e w' h=>⟨?_,h.1⟩⟩;obtain⟨su,hsu,he⟩:=h.2;rw[he,←hst.unique hsu,hf];rfl
   exact⟨[],0,0,λw e w' h=>by
    obtain⟨su,hsu,he⟩:=h.2;exact absurd ⟨su,hsu⟩ hx⟩
 obtain⟨t,a,b,hk⟩:=key;exact⟨t,a,b,λw m hm=>(ab7 s m w hm hs).mono λe w' h=>hk w e w' h,λw m hm=>(Zi s m w hm hs).mono λe w' h=>hk w e w' h⟩
theorem JO(s:B)(m:Int)(w:World)(hm:w.cell? ⟨0,0,none⟩=some (.int .i64 m))(hs:s.length≤9223372036854775807):
  Calls Tryz.prog 3 #[.string (str s)] w λe w'=>e=.returned (.bool true)∧Kept (λ_=>False) w w':=by
 have h0:0<w.heap.size:=World.block_lt_of_cell? w _ hm;obtain⟨l,rs,fe,fp,hz,hp,hq⟩:=Zk s hs;obtain⟨t,ge,gp,hp2,hq2⟩:=Zl s hs;have HZ:=hid hz;have HP:=hid (hp w m hm);have HQ:=hid hq;have HP2:=hid hp2;have rG:=hid hq2;have HM:=hid hm;have H0:=hid h0;clear hp hq hp2 hq2 hm hz h0;go_enter Tryz.func3,Tryz.ntmps3
 go_wp2_with fail
 refine HP.out.mono ?_;rintro e w1 ⟨va,ra,rfl,hk1,hn1,hr1⟩;obtain⟨w2,HW2⟩:∃x,Hid (w1.alloc (.cells #[.int .i64 fe,.int .i64 fp] 26 (0,0))=x):=⟨_,hid rfl⟩;have hk2:Kept (λ_=>False) w1 w2:=by rw[←HW2.out];exact(Kept.refl _ w1).alloc _
 obtain⟨f1,HF1⟩:∃x,Hid (w1.heap.size=x):=⟨_,hid rfl⟩;have HB2:Hid (w2.heap[f1]?=some (.cells #[.int .i64 fe,.int .i64 fp] 26 (0,0))):=hid (by rw[←HW2.out,←HF1.out];exact aI w1 _);have Jo:=hid (aO.kept hn1 hk2);have HR2:=hid (eG.kept hr1 hk2);have iO:=hid (hk1.trans hk2);have aeo:Hid (w.heap.size≤f1):=hid (by rw[←HF1.out];exact hk1.size);have HC2:=hid (HQ.out w2 (by have:=H0.out;have:=iO.out.size;omega));clear hk1 hn1 hr1 hk2;go_upto_region 2 with fail
 rw[HW2.out,HF1.out];go_wp2_with fail
 refine HC2.out.mono ?_;rintro e w3 ⟨vb,rb,rfl,hk3,hn3,hr3⟩;obtain⟨w4,Dn⟩:∃x,Hid (w3.alloc (.cells #[.int .i64 fe,.int .i64 fp] 26 (0,0))=x):=⟨_,hid rfl⟩;have hk4:Kept (λ_=>False) w3 w4:=by rw[←Dn.out];exact(Kept.refl _ w3).alloc _
 obtain⟨f2,HF2⟩:∃x,Hid (w3.heap.size=x):=⟨_,hid rfl⟩;have hb4:w4.heap[f2]?=some (.cells #[.int .i64 fe,.int .i64 fp] 26 (0,0)):=by rw[←Dn.out,←HF2.out];exact aI w3 _
 have HAN:=hid (aO.kept Jo.out (hk3.trans hk4));have HAR:=hid (eG.kept HR2.out (hk3.trans hk4));have HBN:=hid (aO.kept hn3 hk4);have HBR:=hid (eG.kept hr3 hk4);have uY:=hid ((iO.out.trans hk3).trans hk4);have Zm:Hid (f1<f2):=hid (by rw[←HF2.out];exact Nat.lt_of_lt_of_le (gW HB2.out) hk3.size);have aep:=(hk3.trans hk4).heap id HB2.out;have HY4:=hid hb4;have HX4:=hid aep;have y0:=ah hb4 0 rfl;have y1:=ah hb4 1 rfl;have x0:=ah aep 0 rfl;have x1:=ah aep 1 rfl;clear hk3 hn3 hr3 hk4 hb4 aep;go_upto_region 3 with fail
 rw[Dn.out,HF2.out];go_wp2_with fail
 refine(acg w4 _ _ l HAN.out HBN.out).mono ?_;rintro e w5 ⟨rfl,hq5⟩;have zF:Hid (Kept (λ_=>False) w4 w5):=hid (hq5.kept _);clear hq5;go_wp2_with fail
 refine(JM w5 _ _ rs (eG.kept HAR.out zF.out) (eG.kept HBR.out zF.out)).mono ?_;rintro e w6 ⟨rfl,hq6⟩;have Fh:Hid (Kept (λ_=>False) w4 w6):=hid (zF.out.trans (hq6.kept _));have Io:=hid (Fh.out.heap id HX4.out);have HY6:=hid (Fh.out.heap id HY4.out);clear hq6 x0 x1 y0 y1;have y0:=ah HY6.out 0 rfl;have afh:Hid (∀wx,Kept (λ_=>False) w6 wx→Kept (λ_=>False) w wx∧wx.heap[f1]?=some (.cells #[.int .i64 fe,.int .i64 fp] 26 (0,0))∧wx.heap[f2]?=some (.cells #[.int .i64 fe,.int .i64 fp] 26 (0,0))):=
  hid λwx hk=>⟨(uY.out.trans Fh.out).trans hk,hk.heap id Io.out,hk.heap id HY6.out⟩
 by_cases hfe:fe=0
 ·obtain⟨hca,hen,hn,aij⟩:=HZ.out hfe;have hfb:(fe==0)=true:=by simpa using hfe
  have Fb:=hid hca;have HEN:=hid hen;have HC6:=hid (Kz l rs hca m w6 _ _ (aO.kept HBN.out Fh.out) (eG.kept HBR.out Fh.out) ((uY.out.trans Fh.out).cell id HM.out));clear hca hen hfe;go_wp2_with fail
  refine HC6.out.mono ?_;intro e w7 he7;obtain⟨b1,st,rfl,hst,hb7,hs7,jD⟩:=vT he7;have HKB:=hid (Fh.out.trans jD);have HC7:=hid (Gy l rs Fb.out HEN.out hn m w7 _ _ (aO.kept HBN.out HKB.out) (eG.kept HBR.out HKB.out) ((uY.out.trans HKB.out).cell id HM.out));have HS7:=hid hst;have yI:=hid hb7;have HK7:=hid jD;clear hst hb7 jD he7 hs7;go_wp2_with fail
  refine HC7.out.mono ?_;intro e w8 he8;obtain⟨b2,su,rfl,hsu,hb8,hs8,hk8⟩:=vT he8;obtain rfl:=HS7.out.unique hsu;have hsl:st.length=rs.length:=hsu.len;have vN:=hid hb8;have HA8:=hid (hk8.heap id yI.out);have Au:=hid (HK7.out.trans hk8);clear hsu hb8 hk8 he8 hs8 y0;go_wp2_with fail
  go_loopw [57] (λc wx=>∃i:Nat,i≤rs.length∧c=.int .i64 (i:Int)∧Hid (Kept (λ_=>False) w8 wx)) (λc _=>rs.length-(intOf c).toNat)
  case atStart=>exact⟨0,by omega,rfl,hid (Kept.refl _ _)⟩
  case round=>
   obtain⟨i,hi,rfl,HKI⟩:=hrel;by_cases hlt:i<rs.length
   ·obtain⟨b,hb⟩:∃b,st[i]?=some b:=⟨_,List.getElem?_eq_getElem (by rw[hsl];exact hlt)⟩;have sa:wr.cell? ⟨b1,i,none⟩=some (.bool b):=ah (HKI.out.heap id HA8.out) i (by simp[hb]);have sb:wr.cell? ⟨b2,i,none⟩=some (.bool b):=ah (HKI.out.heap id vN.out) i (by simp[hb]);clear hb;go_wp2_with fail
    go_quiet (fail)
    go_wp2_with fail
    go_roundw
    case rel=>exact⟨i+1,by omega,by go_num,hid (HKI.out.drewN _)⟩
    case measure=>simp[intOf];omega
   obtain rfl:i=rs.length:=by omega
   obtain⟨hkw,U8,hy9⟩:=afh.out _ (Au.out.trans HKI.out);have HC9:=hid (HP2.out wr m (hkw.cell id HM.out));have qm:=hid hkw;have HX9:=hid U8;have Xg:=hid hy9;clear hkw U8 hy9;go_wp2_with fail
   refine HC9.out.mono ?_;rintro e wa ⟨rfl,hka⟩;have hxa:=hka.heap id HX9.out;have hya:=hka.heap id Xg.out;have x0:=ah hxa 0 rfl;have x1:=ah hxa 1 rfl;have z0:=aF hxa 0;have z1:=aF hxa 1;obtain⟨wb,jo⟩:∃x,Hid ((wa.setCell ⟨f1,0,none⟩ (.int .i64 ge)).setCell ⟨f1,1,none⟩ (.int .i64 gp)=x):=⟨_,hid rfl⟩;have hxb:wb.heap[f1]?=some (.cells #[.int .i64 ge,.int .i64 gp] 26 (0,0)):=by rw[←jo.out];exact aW (aW hxa 0 _) 1 _
   have hkb:Kept (· = f1) wa wb:=by rw[←jo.out];exact((Kept.refl (· = f1) wa).setCell (p:=⟨f1,0,none⟩) (.inl rfl) _).setCell (p:=⟨f1,1,none⟩) (.inl rfl) _
   have HYB:=hid (hkb.heap (by have:=Zm.out;show ¬f2=f1;omega) hya);have HKB:Hid (Kept (λ_=>False) w wb):=hid ((qm.out.trans hka).trans' hkb (λk hk hs=>by have:=aeo.out;omega));have HXB:=hid hxb;have XY:=hid (rG.out wb m (HKB.out.cell id HM.out));clear hka hxa hya hxb hkb;go_upto_region 16 with fail
   rw[jo.out];clear x0 x1 z0 z1;go_wp2_with fail
   refine XY.out.mono ?_;rintro e wc ⟨rfl,hkc⟩;have hxc:=hkc.heap id HXB.out;have Zn:=hkc.heap id HYB.out;have x0:=ah Zn 0 rfl;have x1:=ah Zn 1 rfl;have z0:=aF Zn 0;have z1:=aF Zn 1;obtain⟨wd,mM⟩:∃x,Hid ((wc.setCell ⟨f2,0,none⟩ (.int .i64 ge)).setCell ⟨f2,1,none⟩ (.int .i64 gp)=x):=⟨_,hid rfl⟩;have X0:wd.heap[f2]?=some (.cells #[.int .i64 ge,.int .i64 gp] 26 (0,0)):=by rw[←mM.out];exact aW (aW Zn 0 _) 1 _
   have hkd:Kept (· = f2) wc wd:=by rw[←mM.out];exact((Kept.refl (· = f2) wc).setCell (p:=⟨f2,0,none⟩) (.inl rfl) _).setCell (p:=⟨f2,1,none⟩) (.inl rfl) _
   have hxd:=hkd.heap (by have:=Zm.out;show ¬f1=f2;omega) hxc;have HKD:Hid (Kept (λ_=>False) w wd):=hid ((HKB.out.trans hkc).trans' hkd (λk hk hs=>by have:=aeo.out;have:=Zm.out;omega));clear hkc hxc Zn hkd;go_upto_region 17 with fail
   rw[mM.out];clear x0 x1 z0 z1;have x0:=ah hxd 0 rfl;have x1:=ah hxd 1 rfl;have y0:=ah X0 0 rfl;have y1:=ah X0 1 rfl;clear hxd X0;go_wp2_with fail
   go_ret
   exact⟨rfl,HKD.out⟩
 have hfb:(fe==0)=false:=by simpa using hfe
 obtain⟨hkw,U8,hy9⟩:=afh.out w6 (Kept.refl _ _);have HC9:=hid (HP2.out w6 m (hkw.cell id HM.out));clear hfe;have qm:=hid hkw;have HX9:=hid U8;have Xg:=hid hy9;clear hkw U8 hy9;go_wp2_with fail
 refine HC9.out.mono ?_;rintro e wa ⟨rfl,hka⟩;have hxa:=hka.heap id HX9.out;have hya:=hka.heap id Xg.out;have x0:=ah hxa 0 rfl;have x1:=ah hxa 1 rfl;have z0:=aF hxa 0;have z1:=aF hxa 1;obtain⟨wb,jo⟩:∃x,Hid ((wa.setCell ⟨f1,0,none⟩ (.int .i64 ge)).setCell ⟨f1,1,none⟩ (.int .i64 gp)=x):=⟨_,hid rfl⟩;have hxb:wb.heap[f1]?=some (.cells #[.int .i64 ge,.int .i64 gp] 26 (0,0)):=by rw[←jo.out];exact aW (aW hxa 0 _) 1 _
 have hkb:Kept (· = f1) wa wb:=by rw[←jo.out];exact((Kept.refl (· = f1) wa).setCell (p:=⟨f1,0,none⟩) (.inl rfl) _).setCell (p:=⟨f1,1,none⟩) (.inl rfl) _
 have HYB:=hid (hkb.heap (by have:=Zm.out;show ¬f2=f1;omega) hya);have HKB:Hid (Kept (λ_=>False) w wb):=hid ((qm.out.trans hka).trans' hkb (λk hk hs=>by have:=aeo.out;omega));have HXB:=hid hxb;have XY:=hid (rG.out wb m (HKB.out.cell id HM.out));clear hka hxa hya hxb hkb;go_upto_region 16 with fail
 rw[jo.out];clear x0 x1 z0 z1;go_wp2_with fail
 refine XY.out.mono ?_;rintro e wc ⟨rfl,hkc⟩;have hxc:=hkc.heap id HXB.out;have Zn:=hkc.heap id HYB.out;have x0:=ah Zn 0 rfl;have x1:=ah Zn 1 rfl;have z0:=aF Zn 0;have z1:=aF Zn 1;obtain⟨wd,mM⟩:∃x,Hid ((wc.setCell ⟨f2,0,none⟩ (.int .i64 ge)).setCell ⟨f2,1,none⟩ (.int .i64 gp)=x):=⟨_,hid rfl⟩;have X0:wd.heap[f2]?=some (.cells #[.int .i64 ge,.int .i64 gp] 26 (0,0)):=by rw[←mM.out];exact aW (aW Zn 0 _) 1 _
 have hkd:Kept (· = f2) wc wd:=by rw[←mM.out];exact((Kept.refl (· = f2) wc).setCell (p:=⟨f2,0,none⟩) (.inl rfl) _).setCell (p:=⟨f2,1,none⟩) (.inl rfl) _
 have hxd:=hkd.heap (by have:=Zm.out;show ¬f1=f2;omega) hxc;have HKD:Hid (Kept (λ_=>False) w wd):=hid ((HKB.out.trans hkc).trans' hkd (λk hk hs=>by have:=aeo.out;have:=Zm.out;omega));clear hkc hxc Zn hkd;go_upto_region 17 with fail
 rw[mM.out];clear x0 x1 z0 z1;have x0:=ah hxd 0 rfl;have x1:=ah hxd 1 rfl;have y0:=ah X0 0 rfl;have y1:=ah X0 1 rfl;clear hxd X0;go_wp2_with fail
 go_ret
 exact⟨rfl,HKD.out⟩
end Go.Proofs.YtplbdlgmjehckacGreatDoor

