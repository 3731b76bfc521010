/-
 Lemmas for the claims of this seat: the program's functions walked, and plain laws.
-/
import Derived.Test.YtplbdlgmjehckacGreatDoorPkFoTellsFull28
set_option maxRecDepth 100000
set_option maxHeartbeats 12800000
namespace Go.Proofs.YtplbdlgmjehckacGreatDoor
open Go.Lib (hid)
open Go.RowKit
set_option linter.unusedVariables false
set_option linter.unusedSimpArgs false
theorem Rw:(Tryz.prog.info? 166).map (λi=>(i.zero,i.size,i.bytes))=some (some (.agg #[.string ⟨#[]⟩,.string ⟨#[]⟩,.bool false,.bool false,.int .i64 0,.int .i64 0,.int .i64 0]),7,72):=by kernel_rfl
structure aec(w wr:World)(v:Value)(ns:List ak)(k:Int)(n:ak)(rs:List au)(ay:List B)(r:Ans (List aB))(i:Nat)(cs:List aB):Prop where
 own:wr.ownsRow w.heap.size 166 7 v cs.length (cs.map aY).flatten
 kept:Kept (λ_=>False) w wr
 rest:nK ns k n rs ay cs i=r
 low:∀c∈cs,c.w.low 1048576
 few:cs.length≤4*nV (rs.take i)
structure JH(w:World)(B:Nat)(w4 wx:World)(v:Value)(cs:List aB):Prop where
 own:wx.ownsRow w.heap.size 166 7 v cs.length (cs.map aY).flatten
 kept:Kept (λq=>w.heap.size≤q∧q<B) w4 wx
 side:∀q,v.ownBlock=some q→q<B∨w4.heap.size≤q
theorem JH.alloc{w:World}{B:Nat}{w4 wx:World}{v:Value}{cs:List aB}(h:JH w B w4 wx v cs)(o:Obj):JH w B w4 (wx.alloc o) v cs:=⟨h.own.alloc o,h.kept.alloc o,h.side⟩
theorem JH.push{w:World}{B:Nat}{w4 wd EP:World}{v v':Value}{cs cs':List aB}{o:Obj}{gg:Nat}(h:JH w B w4 wd v cs)(h4:w.heap.size≤w4.heap.size)(hB:w.heap.size≤B)(hg:(wd.alloc o).grownBy EP v.ownBlock)(hat:v.ownBlock=some gg∨gg=wd.heap.size+1)
  (ho:EP.ownsRow w.heap.size 166 7 v' cs'.length (cs'.map aY).flatten) (hv:v'.ownBlock=some gg):JH w B w4 EP v' cs':=by
 refine⟨ho,(h.kept.alloc o).grown hg (λq hq=>?_),λq hq=>?_⟩
 ·have h1:=(h.own.lt q hq).1;rcases h.side q hq with h2 | h2
  ·exact .inl ⟨h1,h2⟩
  exact .inr h2
 rw[hv]at hq;cases hq;rcases hat with h1 | h1
 ·exact h.side _ h1
 right;have:=h.kept.size;omega
theorem Oe{l:List ak}{k:Nat}{n:ak}{rules:List au}{ay:List B}(hn:l[k]?=some n):dO l (k:Int) rules ay=(nX l (k:Int) n rules ay).then λcs=>.ok (nM cs):=by
 have hk:=(List.getElem?_eq_some_iff.1 hn).1;unfold dO;rw[if_pos (by unfold vW;simp;omega),Int.toNat_natCast,hn]
def agx(w w':World)(v:Value)(cs:List aB):Prop:=Kept (λ_=>False) w w'∧w'.ownsRow w.heap.size 166 7 v cs.length (cs.map aY).flatten∧(∀c∈cs,c.w.low 1048576)∧cs.length≤1099600000000
def akv(w:World)(r:Ans (List aC))(e:Ending)(w':World):Prop:=Ug w r e w'
theorem JI(ns:List ak)(rs:List au)(hc:Ef ns rs)(ay:List B)(k:Int)(hk : -9223372036854775808≤k∧k≤9223372036854775807)(m:Int)(w:World)(v rv mv:Value)(hv:aX w v ns)(hr:gy w rv rs)(hmv:jR w mv ay)(hm:w.cell? ⟨0,0,none⟩=some (.int .i64 m)):
  Calls Tryz.prog 53 #[v,.int .i64 k,rv,mv] w (Ug w (dO ns k rs ay)):=by
 obtain⟨na,qj,rfl,EM,pJ⟩:=hv.form;obtain⟨ra,adh,rfl,XW,C9⟩:=bH.form hr;obtain⟨ma,afA,rfl,hmc1,aan⟩:=jR.form hmv;unfold maxLen at pJ C9 aan;obtain⟨D,HD⟩:∃D,Hid (dO ns k rs ay=D):=⟨_,hid rfl⟩;rw[HD.out];by_cases hin:0≤k∧k<ns.length
 ·obtain⟨kn,rfl⟩:∃n:Nat,k=n:=⟨k.toNat,by omega⟩;have hkl:kn<ns.length:=by omega
  have hn:=List.getElem?_eq_getElem hkl;generalize hgn:ns[kn]=n at hn;clear hgn;obtain⟨R,HR⟩:∃R,Hid (nX ns (kn:Int) n rs ay=R):=⟨_,hid rfl⟩;have HDR:Hid ((R.then λcs=>.ok (nM cs))=D):=hid (by rw[←HD.out,←HR.out];exact(Oe hn).symm);have h0:0<w.heap.size:=World.block_lt_of_cell? w _ hm;have hfn:=hc.nodes.few;have hfr:=hc.few;have HC:=hid hc;have HN:=hid hn;have HV:=hid hv;have HRS:=hid hr;have HMV:=hid hmv;have HM:=hid hm;obtain⟨i0,hi0,hz0,hz1,hz2⟩:=info_parts Rw;obtain⟨j0,hj0,hy0,hy1,hy2⟩:=info_parts qF;obtain⟨g0,hg0,hx0,hx1,hx2⟩:=info_parts sN;clear hc hn hv hr hmv hm hk;have hL0:Hid (aec w w (.slice none 0 0) ns (kn:Int) n rs ay R 0 []):=hid ⟨World.ownsRow_nil _ _ _ _,Kept.refl _ _,by rw[Eh];exact HR.out,by simp,by simp⟩;go_enter Tryz.func53,Tryz.ntmps53
  have hkn:¬(kn:Int)<0:=by omega
  have hkn2:¬(ns.length:Int)≤(kn:Int):=by omega
  go_upto_block 0 with fail
  go_cut [10] (λv wx=>∃cs,Hid (aec w wx v ns (kn:Int) n rs ay R rs.length cs))
  case first=>
   clear hkn hkn2;go_wp2_with fail
   go_loopw [10,45] (λv c wr=>∃(i:Nat) (cs:List aB),i≤rs.length∧c=.int .i64 (i:Int)∧Hid (aec w wr v ns (kn:Int) n rs ay R i cs)) (λ_ c _=>rs.length-(intOf c).toNat)
   case atStart=>exact⟨0,[],by omega,rfl,hL0⟩
   case round=>
    obtain⟨i,cs,hi,rfl,HL⟩:=hrel;obtain⟨bU,hwr0⟩:∃x,x=wr:=⟨_,rfl⟩;subst hwr0;obtain⟨vo,vc,hvf⟩:=dw HL.out.own;subst hvf;by_cases hlt:i<rs.length
    ·have hx:=List.getElem?_eq_getElem hlt;generalize hgx:rs[i]=r at hx;clear hgx;obtain⟨b,o,u,rfl,hcs,PI⟩:=bH.at (eG.kept HRS.out HL.out.kept) hx;obtain⟨sv,dv,rfl,hss,hds⟩:=PI;obtain⟨sa,sc,rfl,hsc1,hsc2⟩:=bH.form hss;obtain⟨da,dc,rfl,Pv,wJ⟩:=bC.form hds;unfold maxLen at hsc2 wJ;have c0:bU.cell? ⟨b,o+i*5,none⟩=some (.string (str r.ay)):=hcs 0 _ rfl;have c1:bU.cell? ⟨b,o+i*5+1,none⟩=some (.slice sa r.aZ.length sc):=hcs 1 _ rfl;have c2:bU.cell? ⟨b,o+i*5+2,none⟩=some (.slice da r.decls.length dc):=hcs 2 _ rfl;have c3:bU.cell? ⟨b,o+i*5+3,none⟩=some (.int .i64 r.lo):=hcs 3 _ rfl;have c4:bU.cell? ⟨b,o+i*5+4,none⟩=some (.int .i64 r.hi):=hcs 4 _ rfl;obtain⟨wz,WT⟩:∃x,Hid (bU.alloc (.cells #[.string (str r.ay),.slice sa r.aZ.length sc,.slice da r.decls.length dc,.int .i64 r.lo,.int .i64 r.hi] 42 (0,0))=x):=⟨_,hid rfl⟩;obtain⟨rk,HRK⟩:∃x,Hid (bU.heap.size=x):=⟨_,hid rfl⟩;have HZB:Hid (wz.heap[rk]?=some (.cells #[.string (str r.ay),.slice sa r.aZ.length sc,.slice da r.decls.length dc,.int .i64 r.lo,.int .i64 r.hi] 42 (0,0))):=hid (by rw[←WT.out,←HRK.out];exact aI bU _);have Ku:Hid (Kept (λ_=>False) bU wz):=hid (by rw[←WT.out];exact(Kept.refl _ bU).alloc _);have hmem:=List.mem_of_getElem? hx;have hft:=HC.out.tests r hmem;have TW:Hid ((kD ns (kn:Int) r.aZ).1.low 1048576):=hid (PG hft);have HVL:=hid (HC.out.vals r hmem);have hnm:=F7 hx;have hnl:=HC.out.decls;have Pm:=hid (wL rs i hx);have hfew:=HL.out.few;have hcb:cs.length≤1099511627776:=by omega
     have HCF:=hid hfew;have hdl:r.decls.length≤1048576:=HC.out.each r hmem;have HX:=hid hx;obtain⟨⟨⟨xa,xb,xc⟩,ok⟩,yD⟩:∃x,Hid (kD ns (kn:Int) r.aZ=x):=⟨_,hid rfl⟩;rw[yD.out]at TW;have XY:Hid (Calls Tryz.prog 61 #[.slice na ns.length qj,.int .i64 (kn:Int),.agg #[.string (str r.ay),.slice sa r.aZ.length sc,.slice da r.decls.length dc,.int .i64 r.lo,.int .i64 r.hi]] wz λe w'=>e=.returned (.tuple #[.agg #[.int .i64 (xa:Int),.int .i64 (xb:Int),.int .i64 (xc:Int)],.bool ok])∧Kept (λ_=>False) wz w'):=hid (by
      have:=Kv ns HC.out.nodes r (.tuple #[.slice sa r.aZ.length sc,.slice da r.decls.length dc]) m wz _ (kn:Int) (aO.kept HV.out (HL.out.kept.trans Ku.out)) ⟨_,_,rfl,qJ.kept hss Ku.out,iy.kept hds Ku.out⟩ hft (by omega) ((HL.out.kept.trans Ku.out).cell id HM.out);rw[yD.out]at this;exact this)
     have HDS:=hid hds;obtain⟨cb,HCN⟩:∃x,Hid (counts r ay=x):=⟨_,hid rfl⟩;have HCI:Hid (r.ay.isEmpty=false→Calls Tryz.prog 65 #[.string (str r.ay),.slice ma ay.length afA] wz λe w'=>e=.returned (.bool cb)∧w'=wz):=hid (λhe=>by
      have:=ad9 r.ay ay wz _ (Y6.kept HMV.out (HL.out.kept.trans Ku.out));have hcc:=HCN.out;unfold counts at hcc;rw[he,Bool.false_or]at hcc;rw[hcc]at this;exact this)
     clear hss hds hx hmem hft hfew hnm hcs;go_upto_region 7 with fail
     rw[WT.out,HRK.out];clear c0 c1 c2 c3 c4;have a0:=ah HZB.out 0 rfl;have a1:=ah HZB.out 1 rfl;have a2:=ah HZB.out 2 rfl;have a3:=ah HZB.out 3 rfl;have a4:=ah HZB.out 4 rfl;go_cut [58] (λc wx=>wx=wz∧c=.bool (!cb))
     case first=>
      clear a1 a2 a3 a4;cases hme:r.ay.isEmpty with
      | true=>
       have hcc:cb=true:=by rw[←HCN.out];unfold counts;rw[hme];rfl
       subst hcc;go_wp2_with fail
       go_meet
       case rel=>exact⟨rfl,rfl⟩
      | false=>
       have HIC:=hid (HCI.out hme);go_wp2_with fail
       refine HIC.out.mono ?_;rintro e w2 ⟨rfl,rfl⟩;go_wp2_with fail
       go_meet
       case rel=>exact⟨rfl,rfl⟩
     case rest=>
      obtain⟨rfl,rfl⟩:=hcut;cases cb with
      | false=>
       have hsk:Hid (nK ns (kn:Int) n rs ay cs (i+1)=R):=hid (by rw[←vI HX.out (by rw[HCN.out,Bool.and_false])];exact HL.out.rest);go_wp2_with fail
       go_roundw
       case measure=>simp[intOf];omega
       case rel=>exact⟨i+1,cs,by omega,by go_num,hid ⟨aK HL.out.own Ku.out (λ_ _=>id),HL.out.kept.trans Ku.out,hsk.out,HL.out.low,by have:=HCF.out;have:=Pm.out;omega⟩⟩
      | true=>
       go_wp2_with fail
       refine XY.out.mono ?_;rintro e w2 ⟨rfl,hk2⟩;go_upto_region 9 with fail
       obtain⟨wa,gX⟩:∃x,Hid (w2.alloc (.cells #[.int .i64 (xa:Int),.int .i64 (xb:Int),.int .i64 (xc:Int)] 119 (0,0))=x):=⟨_,hid rfl⟩;have hya:pF wa w2.heap.size ⟨xa,xb,xc⟩:=by rw[←gX.out];exact aI w2 _
       have hka:Kept (λ_=>False) bU wa:=by rw[←gX.out];exact(Ku.out.trans hk2).alloc _
       have HYA:=hid hya;have CB:=hid hka;rw[gX.out];have b2:wa.cell? ⟨rk,2,none⟩=some (.slice da r.decls.length dc):=by rw[←gX.out];exact dX (hk2.cell id a2) _
       have afD:=(Ku.out.trans hk2).size;clear a0 a1 a2 a3 a4 hk2 hka hya;cases ok with
       | false=>
        have hsk:Hid (nK ns (kn:Int) n rs ay cs (i+1)=R):=hid (by rw[←vI HX.out (by rw[yD.out];rfl)];exact HL.out.rest);go_wp2_with fail
        go_roundw
        case measure=>simp[intOf];omega
        case rel=>exact⟨i+1,cs,by omega,by go_num,hid ⟨aK HL.out.own CB.out (λ_ _=>id),HL.out.kept.trans CB.out,hsk.out,HL.out.low,by have:=HCF.out;have:=Pm.out;omega⟩⟩
       | true=>
        obtain⟨dl,xW⟩:∃x,Hid (fH r.decls=x):=⟨_,hid rfl⟩;have vw:=wS wa _ r.decls (iy.kept HDS.out CB.out) (by omega) HVL.out;rw[xW.out]at vw;replace vw:=hid vw;go_wp2_with fail
        refine vw.out.mono ?_;intro e w4 he4;cases dl with
        | none=>
         obtain⟨rfl,hb4⟩:=he4;have hrr:Hid (R=.bad ⟨5,0⟩):=hid (by rw[←HL.out.rest];exact J3 HX.out (by rw[yD.out,HCN.out];rfl) xW.out);go_wp2_with fail
         refine bodyPost_ret (v:=.tuple #[.slice none 0 0,.int .i64 5]) (by simp[results,Tryz.results53,go_sem]) rfl ?_;rw[←HDR.out,hrr.out];exact⟨rfl,(HL.out.kept.trans CB.out).trans (Kept.of_below hb4),by simp⟩
        | some d=>
         obtain⟨lv,rfl,hb4,hd4⟩:=he4;obtain⟨la,lc,rfl,PK,wM⟩:=dD.form hd4;unfold maxLen at wM;have Kq:=rD xW.out;have hsk:Hid (nK ns (kn:Int) n rs ay (cs++d.map λx=>(⟨x,false,⟨xa,xb,xc⟩⟩:aB)) (i+1)=R):=hid (by
          have:=F8 HX.out (by rw[yD.out,HCN.out];rfl) xW.out (cs:=cs) (n:=n);rw[yD.out]at this;rw[←this];exact HL.out.rest)
         have HD4:Hid (bC w4 (.slice la d.length lc) d):=hid hd4.1;have uY:=hid (CB.out.trans (Kept.of_below hb4));have HY4:Hid (pF w4 w2.heap.size ⟨xa,xb,xc⟩):=hid ((Kept.of_below (S:=λ_=>False) hb4).heap id HYA.out);have PL:=hid (aK HL.out.own uY.out (λ_ _=>id));have MV:w.heap.size≤w4.heap.size:=(HL.out.kept.trans uY.out).size;have hdo:∀q,(Value.slice la d.length lc).ownBlock=some q→wa.heap.size≤q∧q<w4.heap.size:=λq hq=>⟨Nat.le_of_not_lt (hd4.2 q hq).1,(hd4.2 q hq).2⟩
         have akR:bU.heap.size≤w2.heap.size:=afD;have aqJ:w2.heap.size<wa.heap.size:=by have:=gW HYA.out;exact this
         clear hb4 hd4;go_wp2_with fail
         go_loopw [10,79] (λv c wx=>∃j:Nat,j≤d.length∧c=.int .i64 (j:Int)∧Hid (JH w bU.heap.size w4 wx v (cs++(d.take j).map λx=>(⟨x,false,⟨xa,xb,xc⟩⟩:aB)))) (λ_ c _=>d.length-(intOf c).toNat)
         case atStart=>exact⟨0,by omega,rfl,hid ⟨by simpa using PL.out,Kept.refl _ _,λq hq=>.inl (by have:=(HL.out.own.lt q hq).2;omega)⟩⟩
         case round=>
          obtain⟨j,hj,rfl,HI⟩:=hrel;obtain⟨jk,nD⟩:∃x,x=wr:=⟨_,rfl⟩;subst nD;obtain⟨ao,ac,hvf⟩:=dw HI.out.own;subst hvf;have TY:w.heap.size≤bU.heap.size:=HL.out.kept.size;by_cases hjlt:j<d.length
          ·have hy:=List.getElem?_eq_getElem hjlt;generalize qX:d[j]=x at hy;clear qX;have hlen:(cs++(d.take j).map λx=>(⟨x,false,⟨xa,xb,xc⟩⟩:aB)).length=cs.length+j:=by simp;omega
           have hnx:Hid ((cs++(d.take (j+1)).map λx=>(⟨x,false,⟨xa,xb,xc⟩⟩:aB))=(cs++(d.take j).map λx=>(⟨x,false,⟨xa,xb,xc⟩⟩:aB))++[⟨x,false,⟨xa,xb,xc⟩⟩]):=hid (by rw[List.take_add_one,hy,Option.toList_some];simp);obtain⟨db,XZ,rfl,t0,t1,t2⟩:=bC.at (aH.kept HD4.out HI.out.kept (λq hq=>by have:=hdo q hq;omega)) hy;have hyw:pF jk w2.heap.size ⟨xa,xb,xc⟩:=HI.out.kept.heap (by omega) HY4.out;generalize (cs++(d.take j).map λx=>(⟨x,false,⟨xa,xb,xc⟩⟩:aB))=es at *;go_upto_region 16 with fail
           obtain⟨wd,mM⟩:∃x',Hid (jk.alloc (.cells #[.string (str x.name),.string (str x.val),.bool x.strong] 59 (0,0))=x'):=⟨_,rfl⟩;have hdd:wd.heap[jk.heap.size]?=some (.cells #[.string (str x.name),.string (str x.val),.bool x.strong] 59 (0,0)):=by rw[←mM.out];exact aI jk _
           have Ua:Hid (JH w bU.heap.size w4 wd (.slice ao es.length ac) es):=hid (by rw[←mM.out];exact HI.out.alloc _);have X0:pF wd w2.heap.size ⟨xa,xb,xc⟩:=by rw[←mM.out];exact iw hyw _
           have d0:wd.cell? ⟨jk.heap.size,0,none⟩=some (.string (str x.name)):=ah hdd 0 rfl;have d1:wd.cell? ⟨jk.heap.size,1,none⟩=some (.string (str x.val)):=ah hdd 1 rfl;have d2:wd.cell? ⟨jk.heap.size,2,none⟩=some (.bool x.strong):=ah hdd 2 rfl;obtain⟨y1,y2,y3⟩:=X0.ints;simp only at y1 y2 y3;have hsd:w.heap.size≤wd.heap.size:=by have:=gW hdd;have:=HI.out.kept.size;omega
           have hel:es.length≤1099511627776+4194304:=by omega
           rw[mM.out];clear hdd X0 hyw t0 t1 t2 hy;go_wp2_with (at_builtin;refine wpList_append_lies _ rfl _ _ _ rfl w.heap.size 166 i0 _ 7 72 Tryz.underlying164 hi0 hz0 hz1 hz2 rfl (by omega) _ es.length _ (by rfl) (Ua.out.own.alloc _) ⟨wd.heap.size,0,none⟩ 1 1 (aY ⟨x,false,⟨xa,xb,xc⟩⟩) (by rfl) (by rfl) (World.news_of_block (cs:=(aY ⟨x,false,⟨xa,xb,xc⟩⟩).toArray) (t:=166) (fr:=(0,0)) (heap_alloc_new wd _)) (xU _) (by omega) (by unfold maxLen;omega) (by omega) (by simp;omega) (wd.heap.size+1) (by simp) ?_;intro gg cap EP jG dG nY F9)
           have hpush:=Ua.out.push (v':=.slice (some ⟨gg,0,none⟩) (es.length+1) cap) (cs':=es++[⟨x,false,⟨xa,xb,xc⟩⟩]) MV TY dG nY (by rw[←sS,List.length_append];exact jG) rfl;have HPU:=hid hpush;clear hpush jG dG nY d0 d1 d2 y1 y2 y3;go_wp2_with fail
           go_roundw
           case measure=>simp[intOf];omega
           case rel=>exact⟨j+1,by omega,by go_num,hid (by rw[hnx.out,←hlen];exact HPU.out)⟩
          obtain rfl:j=d.length:=by omega
          have hfin:Hid (aec w jk (.slice ao (cs++(d.take d.length).map λx=>(⟨x,false,⟨xa,xb,xc⟩⟩:aB)).length ac) ns (kn:Int) n rs ay R (i+1) (cs++d.map λx=>(⟨x,false,⟨xa,xb,xc⟩⟩:aB))):=hid (by
           have h1:=HI.out;rw[List.take_length]at h1 ⊢;refine⟨h1.own,(HL.out.kept.trans uY.out).trans' h1.kept (λq hq hx=>by omega),hsk.out,λc hc=>?_,?_⟩
           ·rcases List.mem_append.1 hc with hc | hc
            ·exact HL.out.low c hc
            obtain⟨y,_,rfl⟩:=List.mem_map.1 hc;exact TW.out
           have h2:=HCF.out;have h3:=Pm.out;rw[List.length_append,List.length_map,h3];omega)
          go_wp2_with fail
          go_roundw
          case measure=>simp[intOf];omega
          case rel=>exact⟨i+1,_,by omega,by go_num,hfin⟩
    obtain rfl:i=rs.length:=by omega
    go_wp2_with fail
    go_meet
    case rel=>exact⟨cs,HL⟩
  case rest=>
   clear hL0;obtain⟨cs,HL⟩:=hcut;obtain⟨wq,hwq⟩:∃x,x=wc:=⟨_,rfl⟩;subst hwq;obtain⟨vo,vc,hvf⟩:=dw HL.out.own;subst hvf;have HR2:Hid ((iC n).then (λb=>Ans.ok (cs++fQ b))=R):=hid (by rw[←Ko (ns:=ns) (k:=(kn:Int)) (rs:=rs) (ay:=ay)];exact HL.out.rest);obtain⟨nb,qY,av,rfl,g0,g1,g2,g3,g4,g5,hav⟩:=(aO.kept HV.out HL.out.kept).at HN.out;obtain⟨aa,ac0,rfl,ML,wI⟩:=hav.form;unfold maxLen at wI;have HGE:=hid (Gn wq _ n aj hav);obtain⟨⟨gv,gb⟩,HG⟩:∃g,Hid (gJ n.attrs aj=g):=⟨_,hid rfl⟩;rw[HG.out]at HGE;have hgl:gv.length≤1048576:=by have:=xO HC.out.nodes.short (List.mem_of_getElem? HN.out) aj;rw[HG.out]at this;exact this
   have hcb:cs.length≤1099511627776:=by have:=HL.out.few;rw[List.take_length]at this;have:=HC.out.decls;omega
   clear hav;go_wp2_with fail
   refine HGE.out.mono ?_;rintro e w2 ⟨rfl,hk2⟩;have iO:Hid (Kept (λ_=>False) wq w2):=hid hk2;have HSD:=BL gv w2 (by omega);obtain⟨sd,Dc⟩:∃x,Hid (dW gv=x):=⟨_,hid rfl⟩;rw[Dc.out]at HSD;replace HSD:=hid HSD;clear g0 g1 g2 g3 g4 g5 hk2;go_wp2_with fail
   refine HSD.out.mono ?_;intro e w3 he3;cases sd with
   | bad f=>
    obtain⟨rfl,hb3⟩:=he3;have hne:=(kK Dc.out).1;have hrr:Hid (R=.bad ⟨f.err,0⟩):=hid (by rw[←HR2.out];unfold iC;rw[HG.out,Dc.out];rfl);have ahD:((f.err:Int) != 0)=true:=by simp;omega
    go_upto_region 21 with fail
    obtain⟨wf,Ei⟩:∃x,Hid (w3.alloc (.cells #[.int .i64 (f.err:Int),.int .i64 (f.pos:Int)] 26 (0,0))=x):=⟨_,hid rfl⟩;have hf0:wf.cell? ⟨w3.heap.size,0,none⟩=some (.int .i64 (f.err:Int)):=by rw[←Ei.out];exact ah (aI w3 _) 0 rfl
    have yQ:Hid (Kept (λ_=>False) w wf):=hid (by rw[←Ei.out];exact((HL.out.kept.trans iO.out).trans (Kept.of_below hb3)).alloc _);rw[Ei.out];clear hb3;go_wp2_with fail
    go_quiet (fail)
    go_wp2_with fail
    refine bodyPost_ret (v:=.tuple #[.slice none 0 0,.int .i64 (f.err:Int)]) (by simp[results,Tryz.results53,go_sem]) rfl ?_;rw[←HDR.out,hrr.out];exact⟨rfl,yQ.out.drewN _,hne⟩
   | ok ds=>
    obtain⟨lv,rfl,hb3,hd3⟩:=he3;obtain⟨la,lc,rfl,PK,wM⟩:=dD.form hd3;unfold maxLen at wM;obtain⟨aao,akS⟩:=kY Dc.out;go_upto_region 21 with fail
    obtain⟨wf,Ei⟩:∃x,Hid (w3.alloc (.cells #[.int .i64 0,.int .i64 0] 26 (0,0))=x):=⟨_,rfl⟩;have hf0:wf.cell? ⟨w3.heap.size,0,none⟩=some (.int .i64 0):=by rw[←Ei.out];exact ah (aI w3 _) 0 rfl
    have WH:Kept (λ_=>False) wq wf:=by rw[←Ei.out];exact(iO.out.trans (Kept.of_below hb3)).alloc _
    have hdf:bC wf (.slice la ds.length lc) ds:=by rw[←Ei.out];exact aH.alloc hd3.1 _
    have yQ:=hid WH;have HVL:Hid (∀d∈ds,d.val.length≤1048576):=hid (λd hd=>by obtain⟨ws,_,_,_,hl⟩:=(aao d hd).2;omega);rw[Ei.out];obtain⟨dl,xW⟩:∃x,Hid (fH ds=x):=⟨_,rfl⟩;have vw:=wS wf _ ds hdf (by omega) HVL.out;rw[xW.out]at vw;replace vw:=hid vw;have hsf:wq.heap.size≤wf.heap.size:=WH.size;clear hb3 hd3 WH hdf aao;go_wp2_with fail
    refine vw.out.mono ?_;intro e w4 he4;cases dl with
    | none=>
     obtain⟨rfl,hb4⟩:=he4;have hrr:Hid (R=.bad ⟨5,0⟩):=hid (by rw[←HR2.out];unfold iC;rw[HG.out,Dc.out];simp only;rw[xW.out];rfl);go_wp2_with fail
     refine bodyPost_ret (v:=.tuple #[.slice none 0 0,.int .i64 5]) (by simp[results,Tryz.results53,go_sem]) rfl ?_;rw[←HDR.out,hrr.out];exact⟨rfl,(HL.out.kept.trans yQ.out).trans (Kept.of_below hb4),by simp⟩
    | some d=>
     obtain⟨lv,rfl,hb4,hd4⟩:=he4;obtain⟨la2,lc2,rfl,akT,afF⟩:=dD.form hd4;unfold maxLen at afF;have Kq:=rD xW.out;have hrr:Hid (R=.ok (cs++fQ d)):=hid (by rw[←HR2.out];unfold iC;rw[HG.out,Dc.out];simp only;rw[xW.out];rfl);have HD4:Hid (bC w4 (.slice la2 d.length lc2) d):=hid hd4.1;have uY:=hid (yQ.out.trans (Kept.of_below hb4));have PL:=hid (aK HL.out.own uY.out (λ_ _=>id));have MV:w.heap.size≤w4.heap.size:=(HL.out.kept.trans uY.out).size;have hdo:∀q,(Value.slice la2 d.length lc2).ownBlock=some q→wf.heap.size≤q∧q<w4.heap.size:=λq hq=>⟨Nat.le_of_not_lt (hd4.2 q hq).1,(hd4.2 q hq).2⟩
     have TY:w.heap.size≤wq.heap.size:=HL.out.kept.size;clear hb4 hd4;go_upto_block 4 with fail
     go_cut [10] (λv wx=>Hid (agx w wx v (cs++fQ d)))
     case first=>
      go_wp2_with fail
      go_loopw [10,119] (λv c wx=>∃j:Nat,j≤d.length∧c=.int .i64 (j:Int)∧Hid (JH w wq.heap.size w4 wx v (cs++(d.take j).map λx=>(⟨x,true,⟨0,0,0⟩⟩:aB)))) (λ_ c _=>d.length-(intOf c).toNat)
      case atStart=>exact⟨0,by omega,rfl,hid ⟨by simpa using PL.out,Kept.refl _ _,λq hq=>.inl (by have:=(HL.out.own.lt q hq).2;omega)⟩⟩
      case round=>
       obtain⟨j,hj,rfl,HI⟩:=hrel;obtain⟨jk,nD⟩:∃x,x=wr:=⟨_,rfl⟩;subst nD;obtain⟨ao,ac,hvf⟩:=dw HI.out.own;subst hvf;by_cases hjlt:j<d.length
       ·have hy:=List.getElem?_eq_getElem hjlt;generalize qX:d[j]=x at hy;clear qX;have hlen:(cs++(d.take j).map λx=>(⟨x,true,⟨0,0,0⟩⟩:aB)).length=cs.length+j:=by simp;omega
        have hnx:Hid ((cs++(d.take (j+1)).map λx=>(⟨x,true,⟨0,0,0⟩⟩:aB))=(cs++(d.take j).map λx=>(⟨x,true,⟨0,0,0⟩⟩:aB))++[⟨x,true,⟨0,0,0⟩⟩]):=hid (by rw[List.take_add_one,hy,Option.toList_some];simp);obtain⟨db,XZ,rfl,t0,t1,t2⟩:=bC.at (aH.kept HD4.out HI.out.kept (λq hq=>by have:=hdo q hq;omega)) hy;generalize (cs++(d.take j).map λx=>(⟨x,true,⟨0,0,0⟩⟩:aB))=es at *;go_upto_region 29 with fail
        obtain⟨wd,mM⟩:∃x',Hid (jk.alloc (.cells #[.string (str x.name),.string (str x.val),.bool x.strong] 59 (0,0))=x'):=⟨_,rfl⟩;have hdd:wd.heap[jk.heap.size]?=some (.cells #[.string (str x.name),.string (str x.val),.bool x.strong] 59 (0,0)):=by rw[←mM.out];exact aI jk _
        have Ua:Hid (JH w wq.heap.size w4 wd (.slice ao es.length ac) es):=hid (by rw[←mM.out];exact HI.out.alloc _);have d0:wd.cell? ⟨jk.heap.size,0,none⟩=some (.string (str x.name)):=ah hdd 0 rfl;have d1:wd.cell? ⟨jk.heap.size,1,none⟩=some (.string (str x.val)):=ah hdd 1 rfl;have d2:wd.cell? ⟨jk.heap.size,2,none⟩=some (.bool x.strong):=ah hdd 2 rfl;have hsd:w.heap.size≤wd.heap.size:=by have:=gW hdd;have:=HI.out.kept.size;omega
        have hel:es.length≤1099511627776+80:=by omega
        rw[mM.out];clear hdd t0 t1 t2 hy;go_wp2_with (at_builtin;refine wpList_append_lies _ rfl _ _ _ rfl w.heap.size 166 i0 _ 7 72 Tryz.underlying164 hi0 hz0 hz1 hz2 rfl (by omega) _ es.length _ (by rfl) (Ua.out.own.alloc _) ⟨wd.heap.size,0,none⟩ 1 1 (aY ⟨x,true,⟨0,0,0⟩⟩) (by rfl) (by rfl) (World.news_of_block (cs:=(aY ⟨x,true,⟨0,0,0⟩⟩).toArray) (t:=166) (fr:=(0,0)) (heap_alloc_new wd _)) (xU _) (by omega) (by unfold maxLen;omega) (by omega) (by simp;omega) (wd.heap.size+1) (by simp) ?_;intro gg cap EP jG dG nY F9)
        have hpush:=Ua.out.push (v':=.slice (some ⟨gg,0,none⟩) (es.length+1) cap) (cs':=es++[⟨x,true,⟨0,0,0⟩⟩]) MV TY dG nY (by rw[←sS,List.length_append];exact jG) rfl;have HPU:=hid hpush;clear hpush jG dG nY d0 d1 d2;go_wp2_with fail
        go_roundw
        case measure=>simp[intOf];omega
        case rel=>exact⟨j+1,by omega,by go_num,hid (by rw[hnx.out,←hlen];exact HPU.out)⟩
       obtain rfl:j=d.length:=by omega
       go_wp2_with fail
       go_meet
       case rel=>
        have h1:=HI.out;rw[List.take_length]at h1 ⊢;refine hid ⟨(HL.out.kept.trans uY.out).trans' h1.kept (λq hq hx=>by omega),h1.own,λc hc=>?_,?_⟩
        ·rcases List.mem_append.1 hc with hc | hc
         ·exact HL.out.low c hc
         obtain⟨y,_,rfl⟩:=List.mem_map.1 hc;exact⟨Nat.zero_le _,Nat.zero_le _,Nat.zero_le _⟩
        unfold fQ;rw[List.length_append,List.length_map];omega
     case rest=>
      have HCE:=hcut;obtain⟨CS,QI⟩:∃x,Hid (cs++fQ d=x):=⟨_,hid rfl⟩;rw[QI.out]at HCE hrr;have HDD:Hid (Ans.ok (nM CS)=D):=hid (by rw[←HDR.out,hrr.out];rfl);obtain⟨w1,hw1⟩:∃x,x=wc:=⟨_,rfl⟩;subst hw1;clear HD4 uY PL HL HR2 iO yQ hf0 hrr hcut;obtain⟨co,cc,hvf⟩:=dw HCE.out.2.1;subst hvf;have hcl:=HCE.out.2.2.2;have Ui:Hid (∀c∈CS,c.w.low 1048576):=hid HCE.out.2.2.1;have HCR:Hid (aH w1 7 (.slice co CS.length cc) (CS.map aY)):=hid (aS (λr hr=>by obtain⟨x,_,rfl⟩:=List.mem_map.1 hr;rfl) (by simp) HCE.out.2.1);have qm:Hid (Kept (λ_=>False) w w1):=hid HCE.out.1;obtain⟨p0,hp0,hq0,hq1,hq2⟩:=info_parts PX;clear HCE;go_wp2_with fail
      go_loopw [27,132] (λv2 c wr=>∃i:Nat,i≤CS.length∧c=.int .i64 (i:Int)∧Hid (wr.ownsRow w1.heap.size 53 3 v2 (je CS i).length ((je CS i).map aA).flatten)∧Hid (Kept (λ_=>False) w1 wr)) (λ_ c _=>CS.length-(intOf c).toNat)
      case atStart=>exact⟨0,by omega,rfl,hid (World.ownsRow_nil _ _ _ _),hid (Kept.refl _ _)⟩
      case round=>
       obtain⟨i,hi,rfl,HO,YK⟩:=hrel;obtain⟨bU,hwr0⟩:∃x,x=wr:=⟨_,rfl⟩;subst hwr0;obtain⟨vo2,VA,hvf⟩:=dw HO.out;subst hvf;by_cases hlt:i<CS.length
       ·have hx:=List.getElem?_eq_getElem hlt;generalize hgx:CS[i]=c at hx;clear hgx;have HX:=hid hx;have HCL:Hid (c.w.low 1048576):=hid (Ui.out c (List.mem_of_getElem? hx));obtain⟨cb,BN,rfl,hcc⟩:=aH.at (aH.below HCR.out YK.out.below) (k:=i) (r:=aY c) (by simp[hx]);have t0:bU.cell? ⟨cb,BN+i*7,none⟩=some (.string (str c.d.name)):=hcc 0 _ rfl;have t1:bU.cell? ⟨cb,BN+i*7+1,none⟩=some (.string (str c.d.val)):=hcc 1 _ rfl;have t2:bU.cell? ⟨cb,BN+i*7+2,none⟩=some (.bool c.d.strong):=hcc 2 _ rfl;have t3:bU.cell? ⟨cb,BN+i*7+3,none⟩=some (.bool c.own):=hcc 3 _ rfl;have t4:bU.cell? ⟨cb,BN+i*7+4,none⟩=some (.int .i64 (c.w.a:Int)):=hcc 4 _ rfl;have t5:bU.cell? ⟨cb,BN+i*7+5,none⟩=some (.int .i64 (c.w.b:Int)):=hcc 5 _ rfl;have t6:bU.cell? ⟨cb,BN+i*7+6,none⟩=some (.int .i64 (c.w.c:Int)):=hcc 6 _ rfl;obtain⟨wz,WT⟩:∃x,Hid (bU.alloc (.cells #[.string (str c.d.name),.string (str c.d.val),.bool c.d.strong,.bool c.own,.int .i64 (c.w.a:Int),.int .i64 (c.w.b:Int),.int .i64 (c.w.c:Int)] 166 (0,0))=x):=⟨_,hid rfl⟩;obtain⟨bk,HBK⟩:∃x,Hid (bU.heap.size=x):=⟨_,hid rfl⟩;have HZ:Hid (wz.heap[bk]?=some (.cells #[.string (str c.d.name),.string (str c.d.val),.bool c.d.strong,.bool c.own,.int .i64 (c.w.a:Int),.int .i64 (c.w.b:Int),.int .i64 (c.w.c:Int)] 166 (0,0))):=hid (by rw[←WT.out,←HBK.out];exact aI bU _);have Ku:Hid (Kept (λ_=>False) w1 wz):=hid (by rw[←WT.out];exact YK.out.alloc _);have HOZ:=hid (aK HO.out (S:=λ_=>False) (w':=wz) (by rw[←WT.out];exact(Kept.refl _ bU).alloc _) (λ_ _=>id));clear hcc hx;go_upto_region 36 with fail
        rw[WT.out,HBK.out];clear t0 t1 t2 t3 t4 t5 t6;go_upto_block 8 with fail
        go_cut [30] (λbv wx=>∃bb:Bool,bv=.bool bb∧Hid (oC CS i c CS.length=bb)∧Hid (Kept (λ_=>False) wz wx))
        case first=>
         go_wp2_with fail
         go_loopw [30,139] (λbv cj wx=>∃(j:Nat) (bb:Bool),j≤CS.length∧cj=.int .i64 (j:Int)∧bv=.bool bb∧Hid (oC CS i c j=bb)∧Hid (Kept (λ_=>False) wz wx)) (λ_ cj _=>CS.length-(intOf cj).toNat)
         case atStart=>exact⟨0,true,by omega,rfl,rfl,hid rfl,hid (Kept.refl _ _)⟩
         case round=>
          obtain⟨j,bb,hj,rfl,rfl,HW,JC⟩:=hrel;obtain⟨ZT,agz⟩:∃x,x=wr:=⟨_,rfl⟩;subst agz;by_cases hjlt:j<CS.length
          ·have hy:=List.getElem?_eq_getElem hjlt;generalize qX:CS[j]=o at hy;clear qX;have HOL:Hid (o.w.low 1048576):=hid (Ui.out o (List.mem_of_getElem? hy));have Eo:Hid (oC CS i c (j+1)=(bb&&(if o.d.name=c.d.name then (if i<j then !gV o c else if j<i then gV c o else true) else true))):=hid (by
            show(oC CS i c j&&Y3 CS i c j)=_
            rw[HW.out];unfold Y3;rw[hy])
           obtain⟨ob,aqK,hoe,hoc⟩:=aH.at (aH.below HCR.out (Ku.out.trans JC.out).below) (k:=j) (r:=aY o) (by simp[hy]);cases hoe;have t0:ZT.cell? ⟨cb,BN+j*7,none⟩=some (.string (str o.d.name)):=hoc 0 _ rfl;have t1:ZT.cell? ⟨cb,BN+j*7+1,none⟩=some (.string (str o.d.val)):=hoc 1 _ rfl;have t2:ZT.cell? ⟨cb,BN+j*7+2,none⟩=some (.bool o.d.strong):=hoc 2 _ rfl;have t3:ZT.cell? ⟨cb,BN+j*7+3,none⟩=some (.bool o.own):=hoc 3 _ rfl;have t4:ZT.cell? ⟨cb,BN+j*7+4,none⟩=some (.int .i64 (o.w.a:Int)):=hoc 4 _ rfl;have t5:ZT.cell? ⟨cb,BN+j*7+5,none⟩=some (.int .i64 (o.w.b:Int)):=hoc 5 _ rfl;have t6:ZT.cell? ⟨cb,BN+j*7+6,none⟩=some (.int .i64 (o.w.c:Int)):=hoc 6 _ rfl;obtain⟨wy,JZ⟩:∃x,Hid (ZT.alloc (.cells #[.string (str o.d.name),.string (str o.d.val),.bool o.d.strong,.bool o.own,.int .i64 (o.w.a:Int),.int .i64 (o.w.b:Int),.int .i64 (o.w.c:Int)] 166 (0,0))=x):=⟨_,hid rfl⟩;obtain⟨yk,HYK⟩:∃x,Hid (ZT.heap.size=x):=⟨_,hid rfl⟩;have hyb:wy.heap[yk]?=some (.cells #[.string (str o.d.name),.string (str o.d.val),.bool o.d.strong,.bool o.own,.int .i64 (o.w.a:Int),.int .i64 (o.w.b:Int),.int .i64 (o.w.c:Int)] 166 (0,0)):=by rw[←JZ.out,←HYK.out];exact aI ZT _
           have Tm:Hid (Kept (λ_=>False) wz wy):=hid (by rw[←JZ.out];exact JC.out.alloc _);have hcb:=Tm.out.heap id HZ.out;have HC1:Hid (Calls Tryz.prog 90 #[.agg #[.string (str o.d.name),.string (str o.d.val),.bool o.d.strong,.bool o.own,.int .i64 (o.w.a:Int),.int .i64 (o.w.b:Int),.int .i64 (o.w.c:Int)],.agg #[.string (str c.d.name),.string (str c.d.val),.bool c.d.strong,.bool c.own,.int .i64 (c.w.a:Int),.int .i64 (c.w.b:Int),.int .i64 (c.w.c:Int)]] wy λe w'=>e=.returned (.bool (gV o c))∧Kept (λ_=>False) wy w'):=hid (Ip o c HOL.out HCL.out wy);have HC2:Hid (Calls Tryz.prog 90 #[.agg #[.string (str c.d.name),.string (str c.d.val),.bool c.d.strong,.bool c.own,.int .i64 (c.w.a:Int),.int .i64 (c.w.b:Int),.int .i64 (c.w.c:Int)],.agg #[.string (str o.d.name),.string (str o.d.val),.bool o.d.strong,.bool o.own,.int .i64 (o.w.a:Int),.int .i64 (o.w.b:Int),.int .i64 (o.w.c:Int)]] wy λe w'=>e=.returned (.bool (gV c o))∧Kept (λ_=>False) wy w'):=hid (Ip c o HCL.out HOL.out wy);go_upto_region 40 with fail
           rw[JZ.out,HYK.out];clear t0 t1 t2 t3 t4 t5 t6 hoc hy;have y0:=ah hyb 0 rfl;have y1:=ah hyb 1 rfl;have y2:=ah hyb 2 rfl;have y3:=ah hyb 3 rfl;have y4:=ah hyb 4 rfl;have y5:=ah hyb 5 rfl;have y6:=ah hyb 6 rfl;have x0:=ah hcb 0 rfl;have x1:=ah hcb 1 rfl;have x2:=ah hcb 2 rfl;have x3:=ah hcb 3 rfl;have x4:=ah hcb 4 rfl;have x5:=ah hcb 5 rfl;have x6:=ah hcb 6 rfl;clear hyb hcb;cases hnm:(o.d.name==c.d.name)with
           | false=>
            have hn2:Hid (oC CS i c (j+1)=bb):=hid (by rw[Eo.out,if_neg (by simpa using hnm),Bool.and_true]);go_wp2_with fail
            go_roundw
            case measure=>simp[intOf];omega
            case rel=>exact⟨j+1,bb,by omega,by go_num,rfl,hn2,Tm⟩
           | true=>
            have hnx:=Eo.out;rw[if_pos (by simpa using hnm)]at hnx;rcases Nat.lt_trichotomy i j with hij | hij | hij
            ·rw[if_pos hij]at hnx;have Og:=hid hnx;have e1:((i:Int)==(j:Int))=false:=by simp;omega
             have e2:(i:Int)<(j:Int):=by omega
             have e3:¬(j:Int)<(i:Int):=by omega
             obtain⟨hb,HHB⟩:∃x,Hid (gV o c=x):=⟨_,hid rfl⟩;have HC3:=HC1.out;rw[HHB.out]at HC3;replace HC3:=hid HC3;rw[HHB.out]at Og;clear hnx hij;go_wp2_with fail
             refine HC3.out.mono ?_;rintro e w8 ⟨rfl,hk8⟩;have Au:=hid (Tm.out.trans hk8);clear hk8 x0 x1 x2 x3 x4 x5 x6 y0 y1 y2 y3 y4 y5 y6;cases hb with
             | true=>
              go_wp2_with fail
              go_roundw
              case measure=>simp[intOf];omega
              case rel=>exact⟨j+1,false,by omega,by go_num,rfl,hid (by rw[Og.out];simp),Au⟩
             | false=>
              go_wp2_with fail
              go_roundw
              case measure=>simp[intOf];omega
              case rel=>exact⟨j+1,bb,by omega,by go_num,rfl,hid (by rw[Og.out];simp),Au⟩
            ·subst hij;rw[if_neg (by omega),if_neg (by omega),Bool.and_true]at hnx;have Og:=hid hnx;clear hnx;go_wp2_with fail
             go_roundw
             case measure=>simp[intOf];omega
             case rel=>exact⟨i+1,bb,by omega,by go_num,rfl,Og,Tm⟩
            rw[if_neg (by omega),if_pos hij]at hnx;have Og:=hid hnx;have e1:((i:Int)==(j:Int))=false:=by simp;omega
            have e2:(j:Int)<(i:Int):=by omega
            have e3:¬(i:Int)<(j:Int):=by omega
            obtain⟨hb,HHB⟩:∃x,Hid (gV c o=x):=⟨_,hid rfl⟩;have HC3:=HC2.out;rw[HHB.out]at HC3;replace HC3:=hid HC3;rw[HHB.out]at Og;clear hnx hij;go_wp2_with fail
            refine HC3.out.mono ?_;rintro e w8 ⟨rfl,hk8⟩;have Au:=hid (Tm.out.trans hk8);clear hk8 x0 x1 x2 x3 x4 x5 x6 y0 y1 y2 y3 y4 y5 y6;cases hb with
            | true=>
             go_wp2_with fail
             go_roundw
             case measure=>simp[intOf];omega
             case rel=>exact⟨j+1,bb,by omega,by go_num,rfl,hid (by rw[Og.out];simp),Au⟩
            | false=>
             go_wp2_with fail
             go_roundw
             case measure=>simp[intOf];omega
             case rel=>exact⟨j+1,false,by omega,by go_num,rfl,hid (by rw[Og.out];simp),Au⟩
          obtain rfl:j=CS.length:=by omega
          go_wp2_with fail
          go_meet
          case rel=>exact⟨bb,rfl,HW,JC⟩
        case rest=>
         obtain⟨bb,rfl,HW,JC⟩:=hcut;have ZR:Hid (je CS (i+1)=if bb=true then Ac c.d (je CS i) else je CS i):=hid (by rw[Iu HX.out,HW.out]);obtain⟨w2,hw2⟩:∃x,x=wc:=⟨_,rfl⟩;subst hw2;cases bb with
         | false=>
          have hnl:=ZR.out;rw[if_neg (by simp)]at hnl;have HO2:Hid (w2.ownsRow w1.heap.size 53 3 (.slice vo2 (je CS i).length VA) (je CS (i+1)).length ((je CS (i+1)).map aA).flatten):=hid (by rw[hnl];exact aK HOZ.out JC.out (λ_ _=>id));clear hnl;go_wp2_with fail
          go_roundw
          case measure=>simp[intOf];omega
          case rel=>exact⟨i+1,by omega,by go_num,HO2,hid (Ku.out.trans JC.out)⟩
         | true=>
          have hnl:=ZR.out;rw[if_pos rfl]at hnl;have aje:=DT CS i;obtain⟨ys,HYS⟩:∃x,Hid (je CS i=x):=⟨_,hid rfl⟩;have ho2:=aK HOZ.out JC.out (λ_ _=>id);rw[HYS.out]at hnl ho2 aje ⊢;have hyl:ys.length≤1099599999999:=by omega
          have ajf:=hid hnl;have hbx:=JC.out.heap id HZ.out;have x0:=ah hbx 0 rfl;have x1:=ah hbx 1 rfl;have x2:=ah hbx 2 rfl;obtain⟨wb,jo⟩:∃x,Hid (w2.alloc (.cells #[.string (str c.d.name),.string (str c.d.val),.bool c.d.strong] 53 (0,0))=x):=⟨_,hid rfl⟩;obtain⟨xk,HXK⟩:∃x,Hid (w2.heap.size=x):=⟨_,hid rfl⟩;have HXB:Hid (wb.heap[xk]?=some (.cells #[.string (str c.d.name),.string (str c.d.val),.bool c.d.strong] 53 (0,0))):=hid (by rw[←jo.out,←HXK.out];exact aI w2 _);have HOB:Hid (wb.ownsRow w1.heap.size 53 3 (.slice vo2 ys.length VA) ys.length (ys.map aA).flatten):=hid (by rw[←jo.out];exact ho2.alloc _);have HKB:Hid (Kept (λ_=>False) w1 wb):=hid (by rw[←jo.out];exact(Ku.out.trans JC.out).alloc _);obtain⟨pp,HPP⟩:∃x,Hid (yK c.d.name ys=x):=⟨_,hid rfl⟩;have hpl:pp≤ys.length:=by rw[←HPP.out];exact aeb _ _
          clear hbx hnl ho2 aje ZR;go_upto_region 46 with fail
          rw[jo.out,HXK.out];clear x0 x1 x2;go_upto_block 10 with fail
          go_cut [34] (λp wx=>p=.int .i64 (pp:Int)∧Hid (Qt wb wx))
          case first=>
           go_wp2_with fail
           go_loopw [34] (λp wx=>∃j:Nat,j≤pp∧p=.int .i64 (j:Int)∧Hid (Qt wb wx)) (λp _=>pp-(intOf p).toNat)
           case atStart=>exact⟨0,by omega,rfl,hid (Qt.refl _)⟩
           case round=>
            obtain⟨j,hj,rfl,HQ⟩:=hrel;obtain⟨ZT,agz⟩:∃x,x=wr:=⟨_,rfl⟩;subst agz;by_cases hjl:j<ys.length
            ·have hy:=List.getElem?_eq_getElem hjl;generalize qX:ys[j]=y at hy;clear qX;have hdy:bC ZT (.slice vo2 ys.length VA) ys:=aH.quiet (aS ku (by simp) HOB.out) HQ.out;obtain⟨yb,yo,hye,t0,t1,t2⟩:=bC.at hdy hy;subst hye;have hxb:=(HQ.out.kept (λ_=>False)).heap id HXB.out;have x0:=ah hxb 0 rfl;have e1:decide ((j:Int)<(ys.length:Int))=true:=by simp;omega
             by_cases hjp:j<pp
             ·have e2:Op.bytesLess y.name c.d.name=true:=by rw[Bg];exact Xi c.d.name ys j y (by rw[HPP.out];exact hjp) hy
              clear hy t1 t2 hdy hxb;go_wp2_with fail
              go_quiet (fail)
              go_wp2_with fail
              go_roundw
              case measure=>simp[intOf];omega
              case rel=>exact⟨j+1,by omega,by go_num,hid (Qt.trans HQ.out ⟨nq,rfl⟩)⟩
             obtain rfl:j=pp:=by omega
             have e2:Op.bytesLess y.name c.d.name=false:=by rw[Bg];exact Rt c.d.name ys y (by rw[HPP.out];exact hy)
             clear hy t1 t2 hdy hxb;go_wp2_with fail
             go_quiet (fail)
             go_wp2_with fail
             go_meet
             case rel=>exact⟨rfl,hid (Qt.trans HQ.out ⟨nq,rfl⟩)⟩
            have e1:decide ((j:Int)<(ys.length:Int))=false:=by simp;omega
            obtain rfl:j=pp:=by omega
            go_wp2_with fail
            go_quiet (fail)
            go_wp2_with fail
            go_meet
            case rel=>exact⟨rfl,hid (Qt.trans HQ.out ⟨nq,rfl⟩)⟩
          case rest=>
           obtain⟨rfl,HQ⟩:=hcut;obtain⟨w5,hw5⟩:∃x,x=wc:=⟨_,rfl⟩;subst hw5;have hk5:=HQ.out.kept (λ_=>False);have hxb:=hk5.heap id HXB.out;have c0:=ah hxb 0 rfl;have c1:=ah hxb 1 rfl;have c2:=ah hxb 2 rfl;have ho5:=aK HOB.out hk5 (λ_ _=>id);have zF:=hid (HKB.out.trans hk5);have hs5:w1.heap.size≤w5.heap.size:=zF.out.size;have Jz:Hid (∀(w8:World) (a8:Option Addr) (c8 N:Nat),N=pp+1+(ys.length-pp)→w8.ownsRow w5.heap.size 53 3 (.slice a8 N c8) N (((ys.take pp).map aA++[aA c.d])++(ys.drop pp).map aA).flatten →
             w8.ownsRow w1.heap.size 53 3 (.slice a8 N c8) (je CS (i+1)).length ((je CS (i+1)).map aA).flatten∧N=(je CS (i+1)).length):=hid (λw8 a8 c8 N hN ho=>by
            have he:=Xj c.d ys;rw[HPP.out]at he;have hl:(je CS (i+1)).length=N:=by rw[ajf.out,Iw];omega
            rw[hl];refine⟨?_,rfl⟩;rw[ajf.out,he,List.map_append,List.map_append];exact Y4 ho hs5)
           clear hxb hk5;have EA:(w5.drew.alloc (.cells #[] 53 (0,0))).heap[w5.heap.size]?=some (.cells #[] 53 (0,0)):=aI w5.drew _;have agA:((w5.drew.alloc (.cells #[] 53 (0,0))).alloc (.cells #[.string (str c.d.name),.string (str c.d.val),.bool c.d.strong] 53 (0,0))).heap[w5.heap.size]?=some (.cells #[] 53 (0,0)):=iw EA _;have Y7:((w5.drew.alloc (.cells #[] 53 (0,0))).alloc (.cells #[.string (str c.d.name),.string (str c.d.val),.bool c.d.strong] 53 (0,0))).heap[w5.heap.size+1]?=some (.cells #[.string (str c.d.name),.string (str c.d.val),.bool c.d.strong] 53 (0,0)):=by
            have:=aI (w5.drew.alloc (.cells #[] 53 (0,0))) (.cells #[.string (str c.d.name),.string (str c.d.val),.bool c.d.strong] 53 (0,0));simpa using this
           have Y8:((w5.drew.alloc (.cells #[.string (str c.d.name),.string (str c.d.val),.bool c.d.strong] 53 (0,0))).alloc (.cells #[] 53 (0,0))).heap[w5.heap.size]?=some (.cells #[.string (str c.d.name),.string (str c.d.val),.bool c.d.strong] 53 (0,0)):=iw (aI w5.drew _) _;have agB:((w5.drew.alloc (.cells #[.string (str c.d.name),.string (str c.d.val),.bool c.d.strong] 53 (0,0))).alloc (.cells #[] 53 (0,0))).heap[w5.heap.size+1]?=some (.cells #[] 53 (0,0)):=by
            have:=aI (w5.drew.alloc (.cells #[.string (str c.d.name),.string (str c.d.val),.bool c.d.strong] 53 (0,0))) (.cells #[] 53 (0,0));simpa using this
           have Ti:Hid (∀r∈(ys.take pp).map aA,r.length=3):=hid LH;have HLD:Hid (∀r∈(ys.drop pp).map aA,r.length=3):=hid LH;have HOT:Hid (∀u∈((ys.take pp).map aA).flatten,u.oneCell'=true):=hid Iy;have HOD:Hid (∀u∈((ys.drop pp).map aA).flatten,u.oneCell'=true):=hid Iy;have HON:Hid (∀u∈aA c.d,u.oneCell'=true):=hid (by
            intro u hu;simp only[aA,List.mem_cons,List.not_mem_nil,or_false]at hu;rcases hu with rfl | rfl | rfl<;>rfl)
           have i1:(0:Int)≤(pp:Int):=by omega
           have i4:(pp:Int)≤(ys.length:Int):=by omega
           rcases ho5.2 with⟨hv,hn⟩ | ⟨g,cap,cur,hv,hg1,hg2,hg3,hg4,hg5,Dy⟩
           ·simp only[Value.slice.injEq]at hv;obtain⟨rfl,_,rfl⟩:=hv;obtain rfl:ys=[]:=List.length_eq_zero_iff.1 hn;obtain rfl:pp=0:=by simpa using hpl
            have HRT:Hid (aH w5 3 (.slice none 0 0) (([]:List aC).map aA)):=hid (aH.nil _ _);simp only[List.take_nil,List.drop_nil,List.length_nil]at Ti HLD HOT HOD Jz;clear ho5 hn;go_wp2_with fail
            go_region_held3 (λw'=>w'.cell? ⟨xk,0,none⟩=some (.string (str c.d.name))∧w'.cell? ⟨xk,1,none⟩=some (.string (str c.d.val))∧w'.cell? ⟨xk,2,none⟩=some (.bool c.d.strong))
             (first | exact⟨hk8.cell id c0,hk8.cell id c1,hk8.cell id c2⟩ | exact⟨jD.cell id c0,jD.cell id c1,jD.cell id c2⟩ | exact⟨hk6.cell id c0,hk6.cell id c1,hk6.cell id c2⟩ | go_keep)
             (first
              | (refine Vz (w5:=w5) hp0 hq0 rfl hq1 hq2 (by rfl) (.tmp 212) (.tmp 215) (by rfl) _ _ 1 _ _ 0 _ _ (by rfl) (by rfl) Ue jD HRT.out HLD.out HOD.out (by omega) (by omega) ?_;intro a8 c8 w8 OG hk8)
              | (refine Vy (w5:=w5) hp0 hq0 rfl hq1 hq2 (by rfl) (.tmp 209) (.tmp 211) (by rfl) _ _ 0 _ (([]:List aC).map aA) (aA c.d) (by rfl) HON.out (by rfl) (by rfl) (by first | exact CG | exact CG.alloc _) (by first | exact aI _ _ | exact Lc _ _ (by omega) Y7 | exact Lc _ _ (by omega) Y8) (by first | exact hk6 | exact hk6.alloc _) (by omega) ?_;intro a7 c7 w7 Ue jD)
              | (refine Vx (w5:=w5) hp0 hq0 rfl hq1 hq2 (by rfl) (.tmp 205) (.tmp 208) (by rfl) _ _ _ 0 _ (by rfl) (by rfl) (by assumption) (by omega) (by first | exact(Kept.refl _ w5).drew.alloc _ | exact((Kept.refl _ w5).drew.alloc _).alloc _) HRT.out Ti.out HOT.out (by omega) ?_;intro a6 c6 w6 CG hk6 Lc))
            all_goals
             obtain⟨hz8,hz9⟩:=Jz.out w8 a8 c8 _ rfl OG;have HZ8:=hid hz8;have Au:=hid (zF.out.trans hk8);clear OG hk8 Ue jD CG hk6 Lc EA agA Y7 Y8 agB c0 c1 c2 hz8;go_wp2_with fail
             go_roundw
             case measure=>simp[intOf];omega
             case rel=>exact⟨i+1,by omega,by go_num,HZ8,Au⟩
           simp only[Value.slice.injEq]at hv;obtain⟨rfl,_,rfl⟩:=hv;have hca:ys.length≤VA:=hg3;have hcm:VA≤9223372036854775807:=by unfold maxLen at hg4;omega
           have hrw:aH w5 3 (.slice (some ⟨g,0,none⟩) ys.length VA) (ys.map aA):=aS ku (by simp) ho5;have HRT:Hid (aH w5 3 (.slice (some ⟨g,0,none⟩) pp VA) ((ys.take pp).map aA)):=hid (by rw[List.map_take];exact hrw.takeN hpl);have ZJ:Hid (aH w5 3 (.slice (some ⟨g,pp*3,none⟩) (ys.length-pp) (VA-pp)) ((ys.drop pp).map aA)):=hid (by
            have:=hrw.ajc hpl;rw[List.map_drop];rw[Nat.zero_add]at this;exact this)
           have HRN:Hid (VA=pp→aH w5 3 (.slice (some ⟨g,0,none⟩) (ys.length-pp) (VA-pp)) ((ys.drop pp).map aA)):=hid (λhc=>by
            have h0:ys.drop pp=[]:=List.drop_of_length_le (by omega);have h1:ys.length-pp=0:=by omega
            rw[h0,h1];exact Y5 (by unfold maxLen;omega))
           have i2:(pp:Int)≤(VA:Int):=by omega
           clear hrw hg1 hg2 hg3 hg4 hg5 Dy ho5;by_cases hcc:VA=pp
           ·have amo:=hid (HRN.out hcc);have amq:(VA=pp)=True:=by rw[hcc];exact eq_self _
            clear hcc;go_wp2_with fail
            go_region_held3 (λw'=>w'.cell? ⟨xk,0,none⟩=some (.string (str c.d.name))∧w'.cell? ⟨xk,1,none⟩=some (.string (str c.d.val))∧w'.cell? ⟨xk,2,none⟩=some (.bool c.d.strong))
             (first | exact⟨hk8.cell id c0,hk8.cell id c1,hk8.cell id c2⟩ | exact⟨jD.cell id c0,jD.cell id c1,jD.cell id c2⟩ | exact⟨hk6.cell id c0,hk6.cell id c1,hk6.cell id c2⟩ | go_keep)
             (first
              | (refine Vz (w5:=w5) hp0 hq0 rfl hq1 hq2 (by rfl) (.tmp 212) (.tmp 215) (by rfl) _ _ (pp+1) _ _ (ys.length-pp) _ _ (by rfl) (by rfl) Ue jD amo.out HLD.out HOD.out (by omega) (by omega) ?_;intro a8 c8 w8 OG hk8)
              | (refine Vy (w5:=w5) hp0 hq0 rfl hq1 hq2 (by rfl) (.tmp 209) (.tmp 211) (by rfl) _ _ pp _ ((ys.take pp).map aA) (aA c.d) (by rfl) HON.out (by rfl) (by rfl) (by first | exact CG | exact CG.alloc _) (by first | exact aI _ _ | exact Lc _ _ (by omega) Y7 | exact Lc _ _ (by omega) Y8) (by first | exact hk6 | exact hk6.alloc _) (by omega) ?_;intro a7 c7 w7 Ue jD)
              | (refine Vx (w5:=w5) hp0 hq0 rfl hq1 hq2 (by rfl) (.tmp 205) (.tmp 208) (by rfl) _ _ _ pp _ (by rfl) (by rfl) (by assumption) (by omega) (by first | exact(Kept.refl _ w5).drew.alloc _ | exact((Kept.refl _ w5).drew.alloc _).alloc _) HRT.out Ti.out HOT.out (by omega) ?_;intro a6 c6 w6 CG hk6 Lc))
            all_goals
             obtain⟨hz8,hz9⟩:=Jz.out w8 a8 c8 _ rfl OG;have HZ8:=hid hz8;have Au:=hid (zF.out.trans hk8);clear OG hk8 Ue jD CG hk6 Lc EA agA Y7 Y8 agB c0 c1 c2 hz8;go_wp2_with fail
             go_roundw
             case measure=>simp[intOf];omega
             case rel=>exact⟨i+1,by omega,by go_num,HZ8,Au⟩
           have amq:(VA=pp)=False:=by simp;exact hcc
           clear hcc;go_wp2_with fail
           go_region_held3 (λw'=>w'.cell? ⟨xk,0,none⟩=some (.string (str c.d.name))∧w'.cell? ⟨xk,1,none⟩=some (.string (str c.d.val))∧w'.cell? ⟨xk,2,none⟩=some (.bool c.d.strong))
            (first | exact⟨hk8.cell id c0,hk8.cell id c1,hk8.cell id c2⟩ | exact⟨jD.cell id c0,jD.cell id c1,jD.cell id c2⟩ | exact⟨hk6.cell id c0,hk6.cell id c1,hk6.cell id c2⟩ | go_keep)
            (first
             | (refine Vz (w5:=w5) hp0 hq0 rfl hq1 hq2 (by rfl) (.tmp 212) (.tmp 215) (by rfl) _ _ (pp+1) _ _ (ys.length-pp) _ _ (by rfl) (by rfl) Ue jD ZJ.out HLD.out HOD.out (by omega) (by omega) ?_;intro a8 c8 w8 OG hk8)
             | (refine Vy (w5:=w5) hp0 hq0 rfl hq1 hq2 (by rfl) (.tmp 209) (.tmp 211) (by rfl) _ _ pp _ ((ys.take pp).map aA) (aA c.d) (by rfl) HON.out (by rfl) (by rfl) (by first | exact CG | exact CG.alloc _) (by first | exact aI _ _ | exact Lc _ _ (by omega) Y7 | exact Lc _ _ (by omega) Y8) (by first | exact hk6 | exact hk6.alloc _) (by omega) ?_;intro a7 c7 w7 Ue jD)
             | (refine Vx (w5:=w5) hp0 hq0 rfl hq1 hq2 (by rfl) (.tmp 205) (.tmp 208) (by rfl) _ _ _ pp _ (by rfl) (by rfl) (by assumption) (by omega) (by first | exact(Kept.refl _ w5).drew.alloc _ | exact((Kept.refl _ w5).drew.alloc _).alloc _) HRT.out Ti.out HOT.out (by omega) ?_;intro a6 c6 w6 CG hk6 Lc))
           all_goals
            obtain⟨hz8,hz9⟩:=Jz.out w8 a8 c8 _ rfl OG;have HZ8:=hid hz8;have Au:=hid (zF.out.trans hk8);clear OG hk8 Ue jD CG hk6 Lc EA agA Y7 Y8 agB c0 c1 c2 hz8;go_wp2_with fail
            go_roundw
            case measure=>simp[intOf];omega
            case rel=>exact⟨i+1,by omega,by go_num,HZ8,Au⟩
       obtain rfl:i=CS.length:=by omega
       have HLL:Hid (je CS CS.length=nM CS):=hid (Vw CS);go_wp2_with fail
       refine bodyPost_ret (v:=.tuple #[.slice vo2 (je CS CS.length).length VA,.int .i64 0]) (by simp[results,Tryz.results53,go_sem]) rfl ?_;rw[←HDD.out];have ho:=HO.out;have hll:=DT CS CS.length;rw[HLL.out]at ho hll ⊢;exact⟨_,rfl,qm.out.trans YK.out,aS ku (by simp) ho,by omega⟩
 have hD:D=.bad ⟨6,0⟩:=by
  rw[←HD.out];unfold dO;rw[if_neg (by unfold vW;simp;omega)]
 subst hD;clear hv hr hmv hm hc;by_cases hk0:k<0
 ·go_enter Tryz.func53,Tryz.ntmps53
  go_wp2_with fail
  refine bodyPost_ret (v:=.tuple #[.slice none 0 0,.int .i64 6]) (by simp[results,Tryz.results53,go_sem]) rfl ?_;exact⟨rfl,Kept.refl _ _,by simp⟩
 have hk1:(ns.length:Int)≤k:=by omega
 go_enter Tryz.func53,Tryz.ntmps53
 go_wp2_with fail
 refine bodyPost_ret (v:=.tuple #[.slice none 0 0,.int .i64 6]) (by simp[results,Tryz.results53,go_sem]) rfl ?_;exact⟨rfl,Kept.refl _ _,by simp⟩
theorem Iz(c:Nat):∀ds:List aC,(∀d∈ds,d.name.length+d.val.length≤c)→(dH ds).length≤ds.length*(c+15)
 | [],_=>by simp[dH]
 | [d],h=>by
  have h1:(printOne d).length≤d.name.length+d.val.length+13:=by unfold printOne;split<;>simp[bM]<;>omega
  have:=h d (by simp);simp[dH];omega
 | d::e::ds,h=>by
  have h1:(printOne d).length≤d.name.length+d.val.length+13:=by unfold printOne;split<;>simp[bM]<;>omega
  have h2:=h d (by simp);have h3:=Iz c (e::ds) (λx hx=>h x (by simp[hx]));simp only[dH,List.length_append,List.length_cons,List.length_nil]at h3 ⊢;rw[Nat.add_one_mul (ds.length+1)];omega
theorem VB(w:World)(v:Value)(ds:List aC)(h:bC w v ds)(hN:ds.length≤4000000)(hone:∀d∈ds,d.name.length+d.val.length≤4000000):
  Calls Tryz.prog 54 #[v] w λe w'=>e=.returned (.string (str (dH ds)))∧Kept (λ_=>False) w w':=by
 obtain⟨av,cv,rfl,hcv1,hcv2⟩:=h.form;unfold maxLen at hcv2;have H:=hid h;have MZ:=hid hone;clear h hone;go_enter Tryz.func54,Tryz.ntmps54
 go_upto_block 0 with fail
 go_cut [3] (λsv wx=>sv=.string (str (dH ds))∧Hid (Kept (λ_=>False) w wx))
 case first=>
  go_wp2_with fail
  go_loopw [3,8] (λsv c wr=>∃(i:Nat) (P:B),i≤ds.length∧c=.int .i64 (i:Int)∧sv=.string (str P)∧Hid (P=dH (ds.take i))∧Hid (Kept (λ_=>False) w wr)) (λ_ c _=>ds.length-(intOf c).toNat)
  case atStart=>exact⟨0,[],by omega,rfl,rfl,hid (by simp[dH]),hid (Kept.refl _ _)⟩
  case round=>
   obtain⟨i,P,hi,rfl,rfl,HP,HK⟩:=hrel;by_cases hlt:i<ds.length
   ·have hx:=List.getElem?_eq_getElem hlt;generalize hgx:ds[i]=x at hx;clear hgx;obtain⟨b,off,rfl,g0,g1,g2⟩:=bC.at (iy _ _ _ _ H.out HK.out.below) hx;have hxl:=MZ.out x (List.mem_of_getElem? hx);have hPl:P.length≤40000000000000:=by
     rw[HP.out];have h1:=Iz 4000000 (ds.take i) (λd hd=>MZ.out d (List.mem_of_mem_take hd));have h2:(ds.take i).length≤4000000:=by rw[List.length_take];omega
     have h3:=Nat.mul_le_mul_right (4000000+15) h2;omega
    have ht:ds.take (i+1)=ds.take i++[x]:=by rw[List.take_add_one,hx];rfl
    have HPN:Hid ((if i=0 then [] else P++[59,32])++printOne x=dH (ds.take (i+1))):=hid (by
     rw[ht,EH,HP.out];by_cases h0:i=0
     ·subst h0;simp
     rw[if_neg h0,if_neg (by intro hh;have:=congrArg List.length hh;rw[List.length_take,List.length_nil,Nat.min_eq_left hi]at this;exact h0 this)])
    obtain⟨nm,vl,st⟩:=x;simp only at *;have hnl:nm.length≤4000000:=by omega
    have hvl:vl.length≤4000000:=by omega
    obtain⟨wa,gX⟩:∃x',Hid (wr.alloc (.cells #[.string (str nm),.string (str vl),.bool st] 59 (0,0))=x'):=⟨_,hid rfl⟩;obtain⟨nb,oO⟩:∃x',Hid (wr.heap.size=x'):=⟨_,hid rfl⟩;have hn:wa.heap[nb]?=some (.cells #[.string (str nm),.string (str vl),.bool st] 59 (0,0)):=by rw[←gX.out,←oO.out];exact aI wr _
    have CB:Hid (Kept (λ_=>False) w wa):=hid (by rw[←gX.out];exact HK.out.alloc _);have n0:wa.cell? ⟨nb,0,none⟩=some (.string (str nm)):=ah hn 0 rfl;have n1:wa.cell? ⟨nb,1,none⟩=some (.string (str vl)):=ah hn 1 rfl;have n2:wa.cell? ⟨nb,2,none⟩=some (.bool st):=ah hn 2 rfl;clear hn hx;go_upto_region 5 with fail
    rw[gX.out,oO.out];clear g0 g1 g2 gX oO;obtain⟨xb,HXB⟩:∃q,Hid (decide (0<i)=q):=⟨_,hid rfl⟩;go_upto_if 14 with fail
    rw[HXB.out];go_cut [3] (λsv wx=>wx=wa∧∃Q:B,sv=.string (str Q)∧Q.length≤40000000000002∧Hid (Q++printOne ⟨nm,vl,st⟩=dH (ds.take (i+1))))
    case first=>
     cases xb with
     | false=>
      have agC:Hid (P++printOne ⟨nm,vl,st⟩=dH (ds.take (i+1))):=hid (by
       have h0:i=0:=by have:=HXB.out;simp at this;omega
       have:=HPN.out;rw[if_pos h0]at this;rw[←this,HP.out,h0];simp[dH])
      go_wp2_with fail
      go_meet
      case rel=>exact⟨rfl,P,rfl,by omega,agC⟩
     | true=>
      have agC:Hid ((P++[59,32])++printOne ⟨nm,vl,st⟩=dH (ds.take (i+1))):=hid (by
       have h0:¬i=0:=by have:=HXB.out;simp at this;omega
       have:=HPN.out;rw[if_neg h0]at this;exact this)
      go_wp2_with fail
      go_meet
      case rel=>exact⟨rfl,P++[59,32],rfl,by simp;omega,agC⟩
    case rest=>
     obtain⟨rfl,Q,rfl,hQ,HQ⟩:=hcut;obtain⟨wq,hwq⟩:∃x,x=wc:=⟨_,rfl⟩;subst hwq;cases st with
     | false=>
      go_wp2_with fail
      go_roundw
      case measure=>simp[intOf];omega
      case rel=>exact⟨i+1,Q++nm++[58,32]++vl,by omega,by go_num,by simp,hid (by rw[←HQ.out];simp[printOne]),CB⟩
     | true=>
      go_wp2_with fail
      go_roundw
      case measure=>simp[intOf];omega
      case rel=>exact⟨i+1,Q++nm++[58,32]++vl++[32,33]++bM,by omega,by go_num,by simp[bM],hid (by rw[←HQ.out];simp[printOne]),CB⟩
   obtain rfl:i=ds.length:=by omega
   go_wp2_with fail
   go_meet
   case rel=>exact⟨by rw[HP.out,List.take_length],HK⟩
 case rest=>
  obtain⟨rfl,HK⟩:=hcut;go_wp2_with fail
  go_ret
  exact⟨rfl,HK.out⟩
end Go.Proofs.YtplbdlgmjehckacGreatDoor

