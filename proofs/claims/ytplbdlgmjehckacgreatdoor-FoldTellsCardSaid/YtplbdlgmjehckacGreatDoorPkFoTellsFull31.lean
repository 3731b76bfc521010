/-
 Lemmas for the claims of this seat: the program's functions walked, and plain laws.
-/
import Derived.Test.YtplbdlgmjehckacGreatDoorPkFoTellsFull29
import Derived.Test.YtplbdlgmjehckacGreatDoorPkFoTellsFull30
set_option maxRecDepth 100000
set_option maxHeartbeats 12800000
namespace Go.Proofs.YtplbdlgmjehckacGreatDoor
open Go.Lib (hid)
open Go.RowKit
set_option linter.unusedVariables false
set_option linter.unusedSimpArgs false
structure JJ(w3 wx:World)(ys hb:Nat)(l:List ak)(gone:List au)(S:List B)(H:List Bool)(k:Nat):Prop where
 sty:kM wx ys S
 had:jP wx hb H
 slen:S.length=l.length
 hlen:H.length=l.length
 tx:∀j,j<k→S[j]?=some (aQ l j gone).1∧(aQ l j gone).1.length≤1950
 hd:∀(j:Nat) (n:ak),j<k→l[j]?=some n→H[j]?=some (gJ n.attrs aj).2
 kept:Kept (λ_=>False) w3 wx
 hys:w3.heap.size≤ys
 hhb:w3.heap.size≤hb
 ne:¬ys=hb
theorem JJ.quiet{w3 wx wy:World}{ys hb:Nat}{l:List ak}{gone:List au}{S:List B}{H:List Bool}{k:Nat}(h:JJ w3 wx ys hb l gone S H k)(hk:Kept (λ_=>False) wx wy):JJ w3 wy ys hb l gone S H k:=
 ⟨h.sty.kept hk id,h.had.kept hk id,h.slen,h.hlen,h.tx,h.hd,h.kept.trans hk,h.hys,h.hhb,h.ne⟩
theorem JJ.next{w3 wx:World}{ys hb:Nat}{l:List ak}{gone:List au}{S:List B}{H:List Bool}{k:Nat}{n:ak}(h:JJ w3 wx ys hb l gone S H k)(hk:k<l.length)(hn:l[k]?=some n)(hS:S[k]?=some (aQ l k gone).1)(hH:H[k]?=some (gJ n.attrs aj).2)(hl:(aQ l k gone).1.length≤1950):JJ w3 wx ys hb l gone S H (k+1):=by
 refine⟨h.sty,h.had,h.slen,h.hlen,λj hj=>?_,λj q hj hq=>?_,h.kept,h.hys,h.hhb,h.ne⟩
 ·by_cases hjk:j=k
  ·subst hjk;exact⟨hS,hl⟩
  exact h.tx j (by omega)
 by_cases hjk:j=k
 ·subst hjk;rw[hn]at hq;cases hq;exact hH
 exact h.hd j q (by omega) hq
structure JK(w4 wx:World)(ov:Value)(out:B):Prop where
 own:kC wx w4.heap.size ov out
 kept:Kept (λ_=>False) w4 wx
theorem JK.quiet{w4 wx wy:World}{ov:Value}{out:B}(h:JK w4 wx ov out)(hk:Kept (λ_=>False) wx wy):JK w4 wy ov out:=⟨aK (n:=out.length) h.own hk (λ_ _=>id),h.kept.trans hk⟩
theorem Zi(s:B)(m:Int)(w:World)(hm:w.cell? ⟨0,0,none⟩=some (.int .i64 m))(hs:s.length≤9223372036854775807):
  Calls Tryz.prog 20 #[.string (str s)] w (uS w s):=by
 have HM:=hid hm;obtain⟨w0,HW0⟩:∃x,Hid (w.alloc (.cells #[.int .i64 0,.int .i64 0] 26 (0,0))=x):=⟨_,hid rfl⟩;have uq:Hid (Kept (λ_=>False) w w0):=hid (by rw[←HW0.out];exact(Kept.refl _ w).alloc _);have hz0:w0.heap.size=w.heap.size+1:=by rw[←HW0.out];simp
 obtain⟨P0,HP⟩:∃P,Hid (rP s=P):=⟨_,hid rfl⟩;have JD:=DN s w0 (by omega) hs;rw[HP.out]at JD;replace JD:=hid JD;clear hm hz0;go_enter Tryz.func20,Tryz.ntmps20
 go_upto_region 1 with fail
 rw[HW0.out];go_wp2_with fail
 refine JD.out.mono ?_;intro e w1 he1;cases P0 with
 | bad f=>
  obtain⟨rfl,hk1⟩:=he1;unfold QF;have hne:((f.err:Int) != 0)=true:=by
   have:=xg HP.out;simp;omega
  obtain⟨wb,jo⟩:∃x,Hid (w1.alloc (.cells #[.int .i64 (f.err:Int),.int .i64 (f.pos:Int)] 26 (0,0))=x):=⟨_,hid rfl⟩;have hkb:Kept (λ_=>False) w0 wb:=by rw[←jo.out];exact hk1.alloc _
  have c0:wb.cell? ⟨w1.heap.size,0,none⟩=some (.int .i64 (f.err:Int)):=by rw[←jo.out];exact ah (aI w1 _) 0 rfl
  have c1:wb.cell? ⟨w1.heap.size,1,none⟩=some (.int .i64 (f.pos:Int)):=by rw[←jo.out];exact ah (aI w1 _) 1 rfl
  obtain⟨wf,hwf,q0,q1,q2,g0,g1,f0,f1⟩:=rX HW0.out hkb (.int .i64 (f.err:Int)) (.int .i64 (f.pos:Int));have HD:=hid (And.intro hwf (And.intro q0 (And.intro q1 q2)));clear hwf q0 q1 q2 hkb hk1;go_upto_region 2 with fail
  rw[jo.out];go_wp2_with fail
  go_region
  go_wp2_with fail
  rw[HD.out.1];refine bodyPost_ret (v:=.tuple #[.string ⟨#[]⟩,.agg #[.int .i64 (f.err:Int),.int .i64 (f.pos:Int)]]) (by simp[results,Tryz.results20,go_sem,show wf.drew.cell? _=_ from HD.out.2.1,show wf.drew.cell? _=_ from HD.out.2.2.1]) rfl ?_;refine⟨HD.out.2.2.2.drew,?_⟩;rw[HP.out];exact rfl
 | ok x=>
  obtain⟨l,rules⟩:=x;obtain⟨lv,rv,rfl,hk1,hl1,hr1⟩:=he1;have hlim:=IW HP.out;obtain⟨T,hT⟩:=Xl HP.out;have EX:=hid hlim;have HT:=hid hT;have hs6:=hlim.len;have hl6:=hlim.nodes;have OL:=hlim.most;obtain⟨la,lc,rfl,PK,wM⟩:=aX.form hl1;obtain⟨ra,rc,rfl,XW,C9⟩:=bH.form hr1;unfold maxLen at wM C9;obtain⟨wb,jo⟩:∃x,Hid (w1.alloc (.cells #[.int .i64 0,.int .i64 0] 26 (0,0))=x):=⟨_,hid rfl⟩;have Oi:Kept (λ_=>False) w1 wb:=by rw[←jo.out];exact(Kept.refl _ w1).alloc _
  have HKB:=hid (hk1.trans Oi);have HLB:Hid (aX wb (.slice la l.length lc) l):=hid (aO.kept hl1 Oi);have Us:Hid (gy wb (.slice ra rules.length rc) rules):=hid (eG.kept hr1 Oi);have c0:wb.cell? ⟨w1.heap.size,0,none⟩=some (.int .i64 0):=by rw[←jo.out];exact ah (aI w1 _) 0 rfl
  have QI:=hid (Gy l rules (hlim.ca (gone:=rules) (λr h=>h) (Nat.le_refl _)) (λr hr d hd=>by have:=((hlim.rule r hr).1.each d hd).1;omega) hl6 m wb _ _ HLB.out Us.out ((uq.out.trans HKB.out).cell id HM.out));clear hk1 hl1 hr1 Oi hlim hT;go_upto_region 2 with fail
  rw[jo.out];go_wp2_with fail
  refine QI.out.mono ?_;intro e w2 he2;obtain⟨bs,st,rfl,hst,hbs,agF,hk2⟩:=vT he2;have HST:=hid hst;have yD:=hid hbs;have iO:=hid (HKB.out.trans hk2);have HL2:Hid (aX w2 (.slice la l.length lc) l):=hid (aO.kept HLB.out hk2);have HR2:Hid (gy w2 (.slice ra rules.length rc) rules):=hid (eG.kept Us.out hk2);have RN:st.length=rules.length:=hst.len;clear hst hbs agF hk2 he2 c0;go_wp2_with fail
  go_loopw [7,43] (λg c wr=>∃i:Nat,i≤rules.length∧c=.int .i64 (i:Int)∧Hid (wR w2 wr g (dQ (rules.take i) (st.take i)))∧Hid (Kept (λ_=>False) w2 wr)) (λ_ c _=>rules.length-(intOf c).toNat)
  case atStart=>exact⟨0,by omega,rfl,hid (wR.nil _ _),hid (Kept.refl _ _)⟩
  case round=>
   obtain⟨i,hi,rfl,HF,yQ⟩:=hrel;obtain⟨bU,hwr0⟩:∃x,x=wr:=⟨_,rfl⟩;subst hwr0;obtain⟨ga,gc,rfl⟩:=HF.out.form;by_cases hlt:i<rules.length
   ·have hx:=List.getElem?_eq_getElem hlt;generalize hgx:rules[i]=r at hx;clear hgx;obtain⟨b,hb⟩:∃b,st[i]?=some b:=⟨_,List.getElem?_eq_getElem (by rw[RN];exact hlt)⟩;have IX:=hid (Ai hx hb);have hgl:(dQ (rules.take i) (st.take i)).length≤60:=by
     have:=(qL (rs:=rules.take i) (bs:=st.take i)).2;simp at this;omega
    obtain⟨rb,ro,u,rfl,hcs,PI⟩:=bH.at HR2.out hx;have HRU:=hid PI;obtain⟨sv,dv,rfl,hss,hds⟩:=PI;obtain⟨sa,sc,rfl,_,_⟩:=bH.form hss;obtain⟨da,dc,rfl,_,_⟩:=bC.form hds;have c0:bU.cell? ⟨rb,ro+i*5,none⟩=some (.string (str r.ay)):=yQ.out.cell id (hcs 0 _ rfl);have c1:bU.cell? ⟨rb,ro+i*5+1,none⟩=some (.slice sa r.aZ.length sc):=yQ.out.cell id (hcs 1 _ rfl);have c2:bU.cell? ⟨rb,ro+i*5+2,none⟩=some (.slice da r.decls.length dc):=yQ.out.cell id (hcs 2 _ rfl);have c3:bU.cell? ⟨rb,ro+i*5+3,none⟩=some (.int .i64 r.lo):=yQ.out.cell id (hcs 3 _ rfl);have c4:bU.cell? ⟨rb,ro+i*5+4,none⟩=some (.int .i64 r.hi):=yQ.out.cell id (hcs 4 _ rfl);have sb:bU.cell? ⟨bs,i,none⟩=some (.bool b):=yQ.out.cell id (ah yD.out i (by simp[hb]));generalize dQ (rules.take i) (st.take i)=qs at *;clear hcs hss hds hx hb;cases b with
    | true=>
     have HN:Hid (dQ (rules.take (i+1)) (st.take (i+1))=qs):=hid (by rw[IX.out];simp);go_wp2_with fail
     go_roundw
     case measure=>simp[intOf];omega
     case rel=>exact⟨i+1,by omega,by go_num,hid (by rw[HN.out];exact HF.out),yQ⟩
    | false=>
     have HN:Hid (dQ (rules.take (i+1)) (st.take (i+1))=qs++[r]):=hid (by rw[IX.out];simp);obtain⟨a',c',w',hr',hf',ajt⟩:=HF.out.push yQ.out r _ HRU.out (by omega);have HR':Hid ((Builtin.append_ #[23,23] 23 #[.slice ga qs.length gc,.slice (some ⟨bU.heap.size,0,none⟩) 1 1]).run Tryz.prog (bU.alloc (.cells #[.string (str r.ay),.slice sa r.aZ.length sc,.slice da r.decls.length dc,.int .i64 r.lo,.int .i64 r.hi] 42 (0,0)))=.ok (.slice a' (qs.length+1) c') w'):=hid hr';have HF':=hid hf';have amE:Hid (Kept (λ_=>False) w2 w'):=hid (yQ.out.trans' ajt (λk hk hs=>by
      obtain⟨vs,_,g2,_⟩:=HF.out.ex;have:=(World.ownsRow.lt g2 k hs).1;omega))
     clear hr' hf' ajt;go_wp2_with (at_builtin;refine l7 (by rfl) _ _ _ _ rfl _ _ _ rfl rfl _ HR'.out ?_)
     go_roundw
     case measure=>simp[intOf];omega
     case rel=>exact⟨i+1,by omega,by go_num,hid (by rw[HN.out];exact HF'.out),amE⟩
   obtain rfl:i=rules.length:=by omega
   obtain⟨gone,HG⟩:∃x,Hid (dQ rules st=x):=⟨_,hid rfl⟩;have hF:wR w2 bU (.slice ga (dQ (rules.take rules.length) (st.take rules.length)).length gc) (dQ (rules.take rules.length) (st.take rules.length)):=HF.out;have htk:dQ (rules.take rules.length) (st.take rules.length)=gone:=by rw[List.take_length,List.take_of_length_le (by omega),HG.out]
   rw[htk]at hF ⊢;have BU:=qL (rs:=rules) (bs:=st);rw[HG.out]at BU;have hgl:gone.length≤60:=by have:=BU.2;omega
   have Wj:=hid BU;obtain⟨R,HR⟩:∃x,Hid (RF s l rules st=x):=⟨_,hid rfl⟩;have DL:Hid (∀w',Kept (λ_=>False) w w'→uS w s (.returned (IU R)) w'):=hid (λw' hk=>by
    refine⟨hk,?_⟩;rw[HP.out];exact⟨st,HST.out,by rw[HR.out]⟩)
   have HRE:Hid (((fE l gone 0 l).then λes=>tH s (gone.map dI++es))=R):=hid (by rw[←HR.out,RP,HG.out]);obtain⟨w3,hw3⟩:∃x,x=bU:=⟨_,rfl⟩;subst hw3;have HGR:Hid (gy w3 (.slice ga gone.length gc) gone):=hid (hF.reads yQ.out);have vg:Hid (aX w3 (.slice la l.length lc) l):=hid (aO.kept HL2.out yQ.out);have oJ:=hid (iO.out.trans yQ.out);obtain⟨_,_,hcc,aqV,amG⟩:=bH.form HGR.out;cases hcc;unfold maxLen at amG;obtain⟨wt,amH,ht,kt⟩:=Yr w3 l.length (by omega);obtain⟨ys,HYS⟩:∃x,Hid (w3.heap.size=x):=⟨_,hid rfl⟩;rw[HYS.out]at amH ht;obtain⟨wh,amI,hh,kh⟩:=Dj wt l.length (by omega);obtain⟨hb,HHB⟩:∃x,Hid (wt.heap.size=x):=⟨_,hid rfl⟩;rw[HHB.out]at amI hh;have hyl:=gW ht;have HB0:Hid (JJ w3 wh ys hb l gone (List.replicate l.length []) (List.replicate l.length false) 0):=hid ⟨ht.kept kh id,hh,by simp,by simp,λj hj=>by omega,λj n hj=>by omega,kt.trans kh,by have:=HYS.out;omega,by have:=HHB.out;have:=kt.size;omega,by have:=HHB.out;omega⟩;have HO0:=hid (sF.start l gone);clear hF htk BU HF ht kt hh kh hyl;go_wp2_with fail
   go_loopw [66] (λc wx=>∃(k:Nat) (S:List B) (H:List Bool),k≤l.length∧c=.int .i64 (k:Int)∧Hid (JJ w3 wx ys hb l gone S H k)∧Hid (sF l gone k)) (λc _=>l.length-(intOf c).toNat)
   case atStart=>exact⟨0,_,_,by omega,rfl,HB0,HO0⟩
   case round=>
    obtain⟨k,S,H,hk,rfl,HB,HO⟩:=hrel;obtain⟨jk,nD⟩:∃x,x=wr:=⟨_,rfl⟩;subst nD;by_cases hlt:k<l.length
    ·as_aux_lemma=>
     have hx:=List.getElem?_eq_getElem hlt;generalize hgx:l[k]=n at hx;clear hgx;have HX:=hid hx;obtain⟨look,ab8,hlk2,Ze,ab9,acd⟩:=RQ HT.out EX.out Wj.out.1 Wj.out.2 hx;have aju:=hid Ze;have hnl:=EX.out.node n (List.mem_of_getElem? hx);have Jq:=EX.out.attrs n (List.mem_of_getElem? hx);obtain⟨nb,qY,av,rfl,g0,g1,g2,g3,g4,g5,hav⟩:=vg.out.at hx;obtain⟨aa,mG,rfl,ML,wI⟩:=hav.form;unfold maxLen at wI;obtain⟨ne,hne⟩:∃x:Nat,n.bG=x:=⟨n.bG.toNat,by have:=hnl.bG.1;omega⟩;rw[hne]at g3;replace g0:=HB.out.kept.cell id g0;replace g1:=HB.out.kept.cell id g1;replace g2:=HB.out.kept.cell id g2;replace g3:=HB.out.kept.cell id g3;replace g4:=HB.out.kept.cell id g4;replace g5:=HB.out.kept.cell id g5;obtain⟨wn,wW⟩:∃x,Hid (jk.alloc (.cells #[.string (str n.name),.int .i64 n.parent,.slice aa n.attrs.length mG,.int .i64 (ne:Int),.int .i64 n.qE,.int .i64 n.inT] 45 (0,0))=x):=⟨_,hid rfl⟩;obtain⟨nx,Eo⟩:∃x,Hid (jk.heap.size=x):=⟨_,hid rfl⟩;have hn0:wn.heap[nx]?=some (.cells #[.string (str n.name),.int .i64 n.parent,.slice aa n.attrs.length mG,.int .i64 (ne:Int),.int .i64 n.qE,.int .i64 n.inT] 45 (0,0)):=by rw[←wW.out,←Eo.out];exact aI jk _
     have hkn:Kept (λ_=>False) jk wn:=by rw[←wW.out];exact(Kept.refl _ jk).alloc _
     have PZ:=hid hne;have HBN:=hid (HB.out.quiet hkn);have Ec:=hid hav;have HNY:Hid (¬nx=ys∧¬nx=hb):=hid (by
      have h1:=gW HB.out.sty;have h2:=gW HB.out.had;have:=Eo.out;omega)
     have Tj:=hid (uq.out.trans (oJ.out.trans (HB.out.kept.trans hkn)));have Jr:=JI l gone (EX.out.ca Wj.out.1 Wj.out.2) [] (k:Int) (by omega) m wn _ _ (.slice none 0 0) (aO.kept vg.out HBN.out.kept) (eG.kept HGR.out HBN.out.kept) (aH.nil _ _) (Tj.out.cell id HM.out);rw[ab8]at Jr;replace Jr:=hid Jr;have yF:=hid hn0;obtain⟨tx,htx⟩:∃x,(aQ l k gone).1=x:=⟨_,rfl⟩;have VI:=hid htx;have HTP:Hid (tx=dH look):=hid (by rw[←htx,ab9]);have HOK:Hid ((aQ l k gone).2=decide (look.length≤20)):=hid acd;clear hx ab8 Ze ab9 acd hav hnl hne hn0 hkn htx;go_upto_region 16 with fail
     rw[wW.out,Eo.out];clear g0 g1 g2 g3 g4 g5 wW;go_wp2_with fail
     refine Jr.out.mono ?_;rintro e w5 ⟨dv,rfl,hk5,hdl,_⟩;obtain⟨xa,xc,rfl,ahR,aaM⟩:=bC.form hdl;unfold maxLen at aaM;have xW:=hid hdl;have HB5:=hid (HBN.out.quiet hk5);have zF:=hid hk5;have HD0:Hid (DOp w5 w5 (.slice none 0 0) []):=hid ⟨World.ownsRow_nil _ _ _ _,Kept.refl _ _⟩;clear hk5 hdl;go_wp2_with fail
     go_loopw [16,80] (λv c wx=>∃j:Nat,j≤look.length∧c=.int .i64 (j:Int)∧Hid (DOp w5 wx v (look.take j))) (λ_ c _=>look.length-(intOf c).toNat)
     case atStart=>exact⟨0,by omega,rfl,HD0⟩
     case round=>
      obtain⟨j,hj,rfl,HD⟩:=hrel;obtain⟨wr2,hwr2⟩:∃x,x=wr:=⟨_,rfl⟩;subst hwr2;obtain⟨qo,qc,rfl⟩:=dw (n:=(look.take j).length) HD.out.own;by_cases hjlt:j<look.length
      ·have hy:=List.getElem?_eq_getElem hjlt;generalize qX:look[j]=y at hy;clear qX;obtain⟨db,XZ,rfl,t0,t1,t2⟩:=bC.at (iy.kept xW.out HD.out.kept) hy;have YZ:Hid (look.take (j+1)=look.take j++[y]):=hid (by rw[List.take_add_one,hy];rfl);obtain⟨wd,mM⟩:∃x',Hid (wr2.alloc (.cells #[.string (str y.name),.string (str y.val),.bool y.strong] 53 (0,0))=x'):=⟨_,hid rfl⟩;have f0:wd.cell? ⟨wr2.heap.size,0,none⟩=some (.string (str y.name)):=by rw[←mM.out];exact ah (aI wr2 _) 0 rfl
       have f1:wd.cell? ⟨wr2.heap.size,1,none⟩=some (.string (str y.val)):=by rw[←mM.out];exact ah (aI wr2 _) 1 rfl
       have f2:wd.cell? ⟨wr2.heap.size,2,none⟩=some (.bool y.strong):=by rw[←mM.out];exact ah (aI wr2 _) 2 rfl
       have hDd:=HD.out.qw (wx:=wd) (by rw[←mM.out];exact(Kept.refl _ wr2).alloc _);have htl:(look.take j).length≤5000:=by rw[List.length_take];omega
       generalize look.take j=q0 at *;obtain⟨a',c',w',hr',hd'⟩:=hDd.push y (by omega);have HR':=hid hr';have HD':=hid hd';clear hy hr' hd' hDd;go_upto_region 21 with fail
       rw[mM.out];clear t0 t1 t2 mM;go_wp2_with (at_builtin;refine l7 (by rfl) _ _ _ _ rfl _ _ _ rfl rfl _ HR'.out ?_)
       go_roundw
       case measure=>simp[intOf];omega
       case rel=>exact⟨j+1,by omega,by go_num,hid (by rw[YZ.out];exact HD'.out)⟩
      obtain rfl:j=look.length:=by omega
      have hD:DOp w5 wr2 (.slice qo (look.take look.length).length qc) (look.take look.length):=HD.out;rw[List.take_length]at hD ⊢;have ZQ:=HB5.out.quiet hD.kept;have HPR:=hid (VB wr2 _ look (vZ hD.own).1 (by omega) (λd hd=>by have:=rQ (aju.out d hd);omega));have Fh:=zF.out.trans hD.kept;clear hD;go_wp2_with fail
      refine HPR.out.mono ?_;rintro e w7 ⟨rfl,jD⟩;rw[←HTP.out];have hB7:=ZQ.quiet jD;obtain⟨s0,hs0⟩:∃x,S[k]?=some x:=⟨_,List.getElem?_eq_getElem (by rw[HB.out.slen];exact hlt)⟩;obtain⟨h0,hh0⟩:∃x,H[k]?=some x:=⟨_,List.getElem?_eq_getElem (by rw[HB.out.hlen];exact hlt)⟩;have c1:=hB7.sty.cell hs0;have f1:=hB7.sty.free k;obtain⟨w8,HW8⟩:∃x,Hid (w7.setCell ⟨ys,k,none⟩ (.string (str tx))=x):=⟨_,hid rfl⟩;have k78:Kept (· = ys) w7 w8:=by rw[←HW8.out];exact(Kept.refl (· = ys) w7).setCell (p:=⟨ys,k,none⟩) (.inl rfl) _
      have hT8:kM w8 ys (S.set k tx):=by rw[←HW8.out];exact hB7.sty.put k tx
      have hH8:jP w8 hb H:=hB7.had.kept k78 (λh=>hB7.ne h.symm);have hK8:Kept (λ_=>False) w3 w8:=hB7.kept.trans' k78 (λq hq hs=>by have:=hB7.hys;omega);have RX:=k78.heap HNY.out.1 ((Fh.trans jD).heap id yF.out);obtain⟨⟨old,had⟩,HG2⟩:∃G,Hid (gJ n.attrs aj=G):=⟨_,hid rfl⟩;have HCG:Hid (Calls Tryz.prog 55 #[.agg #[.string (str n.name),.int .i64 n.parent,.slice aa n.attrs.length mG,.int .i64 (ne:Int),.int .i64 n.qE,.int .i64 n.inT],.string (str aj)] w8 λe w'=>e=.returned (.tuple #[.string (str old),.bool had])∧Kept (λ_=>False) w8 w'):=hid (by
       have:=Gn w8 _ n aj (Ec.out.below hK8.below);rw[HG2.out,PZ.out]at this;exact this)
      have HT8:=hid hT8;have HH8:=hid hH8;have Au:=hid hK8;have HN8:=hid RX;have yI:=hid hB7;have HS0:=hid hs0;have HH0:=hid hh0;clear jD k78 hT8 hH8 hK8 hB7 hs0 ZQ Fh;go_upto_region 24 with fail
      rw[HW8.out];clear c1 f1 HW8;have n0:=ah RX 0 rfl;have n1:=ah RX 1 rfl;have n2:=ah RX 2 rfl;have n3:=ah RX 3 rfl;have n4:=ah RX 4 rfl;have n5:=ah RX 5 rfl;clear RX;go_wp2_with fail
      refine HCG.out.mono ?_;rintro e w9 ⟨rfl,hk9⟩;have c2:w9.cell? ⟨hb,k,none⟩=some (.bool h0):=(HH8.out.kept hk9 id).cell hh0;have f2:w9.frozen? ⟨hb,k,none⟩=false:=(HH8.out.kept hk9 id).free k;obtain⟨w10,aek⟩:∃x,Hid (w9.setCell ⟨hb,k,none⟩ (.bool had)=x):=⟨_,hid rfl⟩;have ael:Kept (· = hb) w9 w10:=by rw[←aek.out];exact(Kept.refl (· = hb) w9).setCell (p:=⟨hb,k,none⟩) (.inl rfl) _
      have aem:JJ w3 w10 ys hb l gone (S.set k tx) (H.set k had) k:=by
       refine⟨(HT8.out.kept hk9 id).kept ael yI.out.ne,by rw[←aek.out];exact(HH8.out.kept hk9 id).put k had,by rw[List.length_set];exact yI.out.slen,by rw[List.length_set];exact yI.out.hlen,λj hj=>?_,λj q hj hq=>?_,(Au.out.trans hk9).trans' ael (λq hq hs=>by have:=yI.out.hhb;omega),yI.out.hys,yI.out.hhb,yI.out.ne⟩
       ·rw[List.getElem?_set_ne (by omega)];exact yI.out.tx j hj
       rw[List.getElem?_set_ne (by omega)];exact yI.out.hd j q hj hq
      have hSk:(S.set k tx)[k]?=some tx:=List.getElem?_set_self (by rw[HB.out.slen];exact hlt);have hHk:(H.set k had)[k]?=some had:=List.getElem?_set_self (by rw[HB.out.hlen];exact hlt);have x1:=aem.sty.cell hSk;have x2:=aem.had.cell hHk;have agK:=ael.heap HNY.out.2 (hk9.heap id HN8.out);have x3:=ah agK 2 rfl;have x4:=ah agK 3 rfl;have pR:=hid aem;have HSK:=hid hSk;have HHK:=hid hHk;clear hk9 ael aem hSk hHk hh0 n0 n1 n2 n3 n4 n5 agK;go_upto_region 25 with fail
      rw[aek.out];clear c2 f2 aek;obtain⟨te,HTE⟩:∃x,Hid (tx.isEmpty=x):=⟨_,hid rfl⟩;obtain⟨b1,HB1⟩:∃x,Hid (decide (20<look.length)=x):=⟨_,hid rfl⟩;obtain⟨b8,vN⟩:∃x,Hid (decide (8≤n.attrs.length)=x):=⟨_,hid rfl⟩;go_cut [130] (λc wx=>wx=w10∧c=.bool (b1||(!had&&(!te&&b8))))
      case first=>
       have hte:=HTE.out;have agM:(tx==[])=te:=by rw[←HTE.out];cases tx<;>rfl
       cases b1 with
       | true=>
        have hI:(20:Int)<(look.length:Int):=by have:=HB1.out;simp at this;omega
        go_wp2_with fail
        go_meet
        case rel=>exact⟨rfl,rfl⟩
       | false=>
        have hI:¬(20:Int)<(look.length:Int):=by have:=HB1.out;simp at this;omega
        cases had with
        | true=>
         go_wp2_with fail
         go_meet
         case rel=>exact⟨rfl,rfl⟩
        | false=>
         cases te with
         | true=>
          go_wp2_with fail
          go_meet
          case rel=>exact⟨rfl,rfl⟩
         | false=>
          cases b8 with
          | true=>
           have h8I:(8:Int)≤(n.attrs.length:Int):=by have:=vN.out;simp at this;omega
           go_wp2_with fail
           go_meet
           case rel=>exact⟨rfl,rfl⟩
          | false=>
           have h8I:¬(8:Int)≤(n.attrs.length:Int):=by have:=vN.out;simp at this;omega
           go_wp2_with fail
           go_meet
           case rel=>exact⟨rfl,rfl⟩
      case rest=>
       obtain⟨rfl,rfl⟩:=hcut;obtain⟨w10,Vr⟩:∃x,x=wc:=⟨_,rfl⟩;subst Vr;obtain⟨q,HQ⟩:∃x,Hid ((b1||(!had&&(!te&&b8)))=x):=⟨_,hid rfl⟩;have HBAD:Hid (q=true↔((aQ l k gone).2=false∨(gJ n.attrs aj).2=false∧n.attrs.length=8∧(aQ l k gone).1≠[])):=hid (by
        rw[←HQ.out,←HB1.out,←vN.out,←HTE.out,HOK.out,HG2.out,VI.out];have e1:tx.isEmpty=true↔tx=[]:=List.isEmpty_iff;cases had<;>cases hte:tx.isEmpty<;>simp_all<;>omega)
       rw[HQ.out];cases q with
       | true=>
        have hr:Hid (R=.bad ⟨5,ne⟩):=hid (by
         have:=HO.out.fall HX.out (HBAD.out.1 rfl);rw[←HRE.out,this,PZ.out,Int.toNat_natCast];rfl)
        obtain⟨wf,hwf,q0,q1,q2,h5,h6,f5,f6⟩:=rX HW0.out (oJ.out.trans pR.out.kept) (.int .i64 5) (.int .i64 (ne:Int));have HD:=hid (And.intro hwf (And.intro q0 (And.intro q1 q2)));clear hwf q0 q1 q2 x1 x2 x3;go_wp2_with fail
        go_region
        go_wp2_with fail
        rw[HD.out.1];refine bodyPost_ret (v:=.tuple #[.string ⟨#[]⟩,.agg #[.int .i64 5,.int .i64 (ne:Int)]]) (by simp[results,Tryz.results20,go_sem,show wf.drew.cell? _=_ from HD.out.2.1,show wf.drew.cell? _=_ from HD.out.2.2.1]) rfl ?_;have hfin:=DL.out _ HD.out.2.2.2.drew;rw[hr.out,Ah]at hfin;exact hfin
       | false=>
        have hnb:¬((aQ l k gone).2=false∨(gJ n.attrs aj).2=false∧n.attrs.length=8∧(aQ l k gone).1≠[]):=λh=>by have:=HBAD.out.2 h;cases this
        have HON:=hid (HO.out.next HX.out hnb);have HBX:Hid (JJ w3 w10 ys hb l gone (S.set k tx) (H.set k had) (k+1)):=hid (by
         have hlen:(aQ l k gone).1.length≤1950:=by
          have h1:look.length≤20:=by
           have h2:¬(aQ l k gone).2=false:=λh=>hnb (.inl h)
           rw[HOK.out]at h2;simpa using h2
          rw[VI.out,HTP.out];have:=GZ aju.out;omega
         exact pR.out.next hlt HX.out (by rw[VI.out];exact HSK.out) (by rw[HG2.out];exact HHK.out) hlen)
        clear hnb x1 x2 x3 x4;go_wp2_with fail
        go_roundw
        case measure=>simp[intOf];omega
        case rel=>exact⟨k+1,_,_,by omega,by go_num,HBX,HON⟩
    obtain rfl:k=l.length:=by omega
    obtain⟨es,hes⟩:=HO.out.done;obtain⟨hE0,hE1,hE2,hE3,hE4⟩:=Zj HT.out RN (es:=es) (by rw[HG.out];exact hes);obtain⟨tx,VI⟩:∃x,Hid ((λk=>(aQ l k gone).1)=x):=⟨_,hid rfl⟩;obtain⟨E,HE⟩:∃x,Hid (iP (gone.map dI++nP tx 0 l)=x):=⟨_,hid rfl⟩;rw[HG.out,VI.out]at hE0;rw[HG.out]at hE3;have hEE:iP (xJ rules st es)=E:=by rw[hE0,HE.out]
    rw[hEE]at hE1 hE2;have HRF:Hid (R=if 6000<(eY s 0 E).length then .bad ⟨4,0⟩ else .ok (eY s 0 E)):=hid (by
     rw[←HRE.out,hes,Ans.aN];unfold tH;have:iP (gone.map dI++es)=E:=by
      have h1:=hEE;unfold xJ at h1;rw[HG.out]at h1;exact h1
     rw[this])
    have ajv:Hid (∀k,k<l.length→S[k]?=some (tx k)∧(tx k).length≤1950):=hid (λk hk=>by
     rw[←VI.out];exact HB.out.tx k hk)
    have hEL:(eY s 0 E).length≤500000:=by
     have h1:=IZ tx l 0 (λk _ hk=>(ajv.out k (by omega)).2);have hp:=kF (gone.map dI++nP tx 0 l);rw[HE.out]at hp;have h2:=IY (M:=2000) hE2 (λe he=>by
      rcases List.mem_append.1 (hp.mem_iff.1 he)with h | h
      ·obtain⟨r,_,rfl⟩:=List.mem_map.1 h;simp[dI]
      exact h1.2 e h)
     have h3:=hp.length_eq;rw[List.length_append,List.length_map]at h3;have:=h1.1;omega
    have HRS:Hid (LQ s E 0 []):=hid (LQ.start hE2);have IX:Hid (∀(at_:Nat) (out:B),LQ s E at_ out→at_≤s.length→LQ s E (zf s gone tx l at_ out).2 (zf s gone tx l at_ out).1∧at_<(zf s gone tx l at_ out).2):=hid (λat_ out hr hl=>by
     have h1:=LQ.step (s:=s) (l:=l) (gone:=gone) (tx:=tx) (at_:=at_) (out:=out) (by rw[HE.out];exact hE1) hE3 hE4 (by rw[HE.out];exact hr) hl;rw[HE.out]at h1;exact h1)
    obtain⟨w4,hw4⟩:∃x,x=jk:=⟨_,rfl⟩;subst hw4;have FX:Hid (aX w4 (.slice la l.length lc) l):=hid (aO.kept vg.out HB.out.kept);have HG4:Hid (gy w4 (.slice ga gone.length gc) gone):=hid (eG.kept HGR.out HB.out.kept);have HGL:Hid (∀r∈gone,0≤r.lo∧r.lo≤r.hi∧r.hi≤s.length):=hid (λr hr=>(EX.out.rule r (Wj.out.1 r hr)).2);have HC0:Hid (JK w4 w4 (.slice none 0 0) []):=hid ⟨kC.nil _ _,Kept.refl _ _⟩;have HSL:Hid (S.length=l.length∧H.length=l.length):=hid ⟨HB.out.slen,HB.out.hlen⟩;clear hes hE0 hE1 hE2 hE3 hE4 hEE;go_wp2_with fail
    go_loopw [19,20] (λov av wx=>∃(at_:Nat) (out:B),av=.int .i64 (at_:Int)∧Hid (JK w4 wx ov out)∧Hid (LQ s E at_ out)) (λ_ av _=>s.length+1-(intOf av).toNat)
    case atStart=>exact⟨0,[],rfl,HC0,HRS⟩
    case round=>
     obtain⟨at_,out,rfl,HC,HA⟩:=hrel;obtain⟨wr2,hwr2⟩:∃x,x=wr:=⟨_,rfl⟩;subst hwr2;obtain⟨hat,hol⟩:=HA.out.le;obtain⟨oa,oc,rfl⟩:=HC.out.own.form;by_cases hle:at_≤s.length
     ·obtain⟨x0,HX0⟩:∃x,Hid (sub s at_ (at_+1)=x):=⟨_,hid rfl⟩;have Eo:=hid (IX.out at_ out HA.out hle);go_upto_if 144 with fail
      go_cut [22] (λpv wx=>wx=wr2∧pv=.string (str x0))
      case first=>
       by_cases hlt2:at_<s.length
       ·go_wp2_with fail
        go_meet
        case rel=>exact⟨rfl,by rw[←HX0.out,sub,show at_+1-at_=1 by omega]⟩
       have hx:x0=[]:=by rw[←HX0.out];unfold sub;rw[List.drop_eq_nil_of_le (by omega),List.take_nil]
       subst hx;go_wp2_with fail
       go_meet
       case rel=>exact⟨rfl,rfl⟩
      case rest=>
       obtain⟨rfl,rfl⟩:=hcut;obtain⟨wr2,hwr2⟩:∃x,x=wc:=⟨_,rfl⟩;subst hwr2;have HLN:Hid (∀k,(jT at_ tx 0 (l.take k) (out,pW at_ gone (x0,at_+1))).1.length≤500000):=hid (λk=>by
        have h1:=I4 at_ tx l k 0 (out,pW at_ gone (x0,at_+1));have h2:=Eo.out.1.le.2;unfold zf at h2;rw[HX0.out]at h2;simp only[List.length_append]at h2;omega)
       go_wp2_with fail
       go_loopw [21,22,151] (λnv pv c wx=>∃(j:Nat) (y:B×Nat),j≤gone.length∧c=.int .i64 (j:Int)∧nv=.int .i64 (y.2:Int)∧pv=.string (str y.1)∧Hid (y=pW at_ (gone.take j) (x0,at_+1))∧Hid (JK w4 wx (.slice oa out.length oc) out)) (λ_ _ c _=>gone.length-(intOf c).toNat)
       case atStart=>exact⟨0,(x0,at_+1),by omega,rfl,by simp,rfl,hid rfl,HC⟩
       case round=>
        obtain⟨j,y,hj,rfl,rfl,rfl,HY,HCJ⟩:=hrel;obtain⟨wr3,Ny⟩:∃x,x=wr:=⟨_,rfl⟩;subst Ny;by_cases hjlt:j<gone.length
        ·have hx:=List.getElem?_eq_getElem hjlt;generalize hgx:gone[j]=r at hx;clear hgx;obtain⟨rb,ro,u,rfl,hcs,sv,dv,rfl,hss,hds⟩:=bH.at HG4.out hx;obtain⟨sa,sc,rfl,_,_⟩:=bH.form hss;obtain⟨da,dc,rfl,_,_⟩:=bC.form hds;obtain⟨hr0,hr1,hr2⟩:=HGL.out r (List.mem_of_getElem? hx);obtain⟨hi',hhi⟩:∃hi:Nat,r.hi=hi:=⟨r.hi.toNat,by omega⟩;have c0:wr3.cell? ⟨rb,ro+j*5,none⟩=some (.string (str r.ay)):=HCJ.out.kept.cell id (hcs 0 _ rfl);have c1:wr3.cell? ⟨rb,ro+j*5+1,none⟩=some (.slice sa r.aZ.length sc):=HCJ.out.kept.cell id (hcs 1 _ rfl);have c2:wr3.cell? ⟨rb,ro+j*5+2,none⟩=some (.slice da r.decls.length dc):=HCJ.out.kept.cell id (hcs 2 _ rfl);have c3:wr3.cell? ⟨rb,ro+j*5+3,none⟩=some (.int .i64 r.lo):=HCJ.out.kept.cell id (hcs 3 _ rfl);have c4:wr3.cell? ⟨rb,ro+j*5+4,none⟩=some (.int .i64 (hi':Int)):=HCJ.out.kept.cell id (by have:=hcs 4 _ rfl;rwa [hhi]at this);have YZ:Hid (pW at_ (gone.take (j+1)) (x0,at_+1)=if r.lo=(at_:Int) then ([32],hi') else y):=hid (by
          rw[List.take_add_one,hx,HY.out,Option.toList_some,VJ,hhi,Int.toNat_natCast])
         obtain⟨wd,mM⟩:∃x,Hid (wr3.alloc (.cells #[.string (str r.ay),.slice sa r.aZ.length sc,.slice da r.decls.length dc,.int .i64 r.lo,.int .i64 (hi':Int)] 42 (0,0))=x):=⟨_,hid rfl⟩;have f3:wd.cell? ⟨wr3.heap.size,3,none⟩=some (.int .i64 r.lo):=by rw[←mM.out];exact ah (aI wr3 _) 3 rfl
         have f4:wd.cell? ⟨wr3.heap.size,4,none⟩=some (.int .i64 (hi':Int)):=by rw[←mM.out];exact ah (aI wr3 _) 4 rfl
         have Jr:=hid (HCJ.out.quiet (wy:=wd) (by rw[←mM.out];exact(Kept.refl _ wr3).alloc _));clear hcs hss hds hx hr0 hr1 hr2 hhi;go_upto_region 38 with fail
         rw[mM.out];clear c0 c1 c2 c3 c4 mM;by_cases hlo:r.lo=(at_:Int)
         ·have hbe:(r.lo==(at_:Int))=true:=by simpa using hlo
          have HN:Hid (pW at_ (gone.take (j+1)) (x0,at_+1)=([32],hi')):=hid (by rw[YZ.out,if_pos hlo]);clear hlo;go_wp2_with fail
          go_quiet (fail)
          go_wp2_with fail
          go_roundw
          case measure=>simp[intOf];omega
          case rel=>exact⟨j+1,([32],hi'),by omega,by go_num,rfl,rfl,hid HN.out.symm,hid (Jr.out.quiet ((Kept.refl _ _).drewN _))⟩
         have hbe:(r.lo==(at_:Int))=false:=by simpa using hlo
         have HN:Hid (pW at_ (gone.take (j+1)) (x0,at_+1)=y):=hid (by rw[YZ.out,if_neg hlo]);clear hlo;go_wp2_with fail
         go_roundw
         case measure=>simp[intOf];omega
         case rel=>exact⟨j+1,y,by omega,by go_num,rfl,rfl,hid HN.out.symm,Jr⟩
        obtain rfl:j=gone.length:=by omega
        have HYZ:Hid (y=pW at_ gone (x0,at_+1)):=hid (by have:=HY.out;rwa [List.take_length]at this);go_wp2_with fail
        go_loopw [19,21,22,166] (λov nv pv c wx=>∃(k:Nat) (z:B×(B×Nat)),k≤l.length∧c=.int .i64 (k:Int)∧nv=.int .i64 (z.2.2:Int)∧pv=.string (str z.2.1)∧Hid (z=jT at_ tx 0 (l.take k) (out,y))∧Hid (JK w4 wx ov z.1)) (λ_ _ _ c _=>l.length-(intOf c).toNat)
        case atStart=>exact⟨0,(out,y),by omega,rfl,rfl,rfl,hid rfl,HCJ⟩
        case round=>
         obtain⟨k,z,hk,rfl,rfl,rfl,HZ,HCK⟩:=hrel;obtain⟨wr4,amN⟩:∃x,x=wr:=⟨_,rfl⟩;subst amN;obtain⟨oa2,oc2,rfl⟩:=HCK.out.own.form;by_cases QK:k<l.length
         ·have hx:=List.getElem?_eq_getElem QK;generalize hgx:l[k]=n at hx;clear hgx;have hnl:=EX.out.node n (List.mem_of_getElem? hx);obtain⟨nb,qY,av,rfl,g0,g1,g2,g3,g4,g5,hav⟩:=FX.out.at hx;obtain⟨aa,mG,rfl,ML,wI⟩:=hav.form;unfold maxLen at wI;replace g0:=HCK.out.kept.cell id g0;replace g1:=HCK.out.kept.cell id g1;replace g2:=HCK.out.kept.cell id g2;replace g3:=HCK.out.kept.cell id g3;replace g4:=HCK.out.kept.cell id g4;replace g5:=HCK.out.kept.cell id g5;obtain⟨wd,mM⟩:∃x,Hid (wr4.alloc (.cells #[.string (str n.name),.int .i64 n.parent,.slice aa n.attrs.length mG,.int .i64 n.bG,.int .i64 n.qE,.int .i64 n.inT] 45 (0,0))=x):=⟨_,hid rfl⟩;obtain⟨nd,HND⟩:∃x,Hid (wr4.heap.size=x):=⟨_,hid rfl⟩;have hn0:wd.heap[nd]?=some (.cells #[.string (str n.name),.int .i64 n.parent,.slice aa n.attrs.length mG,.int .i64 n.bG,.int .i64 n.qE,.int .i64 n.inT] 45 (0,0)):=by rw[←mM.out,←HND.out];exact aI wr4 _
          have hcd:=HCK.out.quiet (wy:=wd) (by rw[←mM.out];exact(Kept.refl _ wr4).alloc _);obtain⟨T,HT2⟩:∃x,Hid (tx k=x):=⟨_,hid rfl⟩;obtain⟨hd,HHD⟩:∃x,Hid ((gJ n.attrs aj).2=x):=⟨_,hid rfl⟩;obtain⟨hS,hTl⟩:=ajv.out k QK;rw[HT2.out]at hS hTl;have hH:=HB.out.hd k n QK hx;rw[HHD.out]at hH;have x1:=(HB.out.sty.kept hcd.kept id).cell hS;have x2:=(HB.out.had.kept hcd.kept id).cell hH;have n2:=ah hn0 2 rfl;have n3:=ah hn0 3 rfl;have PD:Hid (jT at_ tx 0 (l.take (k+1)) (out,y)=(tJ at_ T n z.1,jL at_ T n.attrs z.2)):=hid (by
           rw[List.take_add_one,hx,Option.toList_some,EK,←HZ.out,List.length_take,Nat.min_eq_left hk,Nat.zero_add,HT2.out])
          have hln:=HLN.out (k+1);rw[←HYZ.out,PD.out]at hln;have amO:=hid hln;obtain⟨te,HTE⟩:∃x,Hid (T.isEmpty=x):=⟨_,hid rfl⟩;obtain⟨b1,HB1⟩:∃x,Hid ((n.bG==(at_:Int))=x):=⟨_,hid rfl⟩;have Jr:=hid hcd;have Ec:=hid hav;have ZR:=hid hnl.attrs;have HSK:=hid hS;have HNR:Hid (∀q,(Value.slice oa2 z.1.length oc2).ownBlock=some q→q<nd):=hid (λq hq=>by rw[←HND.out];exact(World.ownsRow.lt HCK.out.own q hq).2);clear hx hnl hav hn0 hcd hS hH hln;go_upto_region 44 with fail
          rw[mM.out,HND.out];clear g0 g1 g2 g3 g4 g5 mM HND;go_cut [188] (λc wx=>wx=wd∧c=.bool (b1&&(!hd && !te)))
          case first=>
           have hte:=HTE.out;have agM:(T==[])=te:=by rw[←HTE.out];cases T<;>rfl
           have hb1:=HB1.out;cases b1 with
           | false=>
            go_wp2_with fail
            go_meet
            case rel=>exact⟨rfl,rfl⟩
           | true=>
            cases hd with
            | true=>
             go_wp2_with fail
             go_meet
             case rel=>exact⟨rfl,rfl⟩
            | false=>
             cases te with
             | true=>
              go_wp2_with fail
              go_meet
              case rel=>exact⟨rfl,rfl⟩
             | false=>
              go_wp2_with fail
              go_meet
              case rel=>exact⟨rfl,rfl⟩
          case rest=>
           obtain⟨hwc,rfl⟩:=hcut;obtain⟨q,HQ⟩:∃x,Hid ((b1&&(!hd && !te))=x):=⟨_,hid rfl⟩;have Gs:Hid (tJ at_ T n z.1=if q=true then z.1++gq T else z.1):=hid (by
            have e:(n.bG=(at_:Int)∧(gJ n.attrs aj).2=false∧T≠[])↔q=true:=by
             rw[←HQ.out,←HB1.out,←HTE.out,HHD.out];have e1:T.isEmpty=true↔T=[]:=List.isEmpty_iff;cases hd<;>cases hte:T.isEmpty<;>simp_all
            unfold tJ;by_cases hq:q=true
            ·rw[if_pos (e.2 hq),if_pos hq]
            rw[if_neg (λh=>hq (e.1 h)),if_neg hq])
           rw[HQ.out,hwc];clear hwc;go_upto_if 188 with fail
           go_cut [19] (λov wx=>Hid (JK w4 wx ov (tJ at_ T n z.1))∧Hid (Kept (λ_=>False) w4 wx)∧wx.cell? ⟨nd,2,none⟩=some (.slice aa n.attrs.length mG)∧wx.cell? ⟨ys,k,none⟩=some (.string (str T)))
           case first=>
            cases q with
            | true=>
             have hlz:z.1.length+(gq T).length≤500000:=by
              have:=amO.out;rw[Gs.out,if_pos rfl,List.length_append]at this;exact this
             obtain⟨a',c',w',hr',ho',hk',Y2⟩:=Jr.out.own.push Jr.out.kept rfl (gq T) (by omega);generalize Value.slice a' (z.1++gq T).length c'=ov' at hr' ho';have HO':Hid (JK w4 w' ov' (tJ at_ T n z.1)):=hid ⟨by rw[Gs.out,if_pos rfl];exact ho',hk'⟩;have HK':=hid hk';have hm2:w'.cell? ⟨nd,2,none⟩=some (.slice aa n.attrs.length mG):=Y2.cell (λh=>Nat.lt_irrefl _ (HNR.out nd h)) n2;have hm1:w'.cell? ⟨ys,k,none⟩=some (.string (str T)):=(HB.out.sty.kept hk' id).cell HSK.out;have hns:gq T=[32,115,116,121,108,101,61,34]++T++[34]:=rfl;have hT2:T.length≤1950:=hTl;rw[hns]at hr';have HR':=hid hr';have HM:=hid (And.intro hm2 hm1);clear hr' ho' hk' Y2 hm1 hm2 hlz hns;go_wp2_with (at_builtin;refine l7 (by rfl) _ _ _ _ rfl _ _ _ rfl rfl _ HR'.out ?_)
             go_meet
             case rel=>exact⟨HO',HK',HM.out.1,HM.out.2⟩
            | false=>
             have HO':Hid (JK w4 wd (.slice oa2 z.1.length oc2) (tJ at_ T n z.1)):=hid (by rw[Gs.out,if_neg (by simp)];exact Jr.out);go_wp2_with fail
             go_meet
             case rel=>exact⟨HO',hid Jr.out.kept,n2,x1⟩
           case rest=>
            obtain⟨HCX,JC,p2,p1⟩:=hcut;obtain⟨w5,hw5⟩:∃x,x=wc:=⟨_,rfl⟩;subst hw5;obtain⟨oa3,oc3,rfl⟩:=HCX.out.own.form;clear x1 x2 n2 n3;have HP1:=hid p1;go_wp2_with fail
            go_loopw [21,22,200] (λnv pv c wx=>∃(j:Nat) (u:B×Nat),j≤n.attrs.length∧c=.int .i64 (j:Int)∧nv=.int .i64 (u.2:Int)∧pv=.string (str u.1)∧Hid (u=jL at_ T (n.attrs.take j) z.2)∧Hid (Kept (λ_=>False) w5 wx)) (λ_ _ c _=>n.attrs.length-(intOf c).toNat)
            case atStart=>exact⟨0,z.2,by omega,rfl,rfl,rfl,hid rfl,hid (Kept.refl _ _)⟩
            case round=>
             obtain⟨j,u,hj,rfl,rfl,rfl,HU,Qj⟩:=hrel;obtain⟨wr5,amR⟩:∃x,x=wr:=⟨_,rfl⟩;subst amR;by_cases hjl:j<n.attrs.length
             ·have hy:=List.getElem?_eq_getElem hjl;generalize qX:n.attrs[j]=x at hy;clear qX;obtain⟨ab,ao,rfl,e0,e1,e2,e3⟩:=bZ.at Ec.out hy;obtain⟨y1,y2,y3,y4,y5⟩:=ZR.out x (List.mem_of_getElem? hy);obtain⟨hi',hhi⟩:∃hi:Nat,x.hi=hi:=⟨x.hi.toNat,by omega⟩;rw[hhi]at e3;have hkw:=JC.out.trans Qj.out;replace e0:=hkw.cell id e0;replace e1:=hkw.cell id e1;replace e2:=hkw.cell id e2;replace e3:=hkw.cell id e3;have YZ:Hid (jL at_ T (n.attrs.take (j+1)) z.2=if x.name≠aj∨x.lo≠(at_:Int)∨x.val=T then u else (if T=[] then [] else gq T,hi')):=hid (by
               rw[List.take_add_one,hy,HU.out,Option.toList_some,RY,hhi,Int.toNat_natCast])
              obtain⟨wa,gX⟩:∃z,Hid (wr5.alloc (.cells #[.string (str x.name),.string (str x.val),.int .i64 x.lo,.int .i64 (hi':Int)] 47 (0,0))=z):=⟨_,hid rfl⟩;have hm0:wa.heap[wr5.heap.size]?=some (.cells #[.string (str x.name),.string (str x.val),.int .i64 x.lo,.int .i64 (hi':Int)] 47 (0,0)):=by rw[←gX.out];exact aI wr5 _
              have hka:Kept (λ_=>False) w5 wa:=by rw[←gX.out];exact Qj.out.alloc _
              have m0:=ah hm0 0 rfl;have m1:=ah hm0 1 rfl;have m2:=ah hm0 2 rfl;have m3:=ah hm0 3 rfl;have mT:=hka.cell id HP1.out;have CB:=hid hka;clear hy y1 y2 y3 y4 y5 hhi hkw hm0 hka;go_upto_region 49 with fail
              rw[gX.out];clear e0 e1 e2 e3 gX;by_cases hnm:x.name=aj
              ·have hnb:(x.name==aj)=true:=by simpa using hnm
               unfold aj at hnb;by_cases hlo:x.lo=(at_:Int)
               ·have hlb:(x.lo==(at_:Int))=true:=by simpa using hlo
                have amS:(x.lo != (at_:Int))=false:=by simpa using hlo
                by_cases hv:x.val=T
                ·have hvb:(x.val==T)=true:=by simpa using hv
                 have HN:Hid (jL at_ T (n.attrs.take (j+1)) z.2=u):=hid (by rw[YZ.out,if_pos (.inr (.inr hv))]);clear hnm hlo hv;go_wp2_with fail
                 go_quiet (fail)
                 go_wp2_with fail
                 go_roundw
                 case measure=>simp[intOf];omega
                 case rel=>exact⟨j+1,u,by omega,by go_num,rfl,rfl,hid HN.out.symm,hid (CB.out.drewN _)⟩
                have hvb:(x.val==T)=false:=by simpa using hv
                have yF:Hid (jL at_ T (n.attrs.take (j+1)) z.2=(if T=[] then [] else gq T,hi')):=hid (by
                 rw[YZ.out,if_neg];rintro(h | h | h)
                 ·exact h hnm
                 ·exact h hlo
                 exact hv h)
                clear hnm hlo hv;by_cases hT0:T=[]
                ·have HN:Hid (jL at_ T (n.attrs.take (j+1)) z.2=([],hi')):=hid (by rw[yF.out,if_pos hT0]);have amT:T.isEmpty=true:=by rw[hT0];rfl
                 have agM:(T==[])=true:=by rw[hT0];rfl
                 clear hT0;go_wp2_with fail
                 go_quiet (fail)
                 go_wp2_with fail
                 go_quiet (fail)
                 go_wp2_with fail
                 go_roundw
                 case measure=>simp[intOf];omega
                 case rel=>exact⟨j+1,([],hi'),by omega,by go_num,rfl,by first | rfl | simp,hid HN.out.symm,hid (CB.out.drewN _)⟩
                have HN:Hid (jL at_ T (n.attrs.take (j+1)) z.2=(gq T,hi')):=hid (by rw[yF.out,if_neg hT0]);have amT:T.isEmpty=false:=by cases T with
                 | nil=>exact absurd rfl hT0
                 | cons c t=>rfl
                have agM:(T==[])=false:=by simpa using hT0
                clear hT0;go_wp2_with fail
                go_quiet (fail)
                go_wp2_with fail
                go_quiet (fail)
                go_wp2_with fail
                go_roundw
                case measure=>simp[intOf];omega
                case rel=>exact⟨j+1,(gq T,hi'),by omega,by go_num,rfl,by first | rfl | simp,hid HN.out.symm,hid (CB.out.drewN _)⟩
               have hlb:(x.lo==(at_:Int))=false:=by simpa using hlo
               have amS:(x.lo != (at_:Int))=true:=by simpa using hlo
               have HN:Hid (jL at_ T (n.attrs.take (j+1)) z.2=u):=hid (by rw[YZ.out,if_pos (.inr (.inl hlo))]);clear hnm hlo;go_wp2_with fail
               go_quiet (fail)
               go_wp2_with fail
               go_roundw
               case measure=>simp[intOf];omega
               case rel=>exact⟨j+1,u,by omega,by go_num,rfl,rfl,hid HN.out.symm,hid (CB.out.drewN _)⟩
              have hnb:(x.name==aj)=false:=by simpa using hnm
              unfold aj at hnb;have HN:Hid (jL at_ T (n.attrs.take (j+1)) z.2=u):=hid (by rw[YZ.out,if_pos (.inl hnm)]);clear hnm;go_wp2_with fail
              go_quiet (fail)
              go_wp2_with fail
              go_roundw
              case measure=>simp[intOf];omega
              case rel=>exact⟨j+1,u,by omega,by go_num,rfl,rfl,hid HN.out.symm,hid (CB.out.drewN _)⟩
             obtain rfl:j=n.attrs.length:=by omega
             have HUF:Hid (u=jL at_ T n.attrs z.2):=hid (by have:=HU.out;rwa [List.take_length]at this);go_wp2_with fail
             go_roundw
             case measure=>simp[intOf];omega
             case rel=>exact⟨k+1,(tJ at_ T n z.1,u),by omega,by go_num,rfl,rfl,hid (by rw[PD.out,HUF.out]),hid (HCX.out.quiet Qj.out)⟩
         obtain rfl:k=l.length:=by omega
         have HZF:Hid (z=jT at_ tx 0 l (out,y)):=hid (by have:=HZ.out;rwa [List.take_length]at this);have hnx:=Eo.out;have hrs:zf s gone tx l at_ out=(z.1++z.2.1,z.2.2):=by unfold zf;rw[HX0.out,←HYZ.out,←HZF.out]
         rw[hrs]at hnx;obtain⟨hnx1,hnx2⟩:=hnx;have hl2:=hnx1.le.2;rw[List.length_append]at hl2;obtain⟨a',c',w',hr',ho',hk',_⟩:=HCK.out.own.push HCK.out.kept rfl z.2.1 (by omega);generalize Value.slice a' (z.1++z.2.1).length c'=ov' at hr' ho';have HR':=hid hr';have HO':=hid ho';have HK':=hid hk';have amU:=hid hnx1;have hnx3:at_<z.2.2:=hnx2;clear hr' ho' hk' hnx1 hl2 hrs;go_wp2_with (at_builtin;refine l7 (by rfl) _ _ _ _ rfl _ _ _ rfl rfl _ HR'.out ?_)
         go_roundw
         case measure=>simp[intOf];omega
         case rel=>exact⟨z.2.2,z.1++z.2.1,rfl,hid ⟨HO'.out,HK'.out⟩,amU⟩
     have hoe:=hid (HA.out.done (by omega));have amV:¬(at_:Int)≤(s.length:Int):=by omega
     by_cases h6:6000<out.length
     ·have hr:Hid (R=.bad ⟨4,0⟩):=hid (by rw[HRF.out,←hoe.out,if_pos h6]);have h6I:(6000:Int)<(out.length:Int):=by omega
      obtain⟨wf,hwf,q0,q1,q2,h5,h7,f5,f7⟩:=rX HW0.out (oJ.out.trans (HB.out.kept.trans HC.out.kept)) (.int .i64 4) (.int .i64 0);have HD:=hid (And.intro hwf (And.intro q0 (And.intro q1 q2)));clear hwf q0 q1 q2 h6;go_wp2_with fail
      rw[HD.out.1];refine bodyPost_ret (v:=.tuple #[.string ⟨#[]⟩,.agg #[.int .i64 4,.int .i64 0]]) (by simp[results,Tryz.results20,go_sem,show wf.cell? _=_ from HD.out.2.1,show wf.cell? _=_ from HD.out.2.2.1]) rfl ?_;have hfin:=DL.out _ HD.out.2.2.2;rw[hr.out,IV]at hfin;exact hfin
     have hr:Hid (R=.ok out):=hid (by rw[HRF.out,←hoe.out,if_neg h6]);have h6I:¬(6000:Int)<(out.length:Int):=by omega
     have hct:=HC.out.own.text;obtain⟨wf,hwf,q0,q1,q2,h5,h7,f5,f7⟩:=rX HW0.out (oJ.out.trans (HB.out.kept.trans HC.out.kept)) (.int .i64 0) (.int .i64 0);have HD:=hid (And.intro hwf (And.intro q0 (And.intro q1 q2)));clear hwf q0 q1 q2 h6;go_wp2_with fail
     rw[HD.out.1];refine bodyPost_ret (v:=.tuple #[.string (str out),.agg #[.int .i64 0,.int .i64 0]]) (by simp[results,Tryz.results20,go_sem,show wf.cell? _=_ from HD.out.2.1,show wf.cell? _=_ from HD.out.2.2.1]) rfl ?_;have hfin:=DL.out _ HD.out.2.2.2;rw[hr.out,RJ]at hfin;exact hfin
theorem acg(w:World)(va vb:Value)(ns:List ak)(ha:aX w va ns)(hb:aX w vb ns):
  Calls Tryz.prog 15 #[va,vb] w λe w'=>e=.returned (.bool true)∧Qt w w':=by
 obtain⟨aa,ca,rfl,agO,VK⟩:=ha.form;obtain⟨ab,cb,rfl,agP,hcb2⟩:=hb.form;unfold maxLen at VK hcb2;have HA:=hid ha;have HB:=hid hb;clear ha hb;go_enter Tryz.func15,Tryz.ntmps15
 go_wp2
 go_loopw [14] (λi wr=>∃k:Nat,k≤ns.length∧i=.int .i64 k∧Hid (Qt w wr)) (λi _=>ns.length-(intOf i).toNat)
 case atStart=>exact⟨0,by omega,rfl,Qt.refl _⟩
 case round=>
  obtain⟨i,hi,rfl,HQ⟩:=hrel;obtain⟨bU,hwr0⟩:∃x,x=wr:=⟨_,rfl⟩;subst hwr0;by_cases hlt:i<ns.length
  ·have hx:=List.getElem?_eq_getElem hlt;generalize hgx:ns[i]=x at hx;clear hgx;obtain⟨b,off,av,rfl,g0,g1,g2,g3,g4,g5,hav⟩:=(HA.out.quiet HQ.out).at hx;obtain⟨b2,off2,av2,rfl,r0,r1,r2,r3,r4,r5,agQ⟩:=(HB.out.quiet HQ.out).at hx;obtain⟨a5,cap5,rfl,ach,hcap5⟩:=hav.form;obtain⟨a6,cap6,rfl,aen,hcap6⟩:=agQ.form;unfold maxLen at hcap5 hcap6;have Ec:=hid hav;have afM:=hid agQ;clear hx hav agQ;go_wp2_with fail
   go_quiet (fail)
   clear g0 g1 g3 g4 g5 r0 r1 r3 r4 r5;go_wp2_with fail
   go_loopw [88] (λj wx=>∃l:Nat,l≤x.attrs.length∧j=.int .i64 l∧Hid (Qt bU wx)) (λj _=>x.attrs.length-(intOf j).toNat)
   case atStart=>exact⟨0,by omega,rfl,⟨nq,rfl⟩⟩
   case round=>
    obtain⟨l,hl,rfl,rG⟩:=hrel;by_cases hlt2:l<x.attrs.length
    ·have hy:=List.getElem?_eq_getElem hlt2;generalize qX:x.attrs[l]=y at hy;clear qX;obtain⟨b3,FD,rfl,p0,p1,p2,p3⟩:=(Ec.out.qt rG.out).at hy;obtain⟨b4,Oj,rfl,q0,q1,q2,q3⟩:=(afM.out.qt rG.out).at hy;obtain⟨nn,hnn⟩:=rG.out;have g2':wr.cell? ⟨b,off+i*6+2,none⟩=some (.slice (some ⟨b3,FD,none⟩) x.attrs.length cap5):=by rw[hnn];exact g2
     have r2':wr.cell? ⟨b2,off2+i*6+2,none⟩=some (.slice (some ⟨b4,Oj,none⟩) x.attrs.length cap6):=by rw[hnn];exact r2
     clear hy g2 r2 hnn;go_wp2_with fail
     go_quiet (fail)
     go_wp2_with fail
     go_roundw
     case rel=>exact⟨l+1,by omega,by go_num,Qt.trans rG.out ⟨nq,rfl⟩⟩
     case measure=>simp[intOf];omega
    go_wp2_with fail
    go_roundw
    case rel=>exact⟨i+1,by omega,by go_num,Qt.trans HQ.out rG.out⟩
    case measure=>simp[intOf];omega
  go_wp2
  go_ret
  exact⟨rfl,HQ.out⟩
theorem JL(w:World)(va vb:Value)(ds:List aC)(ha:bC w va ds)(hb:bC w vb ds):
  Calls Tryz.prog 38 #[va,vb] w λe w'=>e=.returned (.bool true)∧Qt w w':=by
 obtain⟨aa,ca,rfl,agO,VK⟩:=ha.form;obtain⟨ab,cb,rfl,agP,hcb2⟩:=hb.form;unfold maxLen at VK hcb2;have HA:=hid ha;have HB:=hid hb;clear ha hb;go_enter Tryz.func38,Tryz.ntmps38
 go_wp2
 go_loopw [13] (λi wr=>∃k:Nat,k≤ds.length∧i=.int .i64 k∧Hid (Qt w wr)) (λi _=>ds.length-(intOf i).toNat)
 case atStart=>exact⟨0,by omega,rfl,Qt.refl _⟩
 case round=>
  obtain⟨i,hi,rfl,HQ⟩:=hrel;by_cases hlt:i<ds.length
  ·have hx:=List.getElem?_eq_getElem hlt;generalize hgx:ds[i]=x at hx;clear hgx;obtain⟨b,off,rfl,g0,g1,g2⟩:=bC.at (iy.quiet HA.out HQ.out) hx;obtain⟨b2,off2,rfl,r0,r1,r2⟩:=bC.at (iy.quiet HB.out HQ.out) hx;clear hx;go_wp2_with fail
   go_quiet (fail)
   go_wp2_with fail
   go_roundw
   case rel=>exact⟨i+1,by omega,by go_num,Qt.trans HQ.out ⟨nq,rfl⟩⟩
   case measure=>simp[intOf];omega
  go_wp2
  go_ret
  exact⟨rfl,HQ.out⟩
end Go.Proofs.YtplbdlgmjehckacGreatDoor

