/-
 Lemmas for the claims of this seat: the program's functions walked, and plain laws.
-/
import Derived.Test.YtplbdlgmjehckacGreatDoorPkFoTellsFull26
set_option maxRecDepth 100000
set_option maxHeartbeats 6400000
namespace Go.Proofs.YtplbdlgmjehckacGreatDoor
open Go.Lib (hid)
open Go.RowKit
set_option linter.unusedVariables false
set_option linter.unusedSimpArgs false
theorem Vs(s:B)(b base:Nat)(v:Value)(hbb:b<base)(g:Nat)(D7:List au)(XD:List Value)(lv:Value)(a:Nat)(w:World)(h:bJ w b s a good v)(hbs:base≤w.heap.size)(how:bP w base lv D7 XD)(hfew:D7.length≤60)(hg:(s.drop a).length<g):
  Calls Tryz.prog 81 #[.pointer (some ⟨b,0,none⟩),lv,.string ⟨#[]⟩] w (abT w base b s v lv (aP g [] D7 (s.drop a) a)):=
 Il [] s b base v hbb (λ_ nm g rs vs lv a w hn h hbs how hfew hg=>Il nm s b base v hbb (λhh=>absurd hh hn) g rs vs lv a w h hbs how hfew hg) g D7 XD lv a w h hbs how hfew hg
def Vt(w:World)(r:Ans (List au))(e:Ending)(w':World):Prop:=
 match r with
 | .bad f=>e=.returned (.tuple #[.slice none 0 0,.agg #[.int .i64 (f.err:Int),.int .i64 (f.pos:Int)]])∧Below w.heap.size w w'
 | .ok rs=>∃v,e=.returned (.tuple #[v,.agg #[.int .i64 0,.int .i64 0]])∧Below w.heap.size w w'∧BM w' (λk=>k<w.heap.size) v rs
theorem Vu(s:B)(w:World)(hs:s.length≤9223372036854775807):
  Calls Tryz.prog 35 #[.string (str s)] w (Vt w (iZ s)):=by
 obtain⟨r,HR⟩:∃r,Hid (iZ s=r):=⟨_,rfl⟩;rw[HR.out];obtain⟨w0,HW0⟩:∃x,Hid (w.alloc (.cells #[.int .i64 0,.int .i64 0] 26 (0,0))=x):=⟨_,rfl⟩;have uq:Hid (Kept (λ_=>False) w w0):=hid (by rw[←HW0.out];exact(Kept.refl _ w).alloc _);have AL:Hid (w0.heap[w.heap.size]?=some (.cells #[.int .i64 0,.int .i64 0] 26 (0,0))):=hid (by rw[←HW0.out];exact aI w _);have hz0:w0.heap.size=w.heap.size+1:=by rw[←HW0.out];simp
 by_cases hl:4000<s.length
 ·obtain rfl:r=.bad ⟨4,0⟩:=by rw[←HR.out];unfold iZ;rw[if_pos hl]
  have hlI:4000<(s.length:Int):=by omega
  obtain⟨q0,q1,q2⟩:=aar AL.out uq.out (Nat.le_refl _) (.int .i64 4) (.int .i64 0);have f0:=aF AL.out 0;have f1:=aF AL.out 1;have c0:=ah AL.out 0 rfl;have c1:=ah AL.out 1 rfl;go_enter Tryz.func35,Tryz.ntmps35
  go_upto_region 1 with fail
  rw[HW0.out];go_wp2_with fail
  refine bodyPost_ret (v:=.tuple #[.slice none 0 0,.agg #[.int .i64 4,.int .i64 0]]) (by simp[results,Tryz.results35,go_sem,q0,q1]) rfl ?_;exact⟨rfl,q2.below⟩
 have hE:(aP (s.length+1) [] [] s 0).then (λx=>if x.2.1=[] then Ans.ok x.1 else .bad ⟨2,x.2.2⟩)=r:=by
  rw[←HR.out];unfold iZ;rw[if_neg hl];unfold aP;cases cO s 0<;>rfl
 have HE:=hid hE;clear hE;have hlI:(s.length:Int)≤4000:=by omega
 obtain⟨wb,jo⟩:∃x,Hid (w0.heap.size=x):=⟨_,rfl⟩;obtain⟨w1,HW1⟩:∃x,Hid (w0.alloc (.cells #[.string (str s),.int .i64 0,.int .i64 0,.int .i64 0,.slice none 0 0] 149 (0,0))=x):=⟨_,rfl⟩;have hwk:bJ w1 wb s 0 good (.slice none 0 0):=by
  rw[←HW1.out,←jo.out];exact⟨aI w0 _,Nat.zero_le _,by omega⟩
 have hk1:Kept (λ_=>False) w w1:=by rw[←HW1.out];exact uq.out.alloc _
 have hz1:w1.heap.size=w0.heap.size+1:=by rw[←HW1.out];simp
 have xq:wb=w.heap.size+1:=by rw[←jo.out];exact hz0
 have BF:w1.heap.size=w.heap.size+2:=by omega
 have HC:=Vs s wb w1.heap.size _ (by omega) (s.length+1) [] [] (.slice none 0 0) 0 w1 hwk (Nat.le_refl _) (dB.nil _ _) (by simp) (by simp);rw[List.drop_zero]at HC;have abA:=hid BF;clear BF;have HF1:Hid (w1.heap[w.heap.size]?=some (.cells #[.int .i64 0,.int .i64 0] 26 (0,0))):=hid (by rw[←HW1.out];exact iw AL.out _);have uZ:=hid hk1;replace HC:=hid HC;clear hwk hk1;go_enter Tryz.func35,Tryz.ntmps35
 go_upto_region 1 with fail
 rw[HW0.out];go_upto_region 4 with fail
 rw[HW1.out,←xq];have abB:=hid xq;clear hz0 hz1 xq;go_wp2_with fail
 refine HC.out.mono ?_;rintro e w2 ⟨l,rs,vs,f,a,rfl,hown,hwh,hk2,h2,hg2,hfew,hs2⟩;obtain⟨lo,lc,rfl⟩:=hown.form;have xq:=abB.out;have BF:=abA.out;have Gs:Hid (∀wx,Kept (λk=>k=wb∨k=w.heap.size) w2 wx→BM wx (λk=>k<w.heap.size) (.slice lo rs.length lc) rs):=hid (λwx hk=>
  ED _ _ _ _ _ _ _ (hown.done fU bn) hk (λk _ hs=>by show k<w1.heap.size;omega) (λk _ hx=>by have hx':k<w.heap.size:=hx;show k<w1.heap.size;omega))
 have Y2:Kept (· = wb) w1 w2:=hk2.mono (λk _ hs=>by
  rcases hs with hs | hs
  ·exact hs
  cases hs)
 have HF2:Hid (w2.heap[w.heap.size]?=some (.cells #[.int .i64 0,.int .i64 0] 26 (0,0))):=hid (Y2.heap (by omega) HF1.out);have iO:Hid (Kept (λ_=>False) w w2):=hid (uZ.out.trans' Y2 (λk hk hs=>by omega));have PZ:Hid (¬w.heap.size=wb):=hid (by omega);have HLE:Hid (w.heap.size≤wb):=hid (by omega);have H2:=hid h2;have c1:=h2.c1;have hla:=h2.2.1;have HS2:=hs2;clear hk2 Y2 h2 hown hwh hs2 xq BF;go_upto_region 5 with fail
 go_cut [25] (λc wx=>wx=w2∧c=.bool (decide (f.err=0∧a<s.length)))
 case first=>
  by_cases hf:f.err=0
  ·obtain rfl:=hg2 hf;by_cases hend:a<s.length
   ·have hc:decide (good.err=0∧a<s.length)=true:=by simp[good,hend]
    go_wp2_with (go_at_call 79;refine(bK true _ _ _ _ _ _ H2.out rfl).mono ?_;rintro e w3 ⟨rfl,rfl⟩)
    go_meet
    case rel=>exact⟨rfl,by rw[hc]⟩
   have hc:decide (good.err=0∧a<s.length)=false:=by simp[good];omega
   go_wp2_with (go_at_call 79;refine(bK true _ _ _ _ _ _ H2.out rfl).mono ?_;rintro e w3 ⟨rfl,rfl⟩)
   go_meet
   case rel=>exact⟨rfl,by rw[hc]⟩
  have hc:decide (f.err=0∧a<s.length)=false:=by simp[hf]
  have hf':((f.err:Int)==0)=false:=by simp;omega
  go_wp2_with (go_at_call 79;refine(bK false _ _ _ _ _ _ H2.out hf').mono ?_;rintro e w3 ⟨rfl,rfl⟩)
  go_meet
  case rel=>exact⟨rfl,by rw[hc]⟩
 case rest=>
  obtain⟨rfl,rfl⟩:=hcut;go_upto_if 25 with fail
  obtain⟨w2,hw2⟩:∃x,x=wc:=⟨_,rfl⟩;subst hw2;go_cut [] (λwx=>∃g,Hid (bJ wx wb s a g (.slice none 0 0))∧Hid (Kept (· = wb) w2 wx)∧(g.err=0→r=.ok rs)∧(g.err≠0→r=.bad g))
  case first=>
   by_cases hf:f.err=0
   ·obtain rfl:=hg2 hf;have hok:aP (s.length+1) [] [] s 0=.ok (rs,s.drop a,a):=by
     rcases HS2.out.2 rfl with⟨_,h⟩ | ⟨h,_⟩
     ·exact h
     exact absurd rfl h
    have hE:=HE.out;rw[hok]at hE;simp only[Ans.aN]at hE;by_cases hend:a<s.length
    ·have hr:Hid (r=.bad ⟨2,a⟩):=hid (by rw[←hE,if_neg (λh=>by have:=congrArg List.length h;rw[List.length_drop]at this;simp at this;omega)]);have hc:decide (good.err=0∧a<s.length)=true:=by simp[good,hend]
     rw[hc];clear hE hok;go_wp2_with fail
     refine(dP 2 a _ wb s a good _ H2.out rfl).mono ?_;rintro e w4 ⟨rfl,hk4,h4⟩;have uY:=hid hk4;have H4:=hid h4;clear hk4 h4;go_wp2_with fail
     go_meet
     case rel=>exact⟨⟨2,a⟩,H4,uY,λhh=>absurd hh (by simp),λ_=>hr.out⟩
    have hr:Hid (r=.ok rs):=hid (by rw[←hE,if_pos (List.drop_of_length_le (by omega))]);have hc:decide (good.err=0∧a<s.length)=false:=by simp[good];omega
    rw[hc];clear hE hok;go_wp2_with fail
    go_meet
    case rel=>exact⟨good,H2,hid (Kept.refl _ _),λ_=>hr.out,λhh=>absurd rfl hh⟩
   have hbad:aP (s.length+1) [] [] s 0=.bad f:=by
    rcases HS2.out.2 rfl with⟨h,_⟩ | ⟨_,h⟩
    ·exact absurd h hf
    exact h
   have hE:=HE.out;rw[hbad]at hE;have hr:Hid (r=.bad f):=hid (by rw[←hE];rfl);have hc:decide (f.err=0∧a<s.length)=false:=by simp[hf]
   rw[hc];clear hE hbad;go_wp2_with fail
   go_meet
   case rel=>exact⟨f,H2,hid (Kept.refl _ _),λhh=>absurd hh hf,λ_=>hr.out⟩
  case rest=>
   obtain⟨g,HG,ET,hg0,hg1⟩:=hcut;have Ld:Hid (wc.heap[w.heap.size]?=some (.cells #[.int .i64 0,.int .i64 0] 26 (0,0))):=hid (ET.out.heap PZ.out HF2.out);have qm:Hid (Kept (λ_=>False) w wc):=hid (iO.out.trans' ET.out (λk hk hs=>by have:=HLE.out;omega));have x0:=ah Ld.out 0 rfl;have x1:=ah Ld.out 1 rfl;have y0:=aF Ld.out 0;have y1:=aF Ld.out 1;clear c1;by_cases hg:g.err=0
   ·have hr:=hg0 hg;subst hr;obtain⟨q0,q1,q2⟩:=aar Ld.out qm.out (Nat.le_refl _) (.int .i64 0) (.int .i64 0);have HD:=hid (Gs.out ((wc.setCell ⟨w.heap.size,0,none⟩ (.int .i64 0)).setCell ⟨w.heap.size,1,none⟩ (.int .i64 0)) (((ET.out.mono (T:=λk=>k=wb∨k=w.heap.size) (λk _ hk=>.inl hk)).setCell (p:=⟨w.heap.size,0,none⟩) (.inl (.inr rfl)) _).setCell (p:=⟨w.heap.size,1,none⟩) (.inl (.inr rfl)) _));have Q2:=hid q2;clear hg0 hg1 q2;go_wp2_with (go_at_call 79;refine(bK true _ _ _ _ _ _ HG.out (by simp[hg])).mono ?_;rintro e w3 ⟨rfl,rfl⟩)
    refine bodyPost_ret (v:=.tuple #[.slice lo rs.length lc,.agg #[.int .i64 0,.int .i64 0]]) (by simp[results,Tryz.results35,go_sem,q0,q1]) rfl ?_;exact⟨_,rfl,Q2.out.below,HD.out⟩
   have hr:=hg1 hg;subst hr;have hgf:((g.err:Int)==0)=false:=by simp;omega
   obtain⟨q0,q1,q2⟩:=aar Ld.out qm.out (Nat.le_refl _) (.int .i64 (g.err:Int)) (.int .i64 (g.pos:Int));have z2:=HG.out.c2;have z3:=HG.out.c3;obtain⟨wf,Ei⟩:∃x,Hid ((wc.setCell ⟨w.heap.size,0,none⟩ (.int .i64 (g.err:Int))).setCell ⟨w.heap.size,1,none⟩ (.int .i64 (g.pos:Int))=x):=⟨_,hid rfl⟩;rw[Ei.out]at q0 q1 q2;have Q0:=hid q0;have Q1:=hid q1;have Q2:=hid q2;clear hg0 hg1 q0 q1 q2;go_wp2_with (go_at_call 79;refine(bK false _ _ _ _ _ _ HG.out hgf).mono ?_;rintro e w3 ⟨rfl,rfl⟩)
   go_region
   go_wp2_with fail
   rw[Ei.out];have p0:wf.drew.cell? ⟨w.heap.size,0,none⟩=some (.int .i64 (g.err:Int)):=Q0.out;have p1:wf.drew.cell? ⟨w.heap.size,1,none⟩=some (.int .i64 (g.pos:Int)):=Q1.out;refine bodyPost_ret (v:=.tuple #[.slice none 0 0,.agg #[.int .i64 (g.err:Int),.int .i64 (g.pos:Int)]]) (by simp[results,Tryz.results35,go_sem,p0,p1]) rfl ?_;exact⟨rfl,Q2.out.drew.below⟩
theorem rX{w w0 wx:World}(h0:w.alloc (.cells #[.int .i64 0,.int .i64 0] 26 (0,0))=w0)(hk:Kept (λ_=>False) w0 wx)(x y:Value):
  ∃wf,(wx.setCell ⟨w.heap.size,0,none⟩ x).setCell ⟨w.heap.size,1,none⟩ y=wf∧wf.cell? ⟨w.heap.size,0,none⟩=some x∧wf.cell? ⟨w.heap.size,1,none⟩=some y∧Kept (λ_=>False) w wf ∧
   wx.cell? ⟨w.heap.size,0,none⟩=some (.int .i64 0)∧wx.cell? ⟨w.heap.size,1,none⟩=some (.int .i64 0)∧wx.frozen? ⟨w.heap.size,0,none⟩=false∧wx.frozen? ⟨w.heap.size,1,none⟩=false:=by
 subst h0;obtain⟨⟨a,b,c⟩,d,e,f,g⟩:=UZ hk x y;exact⟨_,rfl,a,b,c,d,e,f,g⟩
structure abY(wg wx:World)(B0:Nat)(u0 u:Value)(qs:List au)(vs:List Value):Prop where
 own:bP wx B0 u qs vs
 kept:Kept (λb=>u0.ownBlock=some b) wg wx
 whence:∀k,u.ownBlock=some k→u0.ownBlock=some k∨wg.heap.size≤k
theorem abY.push{wg wx wy w6:World}{B0 gg cap:Nat}{u0 u sv dv:Value}{qs:List au}{vs:List Value}{x:au}{X:Nat→Prop}{o:Obj}(h:abY wg wx B0 u0 u qs vs)(hxy:Kept (λ_=>False) wx wy)(hB:B0≤wg.heap.size)
  (hX:∀k,k<B0∨u0.ownBlock=some k→X k) (hs:vO wg X sv x.aZ) (hd:dD wg X dv x.decls)
  (hown:w6.ownsRow B0 42 5 (.slice (some ⟨gg,0,none⟩) (qs.length+1) cap) (qs.length+1) ((List.zipWith bI qs vs).flatten++bI x (.tuple #[sv,dv])))
  (hgrow:(wy.alloc o).grownBy w6 u.ownBlock) (hat:u.ownBlock=some gg∨gg=wy.heap.size+1):abY wg w6 B0 u0 (.slice (some ⟨gg,0,none⟩) (qs.length+1) cap) (qs++[x]) (vs++[.tuple #[sv,dv]]):=by
 have hky:=h.kept.trans (hxy.mono (T:=λb=>u0.ownBlock=some b) (λk _ h=>h.elim));have hsz:=hky.size;have hw:∀k,u.ownBlock=some k→u0.ownBlock=some k∨wg.heap.size≤k:=h.whence;have hq:CO wy (λk=>k<B0∨u.ownBlock=some k) (.tuple #[sv,dv]) x:=by
  have hx:∀k,k<wg.heap.size→(k<B0∨u.ownBlock=some k)→X k:=λk hk hh=>by
   rcases hh with hh | hh
   ·exact hX k (.inl hh)
   rcases hw k hh with h1 | h1
   ·exact hX k (.inr h1)
   omega
  exact⟨sv,dv,rfl,lU _ _ _ _ _ _ _ hs hky (λk _ hh=>hX k (.inr hh)) hx,jB _ _ _ _ _ _ _ hd hky (λk _ hh=>hX k (.inr hh)) hx⟩
 refine⟨(h.own.still hxy).push bn hq hown hgrow (by rcases hat with h | h;exact .inl h;exact .inr (by omega)),(hky.alloc o).grown hgrow hw,λk hk=>?_⟩;simp only[Value.ownBlock,Option.some.injEq]at hk;subst hk;rcases hat with h | h
 ·exact hw _ h
 exact .inr (by omega)
theorem DN(s:B)(w:World)(hw:0<w.heap.size)(hs:s.length≤9223372036854775807):
  Calls Tryz.prog 14 #[.string (str s)] w (QG w (rP s)):=by
 obtain⟨R,HR⟩:∃R,Hid (rP s=R):=⟨_,rfl⟩;rw[HR.out];obtain⟨w0,HW0⟩:∃x,Hid (w.alloc (.cells #[.int .i64 0,.int .i64 0] 26 (0,0))=x):=⟨_,rfl⟩;have hz0:w0.heap.size=w.heap.size+1:=by rw[←HW0.out];simp
 obtain⟨P0,HP⟩:∃P,Hid (lq s=P):=⟨_,rfl⟩;have JD:=Ve s w0 (by omega) hs;rw[HP.out]at JD;replace JD:=hid JD;have HZ0:=hid hz0;clear hz0;go_enter Tryz.func14,Tryz.ntmps14
 go_upto_region 1 with fail
 rw[HW0.out];go_wp2_with fail
 refine JD.out.mono ?_;intro e w1 he1;cases P0 with
 | bad f=>
  obtain⟨rfl,hb1⟩:=he1;have hr:Hid (R=.bad f):=hid (by rw[←HR.out,wZ,HP.out];rfl);have hne:((f.err:Int) != 0)=true:=by
   have:=xg (HR.out.trans hr.out);simp;omega
  obtain⟨wb,jo⟩:∃x,Hid (w1.alloc (.cells #[.int .i64 (f.err:Int),.int .i64 (f.pos:Int)] 26 (0,0))=x):=⟨_,rfl⟩;have hkb:Kept (λ_=>False) w0 wb:=by rw[←jo.out];exact(Kept.of_below hb1).alloc _
  have c0:wb.cell? ⟨w1.heap.size,0,none⟩=some (.int .i64 (f.err:Int)):=by rw[←jo.out];exact ah (aI w1 _) 0 rfl
  have c1:wb.cell? ⟨w1.heap.size,1,none⟩=some (.int .i64 (f.pos:Int)):=by rw[←jo.out];exact ah (aI w1 _) 1 rfl
  obtain⟨wf,hwf,q0,q1,q2,g0,g1,f0,f1⟩:=rX HW0.out hkb (.int .i64 (f.err:Int)) (.int .i64 (f.pos:Int));have HE:=hid (And.intro hwf (And.intro q0 (And.intro q1 q2)));clear hwf q0 q1 q2 hkb hb1;go_upto_region 2 with fail
  rw[jo.out];go_wp2_with fail
  go_region
  go_wp2_with fail
  rw[HE.out.1];refine bodyPost_ret (v:=.tuple #[.slice none 0 0,.slice none 0 0,.agg #[.int .i64 (f.err:Int),.int .i64 (f.pos:Int)]]) (by simp[results,Tryz.results14,go_sem,show wf.drew.cell? _=_ from HE.out.2.1,show wf.drew.cell? _=_ from HE.out.2.2.1]) rfl ?_;rw[hr.out];exact⟨rfl,HE.out.2.2.2.drew⟩
 | ok l=>
  obtain⟨lv,rfl,hb1,hl1⟩:=he1;obtain⟨hs6,hl6,Bv,W9⟩:=Hu HP.out;have QH:=hid Bv;obtain⟨la,lc,rfl,PK,wM⟩:=hl1.form;unfold maxLen at wM;have HE0:Hid (((bF s l).then λqs=>pO l ([]++qs))=R):=hid (by rw[←HR.out,wZ,HP.out];rfl);obtain⟨wb,jo⟩:∃x,Hid (w1.alloc (.cells #[.int .i64 0,.int .i64 0] 26 (0,0))=x):=⟨_,rfl⟩;have hkb:Kept (λ_=>False) w0 wb:=by rw[←jo.out];exact(Kept.of_below hb1).alloc _
  have HLV:Hid (aX wb (.slice la l.length lc) l):=hid (by rw[←jo.out];exact hl1.kept ((Kept.refl (λ_=>False) w1).alloc _).below);have c0:wb.cell? ⟨w1.heap.size,0,none⟩=some (.int .i64 0):=by rw[←jo.out];exact ah (aI w1 _) 0 rfl
  have HKB:=hid hkb;clear hb1 hl1 Bv W9 hkb;go_upto_region 2 with fail
  rw[jo.out];go_wp2_with fail
  go_loopw [7,36] (λu c wr=>∃(i:Nat) (rs:List au) (vs:List Value),i≤l.length∧rs.length≤60*i∧c=.int .i64 (i:Int)∧Hid (Kept (λ_=>False) wb wr)∧Hid (bP wr wb.heap.size u rs vs) ∧
   Hid (∀r∈rs,jQ r∧0≤r.lo∧r.lo≤r.hi∧r.hi≤s.length)∧Hid (((bF s (l.drop i)).then λqs=>pO l (rs++qs))=R)) (λ_ c _=>l.length-(intOf c).toNat)
  case atStart=>exact⟨0,[],[],by omega,by simp,rfl,hid (Kept.refl _ _),hid (dB.nil _ _),hid (by simp),HE0⟩
  case round=>
   obtain⟨i,rs,vs,hi,hrs,rfl,HK,ZP,HRL,HE⟩:=hrel;obtain⟨bU,hwr0⟩:∃x,x=wr:=⟨_,rfl⟩;subst hwr0;obtain⟨ua,uc,rfl⟩:=dw ZP.out.own;by_cases hlt:i<l.length
   ·have hx:=List.getElem?_eq_getElem hlt;have hdr:=List.drop_eq_getElem_cons hlt;generalize hgx:l[i]=n at hx hdr;clear hgx;obtain⟨nb,qY,av,rfl,g0,g1,g2,g3,g4,g5,hav⟩:=(aO.kept HLV.out HK.out).at hx;have hnl:=QH.out n (List.mem_of_getElem? hx);obtain⟨p,q,hpf,hqf,hpq,hqs⟩:=hnl.inner;have he:=HE.out;rw[hdr,Hw]at he;rw[hpf]at g4;rw[hqf]at g5;rw[hpf,hqf,Int.toNat_natCast,Int.toNat_natCast]at he;obtain⟨aa,mG,rfl,_,_⟩:=hav.form;clear hx hdr hav hnl;go_upto_region 8 with fail
    obtain⟨wn,wW⟩:∃x,Hid (bU.alloc (.cells #[.string (str n.name),.int .i64 n.parent,.slice aa n.attrs.length mG,.int .i64 n.bG,.int .i64 (p:Int),.int .i64 (q:Int)] 45 (0,0))=x):=⟨_,rfl⟩;obtain⟨nd,HND⟩:∃x,Hid (bU.heap.size=x):=⟨_,rfl⟩;have hn0:wn.heap[nd]?=some (.cells #[.string (str n.name),.int .i64 n.parent,.slice aa n.attrs.length mG,.int .i64 n.bG,.int .i64 (p:Int),.int .i64 (q:Int)] 45 (0,0)):=by rw[←wW.out,←HND.out];exact aI bU _
    have hkn:Kept (λ_=>False) bU wn:=by rw[←wW.out];exact(Kept.refl _ bU).alloc _
    have n0:=ah hn0 0 rfl;have n4:=ah hn0 4 rfl;have n5:=ah hn0 5 rfl;have yF:=hid hn0;have Dl:=hid (HK.out.trans hkn);rw[wW.out,HND.out];have U0:Hid (bP wn wb.heap.size (.slice ua rs.length uc) rs vs):=hid (ZP.out.still hkn);have HUN:Hid (∀k,(Value.slice ua rs.length uc).ownBlock=some k→k<nd):=hid (λk hk=>by rw[←HND.out];exact(ZP.out.own.lt k hk).2);have ZR:Hid (nd<wn.heap.size):=hid (gW hn0);clear g0 g1 g2 g3 g4 g5 hn0 hkn HND wW;by_cases hnm:n.name=aj
    ·rw[if_pos hnm]at he;have hnb:(n.name==aj)=true:=by simpa using hnm
     unfold aj at hnb;obtain⟨X,HX⟩:∃X,Hid (iZ (sub s p q)=X):=⟨_,rfl⟩;rw[HX.out]at he;have hsl:(sub s p q).length=q-p:=yt s hpq hqs;have QI:=Vu (sub s p q) wn (by omega);rw[HX.out]at QI;replace QI:=hid QI;have OM:=hid he;unfold sub at QI;clear hnm he;have hps:p≤s.length:=by omega
     have HSL:=hid hsl;clear hsl;go_wp2_with fail
     refine QI.out.mono ?_;intro e w3 he3;cases X with
     | bad g=>
      obtain⟨rfl,hb3⟩:=he3;have hgb:=vk HX.out;rw[HSL.out]at hgb;have hr:Hid (R=.bad ⟨g.err,p+g.pos⟩):=hid OM.out.symm;have hne:((g.err:Int) != 0)=true:=by have:=hgb.1;simp;omega
      have hgp:(g.pos:Int)≤6000:=by omega
      have hwr:IntKind.i64.wrap ((p:Int)+(g.pos:Int))=(p:Int)+(g.pos:Int):=by rw[IntKind.wrap_i64];omega
      obtain⟨wg,yG⟩:∃x,Hid (w3.alloc (.cells #[.int .i64 (g.err:Int),.int .i64 (g.pos:Int)] 26 (0,0))=x):=⟨_,rfl⟩;have hkg:Kept (λ_=>False) wn wg:=by rw[←yG.out];exact(Kept.of_below hb3).alloc _
      have c0:wg.cell? ⟨w3.heap.size,0,none⟩=some (.int .i64 (g.err:Int)):=by rw[←yG.out];exact ah (aI w3 _) 0 rfl
      have c1:wg.cell? ⟨w3.heap.size,1,none⟩=some (.int .i64 (g.pos:Int)):=by rw[←yG.out];exact ah (aI w3 _) 1 rfl
      have m4:=hkg.cell id n4;obtain⟨wf,hwf,q0,q1,q2,g0,g1,f0,f1⟩:=rX HW0.out (HKB.out.trans (Dl.out.trans hkg)) (.int .i64 (g.err:Int)) (.int .i64 ((p:Int)+(g.pos:Int)));have HD:=hid (And.intro hwf (And.intro q0 (And.intro q1 q2)));go_upto_region 10 with fail
      rw[yG.out];clear hb3 hkg n0 n4 n5 hgb hwf q0 q1 q2;go_wp2_with fail
      go_region
      go_wp2_with fail
      rw[HD.out.1];refine bodyPost_ret (v:=.tuple #[.slice none 0 0,.slice none 0 0,.agg #[.int .i64 (g.err:Int),.int .i64 ((p:Int)+(g.pos:Int))]]) (by simp[results,Tryz.results14,go_sem,show wf.drew.cell? _=_ from HD.out.2.1,show wf.drew.cell? _=_ from HD.out.2.2.1]) rfl ?_;rw[hr.out];refine⟨?_,HD.out.2.2.2.drew⟩;unfold QF;rw[Int.natCast_add]
     | ok xs=>
      obtain⟨rv,rfl,hb3,agw⟩:=he3;obtain⟨xa,xc,rfl,als,af6⟩:=kJ.form agw;obtain⟨alr,hxr⟩:=zS HX.out;rw[HSL.out]at hxr;have HXR:=hid hxr;obtain⟨wg,yG⟩:∃x,Hid (w3.alloc (.cells #[.int .i64 0,.int .i64 0] 26 (0,0))=x):=⟨_,rfl⟩;have QJ:Kept (λ_=>False) w3 wg:=by rw[←yG.out];exact(Kept.refl _ w3).alloc _
      have hkg:Kept (λ_=>False) wn wg:=(Kept.of_below hb3).trans QJ;have c0:wg.cell? ⟨w3.heap.size,0,none⟩=some (.int .i64 0):=by rw[←yG.out];exact ah (aI w3 _) 0 rfl
      have HIG:Hid (BM wg (λk=>k<wn.heap.size) (.slice xa xs.length xc) xs):=hid (ED _ _ _ _ _ _ _ agw QJ (λ_ _ h=>h.elim) (λ_ _ h=>h));have ET:=hid hkg;have HLP:Hid (abY wg wg wb.heap.size (.slice ua rs.length uc) (.slice ua rs.length uc) rs vs):=hid ⟨U0.out.still hkg,Kept.refl _ _,λk hk=>.inl hk⟩;unfold maxLen at af6;go_upto_region 10 with fail
      rw[yG.out];clear hb3 QJ hkg agw hxr n0 n4 n5;go_wp2_with fail
      go_loopw [7,69] (λu c wx=>∃(k:Nat) (vs':List Value),k≤xs.length∧c=.int .i64 (k:Int)∧Hid (abY wg wx wb.heap.size (.slice ua rs.length uc) u (rs++(xs.take k).map (au.shift p)) vs')) (λ_ c _=>xs.length-(intOf c).toNat)
      case atStart=>exact⟨0,vs,by omega,rfl,by simpa using HLP⟩
      case round=>
       obtain⟨k,vs',hk,rfl,HO⟩:=hrel;obtain⟨jk,nD⟩:∃x,x=wr:=⟨_,rfl⟩;subst nD;obtain⟨qs,HQS⟩:∃x,Hid (rs++(xs.take k).map (au.shift p)=x):=⟨_,rfl⟩;rw[HQS.out]at HO;have hql:qs.length≤60*i+k:=by rw[←HQS.out];simp;omega
       obtain⟨qa,qc,rfl⟩:=dw HO.out.own.own;by_cases QK:k<xs.length
       ·have hy:=List.getElem?_eq_getElem QK;generalize qX:xs[k]=y at hy;clear qX;have hig:=HIG.out;obtain⟨xb,xo,uu,rfl,hcs,sv,dv,rfl,hss,hds⟩:=kJ.at hig hy;obtain⟨_,_,_,hnx,_⟩:=hig;have hxb:¬(Value.slice ua rs.length uc).ownBlock=some xb:=λh=>by
         have h1:=(hnx xb rfl).1;have h2:=HUN.out xb h;have:=ZR.out;exact h1 (by omega)
        obtain⟨sa,sc,rfl,_,_⟩:=kJ.form hss;obtain⟨da,dc,rfl,_,_⟩:=dD.form hds;obtain⟨_,hy0,hy1,hy2⟩:=HXR.out y (List.mem_of_getElem? hy);obtain⟨lo,hlo⟩:∃lo:Nat,y.lo=lo:=⟨y.lo.toNat,by omega⟩;obtain⟨hi',hhi⟩:∃hi:Nat,y.hi=hi:=⟨y.hi.toNat,by omega⟩;have q0:=HO.out.kept.cell hxb (hcs 0 (.string (str y.ay)) rfl);have q1:=HO.out.kept.cell hxb (hcs 1 (.slice sa y.aZ.length sc) rfl);have q2:=HO.out.kept.cell hxb (hcs 2 (.slice da y.decls.length dc) rfl);have q3:=HO.out.kept.cell hxb (hcs 3 (.int .i64 y.lo) rfl);have q4:=HO.out.kept.cell hxb (hcs 4 (.int .i64 y.hi) rfl);rw[Nat.add_zero]at q0;rw[hlo]at q3;rw[hhi]at q4;have hw1:IntKind.i64.wrap ((lo:Int)+(p:Int))=(lo:Int)+(p:Int):=by rw[IntKind.wrap_i64];omega
        have hw2:IntKind.i64.wrap ((hi':Int)+(p:Int))=(hi':Int)+(p:Int):=by rw[IntKind.wrap_i64];omega
        have hb1:(lo:Int)≤6000:=by omega
        have hb2:(hi':Int)≤6000:=by omega
        have hb3:(p:Int)≤6000:=by omega
        have HSH:Hid (au.shift p y=⟨y.ay,y.aZ,y.decls,(lo:Int)+(p:Int),(hi':Int)+(p:Int)⟩):=hid (by unfold au.shift;rw[hlo,hhi]);have HSS:=hid hss;have HDS:=hid hds;have YZ:Hid (rs++(xs.take (k+1)).map (au.shift p)=qs++[au.shift p y]):=hid (by rw[List.take_add_one,hy,←HQS.out];simp);obtain⟨wx,HWX⟩:∃x,Hid (jk.alloc (.cells #[.string (str y.ay),.slice sa y.aZ.length sc,.slice da y.decls.length dc,.int .i64 (lo:Int),.int .i64 (hi':Int)] 42 (0,0))=x):=⟨_,rfl⟩;obtain⟨rb,Us⟩:∃x,Hid (jk.heap.size=x):=⟨_,rfl⟩;have hx0:wx.heap[rb]?=some (.cells #[.string (str y.ay),.slice sa y.aZ.length sc,.slice da y.decls.length dc,.int .i64 (lo:Int),.int .i64 (hi':Int)] 42 (0,0)):=by rw[←HWX.out,←Us.out];exact aI jk _
        have hkx:Kept (λ_=>False) jk wx:=by rw[←HWX.out];exact(Kept.refl _ jk).alloc _
        have r0:=ah hx0 0 rfl;have r1:=ah hx0 1 rfl;have r2:=ah hx0 2 rfl;have r3:=ah hx0 3 rfl;have r4:=ah hx0 4 rfl;have fr3:=aF hx0 3;have fr4:=aF hx0 4;have x4:wx.cell? ⟨nd,4,none⟩=some (.int .i64 (p:Int)):=hkx.cell id (HO.out.kept.cell (λh=>Nat.lt_irrefl _ (HUN.out nd h)) (ET.out.cell id (ah yF.out 4 rfl)));obtain⟨wy,JZ⟩:∃x,Hid ((wx.setCell ⟨rb,3,none⟩ (.int .i64 ((lo:Int)+(p:Int)))).setCell ⟨rb,4,none⟩ (.int .i64 ((hi':Int)+(p:Int)))=x):=⟨_,rfl⟩;have hy0:wy.heap[rb]?=some (.cells #[.string (str y.ay),.slice sa y.aZ.length sc,.slice da y.decls.length dc,.int .i64 ((lo:Int)+(p:Int)),.int .i64 ((hi':Int)+(p:Int))] 42 (0,0)):=by
         rw[←JZ.out];have:=aW (aW hx0 3 (.int .i64 ((lo:Int)+(p:Int)))) 4 (.int .i64 ((hi':Int)+(p:Int)));simpa using this
        have Tm:Hid (Kept (λ_=>False) jk wy):=hid (by
         rw[←JZ.out];exact(hkx.setCell (p:=⟨rb,3,none⟩) (.inr (by show _≤rb;rw[←Us.out];exact Nat.le_refl _)) _).setCell (p:=⟨rb,4,none⟩) (.inr (by show _≤rb;rw[←Us.out];exact Nat.le_refl _)) _)
        have HY0:=hid hy0;clear hcs hnx hxb hss hds hlo hhi hy hx0 hkx hy0 hy1 hy2;go_upto_region 15 with fail
        rw[HWX.out,Us.out];clear q0 q1 q2 q3 q4 HWX Us;go_upto_region 16 with fail
        rw[JZ.out];clear r0 r1 r2 r3 r4 fr3 fr4 x4 JZ;have r0:=ah HY0.out 0 rfl;have r1:=ah HY0.out 1 rfl;have r2:=ah HY0.out 2 rfl;have r3:=ah HY0.out 3 rfl;have r4:=ah HY0.out 4 rfl;have how:=(HO.out.own.still Tm.out).own;obtain⟨i0,hi0,hz0,hz1,hz2⟩:=info_parts uF;have hbw:wb.heap.size≤wy.heap.size:=Nat.le_trans (Nat.le_trans (Dl.out.trans ET.out).size HO.out.kept.size) Tm.out.size;go_wp2_with (at_builtin;refine wpList_append_lies _ rfl _ _ _ rfl wb.heap.size 42 i0 _ 5 80 Tryz.underlying23 hi0 hz0 hz1 hz2 rfl (by omega) _ qs.length _ (by rfl) (how.alloc _) ⟨wy.heap.size,0,none⟩ 1 1 (bI ⟨y.ay,y.aZ,y.decls,(lo:Int)+(p:Int),(hi':Int)+(p:Int)⟩ (.tuple #[.slice sa y.aZ.length sc,.slice da y.decls.length dc])) (by rfl) (by rfl) (World.news_of_block (cs:=(bI ⟨y.ay,y.aZ,y.decls,(lo:Int)+(p:Int),(hi':Int)+(p:Int)⟩ (.tuple #[.slice sa y.aZ.length sc,.slice da y.decls.length dc])).toArray) (t:=42) (fr:=(0,0)) (heap_alloc_new wy _)) (by simp[bI,XE,XF,Value.oneCell']) (by omega) (by unfold maxLen;omega) (by omega) (by simp;omega) (wy.heap.size+1) (by simp) ?_;intro gg cap w6 hown6 hgrow6 ES aaW)
        have HO6:=hid (HO.out.push (x:=⟨y.ay,y.aZ,y.decls,(lo:Int)+(p:Int),(hi':Int)+(p:Int)⟩) (X:=λk=>k<wn.heap.size) Tm.out (by have:=Dl.out.size;have:=ET.out.size;omega) (λk hk=>by
         have h1:=Dl.out.size;have h2:=ZR.out;show k<wn.heap.size
         rcases hk with hk | hk
         ·omega
         have:=HUN.out k hk;omega) HSS.out HDS.out hown6 hgrow6 ES)
        rw[←HSH.out,←YZ.out]at HO6;clear hown6 hgrow6 ES how r0 r1 r2 r3 r4;go_roundw
        case measure=>simp[intOf];omega
        case rel=>exact⟨k+1,_,by omega,by go_num,HO6⟩
       obtain rfl:k=xs.length:=by omega
       have hqe:qs=rs++xs.map (au.shift p):=by rw[←HQS.out,List.take_length]
       subst hqe;have HAK:Hid (Kept (λ_=>False) wb jk):=hid ((Dl.out.trans ET.out).trans' HO.out.kept (λb hb hS=>by have:=(U0.out.own.lt b hS).1;omega));have HAO:=hid HO.out.own;have af8:Hid (∀r∈rs++xs.map (au.shift p),jQ r∧0≤r.lo∧r.lo≤r.hi∧r.hi≤s.length):=hid (by
        intro r hr;rcases List.mem_append.1 hr with hr | hr
        ·exact HRL.out r hr
        obtain⟨y,hy,rfl⟩:=List.mem_map.1 hr;obtain⟨b1,b2,b3,b4⟩:=HXR.out y hy;refine⟨b1.shift _,?_⟩;have el:(y.shift p).lo=y.lo+(p:Int):=rfl;have eh:(y.shift p).hi=y.hi+(p:Int):=rfl;rw[el,eh];omega)
       have hl2:(rs++xs.map (au.shift p)).length≤60*(i+1):=by simp;omega
       go_wp2_with fail
       go_roundw
       case measure=>simp[intOf];omega
       case rel=>exact⟨i+1,_,_,by omega,hl2,by go_num,HAK,HAO,af8,OM⟩
    rw[if_neg hnm]at he;have hnb:(n.name==aj)=false:=by simpa using hnm
    unfold aj at hnb;have OM:=hid he;clear hnm he;go_wp2_with fail
    go_roundw
    case measure=>simp[intOf];omega
    case rel=>exact⟨i+1,rs,vs,by omega,by omega,by go_num,Dl,U0,HRL,OM⟩
   obtain rfl:i=l.length:=by omega
   have he:pO l rs=R:=by
    have:=HE.out;rw[List.drop_length]at this;simpa [bF] using this
   have hrc:rs.length≤7200:=by omega
   have HRA:Hid (gy bU (.slice ua rs.length uc) rs):=hid (sZ (ZP.out.done fU bn));obtain⟨_,_,hcc,alA,af9⟩:=bH.form HRA.out;cases hcc;unfold maxLen at af9;have qm:=hid (HKB.out.trans HK.out);have FU:Hid (aX bU (.slice la l.length lc) l):=hid (aO.kept HLV.out HK.out);by_cases h60:60<rs.length
   ·have hr:Hid (R=.bad ⟨5,0⟩):=hid (by rw[←he];unfold pO;rw[if_pos h60]);have abm:(60:Int)<rs.length:=by omega
    obtain⟨wf,hwf,q0,q1,q2,g0,g1,f0,f1⟩:=rX HW0.out (qm.out) (.int .i64 5) (.int .i64 0);have HD:=hid (And.intro hwf (And.intro q0 (And.intro q1 q2)));clear hwf q0 q1 q2 he h60;go_wp2_with fail
    rw[HD.out.1];refine bodyPost_ret (v:=.tuple #[.slice none 0 0,.slice none 0 0,.agg #[.int .i64 5,.int .i64 0]]) (by simp[results,Tryz.results14,go_sem,show wf.cell? _=_ from HD.out.2.1,show wf.cell? _=_ from HD.out.2.2.1]) rfl ?_;rw[hr.out];exact⟨rfl,HD.out.2.2.2⟩
   have he2:o8 l rs (rs.drop 0)=R:=by rw[←he];unfold pO;rw[if_neg h60];rfl
   have HE2:=hid he2;have aij:(rs.length:Int)≤60:=by omega
   clear he he2 h60;obtain⟨wA,hwA⟩:∃x,x=bU:=⟨_,rfl⟩;subst hwA;go_wp2_with fail
   go_loopw [101] (λc wx=>∃i:Nat,i≤rs.length∧c=.int .i64 (i:Int)∧Hid (Kept (λ_=>False) wA wx)∧Hid (o8 l rs (rs.drop i)=R)) (λc _=>rs.length-(intOf c).toNat)
   case atStart=>exact⟨0,by omega,rfl,hid (Kept.refl _ _),HE2⟩
   case round=>
    obtain⟨i,hi,rfl,YK,HEI⟩:=hrel;obtain⟨jk,nD⟩:∃x,x=wr:=⟨_,rfl⟩;subst nD;have af':=hid (qm.out.trans YK.out);by_cases hlt1:i<rs.length
    ·have hx:=List.getElem?_eq_getElem hlt1;have hdr:=List.drop_eq_getElem_cons hlt1;generalize hgx:rs[i]=r at hx hdr;clear hgx;have QL:=HEI.out;rw[hdr,Bz]at QL;obtain⟨rb,ro,u,rfl,hcs,sv,dv,rfl,hss,hds⟩:=bH.at (eG.kept HRA.out YK.out) hx;obtain⟨sa,sc,rfl,_,_⟩:=bH.form hss;obtain⟨da,dc,rfl,Pv,wJ⟩:=bC.form hds;obtain⟨hrl,hr0,hr1,hr2⟩:=HRL.out r (List.mem_of_getElem? hx);obtain⟨lo,hlo⟩:∃lo:Nat,r.lo=lo:=⟨r.lo.toNat,by omega⟩;have c0:jk.cell? ⟨rb,ro+i*5,none⟩=some (.string (str r.ay)):=hcs 0 _ rfl;have c1:jk.cell? ⟨rb,ro+i*5+1,none⟩=some (.slice sa r.aZ.length sc):=hcs 1 _ rfl;have c2:jk.cell? ⟨rb,ro+i*5+2,none⟩=some (.slice da r.decls.length dc):=hcs 2 _ rfl;have c3:jk.cell? ⟨rb,ro+i*5+3,none⟩=some (.int .i64 (lo:Int)):=by have:=hcs 3 _ rfl;rwa [hlo]at this
     have c4:jk.cell? ⟨rb,ro+i*5+4,none⟩=some (.int .i64 r.hi):=hcs 4 _ rfl;rw[hlo,Int.toNat_natCast]at QL;have aga:(lo:Int)≤6000:=by omega
     clear hcs hss hx hdr hr0 hr1 hr2 hlo;obtain⟨wn,wW⟩:∃x,Hid (jk.alloc (.cells #[.string (str r.ay),.slice sa r.aZ.length sc,.slice da r.decls.length dc,.int .i64 (lo:Int),.int .i64 r.hi] 42 (0,0))=x):=⟨_,rfl⟩;have hn0:wn.heap[jk.heap.size]?=some (.cells #[.string (str r.ay),.slice sa r.aZ.length sc,.slice da r.decls.length dc,.int .i64 (lo:Int),.int .i64 r.hi] 42 (0,0)):=by rw[←wW.out];exact aI jk _
     have hkn:Kept (λ_=>False) jk wn:=by rw[←wW.out];exact(Kept.refl _ jk).alloc _
     have n2:wn.cell? ⟨jk.heap.size,2,none⟩=some (.slice da r.decls.length dc):=ah hn0 2 rfl;have yF:=hid hn0;have Dl:=hid (af'.out.trans hkn);have amm:=hid (YK.out.trans hkn);obtain⟨X,HX⟩:∃X,Hid (fH r.decls=X):=⟨_,rfl⟩;have Fb:=wS wn _ r.decls (aH.below hds hkn.below) (by have:=hrl.decls;omega) (λd hd=>by have:=(hrl.each d hd).2;omega);rw[HX.out]at Fb QL;replace Fb:=hid Fb;have abn:=hid QL;unfold maxLen at wJ;go_upto_region 24 with fail
     rw[wW.out];clear c0 c1 c2 c3 c4 hn0 hkn hds hrl QL;go_wp2_with fail
     refine Fb.out.mono ?_;intro e w5 YD;cases X with
     | none=>
      obtain⟨rfl,hb5⟩:=YD;have hk5:Kept (λ_=>False) wn w5:=Kept.of_below hb5;have hr:Hid (R=.bad ⟨5,lo⟩):=hid abn.out.symm;have x3:w5.cell? ⟨jk.heap.size,3,none⟩=some (.int .i64 (lo:Int)):=hk5.cell id (ah yF.out 3 rfl);obtain⟨wf,hwf,q0,q1,q2,g0,g1,f0,f1⟩:=rX HW0.out (Dl.out.trans hk5) (.int .i64 5) (.int .i64 (lo:Int));have HD:=hid (And.intro hwf (And.intro q0 (And.intro q1 q2)));clear hwf q0 q1 q2 hb5 hk5 n2;go_wp2_with fail
      go_region
      go_wp2_with fail
      rw[HD.out.1];refine bodyPost_ret (v:=.tuple #[.slice none 0 0,.slice none 0 0,.agg #[.int .i64 5,.int .i64 (lo:Int)]]) (by simp[results,Tryz.results14,go_sem,show wf.drew.cell? _=_ from HD.out.2.1,show wf.drew.cell? _=_ from HD.out.2.2.1]) rfl ?_;rw[hr.out];exact⟨rfl,HD.out.2.2.2.drew⟩
     | some x=>
      obtain⟨xv,rfl,hb5,_⟩:=YD;have zF:=hid (amm.out.trans (Kept.of_below hb5));clear hb5 n2;go_wp2_with fail
      go_roundw
      case measure=>simp[intOf];omega
      case rel=>exact⟨i+1,by omega,by go_num,zF,hid (by have:=abn.out;simpa using this)⟩
    obtain rfl:i=rs.length:=by omega
    have QL:jV l rs ((l.drop 0).flatMap (·.attrs))=R:=by
     have:=HEI.out;rw[List.drop_length,EC]at this;exact this
    have WW:=hid QL;clear QL;have adL:=YK;obtain⟨wB,hwB⟩:∃x,x=jk:=⟨_,rfl⟩;subst hwB;go_wp2_with fail
    go_loopw [121] (λc wx=>∃k:Nat,k≤l.length∧c=.int .i64 (k:Int)∧Hid (Kept (λ_=>False) wB wx)∧Hid (jV l rs ((l.drop k).flatMap (·.attrs))=R)) (λc _=>l.length-(intOf c).toNat)
    case atStart=>exact⟨0,by omega,rfl,hid (Kept.refl _ _),WW⟩
    case round=>
     obtain⟨k,hk,rfl,Dl,HEN⟩:=hrel;obtain⟨wr2,hwr2⟩:∃x,x=wr:=⟨_,rfl⟩;subst hwr2;have EU:=hid (adL.out.trans Dl.out);by_cases hlt2:k<l.length
     ·have hx:=List.getElem?_eq_getElem hlt2;have hdr:=List.drop_eq_getElem_cons hlt2;generalize hgx:l[k]=n at hx hdr;clear hgx;have hen:=HEN.out;rw[hdr,List.flatMap_cons]at hen;obtain⟨nb,qY,av,rfl,g0,g1,g2,g3,g4,g5,hav⟩:=(aO.kept FU.out EU.out).at hx;have hnl:=QH.out n (List.mem_of_getElem? hx);obtain⟨aa,mG,rfl,ML,wI⟩:=hav.form;unfold maxLen at wI;obtain⟨wv,HWV⟩:∃x,Hid (wr2.alloc (.cells #[.string (str n.name),.int .i64 n.parent,.slice aa n.attrs.length mG,.int .i64 n.bG,.int .i64 n.qE,.int .i64 n.inT] 45 (0,0))=x):=⟨_,rfl⟩;have hkv:Kept (λ_=>False) wr2 wv:=by rw[←HWV.out];exact(Kept.refl _ wr2).alloc _
      have v2:wv.cell? ⟨wr2.heap.size,2,none⟩=some (.slice aa n.attrs.length mG):=by rw[←HWV.out];exact ah (aI wr2 _) 2 rfl
      have Ec:=hid (hav.below hkv.below);have vw:=hid hnl.attrs;have HKV:=hid (Dl.out.trans hkv);have agb:Hid (jV l rs (n.attrs.drop 0++(l.drop (k+1)).flatMap (·.attrs))=R):=hid (by simpa using hen);clear hx hdr hen hnl hav hkv;go_upto_region 31 with fail
      rw[HWV.out];clear g0 g1 g2 g3 g4 g5 HWV;go_wp2_with fail
      go_loopw [128] (λc wx=>∃j:Nat,j≤n.attrs.length∧c=.int .i64 (j:Int)∧Hid (Kept (λ_=>False) wv wx)∧Hid (jV l rs (n.attrs.drop j++(l.drop (k+1)).flatMap (·.attrs))=R)) (λc _=>n.attrs.length-(intOf c).toNat)
      case atStart=>exact⟨0,by omega,rfl,hid (Kept.refl _ _),agb⟩
      case round=>
       obtain⟨j,hj,rfl,Qj,HEJ⟩:=hrel;obtain⟨wr3,Ny⟩:∃x,x=wr:=⟨_,rfl⟩;subst Ny;by_cases hlt3:j<n.attrs.length
       ·have hy:=List.getElem?_eq_getElem hlt3;have hdy:=List.drop_eq_getElem_cons hlt3;generalize qX:n.attrs[j]=y at hy hdy;clear qX;have QM:=HEJ.out;rw[hdy,List.cons_append,BA]at QM;obtain⟨ab,ao,rfl,e0,e1,e2,e3⟩:=bZ.at (Ec.out.below Qj.out.below) hy;obtain⟨y1,y2,y3,y4,y5⟩:=vw.out y (List.mem_of_getElem? hy);obtain⟨lo,hlo⟩:∃lo:Nat,y.lo=lo:=⟨y.lo.toNat,by omega⟩;rw[hlo]at e2;have aga:(lo:Int)≤6000:=by omega
        obtain⟨wn,wW⟩:∃x,Hid (wr3.alloc (.cells #[.string (str y.name),.string (str y.val),.int .i64 (lo:Int),.int .i64 y.hi] 47 (0,0))=x):=⟨_,rfl⟩;have hn0:wn.heap[wr3.heap.size]?=some (.cells #[.string (str y.name),.string (str y.val),.int .i64 (lo:Int),.int .i64 y.hi] 47 (0,0)):=by rw[←wW.out];exact aI wr3 _
        have hkn:Kept (λ_=>False) wr3 wn:=by rw[←wW.out];exact(Kept.refl _ wr3).alloc _
        have n0:wn.cell? ⟨wr3.heap.size,0,none⟩=some (.string (str y.name)):=ah hn0 0 rfl;have n1:wn.cell? ⟨wr3.heap.size,1,none⟩=some (.string (str y.val)):=ah hn0 1 rfl;have yF:=hid hn0;have abo:=hid (Qj.out.trans hkn);have U1:=hid (qm.out.trans (adL.out.trans (HKV.out.trans (Qj.out.trans hkn))));go_upto_region 34 with fail
        rw[wW.out];clear hy hdy e0 e1 e2 e3 hn0 hkn;by_cases hnm:y.name=aj
        ·have hnb:(y.name==aj)=true:=by simpa using hnm
         unfold aj at hnb;have hat:jW y=match dW y.val with
           | .bad f=>some ⟨f.err,lo⟩
           | .ok ds=>if (fH ds).isNone then some ⟨5,lo⟩ else none:=by
          unfold jW;rw[if_pos hnm,hlo,Int.toNat_natCast];cases dW y.val<;>rfl
         rw[hat]at QM;obtain⟨X,HX⟩:∃X,Hid (dW y.val=X):=⟨_,rfl⟩;rw[HX.out]at QM;have Jr:=BL y.val wn (by omega);rw[HX.out]at Jr;replace Jr:=hid Jr;have NS:=hid QM;clear QM hat hnm y1 y2 y3 y4 y5 hlo;go_wp2_with fail
         refine Jr.out.mono ?_;intro e w5 YD;cases X with
         | bad g=>
          obtain⟨rfl,hb5⟩:=YD;have hgb:=(kK HX.out).1;have alB:((g.err:Int)==0)=false:=by simp;omega
          have ain:((g.err:Int) != 0)=true:=by simp;omega
          have hr:Hid (R=.bad ⟨g.err,lo⟩):=hid NS.out.symm;obtain⟨wg,yG⟩:∃x,Hid (w5.alloc (.cells #[.int .i64 (g.err:Int),.int .i64 (g.pos:Int)] 26 (0,0))=x):=⟨_,rfl⟩;have hkg:Kept (λ_=>False) wn wg:=by rw[←yG.out];exact(Kept.of_below hb5).alloc _
          have c0:wg.cell? ⟨w5.heap.size,0,none⟩=some (.int .i64 (g.err:Int)):=by rw[←yG.out];exact ah (aI w5 _) 0 rfl
          have x2:wg.cell? ⟨wr3.heap.size,2,none⟩=some (.int .i64 (lo:Int)):=hkg.cell id (ah yF.out 2 rfl);obtain⟨wf,hwf,q0,q1,q2,g0,g1,f0,f1⟩:=rX HW0.out (U1.out.trans hkg) (.int .i64 (g.err:Int)) (.int .i64 (lo:Int));have HD:=hid (And.intro hwf (And.intro q0 (And.intro q1 q2)));clear hwf q0 q1 q2 hkg n0 n1 hgb;go_upto_region 36 with fail
          rw[yG.out];clear hb5;go_wp2_with fail
          go_region
          go_wp2_with fail
          rw[HD.out.1];refine bodyPost_ret (v:=.tuple #[.slice none 0 0,.slice none 0 0,.agg #[.int .i64 (g.err:Int),.int .i64 (lo:Int)]]) (by simp[results,Tryz.results14,go_sem,show wf.drew.cell? _=_ from HD.out.2.1,show wf.drew.cell? _=_ from HD.out.2.2.1]) rfl ?_;rw[hr.out];exact⟨rfl,HD.out.2.2.2.drew⟩
         | ok ds=>
          obtain⟨dv,rfl,hb5,hds⟩:=YD;obtain⟨da,dc,rfl,Pv,wJ⟩:=dD.form hds;unfold maxLen at wJ;have hok:=kY HX.out;obtain⟨wg,yG⟩:∃x,Hid (w5.alloc (.cells #[.int .i64 0,.int .i64 0] 26 (0,0))=x):=⟨_,rfl⟩;have U2:Kept (λ_=>False) w5 wg:=by rw[←yG.out];exact(Kept.refl _ w5).alloc _
          have hkg:Kept (λ_=>False) wn wg:=(Kept.of_below hb5).trans U2;have c0:wg.cell? ⟨w5.heap.size,0,none⟩=some (.int .i64 0):=by rw[←yG.out];exact ah (aI w5 _) 0 rfl
          have ET:=hid hkg;obtain⟨Y,HY⟩:∃Y,Hid (fH ds=Y):=⟨_,rfl⟩;have Fb:=wS wg _ ds (aH.below hds.1 U2.below) (by have:=hok.2;omega) (λd hd=>by have:=(rQ (hok.1 d hd)).2;omega);have NT:=NS.out;simp only at NT;rw[HY.out]at Fb NT;replace Fb:=hid Fb;have abp:=hid NT;go_upto_region 36 with fail
          rw[yG.out];clear hb5 U2 hkg hds hok NT n0 n1;go_wp2_with fail
          refine Fb.out.mono ?_;intro e w6 he6;cases Y with
          | none=>
           obtain⟨rfl,hb6⟩:=he6;have hk6:Kept (λ_=>False) wn w6:=ET.out.trans (Kept.of_below hb6);have hr:Hid (R=.bad ⟨5,lo⟩):=hid abp.out.symm;have x2:w6.cell? ⟨wr3.heap.size,2,none⟩=some (.int .i64 (lo:Int)):=hk6.cell id (ah yF.out 2 rfl);obtain⟨wf,hwf,q0,q1,q2,g0,g1,f0,f1⟩:=rX HW0.out (U1.out.trans hk6) (.int .i64 5) (.int .i64 (lo:Int));have HD:=hid (And.intro hwf (And.intro q0 (And.intro q1 q2)));clear hwf q0 q1 q2 hb6 hk6 c0;go_wp2_with fail
           go_region
           go_wp2_with fail
           rw[HD.out.1];refine bodyPost_ret (v:=.tuple #[.slice none 0 0,.slice none 0 0,.agg #[.int .i64 5,.int .i64 (lo:Int)]]) (by simp[results,Tryz.results14,go_sem,show wf.drew.cell? _=_ from HD.out.2.1,show wf.drew.cell? _=_ from HD.out.2.2.1]) rfl ?_;rw[hr.out];exact⟨rfl,HD.out.2.2.2.drew⟩
          | some x=>
           obtain⟨xv,rfl,hb6,_⟩:=he6;have HK7:=hid (abo.out.trans (ET.out.trans (Kept.of_below hb6)));clear hb6 c0;go_wp2_with fail
           go_roundw
           case measure=>simp[intOf];omega
           case rel=>exact⟨j+1,by omega,by go_num,HK7,hid (by have:=abp.out;simpa using this)⟩
        have hnb:(y.name==aj)=false:=by simpa using hnm
        unfold aj at hnb;have hat:jW y=none:=by unfold jW;rw[if_neg hnm]
        rw[hat]at QM;have NS:=hid QM;clear QM hat hnm;go_wp2_with fail
        go_roundw
        case measure=>simp[intOf];omega
        case rel=>exact⟨j+1,by omega,by go_num,abo,NS⟩
       obtain rfl:j=n.attrs.length:=by omega
       have HEK:Hid (jV l rs ((l.drop (k+1)).flatMap (·.attrs))=R):=hid (by
        have:=HEJ.out;rw[List.drop_length,List.nil_append]at this;exact this)
       have HKK:=hid (HKV.out.trans Qj.out);go_wp2_with fail
       go_roundw
       case measure=>simp[intOf];omega
       case rel=>exact⟨k+1,by omega,by go_num,HKK,HEK⟩
     obtain rfl:k=l.length:=by omega
     have hr:Hid (R=.ok (l,rs)):=hid (by
      have:=HEN.out;rw[List.drop_length]at this;exact this.symm)
     obtain⟨wf,hwf,q0,q1,q2,g0,g1,f0,f1⟩:=rX HW0.out (qm.out.trans EU.out) (.int .i64 0) (.int .i64 0);have HD:=hid (And.intro hwf (And.intro q0 (And.intro q1 q2)));have HLF:Hid (aX wf (.slice la l.length lc) l∧gy wf (.slice ua rs.length uc) rs):=hid (by
      have WH:Kept (· = w.heap.size) wr2 wf:=by rw[←hwf];exact((Kept.refl (· = w.heap.size) wr2).setCell (p:=⟨w.heap.size,0,none⟩) (.inl rfl) _).setCell (p:=⟨w.heap.size,1,none⟩) (.inl rfl) _
      have hfb:wr2.heap[w.heap.size]?=some (.cells #[.int .i64 0,.int .i64 0] 26 (0,0)):=(qm.out.trans EU.out).heap id (by rw[←HW0.out];exact aI w _);refine⟨Ez hfb WH (aO.kept FU.out EU.out),?_⟩;have hlt:w.heap.size<wb.heap.size:=by have:=HZ0.out;have:=HKB.out.size;omega
      exact sZ ((dB.kept (bP.still ZP.out EU.out) bn hlt WH).done fU bn))
     clear hwf q0 q1 q2;go_wp2_with fail
     rw[HD.out.1];refine bodyPost_ret (v:=.tuple #[.slice la l.length lc,.slice ua rs.length uc,.agg #[.int .i64 0,.int .i64 0]]) (by simp[results,Tryz.results14,go_sem,show wf.cell? _=_ from HD.out.2.1,show wf.cell? _=_ from HD.out.2.2.1]) rfl ?_;rw[hr.out];exact⟨_,_,rfl,HD.out.2.2.2,HLF.out.1,HLF.out.2⟩
theorem ad9(x:B)(ss:List B)(w:World)(v:Value)(hv:jR w v ss):Calls Tryz.prog 65 #[.string (str x),v] w λe w'=>e=.returned (.bool (ss.contains x))∧w'=w:=by
 obtain⟨sa,sc,rfl,hsc1,hsc2⟩:=jR.form hv;unfold maxLen at hsc2;have HV:=hid hv;clear hv;go_enter Tryz.func65,Tryz.ntmps65
 go_wp2_with fail
 go_loopw [9] (λc wr=>∃i:Nat,i≤ss.length∧c=.int .i64 (i:Int)∧wr=w∧Hid ((ss.drop i).contains x=ss.contains x)) (λc _=>ss.length-(intOf c).toNat)
 case atStart=>exact⟨0,by omega,rfl,rfl,hid rfl⟩
 case round=>
  obtain⟨i,hi,rfl,rfl,HC⟩:=hrel;by_cases hlt:i<ss.length
  ·have hx:=List.getElem?_eq_getElem hlt;have hdr:=List.drop_eq_getElem_cons hlt;generalize hgx:ss[i]=y at hx hdr;clear hgx;obtain⟨b,off,rfl,g0⟩:=jR.at HV.out hx;have hc:=HC.out;rw[hdr,List.contains_cons]at hc;cases hxy:(x==y)with
   | true=>
    have hyx:(y==x)=true:=by rw[beq_iff_eq]at hxy ⊢;exact hxy.symm
    rw[hxy,Bool.true_or]at hc;have HE:=hid hc;clear hc hx hdr;go_wp2_with fail
    go_ret
    exact⟨eu HE.out,rfl⟩
   | false=>
    have hyx:(y==x)=false:=by rw[beq_eq_false_iff_ne]at hxy ⊢;exact λh=>hxy h.symm
    rw[hxy,Bool.false_or]at hc;have HE:=hid hc;clear hc hx hdr;go_wp2_with fail
    go_roundw
    case measure=>simp[intOf];omega
    case rel=>exact⟨i+1,by omega,by go_num,(by first | rfl | trivial),HE⟩
  obtain rfl:i=ss.length:=by omega
  have hc:=HC.out;rw[List.drop_length]at hc;have HE:=hid hc;clear hc;go_wp2_with fail
  go_ret
  exact⟨eu HE.out,rfl⟩
def amn(ns:List ak)(k:Int)(r:au)(name:B):Bool:=(kD ns k r.aZ).2&&((fH r.decls).getD []).any λd=>d.name==name
theorem Ip(x y:aB)(hx:x.w.low 1048576)(hy:y.w.low 1048576)(w:World):
  Calls Tryz.prog 90 #[.agg (aY x).toArray,.agg (aY y).toArray] w λe w'=>e=.returned (.bool (gV x y))∧Kept (λ_=>False) w w':=by
 obtain⟨wa,gX⟩:∃z,Hid ((w.alloc (.cells (aY x).toArray 166 (0,0))).alloc (.cells (aY y).toArray 166 (0,0))=z):=⟨_,hid rfl⟩;have h0:wa.heap[w.heap.size]?=some (.cells (aY x).toArray 166 (0,0)):=by rw[←gX.out];exact iw (aI w _) _
 have h1:wa.heap[w.heap.size+1]?=some (.cells (aY y).toArray 166 (0,0)):=by
  rw[←gX.out];have:=aI (w.alloc (.cells (aY x).toArray 166 (0,0))) (.cells (aY y).toArray 166 (0,0));simpa using this
 have HK:Hid (Kept (λ_=>False) w wa):=hid (by rw[←gX.out];exact((Kept.refl _ w).alloc _).alloc _);have x2:wa.cell? ⟨w.heap.size,2,none⟩=some (.bool x.d.strong):=ah h0 2 rfl;have x3:wa.cell? ⟨w.heap.size,3,none⟩=some (.bool x.own):=ah h0 3 rfl;have x4:wa.cell? ⟨w.heap.size,4,none⟩=some (.int .i64 (x.w.a:Int)):=ah h0 4 rfl;have x5:wa.cell? ⟨w.heap.size,5,none⟩=some (.int .i64 (x.w.b:Int)):=ah h0 5 rfl;have x6:wa.cell? ⟨w.heap.size,6,none⟩=some (.int .i64 (x.w.c:Int)):=ah h0 6 rfl;have y2:wa.cell? ⟨w.heap.size+1,2,none⟩=some (.bool y.d.strong):=ah h1 2 rfl;have y3:wa.cell? ⟨w.heap.size+1,3,none⟩=some (.bool y.own):=ah h1 3 rfl;have y4:wa.cell? ⟨w.heap.size+1,4,none⟩=some (.int .i64 (y.w.a:Int)):=ah h1 4 rfl;have y5:wa.cell? ⟨w.heap.size+1,5,none⟩=some (.int .i64 (y.w.b:Int)):=ah h1 5 rfl;have y6:wa.cell? ⟨w.heap.size+1,6,none⟩=some (.int .i64 (y.w.c:Int)):=ah h1 6 rfl;obtain⟨R,HR⟩:∃b,Hid (gV x y=b):=⟨_,hid rfl⟩;rw[HR.out];have hR:=HR.out;unfold gV at hR;have HLS:=hid (Qh wa x.w y.w hx hy);obtain⟨⟨xn,xv,xs⟩,xo,xw⟩:=x;obtain⟨⟨yn,yv,ys⟩,yo,yw⟩:=y;simp only at hR x2 x3 x4 x5 x6 y2 y3 y4 y5 y6 HLS;clear h0 h1 hx hy;go_enter Tryz.func90,Tryz.ntmps90
 go_upto_region 1 with fail
 change Code.wp _ _ _ _ ((w.alloc (.cells (aY ⟨⟨xn,xv,xs⟩,xo,xw⟩).toArray 166 (0,0))).alloc (.cells (aY ⟨⟨yn,yv,ys⟩,yo,yw⟩).toArray 166 (0,0)));rw[gX.out];cases xs<;>cases ys
 case false.true=>
  obtain rfl:R=false:=by rw[←hR];simp
  go_wp2_with fail
  go_ret
  exact⟨rfl,HK.out⟩
 case true.false=>
  obtain rfl:R=true:=by rw[←hR];simp
  go_wp2_with fail
  go_ret
  exact⟨rfl,HK.out⟩
 all_goals
  cases xo<;>cases yo
  case false.true=>
   obtain rfl:R=false:=by rw[←hR];simp
   go_wp2_with fail
   go_ret
   exact⟨rfl,HK.out⟩
  case true.false=>
   obtain rfl:R=true:=by rw[←hR];simp
   go_wp2_with fail
   go_ret
   exact⟨rfl,HK.out⟩
  all_goals
   obtain rfl:R = !oI xw yw:=by rw[←hR];simp
   clear hR HR;go_wp2_with fail
   refine HLS.out.mono ?_;rintro e w2 ⟨rfl,hk2⟩;have iO:=hid (HK.out.trans hk2);clear hk2;go_wp2_with fail
   go_ret
   exact⟨rfl,iO.out⟩
end Go.Proofs.YtplbdlgmjehckacGreatDoor

namespace Go.Proofs.YtplbdlgmjehckacGreatDoor
open Go.Lib (hid)
set_option linter.unusedVariables false
set_option linter.unusedSimpArgs false
def ajb(cs:List aB)(i:Nat)(c:aB):Prop:=∀(j:Nat) (o:aB),cs[j]?=some o→o.d.name=c.d.name→(i<j→gV o c=false)∧(j<i→gV c o=true)
theorem DR(cs:List aB)(n:B):∀i,i≤cs.length→∀(j:Nat) (a:aB),lM cs n i=some j→cs[j]?=some a→∀(l:Nat) (o:aB),l<i→cs[l]?=some o→o.d.name=n→(j<l→gV o a=false)∧(l<j→gV a o=true)
 | 0,_,j,a,h,_=>by cases h
 | i+1,hi,j,a,h,ha=>by
  have hc:cs[i]?=some cs[i]:=List.getElem?_eq_getElem (by omega);have ih:=DR cs n i (by omega);rw[qI cs n hc]at h;intro l o hl ho hon;split at h
  ·rename_i hn
   split at h
   ·rename_i hb
    have hnone:=Ub (by omega) hb;cases h;rw[hc]at ha;cases ha;refine⟨λh=>by omega,λh=>?_⟩;exfalso;have hw:=pG cs n i (by omega);rw[hb]at hw;have hf:=lV (cs.take i) n;rw[←hw]at hf;refine hf o ?_ hon;refine List.mem_of_getElem? (i:=l) ?_;rw[List.getElem?_take,if_pos h];exact ho
   rename_i b hb
   obtain⟨q,hq,hqb⟩:=Option.bind_eq_some_iff.1 hb;have hql:=sU cs n i q (by omega) hq;split at h
   ·rename_i hbt
    cases h;rw[hc]at ha;cases ha;refine⟨λh=>by omega,λh=>?_⟩;have hq2:=ih q b hq hqb l o h ho hon;rcases Nat.lt_trichotomy l q with h1 | h1 | h1
    ·exact pI (hq2.2 h1) hbt
    ·subst h1;rw[hqb]at ho;cases ho;exact hbt
    have h3:=(xC b o).resolve_left (by rw[hq2.1 h1];simp);exact pI h3 hbt
   rename_i hbt
   rw[hq]at h;cases h;rw[hqb]at ha;cases ha;by_cases hli:l=i
   ·subst hli;rw[hc]at ho;cases ho;exact⟨λ_=>by simpa using hbt,λh=>by omega⟩
   exact ih _ _ hq hqb l o (by omega) ho hon
  rename_i hn
  by_cases hli:l=i
  ·subst hli;rw[hc]at ho;cases ho;exact absurd hon hn
  exact ih j a h ha l o (by omega) ho hon
theorem abZ{cs:List aB}{i:Nat}{c:aB}(hc:cs[i]?=some c):ajb cs i c↔lM cs c.d.name cs.length=some i:=by
 have hil:=(List.getElem?_eq_some_iff.1 hc).1;constructor
 ·intro h;have hw:=pG cs c.d.name cs.length (Nat.le_refl _);rw[List.take_length]at hw;cases hx:lM cs c.d.name cs.length with
  | none=>
   rw[hx]at hw;have hf:=lV cs c.d.name;rw[←hw]at hf;exact absurd rfl (hf c (List.mem_of_getElem? hc))
  | some j=>
   obtain⟨hj,hn⟩:=sU cs _ _ j (Nat.le_refl _) hx;have ha:cs[j]?=some cs[j]:=List.getElem?_eq_getElem hj;rw[ha]at hn;have hn':cs[j].d.name=c.d.name:=by simpa using hn
   have h1:=DR cs _ _ (Nat.le_refl _) j _ hx ha i c hil hc rfl;have h2:=h j _ ha hn';rcases Nat.lt_trichotomy i j with g | g | g
   ·have:=h2.1 g;rw[h1.2 g]at this;cases this
   ·rw[g]
   have:=h2.2 g;rw[h1.1 g]at this;cases this
 intro h j o ho hon;exact DR cs _ _ (Nat.le_refl _) i c h hc j o (List.getElem?_eq_some_iff.1 ho).1 ho hon
def Ac(x:aC):List aC→List aC
 | []=>[x]
 | y::ys=>if wC y.name x.name=true then y::Ac x ys else x::y::ys
theorem Iq{x d:aC}:∀ {ys:List aC},d∈Ac x ys↔d=x∨d∈ys
 | []=>by simp[Ac]
 | y::ys=>by
  unfold Ac;split
  ·simp only[List.mem_cons,Iq (ys:=ys)];constructor
   ·rintro(h | h | h)<;>simp[h]
   rintro(h | h | h)<;>simp[h]
  simp
theorem EF{x:aC}:∀ {ys:List aC},nZ (ys.map (·.name))→(∀y∈ys,y.name≠x.name)→nZ ((Ac x ys).map (·.name))
 | [],_,_=>.cons (by simp) .nil
 | y::ys,.cons h hs,hne=>by
  unfold Ac;split
  ·rename_i hb
   refine .cons (λn hn=>?_) (EF hs (λz hz=>hne z (by simp[hz])));obtain⟨d,hd,rfl⟩:=List.mem_map.1 hn;rcases Iq.1 hd with rfl | hd
   ·exact hb
   exact h _ (List.mem_map.2 ⟨d,hd,rfl⟩)
  rename_i hb
  have hxy:wC x.name y.name=true:=by
   cases hh:wC x.name y.name with
   | true=>rfl
   | false=>exact absurd (qG hh (by simpa using hb)).symm (hne y (by simp))
  refine .cons (λn hn=>?_) (.cons h hs);simp only[List.map_cons,List.mem_cons]at hn;rcases hn with rfl | hn
  ·exact hxy
  exact qH hxy (h n hn)
open Classical in
noncomputable def je(cs:List aB):Nat→List aC
 | 0=>[]
 | i+1=>match cs[i]? with
  | none=>je cs i
  | some c=>if lM cs c.d.name cs.length=some i then Ac c.d (je cs i) else je cs i
theorem Ir(cs:List aB):∀i,i≤cs.length→nZ ((je cs i).map (·.name))∧∀d,d∈je cs i↔∃(j:Nat) (c:aB),j<i∧cs[j]?=some c∧c.d=d∧lM cs c.d.name cs.length=some j
 | 0,_=>⟨.nil,λd=>by simp[je]⟩
 | i+1,hi=>by
  have hc:cs[i]?=some cs[i]:=List.getElem?_eq_getElem (by omega);obtain⟨h1,h2⟩:=Ir cs i (by omega);have he:je cs (i+1)=if lM cs cs[i].d.name cs.length=some i then Ac cs[i].d (je cs i) else je cs i:=by
   conv=>lhs;unfold je
   rw[hc]
  rw[he];split
  ·rename_i hw
   refine⟨EF h1 λy hy e=>?_,λd=>?_⟩
   ·obtain⟨j,c,hj,hcj,rfl,hwj⟩:=(h2 y).1 hy;rw[e,hw]at hwj;cases hwj;omega
   rw[Iq,h2];constructor
   ·rintro(rfl | ⟨j,c,hj,h⟩)
    ·exact⟨i,_,by omega,hc,rfl,hw⟩
    exact⟨j,c,by omega,h⟩
   rintro⟨j,c,hj,hcj,rfl,hwj⟩;by_cases hji:j=i
   ·subst hji;rw[hc]at hcj;cases hcj;exact .inl rfl
   exact .inr ⟨j,c,by omega,hcj,rfl,hwj⟩
  rename_i hw
  refine⟨h1,λd=>?_⟩;rw[h2];constructor
  ·rintro⟨j,c,hj,h⟩;exact⟨j,c,by omega,h⟩
  rintro⟨j,c,hj,hcj,rfl,hwj⟩;by_cases hji:j=i
  ·subst hji;rw[hc]at hcj;cases hcj;exact absurd hwj hw
  exact⟨j,c,by omega,hcj,rfl,hwj⟩
theorem Vw(cs:List aB):je cs cs.length=nM cs:=by
 obtain⟨h1,h2⟩:=Ir cs cs.length (Nat.le_refl _);refine tV h1 (by rw[Gh];exact Bh cs) λd=>?_
 rw[h2,Gg];have hw:=λn=>pG cs n cs.length (Nat.le_refl _)
 simp only[List.take_length]at hw;constructor
 ·rintro⟨j,c,hj,hcj,rfl,hwj⟩;exact⟨c,by rw[←hw,hwj,Option.bind_some,hcj],rfl⟩
 rintro⟨c,hc,rfl⟩;rw[←hw]at hc;obtain⟨j,hj,hcj⟩:=Option.bind_eq_some_iff.1 hc;exact⟨j,c,(List.getElem?_eq_some_iff.1 hcj).1,hcj,rfl,hj⟩
end Go.Proofs.YtplbdlgmjehckacGreatDoor

