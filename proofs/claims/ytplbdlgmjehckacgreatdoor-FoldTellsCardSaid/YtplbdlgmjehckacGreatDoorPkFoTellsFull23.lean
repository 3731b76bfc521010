/-
 Lemmas for the claims of this seat: the program's functions walked, and plain laws.
-/
import Derived.Test.YtplbdlgmjehckacGreatDoorPkFoTellsFull22
import Derived.Test.YtplbdlgmjehckacGreatDoorPkFoTellsFull20
set_option maxRecDepth 100000
set_option maxHeartbeats 6400000
namespace Go.Proofs.YtplbdlgmjehckacGreatDoor
open Go.Lib (hid)
open Go.RowKit
set_option linter.unusedVariables false
set_option linter.unusedSimpArgs false
structure Hz(w wr:World)(base b:Nat)(s:B)(v:Value)(parent:Int)(deep fuel:Nat)(r:Ans (List ak×B×Nat))(k:Nat)(at':Nat)(v':Value)(ns':List ak):Prop where
 wk:Wk wr base b s at' v' ns'
 kept:Kept (oh b v) w wr
 own:∀k,v'.ownBlock=some k→v.ownBlock=some k∨w.heap.size≤k
 rest:∃f,f+1≤fuel∧s.length-at'≤f∧dU (f+1) parent deep ns' (s.drop at') at'=r
 num:k=s.length-at'+1
def Vb(w wr:World)(b:Nat)(s:B)(v:Value)(r:Ans (List ak×B×Nat)):Prop:=
 ∃f at' v',r=.bad f∧f.err≠0∧bJ wr b s at' f v'∧Kept (oh b v) w wr
theorem Vd(s:B)(base b:Nat)(fuel:Nat):∀(parent:Int) (deep:Nat) (ns:List ak) (at_:Nat) (v:Value) (w:World),s.length-at_<fuel→deep≤21→Wk w base b s at_ v ns →
  Calls Tryz.prog 78 #[.pointer (some ⟨b,0,none⟩),.int .i64 parent,.int .i64 (deep:Int)] w (zT w base b s v (dU fuel parent deep ns (s.drop at_) at_)):=by
 induction fuel using Nat.strongRecOn with
 | _ fuel ih=>
 intro parent deep ns at_ v w hF Qq h;obtain⟨r,HR⟩:∃r,Hid (dU fuel parent deep ns (s.drop at_) at_=r):=⟨_,rfl⟩;rw[HR.out];have IH:=hid ih;have hstart:Hz w w base b s v parent deep fuel r (s.length-at_+1) at_ v ns:=by
  cases fuel with
  | zero=>omega
  | succ f=>exact⟨h,Kept.refl _ _,λk hk=>.inl hk,⟨f,by omega,by omega,HR.out⟩,rfl⟩
 have HS:=hid hstart;clear ih hstart h;go_enter Tryz.func78,Tryz.ntmps78
 go_wp2_with fail
 go_loopg [] (s.length-at_+1) (λk wr=>(Vb w wr b s v r∧k=0)∨∃at' v' ns',Hz w wr base b s v parent deep fuel r k at' v' ns')
 case atStart=>exact .inr ⟨_,_,_,HS.out⟩
 case round=>
  rcases hrel with⟨⟨f,at',v',hrb,hfe,hwk,hkd⟩,rfl⟩ | ⟨at',v',ns',hL⟩
  ·have HW:=hid hwk;have HKD:=hid hkd;have abz:((f.err:Int)==0)=false:=by simp;omega
   have c0:=hwk.c0;have c1:=hwk.c1;clear hwk hkd;subst hrb;go_wp2_with fail
   go_quiet ((go_at_call 79;exact Calls.quiet_of_same (bK false _ _ _ _ _ _ HW.out abz)))
   go_wp2_with fail
   go_end0
   exact⟨rfl,HKD.out.drewN _,_,_,HW.out.drewN _⟩
  have HL:=hid hL;have hr:=hL.wk.rd;have c0:=hr.c0;have c1:=hr.c1;have f1:=hr.free 1;have hl:=hr.2.1;have hm:=hr.2.2;obtain⟨f,hf1,hf2,hR⟩:=hL.rest;have hnum:=hL.num;have H1:=hid hr;clear hL hr;by_cases hlt:at'<s.length
  ·rw[KE _ _ _ _ _ _ hlt]at hR;cases hm1:([60,47]:B).isPrefixOf (s.drop at')with
   | true=>
    rw[hm1,if_pos rfl]at hR;subst hR;have xP:=hid hm1;clear hm1;go_wp2_with fail
    go_quiet (first | (go_at_call 79;exact Calls.quiet_of_same (bK true _ b s at' good v' H1.out rfl)) | (go_at_call 112;exact Calls.quiet_of (iT [60,47] true _ b s at' good v' H1.out rfl (by decide) xP.out)))
    go_wp2_with fail
    go_end0
    exact⟨v',rfl,HL.out.kept.drewN _,HL.out.wk.quiet ⟨nq,rfl⟩,rfl,HL.out.own⟩
   | false=>
    rw[hm1,if_neg (by simp)]at hR;have xP:=hid hm1;clear hm1;cases hm2:cu.isPrefixOf (s.drop at')with
    | true=>
     rw[hm2,if_pos rfl]at hR;have OD:at'+4≤s.length:=by
      have:=(List.isPrefixOf_iff_prefix.1 hm2).length_le;rw[List.length_drop]at this;simp only[cu,List.length_cons,List.length_nil]at this;omega
     have Cm:=hid hm2;have HR2:=hid hR;clear hm2 hR;go_wp2_with fail
     go_quiet (first | (go_at_call 79;exact Calls.quiet_of_same (bK true _ b s at' good v' H1.out rfl)) | (go_at_call 112;exact Calls.quiet_of (iT [60,47] false _ b s at' good v' H1.out rfl (by decide) xP.out)))
     go_wp2_with fail
     refine(iT cu true _ b s at' good v' (H1.out.drewN nq) rfl (by decide) Cm.out).mono ?_;rintro e w1 ⟨rfl,hq1⟩;have hqq:Qt wr w1:=Qt.trans ⟨nq,rfl⟩ hq1;have h1:=HL.out.wk.quiet hqq;have hk1:=HL.out.kept.trans (hqq.kept _);clear c0 c1 f1 hq1 hqq;have c0:=h1.rd.c0;have c1:=h1.rd.c1;have f1:=h1.rd.free 1;have HR1:=hid h1;have uZ:=hid hk1;have h4:bJ (w1.setCell ⟨b,1,none⟩ (.int .i64 ((at':Int)+4))) b s (at'+4) good v':=h1.rd.set (by omega) (by omega);have H4:=hid h4;clear h1 hk1 h4;cases hf:bg dS (s.drop (at'+4))with
     | none=>
      have hr0:r=.bad ⟨2,s.length⟩:=by rw[←HR2.out,hf]
      subst hr0;have HF:Hid (iU s dS (at'+4)=none):=hid (by unfold iU;rw[hf];rfl);clear hf;go_wp2_with (go_at_call 113;refine(BD dS none _ b s (at'+4) good v' H4.out (by decide) (by decide) HF.out).mono ?_;rintro e w2 ⟨rfl,rfl⟩)
      refine(dP 2 s.length _ b s (at'+4) good v' H4.out rfl).mono ?_;rintro e w9 ⟨rfl,hk9,h9⟩;go_wp2_with fail
      go_end0
      exact⟨rfl,((uZ.out).setCell (p:=⟨b,1,none⟩) (.inl (.inl rfl)) _).trans (hk9.mono λk _ hk=>.inl hk),_,_,h9⟩
     | some e=>
      have hfl:=gY _ _ _ hf;rw[List.length_drop]at hfl;have hsl:dS.length=3:=rfl;rw[hsl]at hfl;have hRR:=HR2.out;rw[hf]at hRR;have HRR:=hid hRR;have HF:Hid (iU s dS (at'+4)=some (at'+4+e)):=hid (by unfold iU;rw[hf];rfl);clear hf hRR;go_wp2_with (go_at_call 113;refine(DC dS (at'+4+e) _ b s (at'+4) good v' H4.out (by decide) (by decide) HF.out).mono ?_;rintro e2 w2 ⟨rfl,rfl⟩)
      go_roundg (s.length-(at'+(4+e+3))+1)
      case measure=>omega
      case rel=>
       cases f with
       | zero=>omega
       | succ f=>
        exact .inr ⟨at'+(4+e+3),v',ns',⟨(HR1.out.set (a':=at'+4) (x:=(at':Int)+4) (by omega) (by omega)).set (by omega) (by omega),((uZ.out).setCell (p:=⟨b,1,none⟩) (.inl (.inl rfl)) _).setCell (p:=⟨b,1,none⟩) (.inl (.inl rfl)) _,HL.out.own,
         ⟨f,by omega,by omega,HRR.out⟩,rfl⟩⟩
    | false=>
     rw[hm2,if_neg (by simp)]at hR;have Cm:=hid hm2;clear hm2;cases Gz:([60]:B).isPrefixOf (s.drop at')with
     | true=>
      rw[Gz,if_pos rfl]at hR;have Ar:=hid Gz;have HR2:=hid hR;clear Gz hR;go_wp2_with fail
      go_quiet (first | (go_at_call 79;exact Calls.quiet_of_same (bK true _ b s at' good v' H1.out rfl)) | (go_at_call 112;exact Calls.quiet_of (iT [60,47] false _ b s at' good v' H1.out rfl (by decide) xP.out)))
      go_wp2_with fail
      refine(iT cu false _ b s at' good v' (H1.out.drewN nq) rfl (by decide) Cm.out).mono ?_;rintro e w1 ⟨rfl,hq1⟩;have hqq:Qt wr w1:=Qt.trans ⟨nq,rfl⟩ hq1;have h1:=HL.out.wk.quiet hqq;have hk1:=HL.out.kept.trans (hqq.kept _);clear c0 c1 f1 hq1 hqq;have HR1:=hid h1;have uZ:=hid hk1;clear h1 hk1;go_wp2_with fail
      refine(iT [60] true _ b s at' good v' HR1.out.rd rfl (by decide) Ar.out).mono ?_;rintro e w2 ⟨rfl,hq2⟩;have H2:=hid (HR1.out.quiet hq2);have iO:=hid (uZ.out.trans (Qt.kept hq2 _));clear hq2;go_wp2_with fail
      have hel:=YN (dU f) s base b f (λparent deep ns a v w x1 x2 x3=>IH.out f (by omega) parent deep ns a v w x1 x2 x3) (λp d n l a=>rV f p d n l a) parent deep ns' at' v' w2 hf2 Qq H2.out;have hRR:=HR2.out;obtain⟨ans,hans⟩:∃ans,kT (dU f) parent deep ns' (s.drop at') at'=ans:=⟨_,rfl⟩;have JF:=hid hans;rw[hans]at hel hRR;have HRR:=hid hRR;clear hans hRR;refine hel.mono ?_;clear hel;have Qv:∀w3:World,Kept (oh b v') w2 w3→Kept (oh b v) w w3:=λw3 hk=>iO.out.trans' hk (λi hi hs=>by
       rcases hs with hs | hs
       ·exact .inl hs
       rcases HL.out.own i hs with h | h
       ·exact .inr h
       omega)
      have oJ:=hid Qv;clear Qv;cases ans with
      | bad f0=>
       rintro e w3 ⟨rfl,hk3,at3,v3,h3⟩;have hr0:r=.bad f0:=by rw[←HRR.out];rfl
       have hfe:f0.err≠0:=Xa _ (rV f) _ _ _ _ _ _ JF.out;have HKK:=hid (oJ.out _ hk3);have H3:=hid h3;have HR0:=hid hr0;clear hk3 h3 hr0;go_wp2_with fail
       go_roundg 0
       case measure=>omega
       case rel=>exact .inl ⟨⟨f0,at3,v3,HR0.out,hfe,H3.out,HKK.out⟩,rfl⟩
      | ok y=>
       obtain⟨Qs,l9,at9⟩:=y;rintro e w3 ⟨v9,rfl,hk9,vY,rfl,GL⟩;have HKK:=hid (oJ.out _ hk9);have H9:=hid vY;have hpos:=KG (JF.out);have hl9:=vY.rd.2.1;have UD:Hid (∀k,v9.ownBlock=some k→v.ownBlock=some k∨w.heap.size≤k):=hid λk hk=>by
        rcases GL k hk with h | h
        ·exact HL.out.own k h
        have:=iO.out.size;exact .inr (by omega)
       have hRR:=HRR.out;simp only[Ans.aN]at hRR;have UF:=hid hRR;clear hRR hk9 vY GL;go_wp2_with fail
       go_roundg (s.length-at9+1)
       case measure=>omega
       case rel=>
        cases f with
        | zero=>omega
        | succ f=>exact .inr ⟨at9,v9,Qs,⟨H9.out,HKK.out,UD.out,⟨f,by omega,by omega,UF.out⟩,rfl⟩⟩
     | false=>
      rw[Gz,if_neg (by simp)]at hR;have Ar:=hid Gz;have HR2:=hid hR;clear Gz hR;go_wp2_with fail
      go_quiet (first | (go_at_call 79;exact Calls.quiet_of_same (bK true _ b s at' good v' H1.out rfl)) | (go_at_call 112;exact Calls.quiet_of (iT [60,47] false _ b s at' good v' H1.out rfl (by decide) xP.out)))
      go_wp2_with fail
      refine(iT cu false _ b s at' good v' (H1.out.drewN nq) rfl (by decide) Cm.out).mono ?_;rintro e w1 ⟨rfl,hq1⟩;have hqq:Qt wr w1:=Qt.trans ⟨nq,rfl⟩ hq1;have h1:=HL.out.wk.quiet hqq;have hk1:=HL.out.kept.trans (hqq.kept _);clear c0 c1 f1 hq1 hqq;have HR1:=hid h1;have uZ:=hid hk1;clear h1 hk1;go_wp2_with fail
      refine(iT [60] false _ b s at' good v' HR1.out.rd rfl (by decide) Ar.out).mono ?_;rintro e w2 ⟨rfl,hq2⟩;have h2:=HR1.out.quiet hq2;have hk2:=uZ.out.trans (Qt.kept hq2 _);clear hq2;have c0:=h2.rd.c0;have c1:=h2.rd.c1;have f1:=h2.rd.free 1;have H2:=hid h2;have iO:=hid hk2;clear h2 hk2;have hi0:(0:Int)≤(at':Int):=by omega
      have hi1:(at':Int)<(s.length:Int):=by omega
      go_wp2_with fail
      go_quiet (fail)
      have h2q:=H2.out.quiet ⟨nq,rfl⟩;have abh:=iO.out.drewN nq;cases ht:pY (s[at']'hlt)with
      | true=>
       have hRR:=HR2.out;rw[ht,if_pos rfl]at hRR;have HRR:=hid hRR;clear hRR;rcases GR ht with⟨e1,e2,e3⟩ | ⟨e1,e2,e3⟩
       all_goals
        clear ht;go_wp2
        go_roundg (s.length-(at'+1)+1)
        case measure=>omega
        case rel=>
         cases f with
         | zero=>omega
         | succ f=>exact .inr ⟨at'+1,v',ns',⟨h2q.set (by omega) (by omega),abh.setCell (p:=⟨b,1,none⟩) (.inl (.inl rfl)) _,HL.out.own,⟨f,by omega,by omega,HRR.out⟩,rfl⟩⟩
      | false=>
       obtain rfl:r=.bad ⟨2,at'⟩:=by rw[←HR2.out,ht];rfl
       obtain⟨e1,en,e2⟩:=KI ht;rcases e2 with e2 | ⟨e2,e3⟩
       all_goals
        clear ht;go_wp2_with (go_at_call 80;refine(dP 2 at' _ b s at' good v' h2q.rd rfl).mono ?_;rintro e w9 ⟨rfl,hk9,h9⟩)
        all_goals first
         | (go_end0;exact⟨rfl,abh.trans (hk9.mono λk _ hk=>.inl hk),_,_,h9⟩)
         | (exfalso;rename_i hx;rcases hx with hx | hx; (rw[e1]at hx;cases hx);omega)
  rw[GN _ _ _ _ _ _ (by omega)]at hR;subst hR;have hd:decide (at'<s.length)=false:=by simpa using hlt
  go_wp2_with fail
  go_quiet (first | (go_at_call 79;exact Calls.quiet_of_same (bK true _ b s at' good v' H1.out rfl)))
  go_wp2_with fail
  go_end0
  exact⟨v',rfl,HL.out.kept.drewN _,HL.out.wk.quiet ⟨nq,rfl⟩,rfl,HL.out.own⟩
theorem uj{w wx:World}{b:Nat}(h0:wx.heap[b]?=some (.cells #[.int .i64 0,.int .i64 0] 26 (0,0)))(hk:Kept (λ_=>False) w wx)(hb:w.heap.size≤b)(x y:Value):
  ((wx.setCell ⟨b,0,none⟩ x).setCell ⟨b,1,none⟩ y).cell? ⟨b,0,none⟩=some x∧((wx.setCell ⟨b,0,none⟩ x).setCell ⟨b,1,none⟩ y).cell? ⟨b,1,none⟩=some y ∧
   Kept (λ_=>False) w ((wx.setCell ⟨b,0,none⟩ x).setCell ⟨b,1,none⟩ y):=by
 have h1:=aW (aW h0 0 x) 1 y;exact⟨ah h1 0 rfl,ah h1 1 rfl,(hk.setCell (.inr hb) _).setCell (.inr hb) _⟩
theorem QW{w w':World}{b f:Nat}{t2:TypeId}{v:Value}{al:List bf}(hf:w.heap[f]?=some (.cells #[.int .i64 0,.int .i64 0] t2 (0,0)))
  (hk:Kept (λk=>k=b∨k=f) w w') (h:bZ w v al) (hv:∀k,v.ownBlock=some k→k≠b):bZ w' v al:=by
 obtain⟨a,cap,rfl,h1,h2,h3⟩:=h;refine⟨a,cap,rfl,h1,h2,λhne=>?_⟩;obtain⟨c,off,rfl,h4⟩:=h3 hne;have hb:¬(c=b∨c=f):=by
  rintro(rfl | rfl)
  ·exact hv c rfl rfl
  cases al with
  | nil=>exact absurd rfl hne
  | cons a al=>
   have h5:=h4 0 (jg a) rfl 0 (.string (str a.name)) rfl;rw[cell_of_row w c _ _ _ _ hf]at h5
   match off,h5 with
   | 0,h5=>simp at h5
   | 1,h5=>simp at h5
   | n+2,h5=>simp at h5
 exact⟨c,off,rfl,λi r hr j c hc=>hk.cell hb (h4 i r hr j c hc)⟩
theorem QX{w w':World}{base b f:Nat}{t2:TypeId}{v:Value}{ns:List ak}(hf:w.heap[f]?=some (.cells #[.int .i64 0,.int .i64 0] t2 (0,0)))
  (hk:Kept (λk=>k=b∨k=f) w w') (h:og w base b v ns) (hv:∀k,v.ownBlock=some k→¬(k=b∨k=f)):aX w' v ns:=by
 obtain⟨mO,h1,h2,h3⟩:=h;exact⟨mO,h1,(aS Hl (by simp[h1]) h2).kept hk hv,λi n av hn ha=>QW hf hk (h3 i n av hn ha).1 (λk hk=>((h3 i n av hn ha).2 k hk).1)⟩
theorem Ve(s:B)(w:World)(hw:0<w.heap.size)(hs:s.length≤9223372036854775807):
  Calls Tryz.prog 34 #[.string (str s)] w (KU w (lq s)):=by
 obtain⟨r,HR⟩:∃r,Hid (lq s=r):=⟨_,rfl⟩;rw[HR.out];obtain⟨w0,HW0⟩:∃x,Hid (w.alloc (.cells #[.int .i64 0,.int .i64 0] 26 (0,0))=x):=⟨_,rfl⟩;have uq:Hid (Kept (λ_=>False) w w0):=hid (by rw[←HW0.out];exact(Kept.refl _ w).alloc _);have AL:Hid (w0.heap[w.heap.size]?=some (.cells #[.int .i64 0,.int .i64 0] 26 (0,0))):=hid (by rw[←HW0.out];exact aI w _);have hz0:w0.heap.size=w.heap.size+1:=by rw[←HW0.out];simp
 by_cases hl:6000<s.length
 ·obtain rfl:r=.bad ⟨4,0⟩:=by rw[←HR.out];unfold lq;rw[if_pos hl]
  have hlI:6000<(s.length:Int):=by omega
  obtain⟨q0,q1,q2⟩:=uj AL.out uq.out (Nat.le_refl _) (.int .i64 4) (.int .i64 0);have f0:=aF AL.out 0;have f1:=aF AL.out 1;have c0:=ah AL.out 0 rfl;have c1:=ah AL.out 1 rfl;go_enter Tryz.func34,Tryz.ntmps34
  go_upto_region 1 with fail
  rw[HW0.out];go_wp2_with fail
  refine bodyPost_ret (v:=.tuple #[.slice none 0 0,.agg #[.int .i64 4,.int .i64 0]]) (by simp[results,Tryz.results34,go_sem,q0,q1]) rfl ?_;exact⟨rfl,q2.below⟩
 have hE:=HR.out;unfold lq at hE;rw[if_neg hl]at hE;have HE:=hid hE;clear hE;have hlI:(s.length:Int)≤6000:=by omega
 obtain⟨wb,jo⟩:∃x,Hid (w0.heap.size=x):=⟨_,rfl⟩;obtain⟨w1,HW1⟩:∃x,Hid (w0.alloc (.cells #[.string (str s),.int .i64 0,.int .i64 0,.int .i64 0,.slice none 0 0] 149 (0,0))=x):=⟨_,rfl⟩;have hwk:bJ w1 wb s 0 good (.slice none 0 0):=by
  rw[←HW1.out,←jo.out];exact⟨aI w0 _,Nat.zero_le _,by omega⟩
 have hk1:Kept (λ_=>False) w w1:=by rw[←HW1.out];exact uq.out.alloc _
 have hz1:w1.heap.size=w0.heap.size+1:=by rw[←HW1.out];simp
 have xq:wb=w.heap.size+1:=by rw[←jo.out];exact hz0
 have BF:w1.heap.size=w.heap.size+2:=by omega
 have hst:Wk w1 (wb+1) wb s 0 (.slice none 0 0) []:=⟨hwk,⟨[],rfl,⟨rfl,.inl ⟨rfl,rfl⟩⟩,λi n av hn=>by simp at hn⟩,by omega,by omega,by simp,by omega⟩;have HC:=Vd s (wb+1) wb (s.length+1) (-1) 1 [] 0 (.slice none 0 0) w1 (by omega) (by omega) hst;rw[List.drop_zero]at HC;obtain⟨ans,JF⟩:∃x,Hid (dU (s.length+1) (-1) 1 [] s 0=x):=⟨_,rfl⟩;rw[JF.out]at HC;have hE:=HE.out;rw[JF.out]at hE;replace HE:=hid hE;have HC2:Hid (Calls Tryz.prog 78 #[.pointer (some ⟨wb,0,none⟩),.int .i64 (-1),.int .i64 1] w1 λe w'=>e=.returned (.tuple #[])∧Kept (· = wb) w1 w'∧∃(f:iL) (a:Nat) (v:Value) (ns:List ak),bJ w' wb s a f v ∧
  (f.err=0→f=good∧og w' (wb+1) wb v ns∧ans=.ok (ns,s.drop a,a))∧(f.err≠0→ans=.bad f)):=hid (by
  refine HC.mono ?_;clear HC hE;intro e w' hh;cases ans with
  | bad f0=>
   obtain⟨rfl,hk,a,v,h⟩:=hh;have hfe:f0.err≠0:=rV _ _ _ _ _ _ _ JF.out;exact⟨rfl,hk.mono (λk _ hs=>hs.elim id (λh=>by cases h)),f0,a,v,[],h,λh0=>absurd h0 hfe,λ_=>rfl⟩
  | ok y=>
   obtain⟨ns',l',a'⟩:=y;obtain⟨v',rfl,hk,h,rfl,_⟩:=hh;exact⟨rfl,hk.mono (λk _ hs=>hs.elim id (λh=>by cases h)),good,a',v',ns',h.rd,λ_=>⟨rfl,h.nodes,rfl⟩,λh0=>absurd rfl h0⟩)
 have abA:=hid BF;clear BF HC hst;have HF1:Hid (w1.heap[w.heap.size]?=some (.cells #[.int .i64 0,.int .i64 0] 26 (0,0))):=hid (by rw[←HW1.out];exact iw AL.out _);have uZ:=hid hk1;clear hwk hk1 hE;go_enter Tryz.func34,Tryz.ntmps34
 go_upto_region 1 with fail
 rw[HW0.out];go_upto_region 4 with fail
 rw[HW1.out,←xq];have abB:=hid xq;clear hz0 hz1 xq;go_wp2_with fail
 refine HC2.out.mono ?_;rintro e w2 ⟨rfl,hk2,f,a,v,ns,h2,hg2,hb2⟩;have xq:=abB.out;have BF:=abA.out;have HF2:Hid (w2.heap[w.heap.size]?=some (.cells #[.int .i64 0,.int .i64 0] 26 (0,0))):=hid (hk2.heap (by omega) HF1.out);have iO:Hid (Kept (λ_=>False) w w2):=hid (uZ.out.trans' hk2 (λk hk hs=>by omega));have PZ:Hid (¬w.heap.size=wb):=hid (by omega);have HLE:Hid (w.heap.size≤wb):=hid (by omega);have Gs:Hid (f.err=0→∀wx,Kept (λk=>k=wb∨k=w.heap.size) w2 wx→aX wx v ns):=hid (λhf wx hk=>by
  obtain⟨_,hn,_⟩:=hg2 hf;obtain⟨mO,h1,h3,h4⟩:=hn;exact QX HF2.out hk ⟨mO,h1,h3,h4⟩ (λk hk' hs=>by have:=(h3.lt k hk').1;omega))
 have HG2:Hid (f.err=0→f=good∧ans=.ok (ns,s.drop a,a)):=hid (λhf=>⟨(hg2 hf).1,(hg2 hf).2.2⟩);have HB2:=hid hb2;have H2:=hid h2;have c1:=h2.c1;have c4:=h2.c4;have hla:=h2.2.1;clear hk2 h2 hg2 hb2 xq BF;go_upto_region 5 with fail
 go_cut [24] (λc wx=>wx=w2∧c=.bool (decide (f.err=0∧a<s.length)))
 case first=>
  by_cases hf:f.err=0
  ·obtain rfl:=(HG2.out hf).1;by_cases hend:a<s.length
   ·have hc:decide (good.err=0∧a<s.length)=true:=by simp[good,hend]
    go_wp2_with (go_at_call 79;refine(bK true _ _ _ _ _ _ H2.out rfl).mono ?_;rintro e w3 ⟨rfl,rfl⟩)
    go_meet
    case rel=>exact⟨rfl,by rw[hc]⟩
   have hc:decide (good.err=0∧a<s.length)=false:=by simp[good];omega
   go_wp2_with (go_at_call 79;refine(bK true _ _ _ _ _ _ H2.out rfl).mono ?_;rintro e w3 ⟨rfl,rfl⟩)
   go_meet
   case rel=>exact⟨rfl,by rw[hc]⟩
  have hc:decide (f.err=0∧a<s.length)=false:=by simp[hf]
  have hf':((f.err:Int)==0)=false:=by simp;omega
  go_wp2_with (go_at_call 79;refine(bK false _ _ _ _ _ _ H2.out hf').mono ?_;rintro e w3 ⟨rfl,rfl⟩)
  go_meet
  case rel=>exact⟨rfl,by rw[hc]⟩
 case rest=>
  obtain⟨rfl,rfl⟩:=hcut;go_upto_if 24 with fail
  obtain⟨w2,hw2⟩:∃x,x=wc:=⟨_,rfl⟩;subst hw2;go_cut [] (λwx=>∃g,Hid (bJ wx wb s a g v)∧Hid (Kept (· = wb) w2 wx)∧(g.err=0→f.err=0∧r=.ok ns)∧(g.err≠0→r=.bad g))
  case first=>
   by_cases hf:f.err=0
   ·obtain⟨rfl,hok⟩:=HG2.out hf;have hE:=HE.out;rw[hok]at hE;simp only[Ans.aN]at hE;by_cases hend:a<s.length
    ·have hr:Hid (r=.bad ⟨2,a⟩):=hid (by rw[←hE,if_neg (λh=>by have:=congrArg List.length h;rw[List.length_drop]at this;simp at this;omega)]);have hc:decide (good.err=0∧a<s.length)=true:=by simp[good,hend]
     rw[hc];clear hE hok;go_wp2_with fail
     refine(dP 2 a _ wb s a good _ H2.out rfl).mono ?_;rintro e w4 ⟨rfl,hk4,h4⟩;have uY:=hid hk4;have H4:=hid h4;clear hk4 h4;go_wp2_with fail
     go_meet
     case rel=>exact⟨⟨2,a⟩,H4,uY,λhh=>absurd hh (by simp),λ_=>hr.out⟩
    have hr:Hid (r=.ok ns):=hid (by rw[←hE,if_pos (List.drop_of_length_le (by omega))]);have hc:decide (good.err=0∧a<s.length)=false:=by simp[good];omega
    rw[hc];clear hE hok;go_wp2_with fail
    go_meet
    case rel=>exact⟨good,H2,hid (Kept.refl _ _),λ_=>⟨rfl,hr.out⟩,λhh=>absurd rfl hh⟩
   have hE:=HE.out;rw[HB2.out hf]at hE;have hr:Hid (r=.bad f):=hid (by rw[←hE];rfl);have hc:decide (f.err=0∧a<s.length)=false:=by simp[hf]
   rw[hc];clear hE;go_wp2_with fail
   go_meet
   case rel=>exact⟨f,H2,hid (Kept.refl _ _),λhh=>absurd hh hf,λ_=>hr.out⟩
  case rest=>
   obtain⟨g,HG,ET,hg0,hg1⟩:=hcut;have Ld:Hid (wc.heap[w.heap.size]?=some (.cells #[.int .i64 0,.int .i64 0] 26 (0,0))):=hid (ET.out.heap PZ.out HF2.out);have qm:Hid (Kept (λ_=>False) w wc):=hid (iO.out.trans' ET.out (λk hk hs=>by have:=HLE.out;omega));have x0:=ah Ld.out 0 rfl;have x1:=ah Ld.out 1 rfl;have y0:=aF Ld.out 0;have y1:=aF Ld.out 1;clear c1 c4;by_cases hg:g.err=0
   ·obtain⟨hf0,hr⟩:=hg0 hg;subst hr;obtain⟨q0,q1,q2⟩:=uj Ld.out qm.out (Nat.le_refl _) (.int .i64 0) (.int .i64 0);have HD:=hid (Gs.out hf0 ((wc.setCell ⟨w.heap.size,0,none⟩ (.int .i64 0)).setCell ⟨w.heap.size,1,none⟩ (.int .i64 0)) (((ET.out.mono (T:=λk=>k=wb∨k=w.heap.size) (λk _ hk=>.inl hk)).setCell (p:=⟨w.heap.size,0,none⟩) (.inl (.inr rfl)) _).setCell (p:=⟨w.heap.size,1,none⟩) (.inl (.inr rfl)) _));have Q2:=hid q2;have c4:=HG.out.c4;clear hg0 hg1 q2;go_wp2_with (go_at_call 79;refine(bK true _ _ _ _ _ _ HG.out (by simp[hg])).mono ?_;rintro e w3 ⟨rfl,rfl⟩)
    refine bodyPost_ret (v:=.tuple #[v,.agg #[.int .i64 0,.int .i64 0]]) (by simp[results,Tryz.results34,go_sem,q0,q1]) rfl ?_;exact⟨_,rfl,Q2.out.below,HD.out⟩
   have hr:=hg1 hg;subst hr;have hgf:((g.err:Int)==0)=false:=by simp;omega
   obtain⟨q0,q1,q2⟩:=uj Ld.out qm.out (Nat.le_refl _) (.int .i64 (g.err:Int)) (.int .i64 (g.pos:Int));have z2:=HG.out.c2;have z3:=HG.out.c3;obtain⟨wf,Ei⟩:∃x,Hid ((wc.setCell ⟨w.heap.size,0,none⟩ (.int .i64 (g.err:Int))).setCell ⟨w.heap.size,1,none⟩ (.int .i64 (g.pos:Int))=x):=⟨_,hid rfl⟩;rw[Ei.out]at q0 q1 q2;have Q0:=hid q0;have Q1:=hid q1;have Q2:=hid q2;clear hg0 hg1 q0 q1 q2;go_wp2_with (go_at_call 79;refine(bK false _ _ _ _ _ _ HG.out hgf).mono ?_;rintro e w3 ⟨rfl,rfl⟩)
   go_region
   go_wp2_with fail
   rw[Ei.out];have p0:wf.drew.cell? ⟨w.heap.size,0,none⟩=some (.int .i64 (g.err:Int)):=Q0.out;have p1:wf.drew.cell? ⟨w.heap.size,1,none⟩=some (.int .i64 (g.pos:Int)):=Q1.out;refine bodyPost_ret (v:=.tuple #[.slice none 0 0,.agg #[.int .i64 (g.err:Int),.int .i64 (g.pos:Int)]]) (by simp[results,Tryz.results34,go_sem,p0,p1]) rfl ?_;exact⟨rfl,Q2.out.drew.below⟩
theorem iE(w:World)(b:Nat)(s:B)(a:Nat)(f:iL)(v:Value)(h:bJ w b s a f v)(hg:f.err=0→f=good):
  Calls Tryz.prog 115 #[.pointer (some ⟨b,0,none⟩)] w λe w'=>∃f' a',e=.returned (.bool (decide (a<a')))∧Kept (· = b) w w'∧bJ w' b s a' f' v∧(f'.err=0→f'=good)∧Hid (Step f (cO (s.drop a) a) f' (s.drop a',a')):=by
 obtain⟨r,HR⟩:∃r,Hid (cO (s.drop a) a=r):=⟨_,rfl⟩;rw[HR.out];have H:=hid h;have c1:=h.c1;have hl:=h.2.1;have hmx:=h.2.2;clear h;by_cases hf:f.err=0
 ·obtain rfl:=hg hf;clear hg;go_enter Tryz.func115,Tryz.ntmps115
  go_upto_block 0 with fail
  clear c1;go_cut [] (λwx=>∃f' a',bJ wx b s a' f' v∧Hid (Kept (· = b) w wx)∧(f'.err=0→f'=good)∧Hid (Step good r f' (s.drop a',a')))
  case first=>
   go_wp2_with fail
   go_loopg [] (s.length-a) (λk wr=>∃p,bJ wr b s p good v∧Hid (Kept (· = b) w wr)∧Hid (cO (s.drop p) p=r)∧k=s.length-p)
   case atStart=>exact⟨a,H.out,hid (Kept.refl _ _),HR,rfl⟩
   case round=>
    obtain⟨p,hsd,HK,HG,hk⟩:=hrel;have HS:=hid hsd;have c0:=hsd.c0;have c1:=hsd.c1;have f1:=hsd.free 1;have hl':=hsd.2.1;clear hsd;by_cases hlt:p<s.length
    ·have hd:=List.drop_eq_getElem_cons hlt;have hG:=HG.out;rw[hd,uz,←hd]at hG;have HD:=hid hd;clear hd;have hi0:(0:Int)≤(p:Int):=by omega
     have hi1:(p:Int)<(s.length:Int):=by omega
     cases e1:(((s[p]'hlt).toNat:Int)==32)with
     | true=>
      rw[if_pos (.inl (by simp at e1;omega))]at hG;have YQ:=hid hG;clear hG;have e2:∀x:Bool,((((s[p]'hlt).toNat:Int)==32)||x)=true:=λx=>by rw[e1];rfl
      go_wp2_with fail
      go_quiet ((go_at_call 79;exact Calls.quiet_of_same (bK true _ _ _ _ _ _ HS.out rfl)))
      go_wp2_with fail
      go_quiet (fail)
      go_wp2_with fail
      go_roundg (s.length-(p+1))
      case measure=>omega
      case rel=>exact⟨p+1,((HS.out.drewN _).set (by omega) (by omega)),hid ((HK.out.drewN _).setCell (p:=⟨b,1,none⟩) (.inl rfl) _),YQ,rfl⟩
     | false=>
      cases e2:(((s[p]'hlt).toNat:Int)==10)with
      | true=>
       rw[if_pos (.inr (by simp at e2;omega))]at hG;have YQ:=hid hG;clear hG;go_wp2_with fail
       go_quiet ((go_at_call 79;exact Calls.quiet_of_same (bK true _ _ _ _ _ _ HS.out rfl)))
       go_wp2_with fail
       go_quiet (fail)
       go_wp2_with fail
       go_roundg (s.length-(p+1))
       case measure=>omega
       case rel=>exact⟨p+1,((HS.out.drewN _).set (by omega) (by omega)),hid ((HK.out.drewN _).setCell (p:=⟨b,1,none⟩) (.inl rfl) _),YQ,rfl⟩
      | false=>
       rw[if_neg (by simp at e1 e2;omega)]at hG;have YQ:=hid hG;clear hG;go_wp2_with fail
       go_quiet ((go_at_call 79;exact Calls.quiet_of_same (bK true _ _ _ _ _ _ HS.out rfl)))
       go_wp2_with fail
       go_quiet (fail)
       go_wp2_with fail
       cases hp:dV.isPrefixOf (s.drop p)with
       | false=>
        refine(iT dV false _ _ _ _ _ _ (HS.out.drewN _) rfl (by decide) hp).mono ?_;rintro e w1 ⟨rfl,hw1⟩;have hq1:Qt wr w1:=Qt.trans ⟨_,rfl⟩ hw1;have HQ1:=hid hq1;clear hw1 hq1;have hR:Hid (r=.ok (s.drop p,p)):=hid (by have:=YQ.out;rw[hp]at this;exact this.symm);clear hp;go_wp2_with fail
        go_meet
        case rel=>exact⟨good,p,HS.out.quiet HQ1.out,hid (HK.out.trans (HQ1.out.kept _)),λ_=>rfl,hid (Step.ok hR.out)⟩
       | true=>
        have hp2:p+2≤s.length:=by
         have:=(List.isPrefixOf_iff_prefix.1 hp).length_le;rw[List.length_drop]at this;simp only[dV,List.length_cons,List.length_nil]at this;omega
        have hG:=YQ.out;rw[hp,if_pos rfl,List.drop_drop]at hG;have HGM:=hid hG;refine(iT dV true _ _ _ _ _ _ (HS.out.drewN _) rfl (by decide) hp).mono ?_;rintro e w1 ⟨rfl,hw1⟩;have hq1:Qt wr w1:=Qt.trans ⟨_,rfl⟩ hw1;have OI:=hid (HS.out.quiet hq1);have uZ:=hid (HK.out.trans (hq1.kept _));clear c0 c1 f1 hw1 hG hp hq1;have c0:=OI.out.c0;have c1:=OI.out.c1;have f1:=OI.out.free 1;have h4:bJ (w1.setCell ⟨b,1,none⟩ (.int .i64 ((p:Int)+2))) b s (p+2) good v:=OI.out.set (by omega) (by omega);have H4:=hid h4;obtain⟨w4,Dn⟩:∃x,Hid (w1.setCell ⟨b,1,none⟩ (.int .i64 ((p:Int)+2))=x):=⟨_,rfl⟩;have uY:Hid (Kept (· = b) w w4):=hid (by rw[←Dn.out];exact uZ.out.setCell (p:=⟨b,1,none⟩) (.inl rfl) _);have H5:Hid (bJ w4 b s (p+2) good v):=hid (by rw[←Dn.out];exact H4.out);clear h4 H4;go_upto_region 8 with fail
        rw[Dn.out];clear Dn OI uZ c0 c1 f1;have f1:=H5.out.free 1;have c1:=H5.out.c1;cases hf:bg dN (s.drop (p+2))with
        | none=>
         have HF:Hid (iU s dN (p+2)=none):=hid (by unfold iU;rw[hf];rfl);have hR:Hid (r=.bad ⟨2,p⟩):=hid (by have:=HGM.out;rw[hf]at this;exact this.symm);clear hf;have h6:bJ (w4.setCell ⟨b,1,none⟩ (.int .i64 (p:Int))) b s p good v:=H5.out.set rfl (by omega);have H6:=hid h6;clear h6;go_wp2_with (go_at_call 113;refine(BD dN none _ b s (p+2) good v H5.out (by decide) (by decide) HF.out).mono ?_;rintro e2 w5 ⟨rfl,rfl⟩)
         refine(dP 2 p _ b s p good v H6.out rfl).mono ?_;rintro e w9 ⟨rfl,hk9,h9⟩;have Qu:=hid ((uY.out.setCell (p:=⟨b,1,none⟩) (.inl rfl) _).trans hk9);have H9:=hid h9;clear hk9 h9;go_wp2_with fail
         go_meet
         case rel=>exact⟨⟨2,p⟩,p,H9.out,Qu,λhh=>absurd hh (by simp),hid (Step.bad hR.out (by simp))⟩
        | some e=>
         have hfl:=gY _ _ _ hf;rw[List.length_drop]at hfl;have hsl:dN.length=2:=rfl;rw[hsl]at hfl;have HF:Hid (iU s dN (p+2)=some (p+2+e)):=hid (by unfold iU;rw[hf];rfl);have hGN:Hid (cO (s.drop (p+(2+e+2))) (p+(2+e+2))=r):=hid (by have:=HGM.out;rw[hf]at this;simpa [List.drop_drop] using this);clear hf;go_wp2_with (go_at_call 113;refine(DC dN (p+2+e) _ b s (p+2) good v H5.out (by decide) (by decide) HF.out).mono ?_;rintro e2 w5 ⟨rfl,rfl⟩)
         go_roundg (s.length-(p+(2+e+2)))
         case measure=>omega
         case rel=>exact⟨p+(2+e+2),(H5.out.set (a':=p) rfl (by omega)).set (by omega) (by omega),hid ((uY.out.setCell (p:=⟨b,1,none⟩) (.inl rfl) _).setCell (p:=⟨b,1,none⟩) (.inl rfl) _),hGN,rfl⟩
    have hd:decide ((p:Int)<(s.length:Int))=false:=by simp;omega
    have hR:Hid (r=.ok (s.drop p,p)):=hid (by have:=HG.out;rw[List.drop_of_length_le (show s.length≤p by omega)]at this ⊢;exact this.symm);go_wp2_with fail
    go_quiet ((go_at_call 79;exact Calls.quiet_of_same (bK true _ _ _ _ _ _ HS.out rfl)))
    go_wp2_with fail
    go_meet
    case rel=>exact⟨good,p,HS.out.drewN _,hid (HK.out.drewN _),λ_=>rfl,hid (Step.ok hR.out)⟩
  case rest=>
   obtain⟨f',a',hw',HK,hg',HS⟩:=hcut;have hgt:decide ((a:Int)<(a':Int))=decide (a<a'):=by rw[Bool.eq_iff_iff];simp
   have HW:=hid hw';have c1:=hw'.c1;clear hw';go_wp2_with fail
   go_ret
   exact⟨f',a',rfl,HK.out,HW.out,hg',HS⟩
 have hf':((f.err:Int)==0)=false:=by simp;omega
 have hgt:decide (a<a)=false:=by simp
 go_enter Tryz.func115,Tryz.ntmps115
 go_wp2_with fail
 go_loopg [] 0 (λk wr=>k=0∧Hid (bJ wr b s a f v)∧Hid (Kept (· = b) w wr))
 case atStart=>exact⟨rfl,H,hid (Kept.refl _ _)⟩
 case round=>
  obtain⟨rfl,HS,HK⟩:=hrel;have c0:=HS.out.c0;have c1':=HS.out.c1;clear c1;go_wp2_with fail
  go_quiet ((go_at_call 79;exact Calls.quiet_of_same (bK false _ _ _ _ _ _ HS.out hf')))
  go_wp2_with fail
  go_ret
  exact⟨f,a,by rw[hgt];rfl,HK.out.drewN _,HS.out.drewN _,hg,hid (Step.dead hf)⟩
theorem YR(c:UInt8):isWord c=(isLow c||(decide (48≤(c.toNat:Int))&&decide ((c.toNat:Int)≤57))||((c.toNat:Int)==35)||((c.toNat:Int)==46)||((c.toNat:Int)==37)||((c.toNat:Int)==45)):=by
 have e:∀n:Nat,decide (c.toNat=n)=((c.toNat:Int)==(n:Int)):=λn=>by
  rw[Bool.eq_iff_iff,decide_eq_true_iff,beq_iff_eq];omega
 have e2:decide (48≤c.toNat)=decide (48≤(c.toNat:Int)):=by rw[Bool.eq_iff_iff];simp;omega
 have e3:decide (c.toNat≤57)=decide ((c.toNat:Int)≤57):=by rw[Bool.eq_iff_iff];simp;omega
 unfold isWord;rw[e 35,e 46,e 37,e 45,e2,e3]
 rfl
theorem BG(c:UInt8)(x:Bool)(w:World)(hx:isWord c=x):Calls Tryz.prog 120 #[.int .u8 (c.toNat:Int)] w λe w'=>e=.returned (.bool x)∧w'=w:=by
 rw[YR]at hx;cases hlow:isLow c with
 | true=>
  have HX:Hid (x=true):=hid (by rw[←hx,hlow];simp);have TW:=hid (rU c true w hlow);clear hx;go_enter Tryz.func120,Tryz.ntmps120
  go_wp2_with (go_at_call 70;refine TW.out.mono ?_;rintro e w2 ⟨rfl,rfl⟩)
  go_ret
  exact⟨eu HX.out.symm,rfl⟩
 | false=>
  have TW:=hid (rU c false w hlow);rw[hlow]at hx;have HX:=hid hx;clear hx;go_enter Tryz.func120,Tryz.ntmps120
  by_cases h1:48≤(c.toNat:Int)
  ·by_cases h2:(c.toNat:Int)≤57
   ·go_wp2_with (go_at_call 70;refine TW.out.mono ?_;rintro e w2 ⟨rfl,rfl⟩)
    go_ret
    exact⟨eu (by rw[←HX.out];simp[h1,h2]),rfl⟩
   cases e1:((c.toNat:Int)==35)with
   | true=>exfalso;simp at e1;omega
   | false=>
    cases e2:((c.toNat:Int)==46)with
    | true=>exfalso;simp at e2;omega
    | false=>
     cases e3:((c.toNat:Int)==37)with
     | true=>exfalso;simp at e3;omega
     | false=>
      cases e4:((c.toNat:Int)==45)with
      | true=>exfalso;simp at e4;omega
      | false=>
       go_wp2_with (go_at_call 70;refine TW.out.mono ?_;rintro e w2 ⟨rfl,rfl⟩)
       go_ret
       exact⟨eu (by rw[←HX.out,e1,e2,e3,e4];simp[h1,h2]),rfl⟩
  cases e1:((c.toNat:Int)==35)with
  | true=>
   go_wp2_with (go_at_call 70;refine TW.out.mono ?_;rintro e w2 ⟨rfl,rfl⟩)
   go_ret
   exact⟨eu (by rw[←HX.out,e1];simp),rfl⟩
  | false=>
   cases e2:((c.toNat:Int)==46)with
   | true=>
    go_wp2_with (go_at_call 70;refine TW.out.mono ?_;rintro e w2 ⟨rfl,rfl⟩)
    go_ret
    exact⟨eu (by rw[←HX.out,e2];simp),rfl⟩
   | false=>
    cases e3:((c.toNat:Int)==37)with
    | true=>
     go_wp2_with (go_at_call 70;refine TW.out.mono ?_;rintro e w2 ⟨rfl,rfl⟩)
     go_ret
     exact⟨eu (by rw[←HX.out,e3];simp),rfl⟩
    | false=>
     cases e4:((c.toNat:Int)==45)with
     | true=>
      go_wp2_with (go_at_call 70;refine TW.out.mono ?_;rintro e w2 ⟨rfl,rfl⟩)
      go_ret
      exact⟨eu (by rw[←HX.out,e4];simp),rfl⟩
     | false=>
      go_wp2_with (go_at_call 70;refine TW.out.mono ?_;rintro e w2 ⟨rfl,rfl⟩)
      go_ret
      exact⟨eu (by rw[←HX.out,e1,e2,e3,e4];simp;omega),rfl⟩
theorem oQ(w:World)(b:Nat)(s:B)(a:Nat)(f:iL)(v:Value)(h:bJ w b s a f v)(hg:f.err=0→f=good):
  Calls Tryz.prog 117 #[.pointer (some ⟨b,0,none⟩),.int .i64 2] w λe w'=>∃nm:B,e=.returned (.string (str nm))∧Kept (· = b) w w' ∧
   ∃f' a',bJ w' b s a' f' v∧(f'.err=0→f'=good∧nm.length≤20)∧nm.length≤s.length∧Hid (Step f (dM (s.drop a) a) f' (nm,s.drop a',a')):=by
 refine(KZ 2 (by omega) w b s a f v h).mono ?_;rintro e w1 ⟨rfl,hk,h1⟩;refine⟨_,rfl,hk,?_⟩;have hn:=gZ (s.drop a);have hlen:((s.drop a).take (aJ (s.drop a))).length=aJ (s.drop a):=by rw[List.length_take];omega
 have hls:((s.drop a).take (aJ (s.drop a))).length≤s.length:=by rw[hlen];rw[List.length_drop]at hn;omega
 by_cases hf:f.err=0
 ·rw[if_neg (by simp[hf])]at h1;by_cases h0:aJ (s.drop a)=0
  ·rw[if_pos h0]at h1;refine⟨_,_,h1,λhh=>absurd hh (by simp),hls,hid ⟨λhh=>absurd hf hh,λ_=>.inr ⟨by simp,?_⟩⟩⟩;unfold dM;rw[if_pos (.inl h0)]
  rw[if_neg h0]at h1;by_cases h20:20<aJ (s.drop a)
  ·rw[if_pos h20]at h1;refine⟨_,_,h1,λhh=>absurd hh (by simp),hls,hid ⟨λhh=>absurd hf hh,λ_=>.inr ⟨by simp,?_⟩⟩⟩;unfold dM;rw[if_pos (.inr h20)]
  rw[if_neg h20]at h1;refine⟨_,_,h1,λ_=>⟨hg hf,by omega⟩,hls,hid ⟨λhh=>absurd hf hh,λ_=>.inl ⟨hf,?_⟩⟩⟩;unfold dM;rw[if_neg (by omega),List.drop_drop]
 rw[if_pos hf]at h1;exact⟨f,a,h1,λhh=>absurd hh hf,hls,hid (Step.dead hf)⟩
def Mid{α:Type}(f0:iL)(A:Ans α)(f:iL)(X:Ans α):Prop:=(f0.err≠0→f=f0)∧(f0.err=0→St A f X)
section
variable {α β:Type} {f0 f f':iL} {A X Y:Ans α}
theorem Mid.start(A:Ans α)(f:iL):Mid f A f A:=⟨λ_=>rfl,λhf=>⟨λhh=>absurd hf hh,λ_=>rfl⟩⟩
theorem Mid.step{R:Ans β}{k:β→Ans α}{x:β}(h:Mid f0 A f (R.then k))(hs:Step f R f' x):Mid f0 A f' (k x):=by
 refine⟨λhh=>?_,λhh=>(h.2 hh).step hs⟩;have:=h.1 hh;subst this;exact hs.1 hh
theorem Mid.fin{x:α}(h:Mid f0 A f (.ok x)):Step f0 A f x:=by
 refine⟨h.1,λhh=>?_⟩;by_cases hf:f.err=0
 ·exact .inl ⟨hf,(h.2 hh).2 hf⟩
 exact .inr ⟨hf,(h.2 hh).1 hf⟩
theorem Mid.live(h:Mid f0 A f X)(hf:f.err=0):f0.err=0∧A=X:=by
 by_cases hh:f0.err=0
 ·exact⟨hh,(h.2 hh).2 hf⟩
 rw[h.1 hh]at hf;exact absurd hf hh
theorem Mid.kill(h:Mid f0 A f X)(hf:f.err=0)(hX:X=.bad f')(hf':f'.err≠0):Mid f0 A f' Y:=by
 obtain⟨h1,h2⟩:=h.live hf;exact⟨λhh=>absurd h1 hh,λ_=>⟨λ_=>h2.trans hX,λhh=>absurd hh hf'⟩⟩
theorem Mid.dead(h:Mid f0 A f X)(hf:f.err≠0):Mid f0 A f Y:=⟨h.1,λhh=>⟨(h.2 hh).1,λh0=>absurd h0 hf⟩⟩
theorem Mid.eq(h:Mid f0 A f X)(hX:f.err=0→X=Y):Mid f0 A f Y:=⟨h.1,λhh=>⟨(h.2 hh).1,λh0=>((h.2 hh).2 h0).trans (hX h0)⟩⟩
end
theorem oq(word:B)(w:World)(b:Nat)(s:B)(a:Nat)(f:iL)(v:Value)(h:bJ w b s a f v)(hw:word.length≤100)(hne:word≠[]):
  Calls Tryz.prog 116 #[.pointer (some ⟨b,0,none⟩),.string (str word)] w λe w'=>∃x:Bool,e=.returned (.bool x)∧Kept (· = b) w w'∧∃a',bJ w' b s a' f v ∧
   (x=true→f.err=0∧word.isPrefixOf (s.drop a)=true∧a'=a+word.length)∧(x=false→a'=a∧(f.err=0→word.isPrefixOf (s.drop a)=false)):=by
 by_cases hf:f.err=0
 ·cases hx:word.isPrefixOf (s.drop a)with
  | true=>
   refine(NW word _ _ _ _ _ _ h hf hw hne hx).mono ?_;rintro e w1 ⟨rfl,hk,h1⟩;exact⟨true,rfl,hk,_,h1,λ_=>⟨hf,rfl,rfl⟩,λhh=>by cases hh⟩
  | false=>
   refine(Hy word _ _ _ _ _ _ h hw (λ_=>hx)).mono ?_;rintro e w1 ⟨rfl,n,rfl⟩;exact⟨false,rfl,(Kept.refl _ w).drewN n,a,h.drewN n,(λhh=>by cases hh),λ_=>⟨rfl,λ_=>rfl⟩⟩
 refine(Hy word _ _ _ _ _ _ h hw (λhh=>absurd hh hf)).mono ?_;rintro e w1 ⟨rfl,n,rfl⟩;exact⟨false,rfl,(Kept.refl _ w).drewN n,a,h.drewN n,(λhh=>by cases hh),λ_=>⟨rfl,λhh=>absurd hh hf⟩⟩
structure rW(w0 wr:World)(b db:Nat)(s:B)(v:Value)(nm vl:B)(st:Bool)(f:iL)(p:Nat):Prop where
 rd:bJ wr b s p f v
 box:wr.heap[db]?=some (.cells #[.string (str nm),.string (str vl),.bool st] 59 (0,0))
 kept:Kept (· = b) w0 wr
 al:f.err=0→f=good
 new:w0.heap.size≤db
 hb:b<db
section
variable {w0 wr wx:World} {b db:Nat} {s:B} {v:Value} {nm vl:B} {st:Bool} {f f':iL} {p p':Nat}
theorem rW.step(h:rW w0 wr b db s v nm vl st f p)(hk:Kept (· = b) wr wx)(hr:bJ wx b s p' f' v)(ha:f'.err=0→f'=good):rW w0 wx b db s v nm vl st f' p':=
 ⟨hr,hk.heap (by have:=h.hb;omega) h.box,h.kept.trans hk,ha,h.new,h.hb⟩
theorem rW.quiet(h:rW w0 wr b db s v nm vl st f p)(hq:Qt wr wx):rW w0 wx b db s v nm vl st f p:=h.step (hq.kept _) (h.rd.quiet hq) h.al
theorem rW.put(h:rW w0 wr b db s v nm vl st f p)(YS:B):rW w0 (wr.setCell ⟨db,1,none⟩ (.string (str YS))) b db s v nm YS st f p:=by
 have hb:=h.hb;refine⟨h.rd.kept (S:=(· = db)) ((Kept.refl (· = db) wr).setCell (p:=⟨db,1,none⟩) (.inl rfl) _) (by omega),?_,h.kept.setCell (p:=⟨db,1,none⟩) (.inr h.new) _,h.al,h.new,h.hb⟩;have:=aW h.box 1 (.string (str YS));simpa using this
theorem rW.strong(h:rW w0 wr b db s v nm vl st f p)(st':Bool):rW w0 (wr.setCell ⟨db,2,none⟩ (.bool st')) b db s v nm vl st' f p:=by
 have hb:=h.hb;refine⟨h.rd.kept (S:=(· = db)) ((Kept.refl (· = db) wr).setCell (p:=⟨db,2,none⟩) (.inl rfl) _) (by omega),?_,h.kept.setCell (p:=⟨db,2,none⟩) (.inr h.new) _,h.al,h.new,h.hb⟩;have:=aW h.box 2 (.bool st');simpa using this
theorem rW.set(h:rW w0 wr b db s v nm vl st f p){x:Int}(hx:x=(p':Int))(hl:p'≤s.length):rW w0 (wr.setCell ⟨b,1,none⟩ (.int .i64 x)) b db s v nm vl st f p':=
 h.step ((Kept.refl (· = b) wr).setCell (p:=⟨b,1,none⟩) (.inl rfl) _) (h.rd.set hx hl) h.al
end
theorem Ia:∀(ws:List B) (w:B),gU (ws++[w])=if ws=[] then w else gU ws++([32]++w)
 | [],w=>rfl
 | [x],w=>by simp[gU]
 | x::y::ws,w=>by
  have ih:=Ia (y::ws) w;rw[if_neg (by simp)]at ih ⊢;show x++[32]++gU ((y::ws)++[w])=(x++[32]++gU (y::ws))++([32]++w)
  rw[ih];simp
theorem QY{n:Nat}{ws:List B}{l:B}{a:Nat}(h:l.takeWhile isWord=[]):jI (n+1) ws l a=if ws=[] then .bad ⟨2,a⟩ else .ok (gU ws,l,a):=by
 simp only[jI,h,if_true]
theorem YT{n:Nat}{ws:List B}{l:B}{a:Nat}(h:l.takeWhile isWord≠[])(h60:60<(gU (ws++[l.takeWhile isWord])).length):jI (n+1) ws l a=.bad ⟨4,a⟩:=by
 simp only[jI,h,if_false,if_pos h60]
theorem YU{n:Nat}{ws:List B}{l:B}{a:Nat}(h:l.takeWhile isWord≠[])(h60:¬60<(gU (ws++[l.takeWhile isWord])).length):
  jI (n+1) ws l a=(cO (l.drop (l.takeWhile isWord).length) (a+(l.takeWhile isWord).length)).then λx=>jI n (ws++[l.takeWhile isWord]) x.1 x.2:=by
 simp only[jI,h,if_false,if_neg h60]
theorem Ib{n:Nat}{ds:List aC}{l:B}{a:Nat}(h:(l.isEmpty||[125].isPrefixOf l)=true):cZ (n+1) ds l a=.ok (ds,l,a):=by
 simp only[cZ,h,if_true]
theorem QZ{n:Nat}{ds:List aC}{l:B}{a:Nat}(h:(l.isEmpty||[125].isPrefixOf l)=false)(h20:ds.length=20):cZ (n+1) ds l a=.bad ⟨5,a⟩:=by
 simp only[cZ,h,h20,if_true];rfl
theorem Q5{n:Nat}{ds:List aC}{l:B}{a:Nat}(h:(l.isEmpty||[125].isPrefixOf l)=false)(h20:ds.length≠20):
  cZ (n+1) ds l a=(qQ l a).then λx=>if [59].isPrefixOf x.2.1 then (cO (x.2.1.drop 1) (x.2.2+1)).then λy=>cZ n (ds++[x.1]) y.1 y.2 else .ok (ds++[x.1],x.2.1,x.2.2):=by
 simp only[cZ,h,h20,if_false];rfl
end Go.Proofs.YtplbdlgmjehckacGreatDoor

