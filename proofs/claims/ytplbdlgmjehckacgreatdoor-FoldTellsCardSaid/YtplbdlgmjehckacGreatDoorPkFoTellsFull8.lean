/-
 Lemmas for the claims of this seat: the program's functions walked, and plain laws.
-/
import Derived.Test.YtplbdlgmjehckacGreatDoorPkFoTellsFull7
import Derived.Deep.RegionHeld3
set_option maxRecDepth 100000
set_option maxHeartbeats 6400000
namespace Go.Proofs.YtplbdlgmjehckacGreatDoor
open Go.Lib (hid)
open Go.RowKit
set_option linter.unusedVariables false
set_option linter.unusedSimpArgs false
def jh(x:B):List Value:=[.string (str x)]
def nW(ws:List B):Nat:=(ws.map λw=>w.length+1).sum
theorem Oz(ws:List B)(w:B):nW (ws++[w])=nW ws+(w.length+1):=by simp[nW]
theorem OA:∀ws:List B,ws≠[]→nW ws=(gU ws).length+1
 | [],h=>absurd rfl h
 | [w],_=>by simp[nW,gU]
 | w::x::ws,_=>by
  have:=OA (x::ws) (by simp);rw[GY w (x::ws) (by simp)];simp only[nW,List.map_cons,List.sum_cons,List.length_append,List.length_cons,List.length_nil]at this ⊢;omega
theorem ZC{ws:List B}:∀r∈ws.map jh,r.length=1:=by
 intro r hr;obtain⟨a,_,rfl⟩:=List.mem_map.1 hr
 rfl
theorem Fq(q:Bool)(c:UInt8)(w:World)(h:isWord c=q):
  Calls Tryz.prog 157 #[.int .u8 (c.toNat:Int)] w λe w'=>e=.returned (.bool q)∧w'=w:=by
 subst h;exact acL c w
theorem Jj{f:Nat}{ws:List B}{l:B}{a:Nat}{r:Ans (B×B×Nat)}(h:jI (f+1) ws l a=r):
  (if l.takeWhile isWord=[] then (if ws=[] then .bad ⟨2,a⟩ else .ok (gU ws,l,a))
  else if 60<(gU (ws++[l.takeWhile isWord])).length then .bad ⟨4,a⟩
  else (cO (l.drop (l.takeWhile isWord).length) (a+(l.takeWhile isWord).length)).then λx=>jI f (ws++[l.takeWhile isWord]) x.1 x.2)=r:=by
 rw[←h,jI]
theorem ZE{w0 w wm w':World}{b base e size n:Nat}{v:Value}{xs:List Value}(hk:Kept (· = b) w0 w)(hb:w0.heap.size=base)(hown:w.ownsRow base e size v n xs)(hm:Kept (λ_=>False) w wm)(hg:wm.grownBy w' v.ownBlock):Kept (· = b) w0 w':=
 (hk.trans (hm.mono (λ_ _ h=>h.elim))).grown hg (λk hk=>.inr (by have:=(hown.lt k hk).1;omega))
theorem aeF{w wm w':World}{b base e size n at_:Nat}{s:B}{v:Value}{xs:List Value}(h:dn w b s at_)(hb:b<base)(hown:w.ownsRow base e size v n xs)(hm:Kept (λ_=>False) w wm)(hg:wm.grownBy w' v.ownBlock):dn w' b s at_:=
 h.kept ((hm.mono (T:=λk=>v.ownBlock=some k) (λ_ _ h=>h.elim)).grown hg (λk hk=>.inl hk)) (λhk=>by have:=(hown.lt b hk).1;omega)
structure acM(w wr:World)(b:Nat)(s:B)(base:Nat)(r:Ans (B×B×Nat))(l:Value)(ws:List B)(at':Nat):Prop where
 rd:dn wr b s at'
 own:wr.ownsRow base 9 1 l ws.length (ws.map jh).flatten
 few:nW ws≤61
 kept:Kept (· = b) w wr
 rest:∃f,(s.drop at').length<f∧jI f ws (s.drop at') at'=r
theorem acN(w:World)(b:Nat)(s:B)(at_:Nat)(m:Int)(h:dn w b s at_)(hm:w.cell? ⟨0,0,none⟩=some (.int .i64 m))(hb0:0<b):
  Calls Tryz.prog 111 #[.pointer (some ⟨b,0,none⟩)] w (CY (zy (s.drop at_) at_) w b s (λw' v e=>e=.returned (.string (str v)))):=by
 obtain⟨r,HR⟩:∃r,Hid (zy (s.drop at_) at_=r):=⟨_,rfl⟩;rw[HR.out];have HM:=hid hm;obtain⟨i0,hi0,hz0,hz1,hz2⟩:=info_parts GI;obtain⟨base,fB⟩:∃base,Hid (w.heap.size=base):=⟨_,rfl⟩;have hbb:b<base:=by have:=h.lt;have:=fB.out;omega
 have H:=hid h;have hl:=h.2.1;have hmx:=h.2.2;clear h hm;have X8:Hid (acM w w b s base r (.slice none 0 0) [] at_):=hid ⟨H.out,World.ownsRow_nil _ _ _ _,by simp[nW],Kept.refl _ _,_,Nat.lt_succ_self _,HR.out⟩;go_enter Tryz.func111,Tryz.ntmps111
 go_upto_block 0 with fail
 go_cut [3] (λl wx=>∃ws at',acM w wx b s base r l ws at'∧Hid ((s.drop at').takeWhile isWord=[]))
 case first=>
  go_wp2_with fail
  go_loopg [3,4] (s.length-at_) (λk l n wr=>∃ws at',acM w wr b s base r l ws at'∧n=.int .i64 (nW ws:Int)∧k=s.length-at')
  case atStart=>exact⟨[],at_,X8.out,rfl,rfl⟩
  case round=>
   obtain⟨ws,at',hL,rfl,hk⟩:=hrel;have HL:=hid hL;have hfew:=hL.few;have hl':=hL.rd.2.1;have c0:=hL.rd.c0;have c1:=hL.rd.c1;have hform:∃vo vc,u3=.slice vo ws.length vc:=by
    rcases hL.own.2 with⟨h,hn⟩ | ⟨g,cap,cur,h,_⟩
    ·exact⟨none,0,by rw[h,hn]⟩
    exact⟨_,cap,h⟩
   obtain⟨lo,lc,rfl⟩:=hform;clear hL;obtain⟨n,HN⟩:∃n,Hid (((s.drop at').takeWhile isWord).length=n):=⟨_,rfl⟩;have amV:at'+n≤s.length:=by
    have:=fJ isWord (s.drop at');rw[HN.out,List.length_drop]at this;omega
   by_cases h0:n=0
   ·subst h0;have HE:Hid ((s.drop at').takeWhile isWord=[]):=hid (List.length_eq_zero_iff.1 HN.out);by_cases hlt:at'<s.length
    ·have e0:decide ((at':Int)<(s.length:Int))=true:=by simp;omega
     have hw:Hid (isWord (s[at']'hlt)=false):=hid (by
      have:=jE isWord (s.drop at') (by rw[HN.out,List.length_drop];omega);simp only[HN.out]at this;simpa using this)
     go_wp2_with fail
     go_quiet ((go_at_call 157;exact Calls.quiet_of_same (Fq false _ _ hw.out)))
     go_wp2_with fail
     go_meet
     case rel=>exact⟨ws,at',⟨HL.out.rd.drewN _,(aK (S:=λ_=>False) HL.out.own ((Kept.refl _ _).drewN _) (λ_ _=>id)),HL.out.few,HL.out.kept.drewN _,HL.out.rest⟩,HE⟩
    have e0:decide ((at':Int)<(s.length:Int))=false:=by simp;omega
    go_wp2_with fail
    go_quiet (fail)
    go_wp2_with fail
    go_meet
    case rel=>exact⟨ws,at',⟨HL.out.rd.drewN _,(aK (S:=λ_=>False) HL.out.own ((Kept.refl _ _).drewN _) (λ_ _=>id)),HL.out.few,HL.out.kept.drewN _,HL.out.rest⟩,HE⟩
   have hlt:at'<s.length:=by omega
   have e0:decide ((at':Int)<(s.length:Int))=true:=by simp;omega
   have hin:Hid (∀j,j<n→∃h:at'+j<s.length,isWord (s[at'+j]'h)=true):=hid (λj hj=>by
    obtain⟨h1,h2⟩:=pX isWord (s.drop at') j (by rw[HN.out];exact hj);refine⟨by omega,?_⟩;simpa using h2)
   have hw:Hid (isWord (s[at']'hlt)=true):=hid (by obtain⟨_,h⟩:=hin.out 0 (by omega);exact h);go_wp2_with fail
   go_quiet ((go_at_call 157;exact Calls.quiet_of_same (Fq true _ _ hw.out)))
   go_upto_block 2 with fail
   obtain⟨w1,HW1⟩:∃w1,Hid (wr.drewN nq=w1):=⟨_,rfl⟩;have hq1:Qt wr w1:=⟨nq,HW1.out.symm⟩;rw[HW1.out];have H1:=hid (HL.out.rd.quiet hq1);have K1:=hid (HL.out.kept.trans (hq1.kept _));have how:=aK HL.out.own (hq1.kept (λ_=>False)) (λ_ _=>id);have hsz:base≤w1.heap.size:=by have:=K1.out.size;have:=fB.out;omega
   have HOW:=hid how;clear c0 c1 hq1 how e0;have c0:=H1.out.c0;have c1:=H1.out.c1;obtain⟨q,HQ⟩:∃q,Hid (at'+n=q):=⟨_,rfl⟩;have hqn:q=at'+n:=HQ.out.symm;go_cut [5] (λk wx=>k=.int .i64 (q:Int)∧wx=w1)
   case first=>
    go_wp2_with fail
    go_loop [5] (λk=>∃j:Nat,j≤n∧k=.int .i64 ((at'+j:Nat):Int)) (λk=>s.length-(intOf k).toNat)
    case atStart=>exact⟨0,by omega,rfl⟩
    case round=>
     obtain⟨j,hj,rfl⟩:=hrel;by_cases hjn:j<n
     ·obtain⟨h3,h2⟩:=hin.out j hjn;have e0:decide ((at':Int)+(j:Int)<(s.length:Int))=true:=by simp;omega
      have HW:=hid h2;clear h2;go_wp2_with (go_at_call 157;refine(Fq true _ _ HW.out).mono ?_;rintro e w2 ⟨rfl,rfl⟩)
      go_round
      case rel=>exact⟨j+1,by omega,by go_num⟩
      case measure=>simp[intOf];omega
     obtain rfl:j=n:=by omega
     by_cases hl2:at'+j<s.length
     ·have e0:decide ((at':Int)+(j:Int)<(s.length:Int))=true:=by simp;omega
      have HW:Hid (isWord (s[at'+j]'hl2)=false):=hid (by
       have:=jE isWord (s.drop at') (by rw[HN.out,List.length_drop];omega);simp only[HN.out]at this;simpa using this)
      go_wp2_with (go_at_call 157;refine(Fq false _ _ HW.out).mono ?_;rintro e w2 ⟨rfl,rfl⟩)
      go_meet
      case rel=>exact⟨by rw[hqn];simp,rfl⟩
     have e0:decide ((at':Int)+(j:Int)<(s.length:Int))=false:=by simp;omega
     go_wp2_with fail
     go_meet
     case rel=>exact⟨by rw[hqn];simp,rfl⟩
   case rest=>
    obtain⟨rfl,rfl⟩:=hcut;have Tq:Hid (some b≠(Value.slice lo ws.length lc).ownBlock):=hid λhx=>by
     have:=(HOW.out.lt b hx.symm).1;omega
    have hblt:=H1.out.lt;have e1:(0:Int)≤(at':Int):=by omega
    have e2:(at':Int)≤(q:Int):=by omega
    have e3:(q:Int)≤(s.length:Int):=by omega
    have am6:q≤s.length:=by omega
    have arl:at'<q:=by omega
    have hwn:ws.length≤nW ws:=by
     have:∀l:List B,l.length≤nW l:=λl=>by
      induction l with
      | nil=>simp[nW]
      | cons x l ih=>simp only[nW,List.map_cons,List.sum_cons,List.length_cons]at ih ⊢;omega
     exact this ws
    have h63:ws.length+1≤maxLen:=by unfold maxLen;omega
    clear hqn;go_upto_region 7 with fail
    have ajF:=HOW.out;go_region_held3 (λw'=>w'.cell? ⟨b,0,none⟩=some (.string (str s))∧w'.cell? ⟨b,1,none⟩=some (.int .i64 (at':Int))) (first | go_keep | (go_split_ands;refine⟨?_,?_⟩<;>(rw[hgrow.cell_far _ (by simp;omega) Tq.out];assumption)))
     ((refine step_append_lies _ (by rfl) _ _ _ (by rfl) base 9 i0 _ 1 16 Tryz.underlying58 hi0 hz0 hz1 hz2 rfl (by omega) _ ws.length _ (by rfl) (ajF.alloc _) ⟨wc.heap.size,0,none⟩ 1 1 (jh ((s.drop at').take (q-at'))) (by rfl) (by rfl) (World.news_of_block (cs:=(jh ((s.drop at').take (q-at'))).toArray) (t:=9) (fr:=(0,0)) (heap_alloc_new wc _)) (by simp[jh,Value.oneCell']) (by omega) h63 (by omega) (by simp;omega) (wc.heap.size+1) (by simp) ?_;intro gg cap w5 hown5 hgrow hat MW))
    all_goals
     have HWT:Hid ((s.drop at').takeWhile isWord=(s.drop at').take (q-at')):=hid (by
      have:=takeWhile_take isWord (s.drop at');rw[HN.out]at this;rw[←this,←HQ.out,Nat.add_sub_cancel_left])
     obtain⟨W,mM⟩:∃W,Hid ((s.drop at').take (q-at')=W):=⟨_,rfl⟩;have HWL:Hid (W.length=q-at'):=hid (by rw[←mM.out];simp;omega);have HJL:Hid (nW ws+(q-at'+1)=(gU (ws++[W])).length+1):=hid (by
      rw[←OA _ (by simp),Oz,HWL.out])
     rw[mM.out]at hown5;have H5:=hid (aeF H1.out hbb HOW.out ((Kept.refl _ _).alloc _).drew hgrow);have K5:=hid (ZE K1.out fB.out HOW.out ((Kept.refl _ _).alloc _).drew hgrow);have c0':=H5.out.c0;have c1':=H5.out.c1;have f1':=H5.out.free 1;have HST:Hid (∃f,(s.drop at').length<f+1∧(if 60<(gU (ws++[W])).length then Ans.bad ⟨4,at'⟩ else (cO (s.drop q) q).then λx=>jI f (ws++[W]) x.1 x.2)=r):=hid (by
      obtain⟨f,hf,hr⟩:=HL.out.rest;cases f with
      | zero=>omega
      | succ f=>
       have hst:=Jj hr;rw[HWT.out,mM.out]at hst;have hne:W≠[]:=λh=>by have:=HWL.out;rw[h]at this;simp at this;omega
       rw[if_neg hne,HWL.out,List.drop_drop,show at'+(q-at')=q from by omega]at hst;exact⟨f,hf,hst⟩)
     have afl:=hid hown5;clear c0 c1 hown5 ajF;by_cases hbig:60<nW ws+(q-at'+1)-1
     ·have hR:Hid (r=.bad ⟨4,at'⟩):=hid (by
       obtain⟨f,hf,hr⟩:=HST.out;rw[←hr,if_pos (by have:=HJL.out;omega)])
      have q4:(60:Int)<(nW ws:Int)+((q:Int)-(at':Int)+1)-1:=by omega
      clear hbig;go_wp2_with fail
      refine(iG 4 _ _ _ _ H5.out).mono ?_;rintro e w9 ⟨rfl,zK⟩;go_wp2_with fail
      exact⟨rfl,.bad (K5.out.trans (zK.kept _)) hR.out⟩
     have q4:(nW ws:Int)+((q:Int)-(at':Int)+1)-1≤60:=by omega
     have Td:Hid (∃f,(s.drop at').length<f+1∧((cO (s.drop q) q).then λx=>jI f (ws++[W]) x.1 x.2)=r):=hid (by
      obtain⟨f,hf,hr⟩:=HST.out;rw[if_neg (by have:=HJL.out;omega)]at hr;exact⟨f,hf,hr⟩)
     have H6:=hid (H5.out.set (x:=(q:Int)) rfl am6);have K6:=hid (K5.out.setCell (p:=⟨b,1,none⟩) (.inl rfl) (.int .i64 (q:Int)));have ajH:=hid (aK afl.out ((Kept.refl (· = b) _).setCell (p:=⟨b,1,none⟩) (.inl rfl) (.int .i64 (q:Int))) (λk hk=>by have:=(afl.out.lt k hk).1;omega));have Ls:=hid (K6.out.cell (by show ¬(0=b);omega) HM.out);have ZL:Hid (((nW ws:Int)+((q:Int)-(at':Int)+1))=((nW (ws++[W]):Nat):Int)):=hid (by rw[Oz,HWL.out];omega);have hnw:nW (ws++[W])≤61:=by rw[Oz,HWL.out];omega
     go_wp2_with fail
     generalize (w5.setCell ⟨b,1,none⟩ (.int .i64 (q:Int)))=w6 at *;refine(gI _ _ _ _ m H6.out Ls.out hb0).mono ?_;rintro e w7 (⟨g,rfl,jD,Jt⟩ | ⟨wF,rfl,jD,h7,Jt⟩)
     ·have hR:Hid (r=.bad g):=hid (by
       obtain⟨f,hf,hr⟩:=Td.out;rw[←hr,Jt.out];rfl)
      have K7:=hid (K6.out.trans jD);clear jD;go_wp2_with fail
      exact⟨rfl,.bad K7.out hR.out⟩
     have hl7:=h7.2.1;have aci:q≤wF:=by
      obtain⟨g,_,h1,h2,_⟩:=fA Jt.out;omega
     have K7:=hid (K6.out.trans jD);have H7:=hid h7;have am7:=hid (aK ajH.out jD (λk hk=>by have:=(ajH.out.lt k hk).1;omega));have hR:Hid (∃f,(s.drop wF).length<f∧jI f (ws++[W]) (s.drop wF) wF=r):=hid (by
      obtain⟨f,hf,hr⟩:=Td.out;rw[Jt.out,Ans.aN]at hr;exact⟨f,by rw[List.length_drop]at hf ⊢;omega,hr⟩)
     clear jD h7;go_wp2_with fail
     go_roundg (s.length-wF)
     case measure=>omega
     case rel=>exact⟨ws++[W],wF,⟨H7.out,by simpa using am7.out,hnw,K7.out,hR.out⟩,by rw[ZL.out],rfl⟩
 case rest=>
  obtain⟨ws,at',hL,HE⟩:=hcut;have HL:=hid hL;have hfew:=hL.few;have hwn:ws.length≤nW ws:=by
   have:∀l:List B,l.length≤nW l:=λl=>by
    induction l with
    | nil=>simp[nW]
    | cons x l ih=>simp only[nW,List.map_cons,List.sum_cons,List.length_cons]at ih ⊢;omega
   exact this ws
  have HR':Hid ((if ws=[] then Ans.bad ⟨2,at'⟩ else .ok (gU ws,s.drop at',at'))=r):=hid (by
   obtain⟨f,hf,hr⟩:=HL.out.rest;cases f with
   | zero=>omega
   | succ f=>
    have:=Jj hr;rw[HE.out,if_pos rfl]at this;exact this)
  have hrows:=aS ZC (by simp) hL.own;obtain⟨va,vc,hv,hle,hcap,hcell⟩:=hrows;simp only[List.length_map]at hv hle;subst hv;have ajI:=hid hcell;clear hL hcell;by_cases h0:ws=[]
  ·subst h0;have hR:Hid (r=.bad ⟨2,at'⟩):=hid (by rw[←HR'.out];rfl);have e0:(((([]:List B).length:Nat):Int)==0)=true:=by simp
   go_wp2_with fail
   refine(iG 2 _ _ _ _ HL.out.rd).mono ?_;rintro e w9 ⟨rfl,zK⟩;go_wp2_with fail
   exact⟨rfl,.bad (HL.out.kept.trans (zK.kept _)) hR.out⟩
  have hR:Hid (r=.ok (gU ws,s.drop at',at')):=hid (by rw[←HR'.out,if_neg h0]);have hpos:0<ws.length:=List.length_pos_iff.2 h0;have e0:((ws.length:Int)==0)=false:=by simp;exact h0
  obtain⟨vb,vo,rfl,hc⟩:=ajI.out (by simpa using h0);have hlt:vb<wc.heap.size:=by
   have h1:=hc 0 (jh (ws[0]'hpos)) (by simp[List.getElem?_eq_getElem hpos]) 0 _ rfl;exact World.block_lt_of_cell? wc _ h1
  have ajJ:Hid (Calls Tryz.prog 123 #[.slice (some ⟨vb,vo,none⟩) ws.length vc,.string ⟨#[32]⟩] wc λe w'=>e=.returned (.string (str (gU ws)))∧Below wc.heap.size wc w'):=hid (by
   have hx:(ws.map str).map (·.data.toList)=ws:=by rw[List.map_map];exact(List.map_congr_left (λx _=>rfl)).trans (List.map_id ws)
   have:=Tryz.strings_Join vb vo vc (ws.map str) ⟨#[32]⟩ wc (λj x hx=>by
    simp only[List.getElem?_map,Option.map_eq_some_iff]at hx;obtain⟨y,hy,rfl⟩:=hx;have:=hc j (jh y) (by simp[hy]) 0 _ rfl;simpa using this) hlt (by simp;omega) (by simpa using hle) (by
    rw[hx];show(Lib.join ws [32]).length≤_
    rw[Oy];have:=OA ws h0;omega)
   rw[hx]at this;rw[show Lib.join ws (⟨#[32]⟩:ByteArray).data.toList=gU ws from Oy ws,List.length_map]at this;exact this)
  clear h0;go_wp2_with fail
  refine ajJ.out.mono ?_;rintro e w9 ⟨rfl,hb9⟩;have K9:=hid (Kept.of_below (S:=(· = b)) hb9);have H9:=hid (HL.out.rd.kept (Kept.of_below (S:=λ_=>False) hb9) id);clear hb9;go_wp2_with fail
  go_ret
  exact .inr ⟨gU ws,at',rfl,HL.out.kept.trans K9.out,H9.out,hR⟩
theorem OB{f:Nat}{ds:List aC}{l:B}{a:Nat}{r:Ans (List aC×B×Nat)}(h:cZ (f+1) ds l a=r):
  (if (l.isEmpty||([125]:B).isPrefixOf l)=true then .ok (ds,l,a) else if ds.length=20 then .bad ⟨5,a⟩ else
  (dM l a).then λx1=>(cO x1.2.1 x1.2.2).then λx2=>(aV [58] x2.1 x2.2).then λx3=>(cO x3.1 x3.2).then λx4=>(zy x4.1 x4.2).then λx5=>(fK x5.2.1 x5.2.2).then λx6=>
   if ([59]:B).isPrefixOf x6.2.1 then (cO (x6.2.1.drop 1) (x6.2.2+1)).then λy=>cZ f (ds++[⟨x1.1,x5.1,x6.1⟩]) y.1 y.2 else .ok (ds++[⟨x1.1,x5.1,x6.1⟩],x6.2.1,x6.2.2))=r:=by
 rw[←h,cZ];split
 ·rfl
 split
 ·rfl
 unfold qQ;cases dM l a with
 | bad f=>rfl
 | ok x1=>
  simp only[Ans.aN];cases cO x1.2.1 x1.2.2 with
  | bad f=>rfl
  | ok x2=>
   simp only[Ans.aN];cases aV [58] x2.1 x2.2 with
   | bad f=>rfl
   | ok x3=>
    simp only[Ans.aN];cases cO x3.1 x3.2 with
    | bad f=>rfl
    | ok x4=>
     simp only[Ans.aN];cases zy x4.1 x4.2 with
     | bad f=>rfl
     | ok x5=>
      simp only[Ans.aN];cases fK x5.2.1 x5.2.2<;>rfl
structure afm(w wr:World)(b:Nat)(s:B)(base:Nat)(r:Ans (List aC×B×Nat))(l:Value)(ds:List aC)(at':Nat):Prop where
 rd:dn wr b s at'
 own:wr.ownsRow base 59 3 l ds.length (ds.map aA).flatten
 few:ds.length≤20
 kept:Kept (· = b) w wr
 rest:∃f,(s.drop at').length<f∧cZ f ds (s.drop at') at'=r
structure ajK(w wr:World)(b:Nat)(s:B)(base:Nat)(r:Ans (List aC×B×Nat))(l:Value)(ds:List aC)(at':Nat):Prop where
 rd:dn wr b s at'
 own:wr.ownsRow base 59 3 l ds.length (ds.map aA).flatten
 kept:Kept (· = b) w wr
 ok:r=.ok (ds,s.drop at',at')
theorem Tf{l t:B}{c:UInt8}(h:l=c::t)(hc:¬c=125):¬(l.isEmpty||([125]:B).isPrefixOf l)=true:=by
 rw[h,iq];simp[hc]
theorem aeG{s:B}{a b:Nat}(h:a≤b):(s.drop b).length≤(s.drop a).length:=by simp;omega
theorem FZ(w:World)(b:Nat)(s:B)(at_:Nat)(m:Int)(h:dn w b s at_)(hm:w.cell? ⟨0,0,none⟩=some (.int .i64 m))(hb0:0<b):
  Calls Tryz.prog 77 #[.pointer (some ⟨b,0,none⟩)] w (CY (iY (s.drop at_) at_) w b s (λw' ds e=>∃v,e=.returned v∧dD w' (λk=>k<w.heap.size) v ds)):=by
 obtain⟨r,HR⟩:∃r,Hid (iY (s.drop at_) at_=r):=⟨_,rfl⟩;rw[HR.out];have HM:=hid hm;obtain⟨i0,hi0,hz0,hz1,hz2⟩:=info_parts qF;obtain⟨base,fB⟩:∃base,Hid (w.heap.size=base):=⟨_,rfl⟩;have hbb:b<base:=by have:=h.lt;have:=fB.out;omega
 have H:=hid h;have hl:=h.2.1;have hmx:=h.2.2;clear h hm;rw[fB.out];go_enter Tryz.func77,Tryz.ntmps77
 go_wp2_with fail
 refine(gI _ _ _ _ m H.out HM.out hb0).mono ?_;rintro e w1 (⟨g,rfl,hk1,hp1⟩ | ⟨ji,rfl,hk1,h1,hp1⟩)
 ·have hR:Hid (r=.bad g):=hid (by rw[←HR.out];unfold iY;rw[hp1.out];rfl);have K1:=hid hk1;clear hk1;go_wp2_with fail
  exact⟨rfl,.bad K1.out hR.out⟩
 have X8:Hid (afm w w1 b s base r (.slice none 0 0) [] ji):=hid ⟨h1,World.ownsRow_nil _ _ _ _,by simp,hk1,_,Nat.lt_succ_self _,by rw[←HR.out];unfold iY;rw[hp1.out];rfl⟩;have hl1:=h1.2.1;clear hk1 h1 hp1 HR;go_upto_block 0 with fail
 go_cut [3] (λl wx=>∃ds at',ajK w wx b s base r l ds at')
 case first=>
  go_wp2_with fail
  go_loopg [3] (s.length-ji) (λk l wr=>∃ds at',afm w wr b s base r l ds at'∧k=s.length-at')
  case atStart=>exact⟨[],ji,X8.out,rfl⟩
  case round=>
   obtain⟨ds,at',hL,hk⟩:=hrel;have HL:=hid hL;have hfew:=hL.few;have hl':=hL.rd.2.1;have c0:=hL.rd.c0;have c1:=hL.rd.c1;obtain⟨lo,lc,rfl⟩:∃vo vc,u3=.slice vo ds.length vc:=by
    rcases hL.own.2 with⟨h,hn⟩ | ⟨g,cap,cur,h,_⟩
    ·exact⟨none,0,by rw[h,hn]⟩
    exact⟨_,cap,h⟩
   obtain⟨f0,hf0,hr0⟩:=hL.rest;cases f0 with
   | zero=>omega
   | succ f=>
   have hst:=OB hr0;have HF:=hid hf0;have HST:=hid hst;clear hL hr0 hf0 hst;by_cases hlt:at'<s.length
   ·have hd:=List.drop_eq_getElem_cons hlt;have HD:=hid hd;have e0:decide ((at':Int)<(s.length:Int))=true:=by simp;omega
    clear hd;cases e1:(((s[at']'hlt).toNat:Int) != 125)with
    | false=>
     have hR:Hid (r=.ok (ds,s.drop at',at')):=hid (by
      rw[←HST.out,if_pos];have:s[at']'hlt=125:=UInt8.toNat_inj.1 (by simp at e1;have:(125:UInt8).toNat=125:=rfl;omega);rw[HD.out,this];rfl)
     go_wp2_with fail
     go_quiet (fail)
     go_wp2_with fail
     go_meet
     case rel=>exact⟨ds,at',HL.out.rd.drewN _,aK (S:=λ_=>False) HL.out.own ((Kept.refl _ _).drewN _) (λ_ _=>id),HL.out.kept.drewN _,hR.out⟩
    | true=>
     have hne:¬s[at']'hlt=125:=λh=>by rw[h]at e1;cases e1
     have hst:=HST.out;rw[if_neg (Tf HD.out hne)]at hst;have Di:=hid hst;clear hst hne;go_wp2_with fail
     go_quiet (fail)
     obtain⟨w2,HW2⟩:∃w2,Hid (wr.drewN nq=w2):=⟨_,rfl⟩;have hq1:Qt wr w2:=⟨nq,HW2.out.symm⟩;have H2:=hid (HL.out.rd.quiet hq1);have K2:=hid (HL.out.kept.trans (hq1.kept _));have aay:=hid (aK HL.out.own (hq1.kept (λ_=>False)) (λ_ _=>id));clear hq1 c0 c1;by_cases h20:ds.length=20
     ·have e20:((ds.length:Int)==20)=true:=by simp;omega
      have hR:Hid (r=.bad ⟨5,at'⟩):=hid (by rw[←Di.out,if_pos h20]);clear h20;go_wp2_with fail
      rw[HW2.out];refine(iG 5 _ _ _ _ H2.out).mono ?_;rintro e w9 ⟨rfl,zK⟩;go_wp2_with fail
      exact⟨rfl,.bad (K2.out.trans (zK.kept _)) hR.out⟩
     have e20:((ds.length:Int)==20)=false:=by simp;omega
     have hst:=Di.out;rw[if_neg h20]at hst;have HE2:=hid hst;have agV:ds.length+1≤20:=by omega
     clear hst h20;go_wp2_with fail
     rw[HW2.out];refine(oZ _ _ _ _ H2.out).mono ?_;rintro e w3 (⟨g,rfl,hk,hp⟩ | ⟨nm,at3,rfl,hk,h3,hp⟩)
     ·have hR:Hid (r=.bad g):=hid (by rw[←HE2.out,hp.out];rfl);have KB:=hid (K2.out.trans hk);clear hk;go_wp2_with fail
      exact⟨rfl,.bad KB.out hR.out⟩
     have WW:Hid (((cO (s.drop at3) at3).then λx2=>(aV [58] x2.1 x2.2).then λx3=>(cO x3.1 x3.2).then λx4=>(zy x4.1 x4.2).then λx5=>(fK x5.2.1 x5.2.2).then λx6=>
       if ([59]:B).isPrefixOf x6.2.1 then (cO (x6.2.1.drop 1) (x6.2.2+1)).then λy=>cZ f (ds++[⟨nm,x5.1,x6.1⟩]) y.1 y.2 else .ok (ds++[⟨nm,x5.1,x6.1⟩],x6.2.1,x6.2.2))=r):=hid (by rw[←HE2.out,hp.out];rfl)
     have hlt3:at'<at3:=by
      obtain⟨h1,h2,h3,_⟩:=mP hp.out;omega
     have K3:=hid (K2.out.trans hk);have H3:=hid h3;have yQ:=hid hk;clear hk h3;obtain⟨nb,oO⟩:∃nb,Hid (w3.heap.size=nb):=⟨_,rfl⟩;obtain⟨w4,Dn⟩:∃x,Hid (w3.alloc (.cells #[.string (str nm),.string ⟨#[]⟩,.bool false] 59 (0,0))=x):=⟨_,rfl⟩;have H4:Hid (dn w4 b s at3):=hid (by rw[←Dn.out];exact H3.out.alloc _);have K4:Hid (Kept (· = b) w w4):=hid (by rw[←Dn.out];exact K3.out.alloc _);have J4:Hid (Kept (· = b) w3 w4):=hid (by rw[←Dn.out];exact(Kept.refl _ _).alloc _);have N4:Hid (w4.heap[nb]?=some (.cells #[.string (str nm),.string ⟨#[]⟩,.bool false] 59 (0,0))):=hid (by rw[←Dn.out,←oO.out];exact aI _ _);have hnb:¬nb=b:=by have:=H3.out.lt;have:=oO.out;omega
     have aeE:b≠nb:=λhh=>hnb hh.symm
     have yL:w3.heap.size≤nb:=by have:=oO.out;omega
     have Lr:=hid (K4.out.cell (by show ¬(0=b);omega) HM.out);go_wp2_with fail
     rw[Dn.out,oO.out];clear Dn;have HE4:=WW;refine(gI _ _ _ _ m H4.out Lr.out hb0).mono ?_;rintro e w5 (⟨g,rfl,hk,hp⟩ | ⟨at5,rfl,hk,h5,hp⟩)
     ·have hR:Hid (r=.bad g):=hid (by rw[←HE4.out,hp.out];rfl);have KB:=hid (K4.out.trans hk);clear hk;go_wp2_with fail
      exact⟨rfl,.bad KB.out hR.out⟩
     have ZO:Hid (((aV [58] (s.drop at5) at5).then λx3=>(cO x3.1 x3.2).then λx4=>(zy x4.1 x4.2).then (λx5:B×B×Nat=>(fK x5.2.1 x5.2.2).then λx6=>if ([59]:B).isPrefixOf x6.2.1 then (cO (x6.2.1.drop 1) (x6.2.2+1)).then λy=>cZ f (ds++[⟨nm,x5.1,x6.1⟩]) y.1 y.2 else .ok (ds++[⟨nm,x5.1,x6.1⟩],x6.2.1,x6.2.2)))=r):=hid (by rw[←HE4.out,hp.out];rfl);have hl5:=h5.2.1;have ach:at3≤at5:=by obtain⟨_,_,h1,h2,_⟩:=fA hp.out;omega
     have K5:=hid (K4.out.trans hk);have J5:=hid (J4.out.trans hk);have H5:=hid h5;have N5:=hid (hk.heap hnb N4.out);have Dh:=hid (K5.out.cell (by show ¬(0=b);omega) HM.out);clear hk h5;go_wp2_with fail
     refine(nO [58] _ _ _ _ H5.out).mono ?_;rintro e w6 (⟨g,rfl,hk,hp⟩ | ⟨kS,rfl,hk,h6,hp⟩)
     ·have hR:Hid (r=.bad g):=hid (by rw[←ZO.out,hp.out];rfl);have KB:=hid (K5.out.trans hk);clear hk;go_wp2_with fail
      exact⟨rfl,.bad KB.out hR.out⟩
     have Yx:Hid (((cO (s.drop kS) kS).then λx4=>(zy x4.1 x4.2).then (λx5:B×B×Nat=>(fK x5.2.1 x5.2.2).then λx6=>if ([59]:B).isPrefixOf x6.2.1 then (cO (x6.2.1.drop 1) (x6.2.2+1)).then λy=>cZ f (ds++[⟨nm,x5.1,x6.1⟩]) y.1 y.2 else .ok (ds++[⟨nm,x5.1,x6.1⟩],x6.2.1,x6.2.2)))=r):=hid (by rw[←ZO.out,hp.out];rfl);have hl6:=h6.2.1;have aen:at5≤kS:=by have:=(iM hp.out).2.1;omega
     have K6:=hid (K5.out.trans hk);have J6:=hid (J5.out.trans hk);have H6:=hid h6;have N6:=hid (hk.heap hnb N5.out);have Ls:=hid (K6.out.cell (by show ¬(0=b);omega) HM.out);clear hk h6;go_wp2_with fail
     refine(gI _ _ _ _ m H6.out Ls.out hb0).mono ?_;rintro e w7 (⟨g,rfl,hk,hp⟩ | ⟨wF,rfl,hk,h7,hp⟩)
     ·have hR:Hid (r=.bad g):=hid (by rw[←Yx.out,hp.out];rfl);have KB:=hid (K6.out.trans hk);clear hk;go_wp2_with fail
      exact⟨rfl,.bad KB.out hR.out⟩
     have HE7:Hid (((zy (s.drop wF) wF).then (λx5:B×B×Nat=>(fK x5.2.1 x5.2.2).then λx6=>if ([59]:B).isPrefixOf x6.2.1 then (cO (x6.2.1.drop 1) (x6.2.2+1)).then λy=>cZ f (ds++[⟨nm,x5.1,x6.1⟩]) y.1 y.2 else .ok (ds++[⟨nm,x5.1,x6.1⟩],x6.2.1,x6.2.2)))=r):=hid (by rw[←Yx.out,hp.out];rfl);have hl7:=h7.2.1;have aci:kS≤wF:=by obtain⟨_,_,h1,h2,_⟩:=fA hp.out;omega
     have K7:=hid (K6.out.trans hk);have J7:=hid (J6.out.trans hk);have H7:=hid h7;have N7:=hid (hk.heap hnb N6.out);have Ll:=hid (K7.out.cell (by show ¬(0=b);omega) HM.out);clear hk h7;go_wp2_with fail
     refine(acN _ _ _ _ m H7.out Ll.out hb0).mono ?_;rintro e w8 (⟨g,rfl,hk,hp⟩ | ⟨v,at8,rfl,hk,h8,hp⟩)
     ·have hR:Hid (r=.bad g):=hid (by rw[←HE7.out,hp.out];rfl);have KB:=hid (K7.out.trans hk);clear hk;go_wp2_with fail
      exact⟨rfl,.bad KB.out hR.out⟩
     have HE8:Hid (((fK (s.drop at8) at8).then (λx6:Bool×B×Nat=>if ([59]:B).isPrefixOf x6.2.1 then (cO (x6.2.1.drop 1) (x6.2.2+1)).then λy=>cZ f (ds++[⟨nm,v,x6.1⟩]) y.1 y.2 else .ok (ds++[⟨nm,v,x6.1⟩],x6.2.1,x6.2.2)))=r):=hid (by rw[←HE7.out,hp.out];rfl);have Jp:=h8.2.1;have ajy:wF≤at8:=by obtain⟨_,h1,h2,_⟩:=Wh _ _ _ _ _ hp.out;omega
     have K8:=hid (K7.out.trans hk);have J8:=hid (J7.out.trans hk);have H8:=hid h8;have Jq:=hk.heap hnb N7.out;have n1:=ah Jq 1 rfl;have nf1:=aF Jq 1;have N8:=hid Jq;clear hk h8 Jq;go_upto_region 11 with fail
     have H9:=hid (H8.out.other (p:=⟨nb,1,none⟩) (x:=.string (str v)) aeE);have K9:=hid (K8.out.setCell (p:=⟨nb,1,none⟩) (.inr (by show w.heap.size≤nb;have:=K3.out.size;omega)) (.string (str v)));have J9:=hid (J8.out.setCell (p:=⟨nb,1,none⟩) (.inr yL) (.string (str v)));have hn9:(w8.setCell ⟨nb,1,none⟩ (.string (str v))).heap[nb]?=some (.cells #[.string (str nm),.string (str v),.bool false] 59 (0,0)):=by
      have:=aW N8.out 1 (.string (str v));simpa using this
     have N9:=hid hn9;clear n1 nf1 hn9;generalize (w8.setCell ⟨nb,1,none⟩ (.string (str v)))=w9 at *;have HM9:=hid (K9.out.cell (by show ¬(0=b);omega) HM.out);obtain⟨q9,HQ9⟩:∃q,Hid (([33]:B).isPrefixOf (s.drop at8)=q):=⟨_,rfl⟩;go_wp2_with fail
     refine(lF q9 [33] _ _ _ _ H9.out HQ9.out).mono ?_;rintro e w10 ⟨rfl,hk10,h10⟩;have H10:=hid h10;have J10:=hid (J9.out.trans hk10);have N10:=hid (hk10.heap hnb N9.out);clear hk10 h10;go_upto_if 47 with fail
     go_cut [] (λwx=>∃(st:Bool) (kS:Nat),dn wx b s kS∧Kept (· = b) w3 wx∧wx.heap[nb]?=some (.cells #[.string (str nm),.string (str v),.bool st] 59 (0,0))∧Hid (fK (s.drop at8) at8=.ok (st,s.drop kS,kS)))
     case first=>
      cases q9 with
      | false=>
       have HS:Hid (fK (s.drop at8) at8=.ok (false,s.drop at8,at8)):=hid (by unfold fK;rw[HQ9.out,if_neg (by simp)]);go_wp2_with fail
       go_meet
       case rel=>exact⟨false,at8,H10.out,J10.out,N10.out,HS⟩
      | true=>
       have ana:Hid (dn w10 b s (at8+1)):=hid H10.out;have HSS:Hid (((aV bM (s.drop (at8+1)) (at8+1)).then λx=>(cO x.1 x.2).then λy=>Ans.ok (true,y.1,y.2))=fK (s.drop at8) at8):=hid (by unfold fK;rw[if_pos HQ9.out,List.drop_drop]);go_wp2_with fail
       refine(nO bM _ _ _ _ ana.out).mono ?_;rintro e Tv (⟨g,rfl,hk,hp⟩ | ⟨ajL,rfl,hk,h11,hp⟩)
       ·have hR:Hid (r=.bad g):=hid (by rw[←HE8.out,←HSS.out,hp.out];rfl);have KB:=hid ((K3.out.trans J10.out).trans hk);clear hk;go_wp2_with fail
        exact⟨rfl,.bad KB.out hR.out⟩
       have ajM:Hid (((cO (s.drop ajL) ajL).then λy=>Ans.ok (true,y.1,y.2))=fK (s.drop at8) at8):=hid (by rw[←HSS.out,hp.out];rfl);have J11:=hid (J10.out.trans hk);have H11:=hid h11;have U9:=hk.heap hnb N10.out;have n2:=ah U9 2 rfl;have nf2:=aF U9 2;have N11:=hid U9;clear hk h11 U9;go_upto_region 14 with fail
       have H12:=hid (H11.out.other (p:=⟨nb,2,none⟩) (x:=.bool true) aeE);have J12:=hid (J11.out.setCell (p:=⟨nb,2,none⟩) (.inr yL) (.bool true));have ajN:(Tv.setCell ⟨nb,2,none⟩ (.bool true)).heap[nb]?=some (.cells #[.string (str nm),.string (str v),.bool true] 59 (0,0)):=by
        have:=aW N11.out 2 (.bool true);simpa using this
       have N12:=hid ajN;clear n2 nf2 ajN;generalize (Tv.setCell ⟨nb,2,none⟩ (.bool true))=w12 at *;have ad1:=hid ((K3.out.trans J12.out).cell (by show ¬(0=b);omega) HM.out);go_wp2_with fail
       refine(gI _ _ _ _ m H12.out ad1.out hb0).mono ?_;rintro e Xb (⟨g,rfl,hk,hp⟩ | ⟨agW,rfl,hk,h13,hp⟩)
       ·have hR:Hid (r=.bad g):=hid (by rw[←HE8.out,←ajM.out,hp.out];rfl);have KB:=hid ((K3.out.trans J12.out).trans hk);clear hk;go_wp2_with fail
        exact⟨rfl,.bad KB.out hR.out⟩
       have HS:Hid (fK (s.drop at8) at8=.ok (true,s.drop agW,agW)):=hid (by rw[←ajM.out,hp.out];rfl);have J13:=hid (J12.out.trans hk);have H13:=hid h13;have N13:=hid (hk.heap hnb N12.out);clear hk h13;go_wp2_with fail
       go_meet
       case rel=>exact⟨true,agW,H13.out,J13.out,N13.out,HS⟩
     case rest=>
      obtain⟨st,Aq,h14,j14,aeH,HS⟩:=hcut;have aoT:at8≤Aq:=by obtain⟨_,h1,h2,_⟩:=Fz _ _ _ _ _ HS.out;omega
      have arx:=h14.2.1;have ajO:Hid ((if ([59]:B).isPrefixOf (s.drop Aq) then (cO (s.drop (Aq+1)) (Aq+1)).then λy=>cZ f (ds++[⟨nm,v,st⟩]) y.1 y.2 else .ok (ds++[⟨nm,v,st⟩],s.drop Aq,Aq))=r):=hid (by
       rw[←HE8.out,HS.out,Ans.aN];simp only[List.drop_drop])
      have n0:=ah aeH 0 rfl;have n1:=ah aeH 1 rfl;have n2:=ah aeH 2 rfl;have K14:=hid (K3.out.trans j14);have Xu:=aK aay.out (yQ.out.trans j14) (λk hk=>by have:=(aay.out.lt k hk).1;omega);have aoV:base≤wc.heap.size:=by have:=K14.out.size;have:=fB.out;omega
      have H14:=hid h14;clear h14 j14 aeH;go_wp2_with (at_builtin;refine wpList_append_lies _ rfl _ _ _ rfl base 59 i0 _ 3 40 Tryz.underlying38 hi0 hz0 hz1 hz2 rfl (by omega) _ ds.length _ (by rfl) (Xu.alloc _) ⟨wc.heap.size,0,none⟩ 1 1 (aA ⟨nm,v,st⟩) (by rfl) (by rfl) (World.news_of_block (cs:=(aA ⟨nm,v,st⟩).toArray) (t:=59) (fr:=(0,0)) (heap_alloc_new wc _)) (by simp[aA,Value.oneCell']) (by omega) (by unfold maxLen;omega) (by omega) (by simp;omega) (wc.heap.size+1) (by simp) ?_;intro gg cap EP jG dG nY F9)
      have H15:=hid (Ou H14.out hbb Xu dG);have K15:=hid (Cj K14.out fB.out Xu dG);have Xv:Hid (EP.ownsRow base 59 3 (.slice (some ⟨gg,0,none⟩) (ds.length+1) cap) (ds++[(⟨nm,v,st⟩:aC)]).length ((ds++[(⟨nm,v,st⟩:aC)]).map aA).flatten):=hid (by simpa [aA] using jG);clear n0 n1 n2 Xu jG;cases p59:([59]:B).isPrefixOf (s.drop Aq)with
      | false=>
       have hR:Hid (r=.ok (ds++[⟨nm,v,st⟩],s.drop Aq,Aq)):=hid (by rw[←ajO.out,p59,if_neg (by simp)]);refine(lF false [59] _ _ _ _ H15.out p59).mono ?_;rintro e w16 ⟨rfl,Ik,h16⟩;have acO:dn w16 b s Aq:=h16;have Xw:=hid (aK Xv.out Ik (λk hk=>by have:=(Xv.out.lt k hk).1;omega));have K16:=hid (K15.out.trans Ik);have H16:=hid acO;clear Ik h16 acO p59;go_wp2_with fail
       go_meet
       case rel=>exact⟨ds++[⟨nm,v,st⟩],Aq,H16.out,Xw.out,K16.out,hR.out⟩
      | true=>
       have ajQ:Hid (((cO (s.drop (Aq+1)) (Aq+1)).then λy=>cZ f (ds++[⟨nm,v,st⟩]) y.1 y.2)=r):=hid (by rw[←ajO.out,if_pos p59]);refine(lF true [59] _ _ _ _ H15.out p59).mono ?_;rintro e w16 ⟨rfl,Ik,h16⟩;have acO:dn w16 b s (Aq+1):=h16;have Xw:=hid (aK Xv.out Ik (λk hk=>by have:=(Xv.out.lt k hk).1;omega));have K16:=hid (K15.out.trans Ik);have H16:=hid acO;have anc:=hid (K16.out.cell (by show ¬(0=b);omega) HM.out);clear Ik h16 acO p59;go_wp2_with fail
       refine(gI _ _ _ _ m H16.out anc.out hb0).mono ?_;rintro e w17 (⟨g,rfl,hk,hp⟩ | ⟨ZF,rfl,hk,h17,hp⟩)
       ·have hR:Hid (r=.bad g):=hid (by rw[←ajQ.out,hp.out];rfl);have KB:=hid (K16.out.trans hk);clear hk;go_wp2_with fail
        exact⟨rfl,.bad KB.out hR.out⟩
       have arA:=h17.2.1;have aoY:Aq+1≤ZF:=by obtain⟨_,_,h1,h2,_⟩:=fA hp.out;omega
       have hR:Hid (∃f,(s.drop ZF).length<f∧cZ f (ds++[⟨nm,v,st⟩]) (s.drop ZF) ZF=r):=hid (by
        have h1:=ajQ.out;rw[hp.out,Ans.aN]at h1;have:=HF.out;exact⟨f,by rw[List.length_drop]at this ⊢;omega,h1⟩)
       have K17:=hid (K16.out.trans hk);have H17:=hid h17;have ajR:=hid (aK Xw.out hk (λk hk=>by have:=(Xw.out.lt k hk).1;omega));clear hk h17;go_wp2_with fail
       go_roundg (s.length-ZF)
       case measure=>omega
       case rel=>exact⟨ds++[⟨nm,v,st⟩],ZF,⟨H17.out,ajR.out,by simpa using agV,K17.out,hR.out⟩,rfl⟩
   have e0:decide ((at':Int)<(s.length:Int))=false:=by simp;omega
   have hR:Hid (r=.ok (ds,s.drop at',at')):=hid (by
    rw[←HST.out,if_pos];rw[List.drop_eq_nil_of_le (by omega)];rfl)
   go_wp2_with fail
   go_quiet (fail)
   go_wp2_with fail
   go_meet
   case rel=>exact⟨ds,at',HL.out.rd.drewN _,aK (S:=λ_=>False) HL.out.own ((Kept.refl _ _).drewN _) (λ_ _=>id),HL.out.kept.drewN _,hR.out⟩
 case rest=>
  obtain⟨ds,at',hD⟩:=hcut;have HD:=hid hD;clear hD;go_wp2_with fail
  go_ret
  refine .inr ⟨ds,at',⟨_,rfl,aS ku (by simp) HD.out.own,λk hk=>⟨?_,(HD.out.own.lt k hk).2⟩⟩,HD.out.kept,HD.out.rd,hid HD.out.ok⟩;have:=(HD.out.own.lt k hk).1;omega
end Go.Proofs.YtplbdlgmjehckacGreatDoor

