/-
 Lemmas for the claims of this seat: the program's functions walked, and plain laws.
-/
import Derived.Test.YtplbdlgmjehckacGreatDoorPkFoTellsFull23
set_option maxRecDepth 100000
set_option maxHeartbeats 12800000
namespace Go.Proofs.YtplbdlgmjehckacGreatDoor
open Go.Lib (hid)
open Go.RowKit
set_option linter.unusedVariables false
set_option linter.unusedSimpArgs false
theorem zU{w:World}{base t n:Nat}{av:Value}{xs:List Value}(h:w.ownsRow base t 3 av n xs):∃ao ac,av=.slice ao n ac:=by
 rcases h.2 with⟨rfl,hn⟩ | ⟨g,cap,cur,rfl,_⟩
 ·exact⟨none,0,by rw[hn]⟩
 exact⟨_,cap,rfl⟩
structure ou(w wr:World)(b:Nat)(s:B)(v:Value)(l:Value)(ts:List bQ)(f:iL)(p:Nat):Prop where
 rd:bJ wr b s p f v
 kept:Kept (· = b) w wr
 al:f.err=0→f=good
 own:wr.ownsRow w.heap.size 158 3 l ts.length (ts.map dA).flatten
 few:ts.length≤7
 live:f.err=0→ts.length≤6
section
variable {w wr wx:World} {b:Nat} {s:B} {v:Value} {f f':iL} {l:Value} {ts:List bQ} {p p':Nat}
theorem ou.quiet(h:ou w wr b s v l ts f p)(hq:Qt wr wx):ou w wx b s v l ts f p:=
 ⟨h.rd.quiet hq,h.kept.trans (hq.kept _),h.al,aK h.own (hq.kept (λ_=>False)) (λ_ _=>id),h.few,h.live⟩
theorem ou.step(h:ou w wr b s v l ts f p)(hb:b<w.heap.size)(hk:Kept (· = b) wr wx)(hr:bJ wx b s p' f' v)(ha:f'.err=0→f'=good)(hl:f'.err=0→ts.length≤6):ou w wx b s v l ts f' p':=
 ⟨hr,h.kept.trans hk,ha,aK h.own hk (λk hk' hs=>by have:=(h.own.lt k hk').1;omega),h.few,hl⟩
end
structure wE(w0 wr:World)(b tb:Nat)(s:B)(v:Value)(kd:Int)(nm vl:B)(f:iL)(p:Nat):Prop where
 rd:bJ wr b s p f v
 box:wr.heap[tb]?=some (.cells #[.int .i64 kd,.string (str nm),.string (str vl)] 158 (0,0))
 kept:Kept (· = b) w0 wr
 al:f.err=0→f=good
 new:w0.heap.size≤tb
 hb:b<tb
section
variable {w0 wr wx:World} {b tb:Nat} {s:B} {v:Value} {kd:Int} {nm vl:B} {f f':iL} {p p':Nat}
theorem wE.step(h:wE w0 wr b tb s v kd nm vl f p)(hk:Kept (· = b) wr wx)(hr:bJ wx b s p' f' v)(ha:f'.err=0→f'=good):wE w0 wx b tb s v kd nm vl f' p':=
 ⟨hr,hk.heap (by have:=h.hb;omega) h.box,h.kept.trans hk,ha,h.new,h.hb⟩
theorem wE.quiet(h:wE w0 wr b tb s v kd nm vl f p)(hq:Qt wr wx):wE w0 wx b tb s v kd nm vl f p:=h.step (hq.kept _) (h.rd.quiet hq) h.al
theorem wE.adS(h:wE w0 wr b tb s v kd nm vl f p)(kd':Int)(nm' YS:B):
  wE w0 (((wr.setCell ⟨tb,0,none⟩ (.int .i64 kd')).setCell ⟨tb,1,none⟩ (.string (str nm'))).setCell ⟨tb,2,none⟩ (.string (str YS))) b tb s v kd' nm' YS f p:=by
 have hb:=h.hb;have hk:Kept (· = tb) wr (((wr.setCell ⟨tb,0,none⟩ (.int .i64 kd')).setCell ⟨tb,1,none⟩ (.string (str nm'))).setCell ⟨tb,2,none⟩ (.string (str YS))):=
  (((Kept.refl (· = tb) wr).setCell (p:=⟨tb,0,none⟩) (.inl rfl) _).setCell (p:=⟨tb,1,none⟩) (.inl rfl) _).setCell (p:=⟨tb,2,none⟩) (.inl rfl) _
 refine⟨h.rd.kept hk (by omega),?_,h.kept.trans' hk (λk hk' hs=>by have hn:=h.new;omega),h.al,h.new,h.hb⟩;have:=aW (aW (aW h.box 0 (.int .i64 kd')) 1 (.string (str nm'))) 2 (.string (str YS));simpa using this
theorem wE.aiG(h:wE w0 wr b tb s v kd nm vl f p)(kd':Int)(YS:B):wE w0 ((wr.setCell ⟨tb,0,none⟩ (.int .i64 kd')).setCell ⟨tb,2,none⟩ (.string (str YS))) b tb s v kd' nm YS f p:=by
 have hb:=h.hb;have hk:Kept (· = tb) wr ((wr.setCell ⟨tb,0,none⟩ (.int .i64 kd')).setCell ⟨tb,2,none⟩ (.string (str YS))):=
  ((Kept.refl (· = tb) wr).setCell (p:=⟨tb,0,none⟩) (.inl rfl) _).setCell (p:=⟨tb,2,none⟩) (.inl rfl) _
 refine⟨h.rd.kept hk (by omega),?_,h.kept.trans' hk (λk hk' hs=>by have hn:=h.new;omega),h.al,h.new,h.hb⟩;have:=aW (aW h.box 0 (.int .i64 kd')) 2 (.string (str YS));simpa using this
end
def zV(kd:Int)(nm vl:B)(x:B×Nat):Ans (Option bQ×B×Nat):=.ok (some ⟨kd,nm,vl⟩,x.1,x.2)
def DI(nm:B)(l:B)(a:Nat):Ans (Option bQ×B×Nat):=
 if [61].isPrefixOf l then (dM (l.drop 1) (a+1)).then λx=>(aV [93] x.2.1 x.2.2).then (zV 5 nm x.1) else (aV [93] l a).then (zV 4 nm [])
def zW(x:B×B×Nat):Ans (Option bQ×B×Nat):=if x.1=aj then .bad ⟨1,x.2.2⟩ else DI x.1 x.2.1 x.2.2
def Le(kd:Int)(x:B×B×Nat):Ans (Option bQ×B×Nat):=.ok (some ⟨kd,x.1,[]⟩,x.2.1,x.2.2)
theorem YV{l:B}{a:Nat}(h:([46]:B).isPrefixOf l=true):iI l a=(dM (l.drop 1) (a+1)).then (Le 2):=by unfold iI;rw[if_pos h];rfl
theorem Vf{l:B}{a:Nat}(h1:([46]:B).isPrefixOf l=false)(h:([35]:B).isPrefixOf l=true):iI l a=(dM (l.drop 1) (a+1)).then (Le 3):=by unfold iI;rw[if_neg (by simp[h1]),if_pos h];rfl
theorem Q7{l:B}{a:Nat}(h1:([46]:B).isPrefixOf l=false)(h2:([35]:B).isPrefixOf l=false)(h:firstWord.isPrefixOf l=true):iI l a=.ok (some ⟨6,[],[]⟩,l.drop 6,a+6):=by
 unfold iI;rw[if_neg (by simp[h1]),if_neg (by simp[h2]),if_pos h]
theorem Vg{l:B}{a:Nat}(h1:([46]:B).isPrefixOf l=false)(h2:([35]:B).isPrefixOf l=false)(h3:firstWord.isPrefixOf l=false)(h:([91]:B).isPrefixOf l=true):iI l a=(dM (l.drop 1) (a+1)).then zW:=by
 unfold iI;rw[if_neg (by simp[h1]),if_neg (by simp[h2]),if_neg (by simp[h3]),if_pos h];unfold iF;cases dM (l.drop 1) (a+1)with
 | bad f=>rfl
 | ok x=>
  simp only[Ans.aN];unfold zW DI;split
  ·rfl
  split
  ·cases dM (x.2.1.drop 1) (x.2.2+1)with
   | bad f=>rfl
   | ok y=>
    simp only[Ans.aN];cases aV [93] y.2.1 y.2.2<;>rfl
  cases aV [93] x.2.1 x.2.2<;>rfl
theorem Vh{l:B}{a:Nat}(h1:([46]:B).isPrefixOf l=false)(h2:([35]:B).isPrefixOf l=false)(h3:firstWord.isPrefixOf l=false)(h4:([91]:B).isPrefixOf l=false):iI l a=.ok (none,l,a):=by
 unfold iI;rw[if_neg (by simp[h1]),if_neg (by simp[h2]),if_neg (by simp[h3]),if_neg (by simp[h4])]
def Lh(n:Nat)(ts:List bQ)(sb:Bool)(l:B)(a:Nat)(x:Option bQ×B×Nat):Ans (List bQ×B×Nat):=
 match x.1 with
 | none=>if sb then .ok (ts,l,a) else .bad ⟨2,a⟩
 | some t=>if ts.length=6 then .bad ⟨5,x.2.2⟩ else dF n (ts++[t]) true x.2.1 x.2.2
theorem YW(n:Nat)(ts:List bQ)(sb:Bool)(l:B)(a:Nat):dF (n+1) ts sb l a=(iI l a).then (Lh n ts sb l a):=by
 simp only[dF];rfl
theorem abC{l:B}{a:Nat}{t:bQ}{l':B}{a':Nat}(h:iI l a=.ok (some t,l',a')):a<a':=by
 obtain⟨u,_,h2,h3,_⟩:=Aw h;have:=h3 (by simp);omega
def alN(x:List bQ×Bool×B×Nat):Ans (List bQ×B×Nat):=dF (x.2.2.1.length+1) x.1 x.2.1 x.2.2.1 x.2.2.2
theorem Q8{l:B}{a:Nat}(h:([42]:B).isPrefixOf l=true):eU l a=dF ((l.drop 1).length+1) [] true (l.drop 1) (a+1):=by
 unfold eU uw;rw[if_pos h];rfl
theorem Q9{l:B}{a:Nat}(h:([42]:B).isPrefixOf l=false)(h0:aJ l=0):eU l a=dF (l.length+1) [] false l a:=by
 unfold eU uw;rw[if_neg (by simp[h]),if_pos h0];rfl
theorem Rf{l:B}{a:Nat}(h:([42]:B).isPrefixOf l=false)(h0:aJ l≠0):eU l a=(dM l a).then λx=>dF (x.2.1.length+1) [⟨1,x.1,[]⟩] true x.2.1 x.2.2:=by
 unfold eU uw;rw[if_neg (by simp[h]),if_neg h0];cases dM l a<;>rfl
theorem Rh{s:B}{p:Nat}(h:p<s.length)(hl:isLow (s[p]'h)=true):aJ (s.drop p)≠0:=by
 intro h0;have:=nJ (s.drop p) (by rw[h0,List.length_drop];omega);rw[List.getElem_drop]at this;have e:∀k,(hk:k=0)→(hp:p+k<s.length)→gQ k (s[p+k]'hp)=gQ 0 (s[p]'h):=by
  intro k hk hp;subst hk;rfl
 rw[e _ h0 (by rw[h0];omega)]at this;unfold gQ at this;rw[if_pos rfl,hl]at this;cases this
theorem Ic{s:B}{p:Nat}(h:p<s.length)(hl:isLow (s[p]'h)=false):aJ (s.drop p)=0:=by
 refine Classical.byContradiction λh0=>?_
 obtain⟨h1,h2⟩:=oL (s.drop p) 0 (by omega);rw[List.getElem_drop]at h2;have:gQ 0 (s[p]'h)=true:=h2;unfold gQ at this;rw[if_pos rfl,hl]at this;cases this
theorem Ie(w:World)(b:Nat)(s:B)(a:Nat)(f0:iL)(v:Value)(h:bJ w b s a f0 v)(hg:f0.err=0→f0=good):
  Calls Tryz.prog 159 #[.pointer (some ⟨b,0,none⟩)] w λe w'=>∃(l:Value) (ts:List bQ) (f':iL) (a':Nat),e=.returned l∧ou w w' b s v l ts f' a'∧Hid (Step f0 (eU (s.drop a) a) f' (ts,s.drop a',a')):=by
 obtain⟨R,HR⟩:∃R,Hid (eU (s.drop a) a=R):=⟨_,hid rfl⟩;rw[HR.out];have H:=hid h;have hbw:b<w.heap.size:=h.lt;have hls:=h.2.2;have HG:=hid hg;obtain⟨i0,hi0,hz0,hz1,hz2⟩:=info_parts Lj;clear h hg;go_enter Tryz.func159,Tryz.ntmps159
 go_wp2_with fail
 refine(oq [42] _ b s a f0 v H.out (by decide) (by simp)).mono ?_;rintro e w1 ⟨x,rfl,hk1,p1,h1,hx1,hx2⟩;have HX1:=hid hx1;have HX2:=hid hx2;have hl1:=h1.2.1;have c0:=h1.c0;have c1:=h1.c1;have uZ:=hid hk1;have H1:=hid h1;clear hk1 h1 hx1 hx2;go_upto_region 3 with fail
 go_cut [37] (λc wx=>∃c0:Bool,c=.bool c0∧Hid (Qt w1 wx)∧(c0=true→x=false∧f0.err=0∧aJ (s.drop p1)≠0)∧(c0=false→f0.err=0→x=true∨aJ (s.drop p1)=0))
 case first=>
  cases x with
  | true=>
   go_wp2_with fail
   go_quiet (fail)
   go_wp2_with fail
   go_meet
   case rel=>exact⟨false,rfl,hid ⟨nq,rfl⟩,λhh=>(by cases hh),λ_ _=>.inl (by first | rfl | trivial)⟩
  | false=>
   by_cases hf:f0.err=0
   ·have hfe:((f0.err:Int)==0)=true:=by simp[hf]
    by_cases hlt:p1<s.length
    ·have e0:decide ((p1:Int)<(s.length:Int))=true:=by simp;omega
     have e1:(0:Int)≤(p1:Int):=by omega
     have e2:(p1:Int)<(s.length:Int):=by omega
     cases hlo:isLow (s[p1]'hlt)with
     | true=>
      have HLO:=hid hlo;clear hlo;go_wp2_with fail
      go_quiet (first | (go_at_call 79;exact Calls.quiet_of_same (bK true _ b s p1 f0 v H1.out hfe)) | (go_at_call 70;exact Calls.quiet_of_same (rU _ true _ HLO.out)))
      go_wp2_with fail
      go_meet
      case rel=>exact⟨true,rfl,hid ⟨nq,rfl⟩,λ_=>⟨by first | rfl | trivial,hf,Rh hlt HLO.out⟩,λhh=>by cases hh⟩
     | false=>
      have HLO:=hid hlo;clear hlo;go_wp2_with fail
      go_quiet (first | (go_at_call 79;exact Calls.quiet_of_same (bK true _ b s p1 f0 v H1.out hfe)) | (go_at_call 70;exact Calls.quiet_of_same (rU _ false _ HLO.out)))
      go_wp2_with fail
      go_meet
      case rel=>exact⟨false,rfl,hid ⟨nq,rfl⟩,λhh=>(by cases hh),λ_ _=>.inr (Ic hlt HLO.out)⟩
    have e0:decide ((p1:Int)<(s.length:Int))=false:=by simp;omega
    go_wp2_with fail
    go_quiet ((go_at_call 79;exact Calls.quiet_of_same (bK true _ b s p1 f0 v H1.out hfe)))
    go_wp2_with fail
    go_meet
    case rel=>exact⟨false,rfl,hid ⟨nq,rfl⟩,λhh=>(by cases hh),λ_ _=>.inr (by rw[List.drop_of_length_le (by omega)];rfl)⟩
   have hfe:((f0.err:Int)==0)=false:=by simp;omega
   go_wp2_with fail
   go_quiet ((go_at_call 79;exact Calls.quiet_of_same (bK false _ b s p1 f0 v H1.out hfe)))
   go_wp2_with fail
   go_meet
   case rel=>exact⟨false,rfl,hid ⟨nq,rfl⟩,λhh=>(by cases hh),λ_ hh=>absurd hh hf⟩
 case rest=>
  obtain⟨cb,rfl,HQ,hc1,hc2⟩:=hcut;obtain⟨w2,hw2⟩:∃x,x=wc:=⟨_,rfl⟩;subst hw2;have HC1:=hid hc1;have HC2:=hid hc2;have iO:Hid (Kept (· = b) w w2):=hid (uZ.out.trans (HQ.out.kept _));have H2:Hid (bJ w2 b s p1 f0 v):=hid (H1.out.quiet HQ.out);clear c0 c1 hc1 hc2;go_upto_if 37 with fail
  go_cut [3,4] (λl sm wx=>∃(ts:List bQ) (sb:Bool) (f:iL) (p:Nat),sm=.bool sb∧Hid (ou w wx b s v l ts f p)∧Hid (Mid f0 R f (dF ((s.drop p).length+1) ts sb (s.drop p) p)))
  case first=>
   cases cb with
   | false=>
    have hM:Hid (Mid f0 R f0 (dF ((s.drop p1).length+1) [] x (s.drop p1) p1)):=hid (by
     have:=Mid.start (eU (s.drop a) a) f0;rw[HR.out]at this;refine this.eq λhf=>?_
     rw[←HR.out];cases x with
     | true=>
      obtain⟨_,h2,h3⟩:=HX1.out rfl;rw[Q8 h2,List.drop_drop,h3];rfl
     | false=>
      obtain⟨h2,h3⟩:=HX2.out rfl;have h4:=(HC2.out rfl hf).resolve_left (by simp);have h5:=h3 hf;subst h2;rw[Q9 h5 h4])
    go_wp2_with fail
    go_meet
    case rel=>exact⟨[],x,f0,p1,rfl,hid ⟨H2.out,iO.out,HG.out,World.ownsRow_nil _ _ _ _,by simp,λ_=>by simp⟩,hM⟩
   | true=>
    obtain⟨hxf,hf0,hnl⟩:=HC1.out rfl;subst hxf;obtain⟨h2,h3⟩:=HX2.out rfl;have h5:=h3 hf0;subst h2;obtain rfl:=HG.out hf0;have hM0:Hid (Mid good R good ((dM (s.drop p1) p1).then λx=>dF (x.2.1.length+1) [⟨1,x.1,[]⟩] true x.2.1 x.2.2)):=hid (by
     have:=Mid.start (eU (s.drop p1) p1) good;rw[HR.out]at this;exact this.eq λhf=>by rw[←HR.out,Rf h5 hnl])
    clear h3 h5 hnl;go_wp2_with fail
    refine(oQ _ b s p1 good v H2.out (λ_=>rfl)).mono ?_;rintro e w3 ⟨nm,rfl,hk3,f3,p3,h3,hg3,alO,hs3⟩;have Ar:=hid (hM0.out.step (k:=λx=>dF (x.2.1.length+1) [⟨1,x.1,[]⟩] true x.2.1 x.2.2) hs3.out);have oJ:=hid (iO.out.trans hk3);have H3:=hid h3;have HG3:=hid hg3;have hw3:w.heap.size≤w3.heap.size:=oJ.out.size;clear hk3 h3 hs3 hg3;go_wp2_with (at_builtin;refine wpList_append_lies _ rfl _ _ _ rfl w.heap.size 158 i0 _ 3 40 Tryz.underlying154 hi0 hz0 hz1 hz2 rfl (by omega) (.slice none 0 0) 0 [] (by rfl) (World.ownsRow_nil _ _ _ _) ⟨w3.heap.size,0,none⟩ 1 1 [.int .i64 1,.string (str nm),.string ⟨#[]⟩] (by rfl) (by rfl) (World.news_of_block (cs:=#[.int .i64 1,.string (str nm),.string ⟨#[]⟩]) (t:=158) (fr:=(0,0)) (heap_alloc_new w3 _)) (by simp[Value.oneCell']) (by omega) (by unfold maxLen;omega) (by omega) (by simp;omega) (w3.heap.size+1) (by simp) ?_;intro gg cap w4 hown4 hgrow4 EO hlt4)
    have hk4:Kept (λk=>(Value.slice none 0 0).ownBlock=some k) w3 w4:=((Kept.refl _ w3).alloc _).grown ⟨hgrow4.os,hgrow4.tape,hgrow4.output,hgrow4.size,hgrow4.block⟩ (λk hk=>.inl hk);have aiH:Kept (· = b) w3 w4:=hk4.mono (λk _ hk=>by cases hk);have FX:Hid (ou w w4 b s v (.slice (some ⟨gg,0,none⟩) (0+1) cap) [⟨1,nm,[]⟩] f3 p3):=hid ⟨H3.out.kept hk4 (by simp[Value.ownBlock]),oJ.out.trans aiH,λhh=>(HG3.out hh).1,by simpa [dA,str] using hown4,by simp,λ_=>by simp⟩;clear hk4 aiH hown4 hgrow4 EO;go_wp2_with fail
    go_meet
    case rel=>exact⟨[⟨1,nm,[]⟩],true,f3,p3,rfl,FX,Ar⟩
  case rest=>
   obtain⟨ts0,sb0,f3,p3,rfl,vg,Ar⟩:=hcut;clear uZ H1 iO H2 HQ HX1 HX2 HC1 HC2;go_upto_block 0 with fail
   go_cut [3,4] (λl sm wx=>∃(ts:List bQ) (sb:Bool) (f:iL) (p:Nat),sm=.bool sb∧Hid (ou w wx b s v l ts f p)∧Hid (Mid f0 R f (if sb=true then .ok (ts,s.drop p,p) else .bad ⟨2,p⟩)))
   case rest=>
    obtain⟨ts,sb,f,p,rfl,HL,HM⟩:=hcut;have c1:=HL.out.rd.c1;cases sb with
    | true=>
     go_wp2_with fail
     go_ret
     have HSF:Hid (Step f0 R f (ts,s.drop p,p)):=hid (Mid.fin (Mid.eq (Y:=.ok (ts,s.drop p,p)) HM.out (λ_=>by simp)))
     first
      | exact⟨_,ts,f,p,rfl,HL.out,HSF⟩
      | exact⟨_,rfl,ts,f,p,HL.out,HSF⟩
    | false=>
     by_cases hf:f.err=0
     ·go_wp2_with fail
      refine(dP 2 p _ b s p f v HL.out.rd hf).mono ?_;rintro e w9 ⟨rfl,hk9,h9⟩;have Tz:=hid (HL.out.step hbw hk9 h9 (λhh=>absurd hh (by simp)) (λhh=>absurd hh (by simp)));clear hk9 h9;go_wp2_with fail
      go_ret
      exact⟨_,ts,⟨2,p⟩,p,rfl,Tz.out,hid (Mid.fin (HM.out.kill hf (f':=⟨2,p⟩) (by simp) (by simp)))⟩
     go_wp2_with fail
     refine(qK 2 (p:Int) _ b s p f v HL.out.rd hf).mono ?_;rintro e w9 ⟨rfl,rfl⟩;go_wp2_with fail
     go_ret
     exact⟨_,ts,f,p,rfl,HL.out,hid (Mid.fin (HM.out.dead hf))⟩
   case first=>
    go_wp2_with fail
    go_loopg [3,4] (s.length-p3+1) (λk l sm wr=>∃(ts:List bQ) (sb:Bool) (f:iL) (p n:Nat),sm=.bool sb∧Hid (ou w wr b s v l ts f p)∧Hid (Mid f0 R f (dF n ts sb (s.drop p) p))∧(f.err=0→s.length-p<n∧k=s.length-p+1))
    case atStart=>exact⟨ts0,sb0,f3,p3,_,rfl,vg,Ar,λhf=>⟨by rw[List.length_drop];omega,rfl⟩⟩
    case round=>
     obtain⟨ts,sb,f,p,n,rfl,HL,HM,hal⟩:=hrel;obtain⟨bU,hwr0⟩:∃x,x=wr:=⟨_,rfl⟩;subst hwr0;obtain⟨lo,lc,hlv⟩:=zU HL.out.own;subst hlv;by_cases hf:f.err=0
     ·obtain rfl:=HL.out.al hf;obtain⟨hn,hk⟩:=hal rfl;clear hal hf;obtain⟨n,rfl⟩:∃m,n=m+1:=⟨n-1,by omega⟩;have alQ:=HL.out.live rfl;have hlp:=HL.out.rd.2.1;obtain⟨T,HT⟩:∃x,Hid (iI (s.drop p) p=x):=⟨_,hid rfl⟩;have Px:Hid (Mid f0 R good (T.then (Lh n ts sb (s.drop p) p))):=hid (by rw[←HT.out];exact HM.out.eq (λ_=>YW n ts sb (s.drop p) p));obtain⟨tb,HTB⟩:∃x,Hid (bU.heap.size=x):=⟨_,hid rfl⟩;obtain⟨w6,HW6⟩:∃x,Hid (bU.alloc (.cells #[.int .i64 0,.string ⟨#[]⟩,.string ⟨#[]⟩] 158 (0,0))=x):=⟨_,hid rfl⟩;have ZQ:Hid (wE bU w6 b tb s v 0 [] [] good p):=hid (by
       rw[←HW6.out,←HTB.out];exact⟨HL.out.rd.alloc _,aI bU _,(Kept.refl _ bU).alloc _,λ_=>rfl,Nat.le_refl _,HL.out.rd.lt⟩)
      go_wp2_with fail
      refine(bK true _ b s p good v HL.out.rd rfl).mono ?_;rintro e w5 ⟨rfl,hw5⟩;rw[hw5];clear hw5;go_upto_block 2 with fail
      rw[HW6.out,HTB.out];go_cut [] (λwx=>∃(kd:Int) (nm vl:B) (f:iL) (p':Nat),Hid (wE bU wx b tb s v kd nm vl f p')∧((kd=0∧f=good∧p'=p∧Hid (T=.ok (none,s.drop p,p)))∨(kd≠0∧Hid (Step good T f (some ⟨kd,nm,vl⟩,s.drop p',p')))))
      case first=>
       have hT0:Mid good T good T:=Mid.start T good;have HT0:=hid hT0;clear hT0 HM HL Px;go_wp2_with fail
       refine(oq [46] _ b s p good v ZQ.out.rd (by decide) (by simp)).mono ?_;rintro e w7 ⟨x,rfl,jD,p7,h7,hx1,hx2⟩;have yI:=hid (ZQ.out.step jD h7 (λ_=>rfl));clear jD h7 ZQ;cases x with
       | true=>
        obtain⟨_,hyes,rfl⟩:=hx1 rfl;have Ll:Hid (Mid good T good ((dM (s.drop (p+[46].length)) (p+[46].length)).then (Le 2))):=hid (HT0.out.eq (λ_=>by rw[←HT.out,YV hyes,List.drop_drop];rfl));clear hx1 hx2 hyes;go_wp2_with fail
        refine(oQ _ b s (p+[46].length) good v yI.out.rd (λ_=>rfl)).mono ?_;rintro e w8 ⟨nm,rfl,hk8,f8,p8,h8,hg8,aqb,hs8⟩;have vN:=hid (yI.out.step hk8 h8 (λhh=>(hg8 hh).1));have HS8:=hid (Mid.fin (Ll.out.step (k:=Le 2) hs8.out));clear hk8 h8 hg8 hs8 yI Ll;have d0:=ah vN.out.box 0 rfl;have d1:=ah vN.out.box 1 rfl;have d2:=ah vN.out.box 2 rfl;have e0:=aF vN.out.box 0;have e1:=aF vN.out.box 1;have e2:=aF vN.out.box 2;have Fp:=hid (vN.out.adS 2 nm []);go_wp2_with fail
        go_meet
        case rel=>exact⟨2,nm,[],f8,p8,Fp,.inr ⟨by decide,HS8⟩⟩
       | false=>
        obtain⟨rfl,hno⟩:=hx2 rfl;have HN1:=hid (hno rfl);clear hx1 hx2 hno;go_wp2_with fail
        refine(oq [35] _ b s p7 good v yI.out.rd (by decide) (by simp)).mono ?_;rintro e w8 ⟨x,rfl,hk8,p8,h8,hx1,hx2⟩;have vN:=hid (yI.out.step hk8 h8 (λ_=>rfl));clear hk8 h8 yI;cases x with
        | true=>
         obtain⟨_,hyes,rfl⟩:=hx1 rfl;have Ll:Hid (Mid good T good ((dM (s.drop (p7+[35].length)) (p7+[35].length)).then (Le 3))):=hid (HT0.out.eq (λ_=>by rw[←HT.out,Vf HN1.out hyes,List.drop_drop];rfl));clear hx1 hx2 hyes;go_wp2_with fail
         refine(oQ _ b s (p7+[35].length) good v vN.out.rd (λ_=>rfl)).mono ?_;rintro e w9 ⟨nm,rfl,hk9,f9,p9,h9,Tt,aqd,hs9⟩;have Fp:=hid (vN.out.step hk9 h9 (λhh=>(Tt hh).1));have HS9:=hid (Mid.fin (Ll.out.step (k:=Le 3) hs9.out));clear hk9 h9 Tt hs9 vN Ll;have d0:=ah Fp.out.box 0 rfl;have d1:=ah Fp.out.box 1 rfl;have d2:=ah Fp.out.box 2 rfl;have e0:=aF Fp.out.box 0;have e1:=aF Fp.out.box 1;have e2:=aF Fp.out.box 2;have pR:=hid (Fp.out.adS 3 nm []);go_wp2_with fail
         go_meet
         case rel=>exact⟨3,nm,[],f9,p9,pR,.inr ⟨by decide,HS9⟩⟩
        | false=>
         obtain⟨rfl,hno⟩:=hx2 rfl;have Jo:=hid (hno rfl);clear hx1 hx2 hno;go_wp2_with fail
         refine(oq firstWord _ b s p8 good v vN.out.rd (by decide) (by decide)).mono ?_;rintro e w9 ⟨x,rfl,hk9,p9,h9,hx1,hx2⟩;have Fp:=hid (vN.out.step hk9 h9 (λ_=>rfl));clear hk9 h9 vN;cases x with
         | true=>
          obtain⟨_,hyes,rfl⟩:=hx1 rfl;have HS9:Hid (Step good T good (some ⟨6,[],[]⟩,s.drop (p8+firstWord.length),p8+firstWord.length)):=hid (Mid.fin (HT0.out.eq (λ_=>by rw[←HT.out,Q7 HN1.out Jo.out hyes,List.drop_drop];rfl)));clear hx1 hx2 hyes;have d0:=ah Fp.out.box 0 rfl;have d1:=ah Fp.out.box 1 rfl;have d2:=ah Fp.out.box 2 rfl;have e0:=aF Fp.out.box 0;have e1:=aF Fp.out.box 1;have e2:=aF Fp.out.box 2;have pR:=hid (Fp.out.adS 6 [] []);go_wp2_with fail
          go_meet
          case rel=>exact⟨6,[],[],good,_,pR,.inr ⟨by decide,HS9⟩⟩
         | false=>
          obtain⟨rfl,hno⟩:=hx2 rfl;have HN3:=hid (hno rfl);clear hx1 hx2 hno;go_wp2_with fail
          refine(oq [91] _ b s p9 good v Fp.out.rd (by decide) (by simp)).mono ?_;rintro e w10 ⟨x,rfl,hk10,p10,h10,hx1,hx2⟩;have pR:=hid (Fp.out.step hk10 h10 (λ_=>rfl));clear hk10 h10 Fp;cases x with
          | false=>
           obtain⟨rfl,hno⟩:=hx2 rfl;have HTN:Hid (T=.ok (none,s.drop p10,p10)):=hid (by rw[←HT.out,Vh HN1.out Jo.out HN3.out (hno rfl)]);clear hx1 hx2 hno;go_wp2_with fail
           go_meet
           case rel=>exact⟨0,[],[],good,p10,pR,.inl ⟨rfl,rfl,rfl,HTN⟩⟩
          | true=>
           obtain⟨_,hyes,rfl⟩:=hx1 rfl;have Ll:Hid (Mid good T good ((dM (s.drop (p9+[91].length)) (p9+[91].length)).then zW)):=hid (HT0.out.eq (λ_=>by rw[←HT.out,Vg HN1.out Jo.out HN3.out hyes,List.drop_drop];rfl));clear hx1 hx2 hyes HT0 HN1 Jo HN3;go_wp2_with fail
           refine(oQ _ b s (p9+[91].length) good v pR.out.rd (λ_=>rfl)).mono ?_;rintro e Tv ⟨nm,rfl,yH,f11,p11,h11,Ig,an0,hs11⟩;have EW:=hid (pR.out.step yH h11 (λhh=>(Ig hh).1));have M11:=hid (Ll.out.step (k:=zW) hs11.out);clear yH h11 Ig hs11 pR Ll;have d0:=ah EW.out.box 0 rfl;have d1:=ah EW.out.box 1 rfl;have d2:=ah EW.out.box 2 rfl;have e0:=aF EW.out.box 0;have e1:=aF EW.out.box 1;have e2:=aF EW.out.box 2;obtain⟨w12,aiI⟩:∃x,Hid (((Tv.setCell ⟨tb,0,none⟩ (.int .i64 4)).setCell ⟨tb,1,none⟩ (.string (str nm))).setCell ⟨tb,2,none⟩ (.string ⟨#[]⟩)=x):=⟨_,hid rfl⟩;have DJ:Hid (wE bU w12 b tb s v 4 nm [] f11 p11):=hid (by rw[←aiI.out];exact EW.out.adS 4 nm []);go_upto_region 16 with fail
           rw[aiI.out];clear d0 d1 d2 e0 e1 e2 EW;have d1:=ah DJ.out.box 1 rfl;have c1:=DJ.out.rd.c1;go_cut [74] (λc wx=>wx=w12∧∃cc:Bool,c=.bool cc∧(cc=true→f11.err=0∧nm=aj)∧(cc=false→f11.err=0→nm≠aj))
           case first=>
            by_cases hf:f11.err=0
            ·have hfe:((f11.err:Int)==0)=true:=by simp[hf]
             by_cases hst:nm=aj
             ·have e1:(nm==aj)=true:=by rw[hst];rfl
              have HST:=hid hst;clear hst;go_wp2_with fail
              refine(bK true _ b s p11 f11 v DJ.out.rd hfe).mono ?_;rintro e Xb ⟨rfl,rfl⟩;go_wp2_with fail
              go_meet
              case rel=>exact⟨rfl,true,by first | (rw[←e1];rfl) | (simp[aj]at e1 ⊢;exact e1),λ_=>⟨hf,HST.out⟩,λhh=>by cases hh⟩
             have e1:(nm==aj)=false:=by rw[beq_eq_false_iff_ne];exact hst
             have HST:=hid hst;clear hst;go_wp2_with fail
             refine(bK true _ b s p11 f11 v DJ.out.rd hfe).mono ?_;rintro e Xb ⟨rfl,rfl⟩;go_wp2_with fail
             go_meet
             case rel=>exact⟨rfl,false,by first | (rw[←e1];rfl) | (simp[aj]at e1 ⊢;exact e1),λhh=>(by cases hh),λ_ _=>HST.out⟩
            have hfe:((f11.err:Int)==0)=false:=by simp;omega
            go_wp2_with fail
            refine(bK false _ b s p11 f11 v DJ.out.rd hfe).mono ?_;rintro e Xb ⟨rfl,rfl⟩;go_wp2_with fail
            go_meet
            case rel=>exact⟨rfl,false,rfl,λhh=>(by cases hh),λ_ hh=>absurd hh hf⟩
           case rest=>
            obtain⟨rfl,cc,rfl,BH,yJ⟩:=hcut;go_upto_if 74 with fail
            go_cut [] (λwx=>∃f,Hid (wE bU wx b tb s v 4 nm [] f p11)∧Hid (Mid good T f (DI nm (s.drop p11) p11)))
            case first=>
             cases cc with
             | true=>
              obtain⟨hf,hst⟩:=BH rfl;have HK:Hid (zW (nm,s.drop p11,p11)=.bad ⟨1,p11⟩):=hid (by unfold zW;rw[if_pos hst]);clear BH yJ hst;go_wp2_with fail
              refine(dP 1 p11 _ b s p11 f11 v DJ.out.rd hf).mono ?_;rintro e Xb ⟨rfl,BI,h13⟩;have JG:=hid (DJ.out.step BI h13 (λhh=>absurd hh (by simp)));clear BI h13;go_wp2_with fail
              go_meet
              case rel=>exact⟨⟨1,p11⟩,JG,hid (M11.out.kill hf HK.out (by simp))⟩
             | false=>
              have HK:Hid (Mid good T f11 (DI nm (s.drop p11) p11)):=hid (M11.out.eq (λhf=>by unfold zW;rw[if_neg (yJ rfl hf)]));clear BH yJ;go_wp2_with fail
              go_meet
              case rel=>exact⟨f11,DJ,HK⟩
            case rest=>
             obtain⟨f13,JG,M13⟩:=hcut;clear DJ M11 d1 c1 BH yJ;go_wp2_with fail
             refine(oq [61] _ b s p11 f13 v JG.out.rd (by decide) (by simp)).mono ?_;rintro e w14 ⟨x,rfl,aiJ,Vj,h14,hx1,hx2⟩;have zX:=hid (JG.out.step aiJ h14 JG.out.al);clear aiJ h14 JG;go_upto_if 82 with fail
             go_cut [] (λwx=>∃(kd:Int) (vl:B) (f:iL) (p:Nat),kd≠0∧Hid (wE bU wx b tb s v kd nm vl f p)∧Hid (Mid good T f ((aV [93] (s.drop p) p).then (zV kd nm vl))))
             case first=>
              cases x with
              | false=>
               obtain⟨rfl,hno⟩:=hx2 rfl;have HK:Hid (Mid good T f13 ((aV [93] (s.drop Vj) Vj).then (zV 4 nm []))):=hid (M13.out.eq (λhf=>by unfold DI;rw[if_neg (by rw[hno hf];simp)]));clear hx1 hx2 hno;go_wp2_with fail
               go_meet
               case rel=>exact⟨4,[],f13,Vj,by decide,zX,HK⟩
              | true=>
               obtain⟨hf,hyes,rfl⟩:=hx1 rfl;have HK:Hid (Mid good T f13 ((dM (s.drop (p11+[61].length)) (p11+[61].length)).then λx=>(aV [93] x.2.1 x.2.2).then (zV 5 nm x.1))):=hid (M13.out.eq (λ_=>by unfold DI;rw[if_pos hyes,List.drop_drop];rfl));clear hx1 hx2 hyes;go_wp2_with fail
               refine(oQ _ b s (p11+[61].length) f13 v zX.out.rd zX.out.al).mono ?_;rintro e EP ⟨vl,rfl,BJ,f15,p15,h15,aiK,an1,aiL⟩;have abD:=hid (zX.out.step BJ h15 (λhh=>(aiK hh).1));have M15:=hid (HK.out.step (k:=λx=>(aV [93] x.2.1 x.2.2).then (zV 5 nm x.1)) aiL.out);clear BJ h15 aiK aiL zX HK;have d0:=ah abD.out.box 0 rfl;have d2:=ah abD.out.box 2 rfl;have e0:=aF abD.out.box 0;have e2:=aF abD.out.box 2;have abE:=hid (abD.out.aiG 5 vl);go_wp2_with fail
               go_meet
               case rel=>exact⟨5,vl,f15,p15,by decide,abE,M15⟩
             case rest=>
              obtain⟨kd,vl,f16,p16,hkd,abE,M16⟩:=hcut;clear zX M13 hx1 hx2;go_wp2_with fail
              refine(kX [93] _ b s p16 f16 v abE.out.rd abE.out.al (by decide) (by simp)).mono ?_;rintro e w17 ⟨rfl,aiM,f17,p17,h17,aiN,aiO⟩;have alT:=hid (abE.out.step aiM h17 aiN);have S17:=hid (Mid.fin (M16.out.step (k:=zV kd nm vl) aiO.out));clear aiM h17 aiN aiO;go_wp2_with fail
              go_meet
              case rel=>exact⟨kd,nm,vl,f17,p17,alT,.inr ⟨hkd,S17⟩⟩
      case rest=>
       obtain⟨kd,nm,vl,f7,p7,yI,hcase⟩:=hcut;clear ZQ;have d0:=ah yI.out.box 0 rfl;rcases hcase with⟨rfl,rfl,rfl,HTN⟩ | ⟨hkd,HS7⟩
       ·have HML:Hid (Mid f0 R good (if sb=true then .ok (ts,s.drop p7,p7) else .bad ⟨2,p7⟩)):=hid (Px.out.eq (λ_=>by rw[HTN.out];rfl));have HL7:=hid (HL.out.step hbw yI.out.kept yI.out.rd (λ_=>rfl) (λ_=>alQ));go_wp2_with fail
        go_meet
        case rel=>exact⟨ts,sb,good,p7,rfl,HL7,HML⟩
       have aql:(kd==0)=false:=by simpa using hkd
       have Ll:=hid (Px.out.step (k:=Lh n ts sb (s.drop p) p) HS7.out);have hpp:f7.err=0→p<p7:=λhh=>by
        rcases HS7.out.2 rfl with⟨_,h⟩ | ⟨h,_⟩
        ·exact abC (HT.out.trans h)
        exact absurd hh h
       have c1:=yI.out.rd.c1;clear Px HS7 HT;go_upto_region 22 with fail
       go_cut [98] (λc wx=>wx=wc∧∃cc:Bool,c=.bool cc∧(cc=true→f7.err=0∧ts.length=6)∧(cc=false→f7.err=0→ts.length<6))
       case first=>
        by_cases hf:f7.err=0
        ·have hfe:((f7.err:Int)==0)=true:=by simp[hf]
         by_cases h6:ts.length=6
         ·have h6I:(6:Int)≤(ts.length:Int):=by omega
          have H6:=hid h6;clear h6;go_wp2_with fail
          refine(bK true _ b s p7 f7 v yI.out.rd hfe).mono ?_;rintro e Xb ⟨rfl,rfl⟩;go_wp2_with fail
          go_meet
          case rel=>exact⟨rfl,true,by first | rfl | (simp;omega),λ_=>⟨hf,H6.out⟩,λhh=>by cases hh⟩
         have h6I:¬(6:Int)≤(ts.length:Int):=by omega
         go_wp2_with fail
         refine(bK true _ b s p7 f7 v yI.out.rd hfe).mono ?_;rintro e Xb ⟨rfl,rfl⟩;go_wp2_with fail
         go_meet
         case rel=>exact⟨rfl,false,by first | rfl | (simp;omega),λhh=>(by cases hh),λ_ _=>by omega⟩
        have hfe:((f7.err:Int)==0)=false:=by simp;omega
        go_wp2_with fail
        refine(bK false _ b s p7 f7 v yI.out.rd hfe).mono ?_;rintro e Xb ⟨rfl,rfl⟩;go_wp2_with fail
        go_meet
        case rel=>exact⟨rfl,false,rfl,λhh=>(by cases hh),λ_ hh=>absurd hh hf⟩
       case rest=>
        obtain⟨rfl,cc,rfl,BH,yJ⟩:=hcut;obtain⟨t,HTT⟩:∃t:bQ,Hid ((⟨kd,nm,vl⟩:bQ)=t):=⟨_,hid rfl⟩;rw[HTT.out]at Ll;go_upto_if 98 with fail
        go_cut [] (λwx=>∃f,Hid (wE bU wx b tb s v kd nm vl f p7)∧Hid (Mid f0 R f (dF n (ts++[t]) true (s.drop p7) p7))∧(f.err=0→ts.length<6∧p<p7))
        case first=>
         cases cc with
         | true=>
          obtain⟨hf,h6⟩:=BH rfl;have HK:Hid (Lh n ts sb (s.drop p) p (some t,s.drop p7,p7)=.bad ⟨5,p7⟩):=hid (by simp only[Lh];rw[if_pos h6]);clear BH yJ h6;go_wp2_with fail
          refine(dP 5 p7 _ b s p7 f7 v yI.out.rd hf).mono ?_;rintro e Xb ⟨rfl,BI,h13⟩;have JG:=hid (yI.out.step BI h13 (λhh=>absurd hh (by simp)));clear BI h13;go_wp2_with fail
          go_meet
          case rel=>exact⟨⟨5,p7⟩,JG,hid (Ll.out.kill hf HK.out (by simp)),λhh=>absurd hh (by simp)⟩
         | false=>
          have HK:Hid (Mid f0 R f7 (dF n (ts++[t]) true (s.drop p7) p7)):=hid (Ll.out.eq (λhf=>by
           have:=yJ rfl hf;simp only[Lh];rw[if_neg (by omega)]))
          have aaW:f7.err=0→ts.length<6∧p<p7:=λhh=>⟨yJ rfl hh,hpp hh⟩
          clear BH yJ;go_wp2_with fail
          go_meet
          case rel=>exact⟨f7,yI,HK,aaW⟩
        case rest=>
         obtain⟨f8,vN,M8,h86⟩:=hcut;obtain⟨w8,hw8⟩:∃x,x=wc:=⟨_,rfl⟩;subst hw8;clear yI Ll d0 c1 BH yJ hpp;have how:=aK HL.out.own vN.out.kept (λk hk hs=>by have:=(HL.out.own.lt k hk).1;omega);have HOW:=hid how;have hbs:w.heap.size≤w8.heap.size:=Nat.le_trans HL.out.kept.size vN.out.kept.size;have d0:=ah vN.out.box 0 rfl;have d1:=ah vN.out.box 1 rfl;have d2:=ah vN.out.box 2 rfl;clear how;go_wp2_with (at_builtin;refine wpList_append_lies _ rfl _ _ _ rfl w.heap.size 158 i0 _ 3 40 Tryz.underlying154 hi0 hz0 hz1 hz2 rfl (by omega) _ ts.length _ (by rfl) (HOW.out.alloc _) ⟨w8.heap.size,0,none⟩ 1 1 [.int .i64 kd,.string (str nm),.string (str vl)] (by rfl) (by rfl) (World.news_of_block (cs:=#[.int .i64 kd,.string (str nm),.string (str vl)]) (t:=158) (fr:=(0,0)) (heap_alloc_new w8 _)) (by simp[Value.oneCell']) (by omega) (by unfold maxLen;omega) (by omega) (by simp;omega) (w8.heap.size+1) (by simp) ?_;intro gg cap EP jG dG nY F9)
         have BJ:Kept (λk=>(Value.slice lo ts.length lc).ownBlock=some k) w8 EP:=((Kept.refl _ w8).alloc _).grown ⟨dG.os,dG.tape,dG.output,dG.size,dG.block⟩ (λk hk=>.inl hk);have hob:∀k,(Value.slice lo ts.length lc).ownBlock=some k→w.heap.size≤k:=λk hk=>(HOW.out.lt k hk).1
         have abG:Hid (ou w EP b s v (.slice (some ⟨gg,0,none⟩) (ts.length+1) cap) (ts++[t]) f8 p7):=hid ⟨vN.out.rd.kept BJ (λhs=>by have:=hob b hs;omega),
          (HL.out.kept.trans vN.out.kept).trans' BJ (λk hk hs=>by have:=hob k hs;omega),vN.out.al,by
           have:=jG;rw[←HTT.out];simpa [dA] using this,by simp;omega,λhh=>by have:=(h86 hh).1;simp;omega⟩
         have hl7:=vN.out.rd.2.1;clear BJ hob jG dG nY d0 d1 d2;go_wp2_with fail
         by_cases hf:f8.err=0
         ·obtain⟨h87,h88⟩:=h86 hf;go_roundg (s.length-p7+1)
          case measure=>omega
          case rel=>exact⟨ts++[t],true,f8,p7,n,rfl,abG,M8,λ_=>⟨by omega,rfl⟩⟩
         go_roundg 0
         case measure=>omega
         case rel=>exact⟨ts++[t],true,f8,p7,n,rfl,abG,M8,λhh=>absurd hh hf⟩
     have hf':((f.err:Int)==0)=false:=by simp;omega
     go_wp2_with fail
     refine(bK false _ b s p f v HL.out.rd hf').mono ?_;rintro e w5 ⟨rfl,rfl⟩;go_wp2_with fail
     go_meet
     case rel=>exact⟨ts,sb,f,p,rfl,HL,hid (HM.out.dead hf)⟩
theorem ou.tests{w w':World}{b:Nat}{s:B}{v l:Value}{ts:List bQ}{f:iL}{p:Nat}(h:ou w w' b s v l ts f p):jy w' (λk=>k<w.heap.size) l ts:=
 ⟨aS Lm (by simp) h.own,λk hk=>⟨by have:=(h.own.lt k hk).1;omega,(h.own.lt k hk).2⟩⟩
def Xc(n:Nat)(ps:List eP)(j:Int)(y:List bQ×B×Nat):Ans (dZ×B×Nat):=jZ n (ps++[⟨j,y.1⟩]) y.2.1 y.2.2
def BK(n:Nat)(ps:List eP)(j:Int)(y:B×Nat):Ans (dZ×B×Nat):=
 if ps.length=6 then .bad ⟨5,y.2⟩ else (eU y.1 y.2).then (Xc n ps j)
def yZ(n:Nat)(ps:List eP)(a:Nat)(x:B×Nat):Ans (dZ×B×Nat):=
 if ([62]:B).isPrefixOf x.1 then (cO (x.1.drop 1) (x.2+1)).then (BK n ps 2)
 else if ([43]:B).isPrefixOf x.1 then (cO (x.1.drop 1) (x.2+1)).then (BK n ps 3)
 else if kG (decide (a<x.2)) x.1 then .ok (ps,x.1,x.2) else BK n ps 1 (x.1,x.2)
theorem adT(n:Nat)(ps:List eP)(l:B)(a:Nat):jZ (n+1) ps l a=(cO l a).then (yZ n ps a):=by
 rw[jZ];unfold lH;cases cO l a with
 | bad f=>rfl
 | ok x=>
  obtain⟨l1,a1⟩:=x;simp only[Ans.aN,yZ];split
  ·cases cO (l1.drop 1) (a1+1)<;>rfl
  split
  ·cases cO (l1.drop 1) (a1+1)<;>rfl
  split<;>rfl
structure zY(w wr:World)(b:Nat)(s:B)(v:Value)(l:Value)(ps:List eP)(vs:List Value)(f:iL)(p:Nat):Prop where
 rd:bJ wr b s p f v
 kept:Kept (· = b) w wr
 al:f.err=0→f=good
 own:Ob wr w.heap.size l ps vs
 few:ps.length≤6
theorem zY.step{w wr wx:World}{b:Nat}{s:B}{v l:Value}{ps:List eP}{vs:List Value}{f f':iL}{p p':Nat}(h:zY w wr b s v l ps vs f p)(hb:b<w.heap.size)(hk:Kept (· = b) wr wx)(hr:bJ wx b s p' f' v)(ha:f'.err=0→f'=good):zY w wx b s v l ps vs f' p':=
 ⟨hr,h.kept.trans hk,ha,h.own.kept kN hb hk,h.few⟩
theorem tu{s:B}{p p':Nat}{f:iL}(h:Step good (cO (s.drop p) p) f (s.drop p',p'))(hf:f.err=0):p≤p':=by
 rcases h.2 rfl with⟨_,h⟩ | ⟨h,_⟩
 ·obtain⟨g,_,_,h,_⟩:=fA h;omega
 exact absurd hf h
theorem abH(w:World)(b:Nat)(s:B)(a:Nat)(f:iL)(v:Value)(h:bJ w b s a f v):∃X:ByteArray→Bool,
  Hid (∀q:ByteArray,q.size≤100→Calls Tryz.prog 112 #[.pointer (some ⟨b,0,none⟩),.string q] w λe w'=>e=.returned (.bool (X q))∧∃n,w'=w.drewN n) ∧
  Hid (∀(m:Nat) (q:ByteArray),q.size≤100→Calls Tryz.prog 112 #[.pointer (some ⟨b,0,none⟩),.string q] (w.drewN m) λe w'=>e=.returned (.bool (X q))∧∃n,w'=(w.drewN m).drewN n) ∧
  Hid (f.err=0→∀q:ByteArray,X q=q.data.toList.isPrefixOf (s.drop a)):=by
 have key:∀(w:World),bJ w b s a f v→∀q:ByteArray,q.size≤100→Calls Tryz.prog 112 #[.pointer (some ⟨b,0,none⟩),.string q] w λe w'=>e=.returned (.bool (decide (f.err=0)&&q.data.toList.isPrefixOf (s.drop a)))∧∃n,w'=w.drewN n:=by
  intro w h q hq;have hs:str q.data.toList=q:=by cases q;rfl
  by_cases hf:f.err=0
  ·have:=iT q.data.toList _ w b s a f v h hf (by simpa using hq) rfl;rw[hs]at this;simpa [hf] using this
  have:=NV q.data.toList w b s a f v h hf;rw[hs]at this;simpa [hf] using this
 exact⟨_,hid (key w h),hid (λm=>key _ (h.drewN m)),hid (λhf q=>by simp[hf])⟩
theorem abI(w:World)(b:Nat)(s:B)(a:Nat)(f0:iL)(v:Value)(h:bJ w b s a f0 v)(hg:f0.err=0→f0=good):
  Calls Tryz.prog 119 #[.pointer (some ⟨b,0,none⟩)] w λe w'=>∃(l:Value) (ps:List eP) (f':iL) (a':Nat),e=.returned l∧Kept (· = b) w w'∧bJ w' b s a' f' v∧(f'.err=0→f'=good)∧tC w' (λk=>k<w.heap.size) l ps∧ps.length≤6∧Hid (Step f0 (pq (s.drop a) a) f' (ps,s.drop a',a')):=by
 obtain⟨R,HR⟩:∃R,Hid (pq (s.drop a) a=R):=⟨_,hid rfl⟩;rw[HR.out];have H:=hid h;have hbw:b<w.heap.size:=h.lt;have hls:=h.2.2;have HG:=hid hg;obtain⟨i0,hi0,hz0,hz1,hz2⟩:=info_parts Lp;clear h hg;go_enter Tryz.func119,Tryz.ntmps119
 go_wp2_with fail
 refine(Ie _ b s a f0 v H.out HG.out).mono ?_;rintro e w1 ⟨l1,ts1,f1,p1,rfl,hl1,hs1⟩;have xP:Hid (Mid f0 R f1 (jZ ((s.drop p1).length+1) [⟨0,ts1⟩] (s.drop p1) p1)):=hid (by
  have:=Mid.start (pq (s.drop a) a) f0;rw[HR.out]at this;exact(this.eq (Y:=(eU (s.drop a) a).then λy=>jZ (y.2.1.length+1) [⟨0,y.1⟩] y.2.1 y.2.2) (λ_=>by rw[←HR.out];rfl)).step hs1.out)
 obtain⟨lo1,lc1,rfl⟩:=zU hl1.own;have HT1:=hid hl1.tests;have HL1:=hid hl1;have hw1:w.heap.size≤w1.heap.size:=hl1.kept.size;clear hl1 hs1;go_upto_block 0 with fail
 have OI:Hid (zY w (w1.alloc (.cells #[.int .i64 0,.slice lo1 ts1.length lc1] 156 (0,0))) b s v (.slice (some ⟨w1.heap.size,0,none⟩) 1 1) [⟨0,ts1⟩] [.slice lo1 ts1.length lc1] f1 p1):=
  hid ⟨HL1.out.rd.alloc _,HL1.out.kept.alloc _,HL1.out.al,Ih (b:=b) hw1 HT1.out,by simp⟩
 have hp1:=HL1.out.rd.2.1;clear HL1 HT1;generalize (w1.alloc (.cells #[.int .i64 0,.slice lo1 ts1.length lc1] 156 (0,0)))=wa at *;go_cut [3] (λl wx=>∃(ps:List eP) (vs:List Value) (f:iL) (p:Nat),Hid (zY w wx b s v l ps vs f p)∧Hid (Mid f0 R f (.ok (ps,s.drop p,p))))
 case rest=>
  obtain⟨ps,vs,f,p,HL,HM⟩:=hcut;go_wp2_with fail
  go_ret
  have HSF:Hid (Step f0 R f (ps,s.drop p,p)):=hid (Mid.fin HM.out);exact⟨_,ps,f,p,rfl,HL.out.kept,HL.out.rd,HL.out.al,HL.out.own.done y7 kN,HL.out.few,HSF⟩
 case first=>
  go_wp2_with fail
  go_loopg [3] (s.length-p1+1) (λk l wr=>∃(ps:List eP) (vs:List Value) (f:iL) (p n:Nat),Hid (zY w wr b s v l ps vs f p)∧Hid (Mid f0 R f (jZ n ps (s.drop p) p))∧(f.err=0→s.length-p<n∧k=s.length-p+1))
  case atStart=>exact⟨_,_,f1,p1,_,OI,xP,λhf=>⟨by rw[List.length_drop];omega,rfl⟩⟩
  case round=>
   obtain⟨ps,vs,f,p,n,HL,HM,hal⟩:=hrel;obtain⟨lo,lc,rfl⟩:=HL.out.own.form;have hfew:=HL.out.few;by_cases hf:f.err=0
   ·obtain rfl:=HL.out.al hf;obtain⟨hn,hk⟩:=hal rfl;clear hal hf;obtain⟨n,rfl⟩:∃m,n=m+1:=⟨n-1,by omega⟩;have hlp:=HL.out.rd.2.1;have HMG:Hid (Mid f0 R good ((cO (s.drop p) p).then (yZ n ps p))):=hid (HM.out.eq (λ_=>adT n ps (s.drop p) p));go_wp2_with fail
    refine(bK true _ b s p good v HL.out.rd rfl).mono ?_;rintro e w2 ⟨rfl,hw2⟩;rw[hw2];clear hw2;go_wp2_with fail
    refine(iE _ b s p good v HL.out.rd (λ_=>rfl)).mono ?_;rintro e w3 ⟨f3,p3,rfl,hk3,h3,hg3,hs3⟩;have Ar:=hid (HMG.out.step (k:=yZ n ps p) hs3.out);have HP3:Hid (f3.err=0→p≤p3):=hid (λhh=>tu hs3.out hh);have oJ:=hid hk3;have H3:=hid h3;have HG3:=hid hg3;have hl3:=h3.2.1;clear hk3 h3 hg3 hs3 HMG HM;obtain⟨gb,HGB⟩:∃g,Hid (decide (p<p3)=g):=⟨_,hid rfl⟩;rw[HGB.out];go_wp2_with fail
    refine(oq [62] _ b s p3 f3 v H3.out (by decide) (by simp)).mono ?_;rintro e w4 ⟨x4,rfl,hk4,p4,h4,hx1,hx2⟩;have uY:=hid (oJ.out.trans hk4);have H4:=hid h4;clear hk4 h4;go_upto_if 15 with fail
    go_cut [5] (λjv wx=>∃(j:Int) (jb:Bool) (p4:Nat),jv=.int .i64 j∧((j != 1)=jb)∧Hid (bJ wx b s p4 f3 v)∧Hid (Kept (· = b) wr wx)∧(f3.err=0→p≤p4) ∧
     ((jb=true∧Hid (Mid f0 R f3 ((cO (s.drop p4) p4).then (BK n ps j))))∨(jb=false∧j=1∧p4=p3∧Hid (Mid f0 R f3 (if kG gb (s.drop p3) then .ok (ps,s.drop p3,p3) else BK n ps 1 (s.drop p3,p3))))))
    case first=>
     cases x4 with
     | true=>
      obtain⟨hf3,hm1,rfl⟩:=hx1 rfl;have Lr:Hid (Mid f0 R f3 ((cO (s.drop (p3+1)) (p3+1)).then (BK n ps 2))):=hid (Ar.out.eq (λ_=>by
       show yZ n ps p (s.drop p3,p3)=_
       unfold yZ;rw[if_pos hm1,List.drop_drop]))
      clear hx1 hx2 hm1;go_wp2_with fail
      go_meet
      case rel=>exact⟨2,true,p3+1,rfl,rfl,H4,uY,λhh=>by have:=HP3.out hh;omega,.inl ⟨rfl,Lr⟩⟩
     | false=>
      obtain⟨rfl,hm1⟩:=hx2 rfl;have HN1:=hid hm1;clear hx1 hx2 hm1;go_wp2_with fail
      refine(oq [43] _ b s p4 f3 v H4.out (by decide) (by simp)).mono ?_;rintro e w5 ⟨x5,rfl,hk5,p5,h5,hx1,hx2⟩;have zF:=hid (uY.out.trans hk5);have H5:=hid h5;clear hk5 h5;cases x5 with
      | true=>
       obtain⟨hf3,hm1,rfl⟩:=hx1 rfl;have Lr:Hid (Mid f0 R f3 ((cO (s.drop (p4+1)) (p4+1)).then (BK n ps 3))):=hid (Ar.out.eq (λ_=>by
        show yZ n ps p (s.drop p4,p4)=_
        unfold yZ;rw[if_neg (by simp[HN1.out hf3]),if_pos hm1,List.drop_drop]))
       clear hx1 hx2 hm1;go_wp2_with fail
       go_meet
       case rel=>exact⟨3,true,p4+1,rfl,rfl,H5,zF,λhh=>by have:=HP3.out hh;omega,.inl ⟨rfl,Lr⟩⟩
      | false=>
       obtain⟨rfl,hm1⟩:=hx2 rfl;have Lr:Hid (Mid f0 R f3 (if kG gb (s.drop p5) then .ok (ps,s.drop p5,p5) else BK n ps 1 (s.drop p5,p5))):=hid (Ar.out.eq (λhh=>by
        show yZ n ps p (s.drop p5,p5)=_
        unfold yZ;rw[if_neg (by simp[HN1.out hh]),if_neg (by simp[hm1 hh]),←HGB.out]))
       clear hx1 hx2 hm1;go_wp2_with fail
       go_meet
       case rel=>exact⟨1,false,p5,rfl,rfl,H5,zF,HP3.out,.inr ⟨rfl,rfl,rfl,Lr⟩⟩
    case rest=>
     obtain⟨j,jb,p4,rfl,hjb,H4,uY,OD,hj⟩:=hcut;clear Ar oJ H3 HP3;have hl4:=H4.out.2.1;have c0:=H4.out.c0;have c1:=H4.out.c1;obtain⟨w4,hw4⟩:∃x,x=wc:=⟨_,rfl⟩;subst hw4;go_upto_if 19 with fail
     go_cut [] (λwx=>∃(f5:iL) (p5:Nat),Hid (bJ wx b s p5 f5 v)∧Hid (Kept (· = b) wr wx)∧(f5.err=0→f5=good)∧(f5.err=0→p≤p5)∧Hid (Mid f0 R f5 (BK n ps j (s.drop p5,p5))))
     case first=>
      rcases hj with⟨rfl,Lr⟩ | ⟨rfl,rfl,rfl,Lr⟩
      ·go_wp2_with fail
       refine(iE _ b s p4 f3 v H4.out HG3.out).mono ?_;rintro e w5 ⟨f5,p5,rfl,hk5,h5,hg5,hs5⟩;have Dh:=hid (Lr.out.step (k:=BK n ps j) hs5.out);have zF:=hid (uY.out.trans hk5);have H5:=hid h5;have xu:f5.err=0→p≤p5:=λhh=>by
        by_cases h3:f3.err=0
        ·obtain rfl:=HG3.out h3;have:=tu hs5.out hh;have:=OD h3;omega
        rw[hs5.out.1 h3]at hh;exact absurd hh h3
       clear hk5 h5 hs5 c0 c1;go_wp2_with fail
       go_meet
       case rel=>exact⟨f5,p5,H5,zF,hg5,xu,Dh⟩
      go_upto_region 11 with fail
      go_cut [43] (λx wx=>∃se:Bool,x=.bool se∧Qt w4 wx∧(f3.err=0→kG gb (s.drop p4)=se))
      case first=>
       cases gb with
       | false=>
        go_wp2_with fail
        go_quiet (fail)
        go_wp2_with fail
        go_meet
        case rel=>exact⟨true,rfl,⟨_,rfl⟩,λ_=>rfl⟩
       | true=>
        by_cases hlt:p4<s.length
        ·have e0:decide (s.length≤p4)=false:=by simp;omega
         have hne:(s.drop p4).isEmpty=false:=by
          cases hx:s.drop p4 with
          | nil=>have:=congrArg List.length hx;rw[List.length_drop]at this;simp at this;omega
          | cons a t=>rfl
         obtain⟨X,HX0,HXn,HX⟩:=abH w4 b s p4 f3 v H4.out;obtain⟨e1,he1⟩:∃x,X ⟨#[44]⟩=x:=⟨_,rfl⟩;obtain⟨e2,he2⟩:∃x,X ⟨#[123]⟩=x:=⟨_,rfl⟩;have HS:Hid (f3.err=0→kG true (s.drop p4)=(e1||e2)):=hid (λhh=>by
          have h1:=HX.out hh ⟨#[44]⟩;have h2:=HX.out hh ⟨#[123]⟩;rw[he1]at h1;rw[he2]at h2;have h1':e1=([44]:B).isPrefixOf (s.drop p4):=h1;have h2':e2=([123]:B).isPrefixOf (s.drop p4):=h2;unfold kG;rw[hne,←h1',←h2'];rfl)
         clear hne HX;cases e1<;>cases e2
         all_goals
          go_wp2_with fail
          go_quiet ((go_at_call 112;first | exact Calls.quiet_of (HX0.out _ (by decide)) | exact Calls.quiet_of (HXn.out _ _ (by decide))))
          go_wp2_with fail
          go_meet
          case rel=>exact⟨_,rfl,⟨_,rfl⟩,λhh=>(HS.out hh).trans (by first | rfl | simp)⟩
        have e0:decide (s.length≤p4)=true:=by simp;omega
        have HS:Hid (kG true (s.drop p4)=true):=hid (by rw[List.drop_eq_nil_of_le (by omega)];rfl);go_wp2_with fail
        go_quiet (fail)
        go_wp2_with fail
        go_meet
        case rel=>exact⟨true,rfl,⟨_,rfl⟩,λ_=>HS.out⟩
      case rest=>
       obtain⟨se,rfl,hq5,hse⟩:=hcut;have zF:=hid (uY.out.trans (hq5.kept _));have H5:=hid (H4.out.quiet hq5);clear hq5 c0 c1;cases se with
       | true=>
        have Dh:Hid (Mid f0 R f3 (.ok (ps,s.drop p4,p4))):=hid (Lr.out.eq (λhh=>by rw[if_pos (hse hh)]));go_wp2_with fail
        go_meet
        case rel=>exact⟨ps,vs,f3,p4,hid (HL.out.step hbw zF.out H5.out HG3.out),Dh⟩
       | false=>
        have Dh:Hid (Mid f0 R f3 (BK n ps 1 (s.drop p4,p4))):=hid (Lr.out.eq (λhh=>by rw[if_neg (by simp[hse hh])]));go_wp2_with fail
        go_meet
        case rel=>exact⟨f3,p4,H5,zF,HG3.out,OD,Dh⟩
     case rest=>
      obtain⟨f5,p5,H5,zF,hg5,xu,Dh⟩:=hcut;clear H4 uY hj OD c0 c1 HGB hjb HG3;have c1:=H5.out.c1;have HG5:=hid hg5;clear hg5;obtain⟨w5,hw5⟩:∃x,x=wc:=⟨_,rfl⟩;subst hw5;go_upto_region 12 with fail
      go_cut [50] (λc wx=>wx=w5∧∃cc:Bool,c=.bool cc∧(cc=true→f5.err=0∧ps.length=6)∧(cc=false→f5.err=0→ps.length<6))
      case first=>
       by_cases hf:f5.err=0
       ·have hfe:((f5.err:Int)==0)=true:=by simp[hf]
        by_cases h6:ps.length=6
        ·have h6I:(6:Int)≤(ps.length:Int):=by omega
         have H6:=hid h6;clear h6;go_wp2_with fail
         refine(bK true _ b s p5 f5 v H5.out hfe).mono ?_;rintro e Xb ⟨rfl,rfl⟩;go_wp2_with fail
         go_meet
         case rel=>exact⟨rfl,true,by first | rfl | (simp;omega),λ_=>⟨hf,H6.out⟩,λhh=>by cases hh⟩
        have h6I:¬(6:Int)≤(ps.length:Int):=by omega
        go_wp2_with fail
        refine(bK true _ b s p5 f5 v H5.out hfe).mono ?_;rintro e Xb ⟨rfl,rfl⟩;go_wp2_with fail
        go_meet
        case rel=>exact⟨rfl,false,by first | rfl | (simp;omega),λhh=>(by cases hh),λ_ _=>by omega⟩
       have hfe:((f5.err:Int)==0)=false:=by simp;omega
       go_wp2_with fail
       refine(bK false _ b s p5 f5 v H5.out hfe).mono ?_;rintro e Xb ⟨rfl,rfl⟩;go_wp2_with fail
       go_meet
       case rel=>exact⟨rfl,false,rfl,λhh=>(by cases hh),λ_ hh=>absurd hh hf⟩
      case rest=>
       obtain⟨rfl,cc,rfl,BH,yJ⟩:=hcut;go_upto_if 50 with fail
       go_cut [] (λwx=>∃f6,Hid (bJ wx b s p5 f6 v)∧Hid (Kept (· = b) wr wx)∧(f6.err=0→f6=good)∧Hid (Mid f0 R f6 ((eU (s.drop p5) p5).then (Xc n ps j)))∧(f6.err=0→ps.length<6∧p≤p5))
       case first=>
        cases cc with
        | true=>
         obtain⟨hf,h6⟩:=BH rfl;have HK:Hid (BK n ps j (s.drop p5,p5)=.bad ⟨5,p5⟩):=hid (by unfold BK;rw[if_pos h6]);clear BH yJ h6;go_wp2_with fail
         refine(dP 5 p5 _ b s p5 f5 v H5.out hf).mono ?_;rintro e Xb ⟨rfl,BI,h13⟩;have alV:=hid (zF.out.trans BI);have H13:=hid h13;clear BI h13;go_wp2_with fail
         go_meet
         case rel=>exact⟨⟨5,p5⟩,H13,alV,λhh=>absurd hh (by simp),hid (Dh.out.kill hf HK.out (by simp)),λhh=>absurd hh (by simp)⟩
        | false=>
         have Ls:Hid (Mid f0 R f5 ((eU (s.drop p5) p5).then (Xc n ps j))):=hid (Dh.out.eq (λhf=>by
          have:=yJ rfl hf;unfold BK;rw[if_neg (by omega)]))
         have h66:f5.err=0→ps.length<6∧p≤p5:=λhh=>⟨yJ rfl hh,xu hh⟩
         clear BH yJ;go_wp2_with fail
         go_meet
         case rel=>exact⟨f5,H5,zF,HG5.out,Ls,h66⟩
       case rest=>
        obtain⟨f6,H6,Fh,Dy,Ls,h66⟩:=hcut;obtain⟨w6,hw6⟩:∃x,x=wc:=⟨_,rfl⟩;subst hw6;clear H5 zF HG5 Dh BH yJ c1 xu;by_cases hf:f6.err=0
        ·obtain rfl:=Dy hf;obtain⟨h67,h68⟩:=h66 rfl;clear hf Dy h66;have OH:=hid (HL.out.step hbw Fh.out H6.out (λ_=>rfl));have hw6:w.heap.size≤w6.heap.size:=OH.out.kept.size;go_wp2_with fail
         refine(bK true _ b s p5 good v H6.out rfl).mono ?_;rintro e w7 ⟨rfl,hw7⟩;rw[hw7];clear hw7;go_wp2_with fail
         refine(Ie _ b s p5 good v H6.out (λ_=>rfl)).mono ?_;rintro e w8 ⟨l8,ts8,f8,p8,rfl,Jp,hs8⟩;have HM8:Hid (Mid f0 R f8 (jZ n (ps++[⟨j,ts8⟩]) (s.drop p8) p8)):=hid (Ls.out.step (k:=Xc n ps j) hs8.out);have alX:f8.err=0→p5<p8:=λhh=>by
          rcases hs8.out.2 rfl with⟨_,h⟩ | ⟨h,_⟩
          ·exact oM.2 _ _ _ _ _ h
          exact absurd hh h
         obtain⟨lo8,lc8,rfl⟩:=zU Jp.own;have HT8:=hid Jp.tests;have HL8:=hid (OH.out.step hbw Jp.kept Jp.rd Jp.al);have hw8:w6.heap.size≤w8.heap.size:=Jp.kept.size;have aqn:=Jp.rd.2.1;have agk:=HL8.out.own.own;have Xd:∀k,(Value.slice lo ps.length lc).ownBlock=some k→k<w6.heap.size:=λk hk=>(OH.out.own.own.lt k hk).2
         have abK:∀k,(Value.slice lo ps.length lc).ownBlock=some k→w.heap.size≤k:=λk hk=>(agk.lt k hk).1
         clear Jp hs8 Ls HL;go_wp2_with (at_builtin;refine wpList_append_lies _ rfl _ _ _ rfl w.heap.size 156 i0 _ 2 32 Tryz.underlying78 hi0 hz0 hz1 hz2 rfl (by omega) _ ps.length _ (by rfl) (agk.alloc _) ⟨w8.heap.size,0,none⟩ 1 1 (kZ ⟨j,ts8⟩ (.slice lo8 ts8.length lc8)) (by rfl) (by rfl) (World.news_of_block (cs:=(kZ ⟨j,ts8⟩ (.slice lo8 ts8.length lc8)).toArray) (t:=156) (fr:=(0,0)) (heap_alloc_new w8 _)) (by simp[kZ,Value.oneCell']) (by omega) (by unfold maxLen;omega) (by omega) (by simp;omega) (w8.heap.size+1) (by simp) ?_;intro gg cap EP jG dG nY F9)
         have BJ:Kept (λk=>(Value.slice lo ps.length lc).ownBlock=some k) w8 EP:=((Kept.refl _ w8).alloc _).grown ⟨dG.os,dG.tape,dG.output,dG.size,dG.block⟩ (λk hk=>.inl hk);have abG:Hid (zY w EP b s v (.slice (some ⟨gg,0,none⟩) (ps.length+1) cap) (ps++[⟨j,ts8⟩]) (vs++[.slice lo8 ts8.length lc8]) f8 p8):=hid ⟨HL8.out.rd.kept BJ (λhs=>by have:=abK b hs;omega),
          HL8.out.kept.trans' BJ (λk hk hs=>by have:=abK k hs;omega),HL8.out.al,
          HL8.out.own.push kN (HT8.out.kept (S:=λ_=>False) (Kept.refl _ _) (λk _ hs=>hs.elim) (λk _ hx=>by
           rcases hx with hx | hx
           ·show k<w6.heap.size;omega
           exact Xd k hx)) jG dG (by rcases nY with h | h;exact .inl h;exact .inr (by omega)),by simp;omega⟩
         clear BJ jG dG nY agk Xd abK;go_wp2_with fail
         by_cases hf8:f8.err=0
         ·have hlt:=alX hf8;go_roundg (s.length-p8+1)
          case measure=>omega
          case rel=>exact⟨_,_,f8,p8,n,abG,HM8,λ_=>⟨by omega,rfl⟩⟩
         go_roundg 0
         case measure=>omega
         case rel=>exact⟨_,_,f8,p8,n,abG,HM8,λhh=>absurd hh hf8⟩
        have hf':((f6.err:Int)==0)=false:=by simp;omega
        have OH:=hid (HL.out.step hbw Fh.out H6.out Dy);go_wp2_with fail
        refine(bK false _ b s p5 f6 v H6.out hf').mono ?_;rintro e w7 ⟨rfl,hw7⟩;rw[hw7];clear hw7;go_wp2_with fail
        go_roundg 0
        case measure=>omega
        case rel=>exact⟨ps,vs,f6,p5,n,OH,hid (Ls.out.dead hf),λhh=>absurd hh hf⟩
   have hf':((f.err:Int)==0)=false:=by simp;omega
   go_wp2_with fail
   refine(bK false _ b s p f v HL.out.rd hf').mono ?_;rintro e w5 ⟨rfl,rfl⟩;go_wp2_with fail
   go_meet
   case rel=>exact⟨ps,vs,f,p,HL,hid (HM.out.dead hf)⟩
end Go.Proofs.YtplbdlgmjehckacGreatDoor

