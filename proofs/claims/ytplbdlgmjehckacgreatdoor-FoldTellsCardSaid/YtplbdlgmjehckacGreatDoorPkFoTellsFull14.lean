/-
 Lemmas for the claims of this seat: the program's functions walked, and plain laws.
-/
import Derived.Test.YtplbdlgmjehckacGreatDoorPkFoTellsFull13
import Derived.Test.YtplbdlgmjehckacGreatDoorPkFoTellsFull4
set_option maxRecDepth 100000
set_option maxHeartbeats 3200000
namespace Go.Proofs.YtplbdlgmjehckacGreatDoor
open Go.Lib (hid)
open Go.RowKit
set_option linter.unusedVariables false
set_option linter.unusedSimpArgs false
def WL(e:bT):Value:=.agg #[.int .i64 (e.lo:Int),.int .i64 (e.hi:Int),.string (str e.text)]
def Nq(w:World)(r:Option bT)(e:Ending)(w':World):Prop:=
 (match r with
  | none=>e=.returned (.tuple #[.agg #[.int .i64 0,.int .i64 0,.string ⟨#[]⟩],.bool false])
  | some x=>e=.returned (.tuple #[WL x,.bool true]))∧Kept (λ_=>False) w w'
def lC(al:List bf)(p:Int×Int)(i:Nat):Int×Int:=(al.take i).foldl (λp a=>if a.name=aj then (a.lo,a.hi) else p) p
theorem Gj{al:List bf}{p:Int×Int}{i:Nat}{a:bf}(h:al[i]?=some a):lC al p (i+1)=if a.name=aj then (a.lo,a.hi) else lC al p i:=by
 unfold lC;rw[List.take_add_one,h,Option.toList_some,List.foldl_append];rfl
theorem X7{al:List bf}{p:Int×Int}(hp:0≤p.1∧0≤p.2)(ha:∀a∈al,0≤a.lo∧0≤a.hi):∀i,0≤(lC al p i).1∧0≤(lC al p i).2:=by
 intro i
 induction i with
 | zero=>exact hp
 | succ i ih=>
  cases hx:al[i]? with
  | none=>
   unfold lC at ih ⊢;rw[List.take_add_one,hx];simpa using ih
  | some a=>
   rw[Gj hx];split
   ·exact ha a (List.mem_of_getElem? hx)
   exact ih
theorem Nr(ns:List ak)(k:Nat)(n:ak)(text:B)(hn:ns[k]?=some n)(hlen:ns.length≤1048576)(htx:text.length≤1048576)(hne:0≤n.bG)(hat:∀a∈n.attrs,0≤a.lo∧0≤a.hi)(w:World)(v:Value)(hv:aX w v ns):
  Calls Tryz.prog 47 #[v,.int .i64 (k:Int),.string (str text)] w (Nq w (wO n text)):=by
 obtain⟨R,HR⟩:∃R,Hid (wO n text=R):=⟨_,rfl⟩;rw[HR.out];obtain⟨na,qj,rfl,EM,pJ⟩:=hv.form;unfold maxLen at pJ;have hkl:k<ns.length:=(List.getElem?_eq_some_iff.1 hn).1;obtain⟨nb,qY,av,rfl,g0,g1,g2,g3,g4,g5,hav⟩:=hv.at hn;have HV:=hid hv;have Ec:=hid hav;have HAT:=hid hat;clear hv hav hat hn;go_enter Tryz.func47,Tryz.ntmps47
 go_upto_region 1 with fail
 obtain⟨wa,gX⟩:∃x,Hid (w.alloc (.cells #[.int .i64 0,.int .i64 0,.string ⟨#[]⟩] 94 (0,0))=x):=⟨_,rfl⟩;have hka:Kept (λ_=>False) w wa:=by rw[←gX.out];exact(Kept.refl _ w).alloc _
 have hea:wa.heap[w.heap.size]?=some (.cells #[.int .i64 0,.int .i64 0,.string ⟨#[]⟩] 94 (0,0)):=by rw[←gX.out];exact aI w _
 have hsa:wa.heap.size=w.heap.size+1:=by rw[←gX.out];simp
 have CB:=hid hka;have HEA:=hid hea;have n3:wa.cell? ⟨nb,qY+k*6+3,none⟩=some (.int .i64 n.bG):=hka.cell id g3;have n3o:∀o,(wa.alloc o).cell? ⟨nb,qY+k*6+3,none⟩=some (.int .i64 n.bG):=λo=>dX n3 o
 rw[gX.out];clear hka hea;go_region
 obtain⟨wb,jo⟩:∃x,Hid ((wa.alloc (.cells #[.int .i64 n.bG,.int .i64 n.bG] 40 (0,0))).drew=x):=⟨_,rfl⟩;have hkb:Kept (λ_=>False) wa wb:=by rw[←jo.out];exact((Kept.refl _ wa).alloc _).drew
 have hsb:wb.heap[w.heap.size+1]?=some (.cells #[.int .i64 n.bG,.int .i64 n.bG] 40 (0,0)):=by
  rw[←jo.out,←hsa];exact aI wa _
 have HKB:=hid (CB.out.trans hkb);have HEB:=hid (hkb.heap id HEA.out);have HSB:=hid hsb;have b0:=HKB.out.cell id g0;have b1:=HKB.out.cell id g1;have b2:=HKB.out.cell id g2;have b3:=HKB.out.cell id g3;have b4:=HKB.out.cell id g4;have b5:=HKB.out.cell id g5;rw[jo.out];have ahH:Hid (bZ wb av n.attrs):=hid (Ec.out.below HKB.out.below);obtain⟨aa,mG,rfl,ML,wI⟩:=Ec.out.form;unfold maxLen at wI;clear hkb hsb n3 n3o g0 g1 g2 g3 g4 g5;obtain⟨G,HG⟩:∃G,Hid (gJ n.attrs aj=G):=⟨_,rfl⟩;obtain⟨old,had⟩:=G;have HCG:Hid (Calls Tryz.prog 46 #[.agg #[.string (str n.name),.int .i64 n.parent,.slice aa n.attrs.length mG,.int .i64 n.bG,.int .i64 n.qE,.int .i64 n.inT],.string (str aj)] wb λe w'=>e=.returned (.tuple #[.string (str old),.bool had])∧Below wb.heap.size wb w'):=hid (by
  have:=get_any wb _ n aj ahH.out;unfold MJ at this;rw[HG.out]at this;exact this)
 go_wp2_with fail
 refine HCG.out.mono ?_;rintro e w2 ⟨rfl,hb2⟩;have hk2:Kept (λ_=>False) wb w2:=Kept.of_below hb2;have iO:=hid (HKB.out.trans hk2);have d2:=hk2.cell id b2;have HE2:=hid (hk2.heap id HEB.out);have HS2:=hid (hk2.heap id HSB.out);have afM:Hid (bZ w2 (.slice aa n.attrs.length mG) n.attrs):=hid (Ec.out.below iO.out.below);clear b0 b1 b2 b3 b4 b5 hk2 hb2;obtain⟨al,vw⟩:∃al,Hid (n.attrs=al):=⟨_,rfl⟩;rw[vw.out]at d2 afM ML;rw[vw.out];obtain⟨p0,X8⟩:∃p:Int×Int,Hid ((n.bG,n.bG)=p):=⟨_,rfl⟩;have akY:Hid (∀i,0≤(lC al p0 i).1∧0≤(lC al p0 i).2):=hid (X7 (by rw[←X8.out];exact⟨hne,hne⟩) (by rw[←vw.out];exact HAT.out));have akZ:Hid (bZ w (.slice aa al.length mG) al):=hid (by rw[←vw.out];exact Ec.out);clear Ec ahH HCG;go_upto_block 0 with fail
 go_cut [] (λwx=>Hid (Kept (· = w.heap.size+1) w2 wx)∧Hid (wx.heap[w.heap.size+1]?=some (.cells #[.int .i64 (lC al p0 al.length).1,.int .i64 (lC al p0 al.length).2] 40 (0,0))))
 case first=>
  go_wp2_with fail
  go_loopw [38] (λc wr=>∃i:Nat,i≤al.length∧c=.int .i64 (i:Int)∧Hid (Kept (· = w.heap.size+1) w2 wr)∧Hid (wr.heap[w.heap.size+1]?=some (.cells #[.int .i64 (lC al p0 i).1,.int .i64 (lC al p0 i).2] 40 (0,0)))) (λc _=>al.length-(intOf c).toNat)
  case atStart=>exact⟨0,by omega,rfl,hid (Kept.refl _ _),hid (by rw[show lC al p0 0=p0 from rfl,←X8.out];exact HS2.out)⟩
  case round=>
   obtain⟨i,hi,rfl,HK,HS⟩:=hrel;obtain⟨bU,hwr0⟩:∃x,x=wr:=⟨_,rfl⟩;subst hwr0;by_cases hlt:i<al.length
   ·have hx:=List.getElem?_eq_getElem hlt;generalize hgx:al[i]=x at hx;clear hgx;have HST:=hid (Gj (p:=p0) hx);have qm:Hid (Kept (λ_=>False) w bU):=hid (iO.out.trans' HK.out (λq hq e=>by omega));obtain⟨b,off,rfl,e0,e1,e2,e3⟩:=bZ.at (akZ.out.below qm.out.below) hx;have s0:∀o,(bU.alloc o).cell? ⟨w.heap.size+1,0,none⟩=some (.int .i64 (lC al p0 i).1):=λo=>dX (ah HS.out 0 rfl) o
    have s1:∀o,(bU.alloc o).cell? ⟨w.heap.size+1,1,none⟩=some (.int .i64 (lC al p0 i).2):=λo=>dX (ah HS.out 1 rfl) o
    have f0:∀o,(bU.alloc o).frozen? ⟨w.heap.size+1,0,none⟩=false:=λo=>jC (by have:=gW HS.out;exact this) (aF HS.out 0) o
    have f1:∀o,(bU.alloc o).frozen? ⟨w.heap.size+1,1,none⟩=false:=λo=>jC (by have:=gW HS.out;exact this) (aF HS.out 1) o
    have HKo:∀o,Hid (Kept (· = w.heap.size+1) w2 (bU.alloc o)):=λo=>hid (HK.out.alloc o)
    have HSo:∀o,Hid ((bU.alloc o).heap[w.heap.size+1]?=some (.cells #[.int .i64 (lC al p0 i).1,.int .i64 (lC al p0 i).2] 40 (0,0))):=λo=>hid (iw HS.out o)
    clear hx;by_cases hc:x.name=aj
    ·have hcb:(x.name==aj)=true:=by simpa using hc
     have Di:Hid (lC al p0 (i+1)=(x.lo,x.hi)):=hid (by rw[HST.out,if_pos hc]);unfold aj at hcb;clear hc;go_wp2_with fail
     go_roundw
     case measure=>simp[intOf];omega
     case rel=>
      refine⟨i+1,by omega,by go_num,hid (((HKo _).out.setCell (.inl rfl) _).setCell (.inl rfl) _),hid ?_⟩;rw[Di.out];have:=aW (aW (HSo (.cells #[.string (str x.name),.string (str x.val),.int .i64 x.lo,.int .i64 x.hi] 47 (0,0))).out 0 (.int .i64 x.lo)) 1 (.int .i64 x.hi);exact this
    have hcb:(x.name==aj)=false:=by simpa using hc
    have Di:Hid (lC al p0 (i+1)=lC al p0 i):=hid (by rw[HST.out,if_neg hc]);unfold aj at hcb;clear hc;go_wp2_with fail
    go_roundw
    case measure=>simp[intOf];omega
    case rel=>exact⟨i+1,by omega,by go_num,HKo _,hid (by rw[Di.out];exact(HSo _).out)⟩
   obtain rfl:i=al.length:=by omega
   go_wp2_with fail
   go_meet
   case rel=>exact⟨HK,HS⟩
 case rest=>
  obtain⟨HK,HS⟩:=hcut;have qm:Hid (Kept (λ_=>False) w wc):=hid (iO.out.trans' HK.out (λq hq e=>by omega));have hp:=akY.out al.length;obtain⟨lo,hlo⟩:∃lo:Nat,(lC al p0 al.length).1=lo:=⟨_,(Int.toNat_of_nonneg hp.1).symm⟩;obtain⟨hi,hhi⟩:∃hi:Nat,(lC al p0 al.length).2=hi:=⟨_,(Int.toNat_of_nonneg hp.2).symm⟩;have HRR:Hid ((if had=true∧old=text∨had=false∧text=[] then none else some (⟨lo,hi,if text=[] then [] else uH++text++[34]⟩:bT))=R):=hid (by
   rw[←HR.out];have ha:P7 n=lC al p0 al.length:=by
    unfold P7 lC;rw[List.take_length,vw.out,X8.out]
   unfold wO;rw[ha,HG.out,hlo,hhi,Int.toNat_natCast,Int.toNat_natCast])
  rw[hlo,hhi]at HS;have HE:Hid (wc.heap[w.heap.size]?=some (.cells #[.int .i64 0,.int .i64 0,.string ⟨#[]⟩] 94 (0,0))):=hid (HK.out.heap (by omega) HE2.out);have s0:wc.cell? ⟨w.heap.size+1,0,none⟩=some (.int .i64 (lo:Int)):=ah HS.out 0 rfl;have s1:wc.cell? ⟨w.heap.size+1,1,none⟩=some (.int .i64 (hi:Int)):=ah HS.out 1 rfl;have t0:wc.cell? ⟨w.heap.size,0,none⟩=some (.int .i64 0):=ah HE.out 0 rfl;have t1:wc.cell? ⟨w.heap.size,1,none⟩=some (.int .i64 0):=ah HE.out 1 rfl;have t2:wc.cell? ⟨w.heap.size,2,none⟩=some (.string ⟨#[]⟩):=ah HE.out 2 rfl;have f0:wc.frozen? ⟨w.heap.size,0,none⟩=false:=aF HE.out 0;have f1:wc.frozen? ⟨w.heap.size,1,none⟩=false:=aF HE.out 1;have f2:wc.frozen? ⟨w.heap.size,2,none⟩=false:=aF HE.out 2;have Jz:Hid (∀x y z,(((wc.setCell ⟨w.heap.size,0,none⟩ x).setCell ⟨w.heap.size,1,none⟩ y).setCell ⟨w.heap.size,2,none⟩ z).heap[w.heap.size]?=some (.cells #[x,y,z] 94 (0,0))∧Kept (λ_=>False) w (((wc.setCell ⟨w.heap.size,0,none⟩ x).setCell ⟨w.heap.size,1,none⟩ y).setCell ⟨w.heap.size,2,none⟩ z)):=hid (λx y z=>by
   refine⟨?_,((qm.out.setCell (.inr (Nat.le_refl _)) _).setCell (.inr (Nat.le_refl _)) _).setCell (.inr (Nat.le_refl _)) _⟩;have:=aW (aW (aW HE.out 0 x) 1 y) 2 z;exact this)
  have fin:∀(x y z:Value) (q:Bool) (wf:World),wf=(((wc.setCell ⟨w.heap.size,0,none⟩ x).setCell ⟨w.heap.size,1,none⟩ y).setCell ⟨w.heap.size,2,none⟩ z)→wf.cell? ⟨w.heap.size,0,none⟩=some x∧wf.cell? ⟨w.heap.size,1,none⟩=some y∧wf.cell? ⟨w.heap.size,2,none⟩=some z:=λx y z q wf e=>by
   have:=(Jz.out x y z).1;rw[←e]at this;exact⟨ah this 0 rfl,ah this 1 rfl,ah this 2 rfl⟩
  have P8:=hid fin;clear fin;have hnone:R=none→Nq w R (.returned (.tuple #[.agg #[.int .i64 0,.int .i64 0,.string ⟨#[]⟩],.bool false])) (((wc.setCell ⟨w.heap.size,0,none⟩ (.int .i64 0)).setCell ⟨w.heap.size,1,none⟩ (.int .i64 0)).setCell ⟨w.heap.size,2,none⟩ (.string ⟨#[]⟩)):=λh=>by
   rw[h];exact⟨rfl,(Jz.out _ _ _).2⟩
  have hsome:∀tx:B,R=some ⟨lo,hi,tx⟩→Nq w R (.returned (.tuple #[.agg #[.int .i64 (lo:Int),.int .i64 (hi:Int),.string (str tx)],.bool true])) (((wc.setCell ⟨w.heap.size,0,none⟩ (.int .i64 (lo:Int))).setCell ⟨w.heap.size,1,none⟩ (.int .i64 (hi:Int))).setCell ⟨w.heap.size,2,none⟩ (.string (str tx))):=λtx h=>by
   rw[h];exact⟨rfl,(Jz.out _ _ _).2⟩
  have aeU:=hid hnone;have aat:=hid hsome;have ak0:(9223372036854775807<8+text.length)=False:=by simp;omega
  have anu:(9223372036854775807<8+text.length+1)=False:=by simp;omega
  clear hnone hsome;cases had with
  | true=>
   cases hot:(old==text)with
   | true=>
    have hr:Hid (R=none):=hid (by rw[←HRR.out,if_pos (.inl ⟨rfl,by simpa using hot⟩)]);go_wp2_with fail
    obtain⟨q0,q1,q2⟩:=P8.out (.int .i64 0) (.int .i64 0) (.string ⟨#[]⟩) true _ rfl;refine bodyPost_ret (v:=.tuple #[.agg #[.int .i64 0,.int .i64 0,.string ⟨#[]⟩],.bool false]) (by simp[results,Tryz.results47,go_sem,q0,q1,q2]) rfl ?_;exact aeU.out hr.out
   | false=>
    cases hte:text.isEmpty with
    | true=>
     obtain rfl:text=[]:=by simpa using hte
     have hr:Hid (R=some ⟨lo,hi,[]⟩):=hid (by
      rw[←HRR.out,if_neg (by simp at hot ⊢;exact hot),if_pos rfl])
     go_wp2_with fail
     obtain⟨q0,q1,q2⟩:=P8.out (.int .i64 (lo:Int)) (.int .i64 (hi:Int)) (.string ⟨#[]⟩) true _ rfl;refine bodyPost_ret (v:=.tuple #[.agg #[.int .i64 (lo:Int),.int .i64 (hi:Int),(.string ⟨#[]⟩)],.bool true]) (by simp[results,Tryz.results47,go_sem,q0,q1,q2]) rfl ?_;exact aat.out _ hr.out
    | false=>
     have ak1:(text==[])=false:=by cases text with
      | nil=>cases hte
      | cons c t=>rfl
     have hne2:¬text=[]:=λh=>by rw[h]at hte;cases hte
     have hr:Hid (R=some ⟨lo,hi,32::115::116::121::108::101::61::34::(text++[34])⟩):=hid (by
      rw[←HRR.out,if_neg (by simp at hot ⊢;exact hot),if_neg hne2];rfl)
     clear hte hne2;go_wp2_with fail
     obtain⟨q0,q1,q2⟩:=P8.out (.int .i64 (lo:Int)) (.int .i64 (hi:Int)) (.string (str (32::115::116::121::108::101::61::34::(text++[34])))) true _ rfl;have HF:=aat.out _ hr.out
     revert q0 q1 q2 HF
     generalize (((wc.setCell ⟨w.heap.size,0,none⟩ (.int .i64 (lo:Int))).setCell ⟨w.heap.size,1,none⟩ (.int .i64 (hi:Int))).setCell ⟨w.heap.size,2,none⟩ (.string (str (32::115::116::121::108::101::61::34::(text++[34])))))=wf;generalize str (32::115::116::121::108::101::61::34::(text++[34]))=tx;intro q0 q1 q2 HF;refine bodyPost_ret (v:=.tuple #[.agg #[.int .i64 (lo:Int),.int .i64 (hi:Int),.string tx],.bool true]) (by simp[results,Tryz.results47,go_sem,q0,q1,q2]) rfl ?_;exact HF
  | false=>
   cases hte:text.isEmpty with
   | true=>
    obtain rfl:text=[]:=by simpa using hte
    have hr:Hid (R=none):=hid (by rw[←HRR.out,if_pos (.inr ⟨rfl,rfl⟩)]);go_wp2_with fail
    obtain⟨q0,q1,q2⟩:=P8.out (.int .i64 0) (.int .i64 0) (.string ⟨#[]⟩) true _ rfl;refine bodyPost_ret (v:=.tuple #[.agg #[.int .i64 0,.int .i64 0,.string ⟨#[]⟩],.bool false]) (by simp[results,Tryz.results47,go_sem,q0,q1,q2]) rfl ?_;exact aeU.out hr.out
   | false=>
    have ak1:(text==[])=false:=by cases text with
     | nil=>cases hte
     | cons c t=>rfl
    have hne2:¬text=[]:=λh=>by rw[h]at hte;cases hte
    have hr:Hid (R=some ⟨lo,hi,32::115::116::121::108::101::61::34::(text++[34])⟩):=hid (by
     rw[←HRR.out,if_neg (by simp;exact hne2),if_neg hne2];rfl)
    clear hte hne2;go_wp2_with fail
    obtain⟨q0,q1,q2⟩:=P8.out (.int .i64 (lo:Int)) (.int .i64 (hi:Int)) (.string (str (32::115::116::121::108::101::61::34::(text++[34])))) true _ rfl;have HF:=aat.out _ hr.out
    revert q0 q1 q2 HF
    generalize (((wc.setCell ⟨w.heap.size,0,none⟩ (.int .i64 (lo:Int))).setCell ⟨w.heap.size,1,none⟩ (.int .i64 (hi:Int))).setCell ⟨w.heap.size,2,none⟩ (.string (str (32::115::116::121::108::101::61::34::(text++[34])))))=wf;generalize str (32::115::116::121::108::101::61::34::(text++[34]))=tx;intro q0 q1 q2 HF;refine bodyPost_ret (v:=.tuple #[.agg #[.int .i64 (lo:Int),.int .i64 (hi:Int),.string tx],.bool true]) (by simp[results,Tryz.results47,go_sem,q0,q1,q2]) rfl ?_;exact HF
structure Uj where
 e:bT
 h:e.lo≤1048576
def iD(x:Uj):List Value:=[.int .i64 (x.e.lo:Int),.int .i64 (x.e.hi:Int),.string (str x.e.text)]
def Ns(x y:Uj):Int:=(x.e.lo:Int)-(y.e.lo:Int)
instance:Inhabited Uj:=⟨⟨⟨0,0,[]⟩,Nat.zero_le _⟩⟩
section
open Go.Shelf Go.Lib Go.Sort
theorem Nu(x y:Uj)(w:World):Calls Tryz.prog 49 #[.agg (iD x).toArray,.agg (iD y).toArray] w λe w'=>e=.returned (.int .i64 (Ns x y))∧∃q os',w'=grow (w.drewN q) os':=by
 have h1:=x.h;have h2:=y.h;show Calls Tryz.prog 49 #[.agg #[.int .i64 (x.e.lo:Int),.int .i64 (x.e.hi:Int),.string (str x.e.text)],.agg #[.int .i64 (y.e.lo:Int),.int .i64 (y.e.hi:Int),.string (str y.e.text)]] w λe w'=>e=.returned (.int .i64 ((x.e.lo:Int)-(y.e.lo:Int)))∧∃q os',w'=grow (w.drewN q) os'
 generalize x.e.lo=a at *;generalize y.e.lo=b at *;generalize x.e.hi=a2;generalize y.e.hi=b2;generalize x.e.text=a3;generalize y.e.text=b3;have hw:IntKind.i64.wrap ((a:Int)-(b:Int))=(a:Int)-(b:Int):=by rw[IntKind.wrap_i64];omega
 go_enter Tryz.func49,Tryz.ntmps49
 go_wp2_with fail
 go_ret
 exact⟨rfl,0,_,by rw[alloc_eq_grow,alloc_eq_grow,grow_grow];rfl⟩
theorem Fe(x y:Uj):ltOf Ns x y=decide (x.e.lo<y.e.lo):=by
 unfold ltOf Ns;by_cases h:x.e.lo<y.e.lo
 ·simp[h];omega
 simp[h];omega
theorem P9:SWO (ltOf Ns) where
 irrefl x:=by rw[Fe];simp
 trans x y z h1 h2:=by rw[Fe]at *;simp at *;omega
 ntrans x y z h1 h2:=by rw[Fe]at *;simp at *;omega
theorem X9(blk off size:Nat)(w:World):CmpLays Tryz.prog 49 #[] iD 3 Ns blk off size w:=λ_ _ _ _ x y=>Nu x y _
theorem JA(blk off cap:Nat)(d:Array Uj)(w:World)(hH:HoldsK iD 3 w blk off d)(hblk:blk<w.heap.size)(hsz:d.size<4611686018427387904):
  Calls Tryz.prog 48 #[.slice (some ⟨blk,off,none⟩) d.size cap,.func (.func 49) #[] #[]] w λe w'=>e=.returned (.tuple #[]) ∧
   ∃d' n os,PermIn 0 d.size d d'∧SortedIn (ltOf Ns) 0 d.size d'∧w'=sortWorldK iD 3 w blk off n d' os:=by
 have eg:∀args w,(callFunc 49 args).run Tryz.prog w=.ok (.enter 49 args) w:=enters_of Tryz.func49 (by kernel_rfl) rfl;have hlim:Lib.bitLen d.size<4611686018427387904:=Nat.lt_of_le_of_lt (Lib.bitLen_le d.size 62 (by omega) (by omega)) (by omega);have hp:=AnyQ.pdqsortCmpFunc_all Tryz.pdq87 3 Tryz.isAgg94 Tryz.sizeOf94 iD (Ns) 49 #[] P9 blk off cap d w eg (X9 blk off d.size w)
  ⟨λ_=>rfl,λx v hv=>by simp[iD]at hv;rcases hv with rfl | rfl | rfl<;>rfl,hH,hblk⟩ (d.size+1) 0 d.size (Lib.bitLen d.size) d w (by omega) rfl (SWK.start hH) (Nat.zero_le _) (Nat.le_refl _) hsz hlim (Or.inl rfl)
 have hs:=pdq_sorts (ltOf Ns) P9 d 0 d.size (Lib.bitLen d.size) true true (Nat.zero_le _) (Nat.le_refl _) (Or.inl rfl);change Calls Tryz.prog 87 _ _ _ at hp;rw[show(((0:Nat)):Int)=0 from rfl]at hp;have hl:=Tryz.bits_Len (d.size:Int) w (by omega) (by omega);rw[Int.toNat_natCast]at hl;have wr:IntKind.u64.wrap (d.size:Int)=d.size:=by simp[IntKind.wrap,IntKind.bits,IntKind.signed];omega
 generalize pdq (ltOf Ns) d 0 d.size (Lib.bitLen d.size) true true=dz at *;clear hH;have HS:=hid hs;clear hs;go_enter Tryz.func48,Tryz.ntmps48
 go_wp2_with (first | (go_at_call 88;refine hl.mono ?_;rintro e w' ⟨rfl,rfl⟩) | (go_at_call 87;refine hp.mono ?_;rintro e w' ⟨rfl,n,os,rfl⟩))
 go_end0
 exact⟨rfl,dz,n,os,HS.out.1,HS.out.2,rfl⟩
theorem JB(p:Option Addr)(cap:Nat)(w:World):
  Calls Tryz.prog 48 #[.slice p 0 cap,.func (.func 49) #[] #[]] w λe w'=>e=.returned (.tuple #[])∧w'=w:=by
 have hp:=λlim W=>AnyF.pdqsortCmpFunc_none Tryz.pdq87 p cap lim (.func (.func 49) #[] #[]) W
 change ∀lim W,Calls Tryz.prog 87 _ _ _ at hp;have hl:=Tryz.bits_Len 0 w (by omega) (by omega);go_enter Tryz.func48,Tryz.ntmps48
 go_wp2_with (first | (go_at_call 88;refine hl.mono ?_;rintro e w' ⟨rfl,rfl⟩) | (go_at_call 87;refine(hp _ _).mono ?_;rintro e w' ⟨rfl,rfl⟩))
 go_end0
 exact⟨rfl,rfl⟩
theorem wP(d:Uj):(iD d).length=3:=rfl
theorem wQ{w:World}{g cap:Nat}{D:List Uj}{cur:Array Value}{t:TypeId}(hh:w.heap[g]?=some (.cells cur t (0,0)))(hr:aH w 3 (.slice (some ⟨g,0,none⟩) D.length cap) (D.map iD)):HoldsK iD 3 w g 0 D.toArray:=by
 intro q hq;rw[size_flatK]at hq;refine⟨?_,aF hh _⟩;have hq':q<D.length*3:=by simpa using hq
 rw[get_flatK _ _ _ q hq];have hd:D[q / 3]?=some (D[q / 3]'(by omega)):=List.getElem?_eq_getElem _;obtain⟨b,o,he,hc⟩:=aH.at hr (k:=q / 3) (r:=iD (D[q / 3]'(by omega))) (by simp[hd]);cases he;have hge:D.toArray[q / 3]! = D[q / 3]'(by omega):=by
  rw[getElem!_pos D.toArray (q / 3) (by simp;omega)];simp
 rw[hge];have hm:q % 3<3:=Nat.mod_lt _ (by omega);have hx:(iD (D[q / 3]'(by omega)))[q % 3]?=some ((iD (D[q / 3]'(by omega)))[q % 3]!):=by
  rw[getElem!_pos _ (q % 3) (by rw[wP];exact hm)];exact List.getElem?_eq_getElem _
 have:=hc (q % 3) _ hx;rw[show 0+q / 3*3+q % 3=0+q from by omega]at this;exact this
theorem Gl{w:World}{g cap:Nat}{d:Array Uj}(h1:d.size≤cap)(h2:cap≤maxLen)(hH:HoldsK iD 3 w g 0 d):aH w 3 (.slice (some ⟨g,0,none⟩) d.size cap) (d.toList.map iD):=by
 refine⟨some ⟨g,0,none⟩,cap,by simp,by simpa using h1,h2,λ_=>⟨g,0,rfl,λi r hr j c hc=>?_⟩⟩;rw[List.getElem?_map,Option.map_eq_some_iff]at hr;obtain⟨x,hx,rfl⟩:=hr;have hj:j<3:=by have:=(List.getElem?_eq_some_iff.1 hc).1;rw[wP]at this;exact this
 have hi:i<d.size:=by have:=(List.getElem?_eq_some_iff.1 hx).1;simpa using this
 have:=(hH (i*3+j) (by rw[size_flatK];omega)).1;rw[get_flatK _ _ _ _ (by omega),show(i*3+j) / 3=i from by omega,show(i*3+j) % 3=j from by omega]at this;have hge:d[i]! = x:=by
  rw[getElem!_pos d i hi];have:=(List.getElem?_eq_some_iff.1 hx).2;simpa using this
 rw[hge]at this;have hcj:(iD x)[j]! = c:=by
  rw[getElem!_pos _ j (by rw[wP];exact hj)];exact(List.getElem?_eq_some_iff.1 hc).2
 rw[hcj]at this;rw[show 0+i*3+j=0+(i*3+j) from by omega];exact this
theorem Qa(enc:Uj→List Value)(k:Nat)(w:World)(g off n:Nat)(d:Array Uj)(os:Array Obj):Kept (· = g) w (sortWorldK enc k w g off n d os):=by
 refine⟨rfl,rfl,rfl,size_sortWorldK_c enc k w g off n d os,λi hi hs=>?_⟩;have hsz:(putRowK enc k (Sort.ahead w n) g off d).heap.size=w.heap.size:=size_putRowK enc k _ g off d;unfold sortWorldK;rw[heap_grow_old _ _ (by rw[hsz];exact hi)];show(w.heap.modify g _)[i]?=_
 rw[Array.getElem?_modify,if_neg (λe=>hs e.symm)]
theorem Qb{w:World}{base n:Nat}{v:Value}{D:List Uj}(hn:n=D.length)(ho:w.ownsRow base 94 3 v n (D.map iD).flatten)(hf:D.length≤1099600000000):
  Calls Tryz.prog 48 #[v,.func (.func 49) #[] #[]] w λe w'=>e=.returned (.tuple #[]) ∧
   ∃D':List Uj,D'.Perm D∧D'.Pairwise (λx y=>x.e.lo≤y.e.lo)∧aH w' 3 v (D'.map iD)∧Kept (λq=>v.ownBlock=some q) w w':=by
 subst hn;have hrows:=aS (by intro r hr;obtain⟨x,_,rfl⟩:=List.mem_map.1 hr;rfl) (by simp) ho;rcases ho.2 with⟨rfl,h0⟩ | ⟨g,cap,cur,rfl,hg,hh,hnc,hcm,hcs,htake⟩
 ·have hD:D=[]:=List.length_eq_zero_iff.1 h0;subst hD;refine(JB none 0 w).mono ?_;rintro e w' ⟨rfl,rfl⟩;exact⟨rfl,[],.refl _,.nil,hrows,Kept.refl _ _⟩
 have hs:=JA g 0 cap D.toArray w (wQ hh hrows) (gW hh) (by simp;omega);simp only[List.size_toArray]at hs;refine hs.mono ?_;rintro e w' ⟨rfl,d',n,os,hp,hso,rfl⟩;have hsz:d'.size=D.length:=by have:=hp.1;simpa using this
 refine⟨rfl,d'.toList,?_,?_,?_,(Qa iD 3 w g 0 n d' os).mono (λq _ hq=>by subst hq;rfl)⟩
 ·have:=hp.2.2;rw[Array.extract_eq_self_of_le (by omega),Array.extract_eq_self_of_le (by simp)]at this;simpa using this
 ·rw[List.pairwise_iff_getElem];intro i j hi hj hij;have hi':i<d'.size:=by simpa using hi
  have hj':j<d'.size:=by simpa using hj
  have:=hso i j (Nat.zero_le _) hij (by omega);rw[Fe,getElem!_pos d' i hi',getElem!_pos d' j hj']at this;simpa using this
 have:=Gl (g:=g) (cap:=cap) (by omega) hcm (holdsK_sortWorldK_c iD 3 w g 0 D.toArray d' n os (wQ hh hrows) (gW hh) (by simp;omega));rw[hsz]at this;exact this
end
theorem Gm{w:World}{b1 b2 e1 e2 z1 z2 n1 n2:Nat}{v1 v2:Value}{x1 x2:List Value}(h1:w.ownsRow b1 e1 z1 v1 n1 x1)(h2:w.ownsRow b2 e2 z2 v2 n2 x2)(he:e1≠e2)(k:Nat)(hk:v1.ownBlock=some k):¬v2.ownBlock=some k:=by
 intro hk2;rcases h1.2 with⟨rfl,_⟩ | ⟨g,cap,cur,rfl,_,hg,_⟩
 ·cases hk
 rcases h2.2 with⟨rfl,_⟩ | ⟨g',cap',cur',rfl,_,hg',_⟩
 ·cases hk2
 cases hk;cases hk2;rw[hg]at hg';simp only[Option.some.injEq,Obj.cells.injEq]at hg';exact he hg'.2.1
def qp(e:bT):List Value:=[.int .i64 (e.lo:Int),.int .i64 (e.hi:Int),.string (str e.text)]
def aau(w wr:World)(v:Value)(es:List bT):Prop:=wr.ownsRow w.heap.size 94 3 v es.length (es.map qp).flatten
theorem Ya:(Tryz.prog.info? 94).map (λi=>(i.zero,i.size,i.bytes))=some (some (.agg #[.int .i64 0,.int .i64 0,.string ⟨#[]⟩]),3,32):=by kernel_rfl
theorem aau.push{w wr:World}{ao:Option Addr}{ac:Nat}{es:List bT}(h:aau w wr (.slice ao es.length ac) es)(hk:Kept (λ_=>False) w wr)(e:bT)(hq:es.length≤1000000):
  ∃a' c' w',(Builtin.append_ #[92,92] 92 #[.slice ao es.length ac,.slice (some ⟨wr.heap.size,0,none⟩) 1 1]).run Tryz.prog (wr.alloc (.cells #[.int .i64 (e.lo:Int),.int .i64 (e.hi:Int),.string (str e.text)] 94 (0,0)))=.ok (.slice a' (es.length+1) c') w' ∧
   aau w w' (.slice a' (es.length+1) c') (es++[e])∧Kept (λk=>(Value.slice ao es.length ac).ownBlock=some k) wr w':=by
 obtain⟨i0,hi0,hz0,hz1,hz2⟩:=info_parts Ya;obtain⟨wa,gX⟩:∃x,wr.alloc (.cells #[.int .i64 (e.lo:Int),.int .i64 (e.hi:Int),.string (str e.text)] 94 (0,0))=x:=⟨_,rfl⟩;have hb:wa.heap[wr.heap.size]?=some (.cells #[.int .i64 (e.lo:Int),.int .i64 (e.hi:Int),.string (str e.text)] 94 (0,0)):=by rw[←gX];exact aI wr _
 have hka:Kept (λ_=>False) wr wa:=by rw[←gX];exact(Kept.refl _ wr).alloc _
 have h2:=aK h hka (λ_ _=>id);obtain⟨a',c',w',hr',ho',k',_⟩:=kH (P:=Tryz.prog) wa 92 92 w.heap.size 94 i0 _ 3 32 Tryz.underlying92 hi0 hz0 hz1 hz2 rfl (by omega) ao es.length ac _ h2 (some ⟨wr.heap.size,0,none⟩) 1 1 [qp e] (rE hb rfl (by simp[qp]) rfl (by simp[maxLen])) (by simp[qp]) (by simp[qp,Value.oneCell']) (by unfold maxLen;omega) (by omega) (Nat.le_trans hk.size hka.size);rw[gX];refine⟨a',c',w',hr',?_,(hka.mono (λ_ _ h=>h.elim)).trans k'⟩;unfold aau;rw[List.length_append,List.map_append,List.flatten_append];exact ho'
structure wR(w wr:World)(v:Value)(qs:List au):Prop where
 ex:∃vs,vs.length=qs.length∧wr.ownsRow w.heap.size 42 5 v qs.length (List.zipWith bI qs vs).flatten∧∀(i:Nat) (q:au) (u:Value),qs[i]?=some q→vs[i]?=some u→rC w u q
theorem wR.nil(w wr:World):wR w wr (.slice none 0 0) []:=⟨⟨[],rfl,World.ownsRow_nil _ _ _ _,λi q u h=>by simp at h⟩⟩
theorem wR.form{w wr:World}{v:Value}{qs:List au}(h:wR w wr v qs):∃a c,v=.slice a qs.length c:=by
 obtain⟨vs,_,h2,_⟩:=h.ex;exact dw h2
theorem wR.kept{w wr wx:World}{v:Value}{qs:List au}{S:Nat→Prop}(h:wR w wr v qs)(hk:Kept S wr wx)(hs:∀k,v.ownBlock=some k→¬S k):wR w wx v qs:=by
 obtain⟨vs,h1,h2,h3⟩:=h.ex;exact⟨⟨vs,h1,aK h2 hk hs,h3⟩⟩
theorem wR.reads{w wr:World}{v:Value}{qs:List au}(h:wR w wr v qs)(hk:Kept (λ_=>False) w wr):gy wr v qs:=by
 obtain⟨vs,h1,h2,h3⟩:=h.ex;exact⟨vs,h1,aS (AQ fU) (by simp[h1]) h2,λi x u hx hu=>xX.kept (h3 i x u hx hu) hk⟩
theorem Uk{w:World}{q:au}{u:Value}(h:rC w u q):∀x∈bI q u,x.oneCell'=true:=by
 obtain⟨sv,dv,rfl,hs,hd⟩:=h;obtain⟨_,_,rfl,_⟩:=bH.form hs;obtain⟨_,_,rfl,_⟩:=bC.form hd;simp only[bI,XE,XF,List.mem_cons,List.not_mem_nil,or_false];rintro x (rfl | rfl | rfl | rfl | rfl)<;>rfl
theorem wR.push{w wr:World}{ao:Option Addr}{ac:Nat}{qs:List au}(h:wR w wr (.slice ao qs.length ac) qs)(hk:Kept (λ_=>False) w wr)(q:au)(u:Value)(hu:rC w u q)(hq:qs.length≤1000000):
  ∃a' c' w',(Builtin.append_ #[23,23] 23 #[.slice ao qs.length ac,.slice (some ⟨wr.heap.size,0,none⟩) 1 1]).run Tryz.prog (wr.alloc (.cells (bI q u).toArray 42 (0,0)))=.ok (.slice a' (qs.length+1) c') w' ∧
   wR w w' (.slice a' (qs.length+1) c') (qs++[q])∧Kept (λk=>(Value.slice ao qs.length ac).ownBlock=some k) wr w':=by
 obtain⟨vs,h1,h2,h3⟩:=h.ex;obtain⟨i0,hi0,hz0,hz1,hz2⟩:=info_parts uF;obtain⟨wa,gX⟩:∃x,wr.alloc (.cells (bI q u).toArray 42 (0,0))=x:=⟨_,rfl⟩;have hb:wa.heap[wr.heap.size]?=some (.cells (bI q u).toArray 42 (0,0)):=by rw[←gX];exact aI wr _
 have hka:Kept (λ_=>False) wr wa:=by rw[←gX];exact(Kept.refl _ wr).alloc _
 have h2':=aK h2 hka (λ_ _=>id);obtain⟨a',c',w',hr',ho',k',_⟩:=kH (P:=Tryz.prog) wa 23 23 w.heap.size 42 i0 _ 5 80 Tryz.underlying23 hi0 hz0 hz1 hz2 rfl (by omega) ao qs.length ac _ h2' (some ⟨wr.heap.size,0,none⟩) 1 1 [bI q u] (rE hb (by simp) (by simp[bI]) rfl (by simp[maxLen])) (by simp[bI]) (by simpa using Uk hu) (by unfold maxLen;omega) (by omega) (Nat.le_trans hk.size hka.size);rw[gX];refine⟨a',c',w',hr',⟨⟨vs++[u],by simp[h1],?_,λi x y hx hy=>?_⟩⟩,(hka.mono (λ_ _ h=>h.elim)).trans k'⟩
 ·rw[List.zipWith_append (by rw[h1]),List.flatten_append,List.length_append];exact ho'
 by_cases hi:i<qs.length
 ·rw[List.getElem?_append_left hi]at hx;rw[List.getElem?_append_left (by omega)]at hy;exact h3 i x y hx hy
 rw[List.getElem?_append_right (by omega)]at hx;rw[List.getElem?_append_right (by omega),h1]at hy;cases hj:i-qs.length with
 | zero=>rw[hj]at hx hy;simp at hx hy;subst hx hy;exact hu
 | succ j=>rw[hj]at hx;simp at hx
structure mW(w wr:World)(g e:Value)(qs:List au)(es:List bT):Prop where
 gone:wR w wr g qs
 eds:aau w wr e es
 kept:Kept (λ_=>False) w wr
theorem mW.still{w wr wx:World}{g e:Value}{qs:List au}{es:List bT}(h:mW w wr g e qs es)(hk:Kept (λ_=>False) wr wx):mW w wx g e qs es:=
 ⟨h.gone.kept hk (λ_ _=>id),aK h.eds hk (λ_ _=>id),h.kept.trans hk⟩
theorem mW.WM{w wr:World}{g:Value}{ao:Option Addr}{ac:Nat}{qs:List au}{es:List bT}(h:mW w wr g (.slice ao es.length ac) qs es)(x:bT)(hq:es.length≤1000000):
  ∃a' c' w',(Builtin.append_ #[92,92] 92 #[.slice ao es.length ac,.slice (some ⟨wr.heap.size,0,none⟩) 1 1]).run Tryz.prog (wr.alloc (.cells #[.int .i64 (x.lo:Int),.int .i64 (x.hi:Int),.string (str x.text)] 94 (0,0)))=.ok (.slice a' (es.length+1) c') w' ∧
   mW w w' g (.slice a' (es.length+1) c') qs (es++[x]):=by
 obtain⟨a',c',w',h1,h2,h3⟩:=h.eds.push h.kept x hq;refine⟨a',c',w',h1,h.gone.kept h3 (λk hk=>?_),h2,h.kept.trans' h3 (λi hi hx=>by have:=(World.ownsRow.lt h.eds i hx).1;omega)⟩;obtain⟨vs,_,g2,_⟩:=h.gone.ex;exact Gm g2 h.eds (by decide) k hk
theorem mW.ahI{w wr:World}{e:Value}{ao:Option Addr}{ac:Nat}{qs:List au}{es:List bT}(h:mW w wr (.slice ao qs.length ac) e qs es)(q:au)(u:Value)(hu:rC w u q)(hq:qs.length≤1000000):
  ∃a' c' w',(Builtin.append_ #[23,23] 23 #[.slice ao qs.length ac,.slice (some ⟨wr.heap.size,0,none⟩) 1 1]).run Tryz.prog (wr.alloc (.cells (bI q u).toArray 42 (0,0)))=.ok (.slice a' (qs.length+1) c') w' ∧
   mW w w' (.slice a' (qs.length+1) c') e (qs++[q]) es:=by
 obtain⟨a',c',w',h1,h2,h3⟩:=h.gone.push h.kept q u hu hq;obtain⟨vs,_,g2,_⟩:=h.gone.ex;refine⟨a',c',w',h1,h2,aK h.eds h3 (λk hk=>?_),h.kept.trans' h3 (λi hi hx=>by have:=(World.ownsRow.lt g2 i hx).1;omega)⟩;exact Gm h.eds g2 (by decide) k hk
def jP(w:World)(b:Nat)(l:List Bool):Prop:=w.heap[b]?=some (.cells (l.map Value.bool).toArray 4 (0,0))
theorem jP.cell{w:World}{b:Nat}{l:List Bool}(h:jP w b l){k:Nat}{x:Bool}(hk:l[k]?=some x):w.cell? ⟨b,k,none⟩=some (.bool x):=ah h k (by simp[hk])
theorem jP.free{w:World}{b:Nat}{l:List Bool}(h:jP w b l)(k:Nat):w.frozen? ⟨b,k,none⟩=false:=aF h k
theorem jP.put{w:World}{b:Nat}{l:List Bool}(h:jP w b l)(k:Nat)(x:Bool):jP (w.setCell ⟨b,k,none⟩ (.bool x)) b (l.set k x):=by
 have:=aW h k (.bool x);rw[show((l.map Value.bool).toArray).setIfInBounds k (.bool x)=((l.set k x).map Value.bool).toArray from by rw[List.setIfInBounds_toArray,List.map_set]]at this;exact this
theorem jP.kept{w w':World}{b:Nat}{l:List Bool}{S:Nat→Prop}(h:jP w b l)(hk:Kept S w w')(hs:¬S b):jP w' b l:=hk.heap hs h
theorem Yb:(Tryz.prog.info? 4).map (λi=>(i.zero,i.size,i.bytes))=some (some (.bool false),1,1):=by kernel_rfl
theorem Dj(w:World)(n:Nat)(hn:n≤281474976710656):∃w',(Instr.makeSlice 31 (.int .i64 (n:Int)) (.int .i64 (n:Int))).run Tryz.prog w=.ok (.slice (some ⟨w.heap.size,0,none⟩) n n) w'∧jP w' w.heap.size (List.replicate n false)∧Kept (λ_=>False) w w':=by
 obtain⟨i,hi,hz0,hz1,hz2⟩:=info_parts Yb;obtain⟨w',h1,h2,h3⟩:=run_make_full (P:=Tryz.prog) w w.heap.size 31 4 i (.bool false) 1 Tryz.underlying31 hi hz0 hz1 .i64 .i64 n (by rw[hz2];omega) (by unfold maxLen;omega) (Nat.le_refl _);refine⟨w',h1,?_,(Kept.refl _ w).grown h3 (λk hk=>by cases hk)⟩;rcases h2.2 with⟨hx,_⟩ | ⟨g,cap,cur,hv,hb,hg,hnc,hcm,hcs,htake⟩
 ·cases hx
 cases hv;unfold jP;have hcl:cur.toList.length=n*1:=by simpa using hcs
 rw[List.take_of_length_le (by omega)]at htake;have:cur=(List.map Value.bool (List.replicate n false)).toArray:=by
  apply Array.ext';rw[htake];have e:(Value.bool false).cells=#[.bool false]:=rfl;rw[e];apply List.ext_getElem
  ·simp[size_madeCells]
  intro j h5 h6;simp[madeCells,Nat.mod_one]
 rw[←this];exact hg
theorem Qc{s:B}{a:Nat}(h:∀c∈s.drop a,c≠32):splitB (s.drop a)=[s.drop a]:=Em h
theorem Qd{s:B}{a i:Nat}(ha:a≤i)(hi:i<s.length)(h:∀j (hj:j<s.length),a≤j→j<i→s[j]≠32)(hb:s[i]=32):splitB (s.drop a)=(s.drop a).take (i-a)::splitB (s.drop (i+1)):=by
 have e:s.drop a=(s.drop a).take (i-a)++(32::s.drop (i+1)):=by
  have h1:(s.drop a).drop (i-a)=32::s.drop (i+1):=by
   rw[List.drop_drop,show a+(i-a)=i from by omega,List.drop_eq_getElem_cons hi,hb]
  rw[←h1,List.take_append_drop]
 conv=>lhs;rw[e]
 refine En (λc hc=>?_) _;obtain⟨j,hj,rfl⟩:=List.mem_iff_getElem.1 hc;simp only[List.length_take,List.length_drop]at hj;simp only[List.getElem_take,List.getElem_drop];exact h (a+j) (by omega) (by omega) (by omega)
structure WO(w wr:World)(base:Nat)(s:B)(l:Value)(ws:List B)(a i:Nat):Prop where
 own:wr.ownsRow base 9 1 l ws.length (ws.map strCells).flatten
 kept:Kept (λ_=>False) w wr
 le:a≤i
 words:splitB s=ws++splitB (s.drop a)
 plain:∀j (hj:j<s.length),a≤j→j<i→s[j]≠32
 few:ws.length≤i
theorem WO.form{w wr:World}{base:Nat}{s:B}{l:Value}{ws:List B}{a i:Nat}(h:WO w wr base s l ws a i):∃vo vc,l=.slice vo ws.length vc:=by
 rcases h.own.2 with⟨h,hn⟩ | ⟨g,cap,cur,h,_⟩
 ·exact⟨none,0,by rw[h,hn]⟩
 exact⟨_,cap,h⟩
theorem Yc:(Tryz.prog.info? 9).map (λi=>(i.zero,i.size,i.bytes))=some (some (.string ⟨#[]⟩),1,16):=by kernel_rfl
theorem aav{ws:List B}:∀r∈ws.map strCells,r.length=1:=by
 intro r hr;obtain⟨a,_,rfl⟩:=List.mem_map.1 hr
 rfl
theorem Yd(s:B)(w:World)(hl:s.length≤1048576):
  Calls Tryz.prog 82 #[.string (str s)] w λe w'=>∃v,e=.returned v∧Below w.heap.size w w'∧aH w' 1 v ((splitB s).map strCells)∧∀k,v.ownBlock=some k→w.heap.size≤k∧k<w'.heap.size:=by
 obtain⟨base,fB⟩:∃base,Hid (w.heap.size=base):=⟨_,rfl⟩;obtain⟨R,HR⟩:∃R,Hid (splitB s=R):=⟨_,rfl⟩;rw[HR.out];obtain⟨i0,hi0,hz0,hz1,hz2⟩:=info_parts Yc;go_enter Tryz.func82,Tryz.ntmps82
 go_upto_block 0 with fail
 go_cut [3,4] (λl x wx=>∃(a:Nat) (ws:List B),x=.int .i64 a∧a≤s.length∧WO w wx base s l ws a s.length)
 case first=>
  go_wp2_with fail
  go_loopw [3,4,8] (λl x i wr=>∃(a k:Nat) (ws:List B),k≤s.length∧x=.int .i64 a∧i=.int .i64 k∧WO w wr base s l ws a k) (λ_ _ i _=>s.length-(intOf i).toNat)
  case atStart=>exact⟨0,0,[],by omega,rfl,rfl,World.ownsRow_nil _ _ _ _,Kept.refl _ _,by omega,by simp,λj _ _ h=>by omega,by simp⟩
  case round=>
   obtain⟨a,i,ws,hi,rfl,rfl,hL⟩:=hrel;obtain⟨lo,lc,rfl⟩:=hL.form;have HL:=hid hL;have hle:=hL.le;have hfew:=hL.few;have how:=hL.own;clear hL;by_cases hlt:i<s.length
   ·by_cases hc:s[i]=32
    ·have g:(((s[i]'hlt).toNat:Int)==32)=true:=by rw[hc];rfl
     have HC:=hid hc;have hsz:base≤wr.heap.size:=by have:=HL.out.kept.size;have:=fB.out;omega
     clear hc;go_wp2_with (at_builtin;refine wpList_append_lies _ rfl _ _ _ rfl base 9 i0 _ 1 16 Tryz.underlying58 hi0 hz0 hz1 hz2 rfl (by omega) _ ws.length _ (by rfl) (how.alloc _) ⟨wr.heap.size,0,none⟩ 1 1 (strCells ((s.drop a).take (i-a))) (by rfl) (by rfl) (World.news_of_block (cs:=(strCells ((s.drop a).take (i-a))).toArray) (t:=9) (fr:=(0,0)) (heap_alloc_new wr _)) (by simp[strCells,Value.oneCell']) (by omega) (by unfold maxLen;omega) (by omega) (by simp;omega) (wr.heap.size+1) (by simp) ?_;intro gg cap w4 hown4 hgrow4 EO hlt4)
     go_roundw
     case measure=>simp[intOf];omega
     case rel=>
      refine⟨i+1,i+1,ws++[(s.drop a).take (i-a)],by omega,by go_num,by go_num,?_,(HL.out.kept.alloc _).grown hgrow4 (λk hk=>.inr (by have:=(HL.out.own.lt k hk).1;have:=fB.out;omega)),by omega,?_,λj _ h1 h2=>by omega,by simp;omega⟩
      ·rw[List.map_append,List.flatten_append,List.map_singleton,List.flatten_singleton,List.length_append];exact hown4
      rw[HL.out.words,Qd HL.out.le hlt HL.out.plain HC.out];simp
    have g:(((s[i]'hlt).toNat:Int)==32)=false:=by
     simp only[beq_eq_false_iff_ne,ne_eq];intro h;exact hc (UInt8.toNat_inj.1 (by have e32:(32:UInt8).toNat=32:=rfl;omega))
    have HC:=hid hc;clear hc;go_wp2_with fail
    go_roundw
    case measure=>simp[intOf];omega
    case rel=>
     refine⟨a,i+1,ws,by omega,rfl,by go_num,HL.out.own,HL.out.kept,by omega,HL.out.words,λj hj h1 h2=>?_,by omega⟩;by_cases hji:j=i
     ·subst hji;exact HC.out
     exact HL.out.plain j hj h1 (by omega)
   obtain rfl:i=s.length:=by omega
   go_wp2_with fail
   go_meet
   case rel=>exact⟨a,ws,rfl,hle,HL.out⟩
 case rest=>
  obtain⟨a,ws,rfl,hal,hL⟩:=hcut;obtain⟨lo,lc,rfl⟩:=hL.form;have HL:=hid hL;have hfew:=hL.few;have how:=hL.own;have hsz:base≤wc.heap.size:=by have:=hL.kept.size;have:=fB.out;omega
  clear hL;go_wp2_with (at_builtin;refine wpList_append_lies _ rfl _ _ _ rfl base 9 i0 _ 1 16 Tryz.underlying58 hi0 hz0 hz1 hz2 rfl (by omega) _ ws.length _ (by rfl) (how.alloc _) ⟨wc.heap.size,0,none⟩ 1 1 (strCells (s.drop a)) (by rfl) (by rfl) (World.news_of_block (cs:=(strCells (s.drop a)).toArray) (t:=9) (fr:=(0,0)) (heap_alloc_new wc _)) (by simp[strCells,Value.oneCell']) (by omega) (by unfold maxLen;omega) (by omega) (by simp;omega) (wc.heap.size+1) (by simp) ?_;intro gg cap w4 hown4 hgrow4 EO hlt4)
  go_ret
  have hw:R=ws++[s.drop a]:=by
   rw[←HR.out,HL.out.words,Qc];intro c hc;obtain⟨j,hj,rfl⟩:=List.mem_iff_getElem.1 hc;simp only[List.length_drop]at hj;simp only[List.getElem_drop];exact HL.out.plain (a+j) (by omega) (by omega) (by omega)
  have K:=(HL.out.kept.alloc (.cells #[.string (str (s.drop a))] 9 (0,0))).grown hgrow4 (λk hk=>.inr (by have:=(HL.out.own.lt k hk).1;have:=fB.out;omega));have e:((ws.map strCells).flatten++strCells (s.drop a))=(R.map strCells).flatten:=by rw[hw];simp
  rw[e]at hown4;refine⟨_,rfl,K.below,aS aav (by rw[hw];simp) hown4,λk hk=>⟨by have:=(hown4.lt k hk).1;have:=fB.out;omega,(hown4.lt k hk).2⟩⟩
def ak2(a b:B):Value:=.agg #[.string (str a),.string (str b)]
def afN(a b:B):List Value:=[.string (str a),.string (str b)]
def four:List B→Option (B×B×B×B)
 | [a]=>some (a,a,a,a)
 | [a,b]=>some (a,b,a,b)
 | [a,b,c]=>some (a,b,c,b)
 | [a,b,c,d]=>some (a,b,c,d)
 | _=>none
theorem Nv{d:aC}{L:List B}(hn:d.name=fG)(hL:splitB d.val=L):gu d=(four L).map λx=>edges x.1 x.2.1 x.2.2.1 x.2.2.2 d.strong:=by
 unfold gu;rw[if_pos hn,hL]
 match L with
 | []=>rfl
 | [a]=>rfl
 | [a,b]=>rfl
 | [a,b,c]=>rfl
 | [a,b,c,e]=>rfl
 | a::b::c::e::x::L=>rfl
def nG(a b c d:B):Array Value:=#[.string (str ql),.string (str a),.string (str lZ),.string (str b),.string (str kL),.string (str c),.string (str nU),.string (str d)]
theorem aaw{a b c d:B}(st:Bool)(k:Nat)(hk:k<4):∃x y,(nG a b c d)[k*2]?=some (.string (str x))∧(nG a b c d)[k*2+1]?=some (.string (str y))∧(edges a b c d st)[k]?=some ⟨x,y,st⟩:=by
 match k,hk with
 | 0,_=>exact⟨_,_,rfl,rfl,rfl⟩
 | 1,_=>exact⟨_,_,rfl,rfl,rfl⟩
 | 2,_=>exact⟨_,_,rfl,rfl,rfl⟩
 | 3,_=>exact⟨_,_,rfl,rfl,rfl⟩
structure aax(w wr:World)(base c d:Nat)(oc od:Obj)(l:Value)(n:Nat)(xs:List aC)(k:Nat)(X:List aC):Prop where
 own:wr.ownsRow base 59 3 l (n+k) ((xs++X.take k).map aA).flatten
 kept:Kept (λ_=>False) w wr
 bc:wr.heap[c]?=some oc
 bd:wr.heap[d]?=some od
 ne:l.ownBlock≠some c∧l.ownBlock≠some d
theorem aax.form{w wr:World}{base c d n k:Nat}{oc od:Obj}{l:Value}{xs X:List aC}(h:aax w wr base c d oc od l n xs k X):∃vo vc,l=.slice vo (n+k) vc:=by
 rcases h.own.2 with⟨h,hn⟩ | ⟨g,cap,cur,h,_⟩
 ·exact⟨none,0,by rw[h,hn]⟩
 exact⟨_,cap,h⟩
theorem wS(w:World)(v:Value)(ds:List aC)(h:bC w v ds)(hN:ds.length≤5000000)(hone:∀d∈ds,d.val.length≤1048576):
  Calls Tryz.prog 36 #[v] w (WE w (fH ds)):=by
 obtain⟨av,cv,rfl,hcv1,hcv2⟩:=h.form;unfold maxLen at hcv2;obtain⟨base,fB⟩:∃base,Hid (w.heap.size=base):=⟨_,rfl⟩;obtain⟨R,HR⟩:∃R,Hid (fH ds=R):=⟨_,rfl⟩;rw[HR.out];obtain⟨i0,hi0,hz0,hz1,hz2⟩:=info_parts qF;have H:=hid h;have MZ:=hid hone;clear h hone;go_enter Tryz.func36,Tryz.ntmps36
 go_wp2_with fail
 go_loopw [4,16] (λl i wr=>∃(k n:Nat) (xs:List aC),k≤ds.length∧i=.int .i64 k∧WG w wr base l ds k n xs) (λ_ i _=>ds.length-(intOf i).toNat)
 case atStart=>exact⟨0,0,[],by omega,rfl,World.ownsRow_nil _ _ _ _,Kept.refl _ _,rfl,rfl,by omega⟩
 case round=>
  obtain⟨i,n,xs,hi,rfl,hL⟩:=hrel;obtain⟨lo,lc,rfl⟩:=hL.form;have HL:=hid hL;obtain⟨hn1,hn2⟩:=hL.len;clear hL hn1;obtain⟨bU,hwr0⟩:∃x,x=wr:=⟨_,rfl⟩;subst hwr0;by_cases hlt:i<ds.length
  ·have hx:=List.getElem?_eq_getElem hlt;generalize hgx:ds[i]=x at hx;clear hgx;obtain⟨b,off,rfl,g0,g1,g2⟩:=bC.at (iy.kept H.out HL.out.kept) hx;have hxl:=MZ.out x (List.mem_of_getElem? hx);have HX:=hid hx;clear hx;go_upto_region 5 with fail
   obtain⟨wa,gX⟩:∃x',Hid (bU.alloc (.cells #[.string (str x.name),.string (str x.val),.bool x.strong] 59 (0,0))=x'):=⟨_,rfl⟩;have ka:Kept (λ_=>False) w wa:=by rw[←gX.out];exact HL.out.kept.alloc _
   have how:wa.ownsRow base 59 3 (.slice lo n lc) n (xs.map aA).flatten:=by rw[←gX.out];exact HL.out.own.alloc _
   have hn:wa.heap[bU.heap.size]?=some (.cells #[.string (str x.name),.string (str x.val),.bool x.strong] 59 (0,0)):=by rw[←gX.out];exact aI bU _
   have n0:wa.cell? ⟨bU.heap.size,0,none⟩=some (.string (str x.name)):=ah hn 0 rfl;have n1:wa.cell? ⟨bU.heap.size,1,none⟩=some (.string (str x.val)):=ah hn 1 rfl;have n2:wa.cell? ⟨bU.heap.size,2,none⟩=some (.bool x.strong):=ah hn 2 rfl;have hsz:base≤wa.heap.size:=by have:=ka.size;have:=fB.out;omega
   have KA:=hid ka;have HOW:=hid how;have HN:=hid hn;clear ka g0 g1 g2 hn;rw[gX.out];by_cases hed:x.name=fG
   ·have g:(x.name==[101,100,103,101])=true:=by rw[hed];rfl
    have HED:=hid hed;clear hed how;go_wp2_with fail
    refine(Yd x.val wa hxl).mono ?_;rintro e w2 ⟨v2,rfl,hb2,hr2,ho2⟩;obtain⟨L,HLL⟩:∃L,Hid (splitB x.val=L):=⟨_,rfl⟩;rw[HLL.out]at hr2;have hne:L≠[]:=by rw[←HLL.out];exact xR _
    obtain⟨yb,yo,cap2,rfl,hc1,hc2,hcell⟩:∃yb yo cap2,v2=.slice (some ⟨yb,yo,none⟩) L.length cap2∧L.length≤cap2∧cap2≤maxLen∧∀j y,L[j]?=some y→w2.cell? ⟨yb,yo+j,none⟩=some (.string (str y)):=by
     obtain⟨a,cap,rfl,h1,h2,h3⟩:=hr2;obtain⟨yb,yo,rfl,h4⟩:=h3 (by simpa using hne);exact⟨yb,yo,cap,by rw[List.length_map],by simpa using h1,h2,λj y hy=>by simpa using h4 j (strCells y) (by simp[hy]) 0 _ rfl⟩
    unfold maxLen at hc2;have k2:=KA.out.trans (Kept.of_below (S:=λ_=>False) hb2);have ahL:=(Kept.of_below (S:=λ_=>False) hb2).heap id HN.out;have Na:=aK HOW.out (Kept.of_below (S:=λ_=>False) hb2) (λ_ _=>id);have hsz2:base≤w2.heap.size:=by have:=hb2.size;omega
    have K2:=hid k2;have Jo:=hid ahL;have aay:=hid Na;have HC:=hid hcell;clear k2 ahL Na hcell hr2 ho2 hb2 n0 n1 n2;have hEX:=hid (Nv HED.out HLL.out);cases h4:four L with
    | none=>
     have hl5:4<(L.length:Int):=by
      match L,hne,h4 with
      | a::b::c::e::y::L,_,_=>simp;omega
     have hR:Hid (R=none):=hid (by
      have:=wK HX.out HL.out.all;rw[hEX.out,h4]at this;rw[←HR.out];exact yP this)
     clear h4;go_wp2_with fail
     refine bodyPost_ret (v:=.tuple #[.slice none 0 0,.int .i64 5]) (by simp[results,Tryz.results36,go_sem]) rfl ?_;rw[hR.out];exact⟨rfl,K2.out.below⟩
    | some t=>
     obtain⟨ta,tb,tc,td⟩:=t;have hT:Hid (fH (ds.take (i+1))=some (xs++edges ta tb tc td x.strong)):=hid (by
      have:=wK HX.out HL.out.all;rw[hEX.out,h4]at this;exact this)
     have H4:=hid h4;clear h4;have hl4:L.length≤4:=by
      match L,hne,H4.out with
      | [a],_,_=>simp
      | [a,b],_,_=>simp
      | [a,b,c],_,_=>simp
      | [a,b,c,d],_,_=>simp
     have hl0:0<L.length:=List.length_pos_iff.2 hne;have r0:w2.cell? ⟨yb,yo,none⟩=some (.string (str ta)):=by
      have:=HC.out 0 ta (by
       match L,hne,H4.out with
       | [a],_,h=>cases h;rfl
       | [a,b],_,h=>cases h;rfl
       | [a,b,c],_,h=>cases h;rfl
       | [a,b,c,d],_,h=>cases h;rfl)
      simpa using this
     have r1:w2.cell? ⟨yb,yo+min 1 (L.length-1),none⟩=some (.string (str tb)):=HC.out (min 1 (L.length-1)) tb (by
       match L,hne,H4.out with
       | [a],_,h=>cases h;rfl
       | [a,b],_,h=>cases h;rfl
       | [a,b,c],_,h=>cases h;rfl
       | [a,b,c,d],_,h=>cases h;rfl)
     have r1':w2.cell? ⟨yb,yo+(min 1 ((L.length:Int)-1)).toNat,none⟩=some (.string (str tb)):=by
      rw[show(min 1 ((L.length:Int)-1)).toNat=min 1 (L.length-1) from by omega];exact r1
     have r2:2<L.length→w2.cell? ⟨yb,yo+2,none⟩=some (.string (str tc)):=λhl=>HC.out 2 tc (by
       match L,hl,H4.out with
       | [a,b,c],_,h=>cases h;rfl
       | [a,b,c,d],_,h=>cases h;rfl)
     have r3:3<L.length→w2.cell? ⟨yb,yo+3,none⟩=some (.string (str td)):=λhl=>HC.out 3 td (by
       match L,hl,H4.out with
       | [a,b,c,d],_,h=>cases h;rfl)
     have e2:Hid (¬2<L.length→tc=ta):=hid (by
       match L,hne,H4.out with
       | [a],_,h=>cases h;intro _;rfl
       | [a,b],_,h=>cases h;intro _;rfl
       | [a,b,c],_,h=>simp
       | [a,b,c,d],_,h=>simp)
     have e3:Hid (¬3<L.length→td=tb):=hid (by
       match L,hne,H4.out with
       | [a],_,h=>cases h;intro _;rfl
       | [a,b],_,h=>cases h;intro _;rfl
       | [a,b,c],_,h=>cases h;intro _;rfl
       | [a,b,c,d],_,h=>simp)
     have R2:=hid r2;have R3:=hid r3;clear r1 r2 r3;go_upto_if 47 with fail
     go_cut [10] (λu wx=>u=.string (str tc)∧wx=w2)
     case first=>
      by_cases h2:2<L.length
      ·have r2:=R2.out h2;clear r0 r1';go_wp2_with fail
       go_meet
       case rel=>exact⟨rfl,rfl⟩
      have h2':¬2<(L.length:Int):=by omega
      have HE:=hid (e2.out h2);go_wp2_with fail
      go_meet
      case rel=>exact⟨by rw[HE.out],rfl⟩
     case rest=>
      obtain⟨rfl,rfl⟩:=hcut;clear r0 r1';go_upto_if 53 with fail
      go_cut [11] (λu wx=>u=.string (str td)∧wx=wc)
      case first=>
       by_cases h2:3<L.length
       ·have r2:=R3.out h2;go_wp2_with fail
        go_meet
        case rel=>exact⟨rfl,rfl⟩
       have h2':¬3<(L.length:Int):=by omega
       have HE:=hid (e3.out h2);go_wp2_with fail
       go_meet
       case rel=>exact⟨by rw[HE.out],rfl⟩
      case rest=>
       obtain⟨rfl,rfl⟩:=hcut;go_upto_block 2 with fail
       obtain⟨wb,jo⟩:∃y,Hid (wc.alloc (.cells #[.string ⟨#[101,100,103,101,45,116,111,112]⟩,.string (str ta),.string ⟨#[101,100,103,101,45,114,105,103,104,116]⟩,.string (str tb),.string ⟨#[101,100,103,101,45,98,111,116,116,111,109]⟩,.string (str tc),.string ⟨#[101,100,103,101,45,108,101,102,116]⟩,.string (str td)] 152 (0,0))=y):=⟨_,rfl⟩;have hB:wb.heap[wc.heap.size]?=some (.cells (nG ta tb tc td) 152 (0,0)):=by rw[←jo.out];exact aI wc _
       have kB:Kept (λ_=>False) wc wb:=by rw[←jo.out];exact(Kept.refl _ wc).alloc _
       have ahM:wb.ownsRow base 59 3 (.slice lo n lc) n (xs.map aA).flatten:=by rw[←jo.out];exact aay.out.alloc _
       have HB:=hid hB;have KB:=hid kB;have oO:=hid (kB.heap id Jo.out);have ak3:=hid ahM;obtain⟨Y,HY⟩:∃y,Hid (edges ta tb tc td x.strong=y):=⟨_,rfl⟩;have HF:Hid (∀k,k<4→∃x' y,(nG ta tb tc td)[k*2]?=some (.string (str x'))∧(nG ta tb tc td)[k*2+1]?=some (.string (str y))∧Y[k]?=some ⟨x',y,x.strong⟩):=hid (by rw[←HY.out];exact aaw x.strong);have HY4:Hid (Y.length=4):=hid (by rw[←HY.out];rfl);rw[HY.out]at hT;rw[jo.out];clear hB kB ahM;go_wp2_with fail
       go_loopw [4,67] (λl i wy=>∃k:Nat,k≤4∧i=.int .i64 k∧aax w wy base wc.heap.size bU.heap.size (.cells (nG ta tb tc td) 152 (0,0)) (.cells #[.string (str x.name),.string (str x.val),.bool x.strong] 59 (0,0)) l n xs k Y) (λ_ i _=>4-(intOf i).toNat)
       case atStart=>
        refine⟨0,by omega,rfl,by simpa using ak3.out,K2.out.trans KB.out,HB.out,oO.out,λh=>?_,λh=>?_⟩
        ·have:=(aay.out.lt _ h).2;omega
        have:=(HL.out.own.lt _ h).2;omega
       case round=>
        obtain⟨k,hk,rfl,hQ⟩:=hrel;obtain⟨lo2,lc2,rfl⟩:=hQ.form;have HQ:=hid hQ;have how:=hQ.own;clear hQ;by_cases hk4:k<4
        ·obtain⟨x',y,hx',hy,hY⟩:=HF.out k hk4;have q0:wr.cell? ⟨wc.heap.size,k*2,none⟩=some (.string (str x')):=ah HQ.out.bc _ hx';have q1:wr.cell? ⟨wc.heap.size,k*2+1,none⟩=some (.string (str y)):=ah HQ.out.bc _ hy;have HYK:=hid hY;have hsz3:base≤wr.heap.size:=by have:=HQ.out.kept.size;have:=fB.out;omega
         have hnx:=HQ.out.bd;have Eo:=hid hnx;clear hx' hy hY hnx;go_upto_region 20 with fail
         obtain⟨wp,HWP⟩:∃z,Hid (wr.alloc (.cells #[.string (str x'),.string (str y)] 152 (0,0))=z):=⟨_,rfl⟩;have hP:wp.heap[wr.heap.size]?=some (.cells #[.string (str x'),.string (str y)] 152 (0,0)):=by rw[←HWP.out];exact aI wr _
         have kP:Kept (λ_=>False) w wp:=by rw[←HWP.out];exact HQ.out.kept.alloc _
         have ahO:wp.ownsRow base 59 3 (.slice lo2 (n+k) lc2) (n+k) ((xs++Y.take k).map aA).flatten:=by rw[←HWP.out];exact HQ.out.own.alloc _
         have p0:wp.cell? ⟨wr.heap.size,0,none⟩=some (.string (str x')):=ah hP 0 rfl;have p1:wp.cell? ⟨wr.heap.size,1,none⟩=some (.string (str y)):=ah hP 1 rfl;have p2:wp.cell? ⟨bU.heap.size,2,none⟩=some (.bool x.strong):=by
          rw[←HWP.out];exact dX (ah Eo.out 2 rfl) _
         have MV:base≤wp.heap.size:=by have:=kP.size;have:=fB.out;omega
         have ahP:wp.heap[wc.heap.size]?=some (.cells (nG ta tb tc td) 152 (0,0)):=by rw[←HWP.out];exact iw HQ.out.bc _
         have ahQ:wp.heap[bU.heap.size]?=some (.cells #[.string (str x.name),.string (str x.val),.bool x.strong] 59 (0,0)):=by rw[←HWP.out];exact iw HQ.out.bd _
         have HBC:=hid ahP;have HBD:=hid ahQ;clear ahP ahQ;have KP:=hid kP;clear hP kP how q0 q1;rw[HWP.out];go_wp2_with (at_builtin;refine wpList_append_lies _ rfl _ _ _ rfl base 59 i0 _ 3 40 Tryz.underlying38 hi0 hz0 hz1 hz2 rfl (by omega) _ (n+k) _ (by rfl) (ahO.alloc _) ⟨wp.heap.size,0,none⟩ 1 1 (aA ⟨x',y,x.strong⟩) (by rfl) (by rfl) (World.news_of_block (cs:=(aA ⟨x',y,x.strong⟩).toArray) (t:=59) (fr:=(0,0)) (heap_alloc_new wp _)) (Ba _) (by omega) (by unfold maxLen;omega) (by omega) (by simp;omega) (wp.heap.size+1) (by simp) ?_;intro gg cap w4 hown4 hgrow4 EO hlt4)
         go_roundw
         case measure=>simp[intOf];omega
         case rel=>
          have keep:∀(c:Nat) (o:Obj),wp.heap[c]?=some o→(Value.slice lo2 (n+k) lc2).ownBlock≠some c→w4.heap[c]?=some o:=λc o h hne=>
           (hgrow4.block c (by have:=gW h;simp;omega) (λe=>hne e.symm)).trans (iw h _)
          have gne:∀(c:Nat) (o:Obj),wp.heap[c]?=some o→(Value.slice lo2 (n+k) lc2).ownBlock≠some c→(Value.slice (some ⟨gg,0,none⟩) (n+k+1) cap).ownBlock≠some c:=λc o h hne e=>by
           have:=gW h;simp only[Value.ownBlock,Option.some.injEq]at e;subst e;rcases EO with h4 | h4
           ·exact hne h4
           omega
          refine⟨k+1,by omega,by go_num,?_,(KP.out.alloc _).grown hgrow4 (λj hj=>.inr (by have:=(ahO.lt j hj).1;have:=fB.out;omega)),keep _ _ HBC.out HQ.out.ne.1,keep _ _ HBD.out HQ.out.ne.2,gne _ _ HBC.out HQ.out.ne.1,gne _ _ HBD.out HQ.out.ne.2⟩;rw[List.take_add_one,HYK.out,Option.toList_some,←List.append_assoc,List.map_append,List.flatten_append,List.map_singleton,List.flatten_singleton];exact hown4
        obtain rfl:k=4:=by omega
        go_wp2_with fail
        go_roundw
        case measure=>simp[intOf];omega
        case rel=>
         have hY:=List.take_of_length_le (i:=4) (Nat.le_of_eq HY4.out);have hown:=HQ.out.own;rw[hY]at hown;refine⟨i+1,n+4,xs++Y,by omega,by go_num,hown,HQ.out.kept,hT.out,?_⟩;have:=HL.out.len;have:=HY4.out;exact⟨by rw[List.length_append];omega,by omega⟩
   have g:(x.name==[101,100,103,101])=false:=beq_false_of_ne hed;have hT:Hid (fH (ds.take (i+1))=some (xs++[x])):=hid (by
    have:=wK HX.out HL.out.all;rw[show gu x=some [x] from by unfold gu;rw[if_neg hed]]at this;exact this)
   clear hed;go_wp2_with (at_builtin;refine wpList_append_lies _ rfl _ _ _ rfl base 59 i0 _ 3 40 Tryz.underlying38 hi0 hz0 hz1 hz2 rfl (by omega) _ n _ (by rfl) (how.alloc _) ⟨wa.heap.size,0,none⟩ 1 1 (aA x) (by rfl) (by rfl) (World.news_of_block (cs:=(aA x).toArray) (t:=59) (fr:=(0,0)) (heap_alloc_new wa _)) (Ba x) (by omega) (by unfold maxLen;omega) (by omega) (by simp;omega) (wa.heap.size+1) (by simp) ?_;intro gg cap w4 hown4 hgrow4 EO hlt4)
   go_roundw
   case measure=>simp[intOf];omega
   case rel=>
    refine⟨i+1,n+1,xs++[x],by omega,by go_num,?_,(KA.out.alloc _).grown hgrow4 (λk hk=>.inr (by have:=(HOW.out.lt k hk).1;have:=fB.out;omega)),hT.out,?_⟩
    ·rw[List.map_append,List.flatten_append,List.map_singleton,List.flatten_singleton];exact hown4
    have:=HL.out.len;exact⟨by rw[List.length_append,List.length_singleton];omega,by omega⟩
  obtain rfl:i=ds.length:=by omega
  go_wp2_with fail
  refine bodyPost_ret (v:=.tuple #[.slice lo n lc,.int .i64 0]) (by simp[results,Tryz.results36,go_sem]) rfl ?_;have hall:=HL.out.all;rw[List.take_length]at hall;rw[←HR.out,hall];refine⟨_,rfl,HL.out.kept.below,aS ku (by rw[List.length_map];exact HL.out.len.1) HL.out.own,λk hk=>⟨λhx=>by have:=(HL.out.own.lt k hk).1;have:=fB.out;omega,(HL.out.own.lt k hk).2⟩⟩
end Go.Proofs.YtplbdlgmjehckacGreatDoor

