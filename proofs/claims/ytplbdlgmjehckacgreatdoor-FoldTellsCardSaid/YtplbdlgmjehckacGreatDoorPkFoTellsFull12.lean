/-
 Lemmas for the claims of this seat: the program's functions walked, and plain laws.
-/
import Derived.Test.YtplbdlgmjehckacGreatDoorPkFoTellsFull11
set_option maxRecDepth 100000
set_option maxHeartbeats 6400000
namespace Go.Proofs.YtplbdlgmjehckacGreatDoor
open Go.Lib (hid)
open Go.RowKit
set_option linter.unusedVariables false
set_option linter.unusedSimpArgs false
theorem AY(fb lb:Nat)(err pos:Int)(u:FrameMode)(w:World)(v:Value)(hf:w.heap[fb]?=some (.cells #[.int .i64 err,.int .i64 pos] 26 (0,0)))(hl:w.heap[lb]?=some (.cells #[v] 38 (0,0)))(he:(err != 0)=true):
  CallsD Tryz.prog 76 #[.pointer (some ⟨fb,0,none⟩),.pointer (some ⟨lb,0,none⟩)] u w λe u' w'=>u'=u∧(e=.returned (.tuple #[])∧Kept (· = lb) w w'∧w'.heap[lb]?=some (.cells #[.slice none 0 0] 38 (0,0))):=by
 refine callsD_of_wp Tryz.func76 rfl ?_;have g0:=ah hf 0 rfl;have l0:=ah hl 0 rfl;have lf:=aF hl 0;simp[Tryz.ntmps76];simp only[Array.replicate_succ,Array.replicate_zero,List.push_toArray,List.append_toArray,List.nil_append,List.cons_append];go_wp2
 go_end0
 exact⟨rfl,(Kept.refl (· = lb) w).setCell (p:=⟨lb,0,none⟩) (.inl rfl) _,aW hl 0 _⟩
theorem AZ(fb lb:Nat)(pos:Int)(u:FrameMode)(w:World)(hf:w.heap[fb]?=some (.cells #[.int .i64 0,.int .i64 pos] 26 (0,0))):
  CallsD Tryz.prog 76 #[.pointer (some ⟨fb,0,none⟩),.pointer (some ⟨lb,0,none⟩)] u w λe u' w'=>u'=u∧(e=.returned (.tuple #[])∧w'=w):=by
 refine callsD_of_wp Tryz.func76 rfl ?_;have g0:=ah hf 0 rfl;simp[Tryz.ntmps76];simp only[Array.replicate_succ,Array.replicate_zero,List.push_toArray,List.append_toArray,List.nil_append,List.cons_append];go_wp2
 go_end0
 exact⟨rfl,rfl⟩
def FY(w:World)(r:Ans (List aC))(e:Ending)(w':World):Prop:=
 match r with
 | .bad f=>e=.returned (.tuple #[.slice none 0 0,.agg #[.int .i64 (f.err:Int),.int .i64 (f.pos:Int)]])∧Below w.heap.size w w'
 | .ok rs=>∃v,e=.returned (.tuple #[v,.agg #[.int .i64 0,.int .i64 0]])∧Below w.heap.size w w'∧dD w' (λk=>k<w.heap.size) v rs
def vH(w:World)(s:B):World:=
 ((w.alloc (.cells #[.slice none 0 0] 38 (0,0))).alloc (.cells #[.int .i64 0,.int .i64 0] 26 (0,0))).alloc (.cells #[.string (str s),.int .i64 0] 143 (0,0))
theorem Py(w:World)(s:B):(vH w s).heap.size=w.heap.size+3:=by simp[vH]
theorem Ee(w:World)(s:B):Kept (λ_=>False) w (vH w s):=(((Kept.refl (λ_=>False) w).alloc _).alloc _).alloc _
theorem aah(w:World)(s:B):(vH w s).heap[w.heap.size]?=some (.cells #[.slice none 0 0] 38 (0,0)):=iw (iw (aI w _) _) _
theorem aai(w:World)(s:B):(vH w s).heap[w.heap.size+1]?=some (.cells #[.int .i64 0,.int .i64 0] 26 (0,0)):=by
 have:=aI (w.alloc (.cells #[.slice none 0 0] 38 (0,0))) (.cells #[.int .i64 0,.int .i64 0] 26 (0,0));simp only[show(w.alloc (.cells #[.slice none 0 0] 38 (0,0))).heap.size=w.heap.size+1 from by simp]at this;exact iw this _
theorem XQ(w:World)(s:B)(hs:s.length≤4000):dn (vH w s) (w.heap.size+2) s 0:=by
 refine⟨?_,Nat.zero_le _,hs⟩;have:=aI ((w.alloc (.cells #[.slice none 0 0] 38 (0,0))).alloc (.cells #[.int .i64 0,.int .i64 0] 26 (0,0))) (.cells #[.string (str s),.int .i64 0] 143 (0,0));simp only[show((w.alloc (.cells #[.slice none 0 0] 38 (0,0))).alloc (.cells #[.int .i64 0,.int .i64 0] 26 (0,0))).heap.size=w.heap.size+2 from by simp]at this;exact this
theorem A8(s:B)(w:World)(m:Int)(hm:w.cell? ⟨0,0,none⟩=some (.int .i64 m))(hs:s.length≤9223372036854775807):
  Calls Tryz.prog 33 #[.string (str s)] w (FY w (dW s)):=by
 obtain⟨r,HR⟩:∃r,Hid (dW s=r):=⟨_,rfl⟩;rw[HR.out];have h0:0<w.heap.size:=World.block_lt_of_cell? w _ hm;have HM:=hid hm;clear hm;have hmf:∀(fn:Fn) (first cap:Array Value) (w:World),(Instr.makeFunc fn first cap).run Tryz.prog w=.ok (.func fn first cap) w:=λ_ _ _ _=>rfl
 by_cases hl:4000<s.length
 ·obtain rfl:r=.bad ⟨4,0⟩:=by rw[←HR.out];unfold dW;rw[if_pos hl]
  have hlI:4000<(s.length:Int):=by omega
  have hsz:((str s).size:Int)=s.length:=by rw[lG]
  go_enter_defers Tryz.func33,Tryz.ntmps33
  go_wp2
  clear hmf HR HM;simp[bodyPostD,Leaves,settle,results,Tryz.results33,go_sem];exact⟨rfl,(((Kept.refl (λ_=>False) w).alloc _).alloc _).below⟩
 have hE:(iY s 0).then (λx=>if x.2.1=[] then Ans.ok x.1 else .bad ⟨2,x.2.2⟩)=r:=by
  rw[←HR.out];unfold dW;rw[if_neg hl]
 have HE:=hid hE;clear hE;have hsz:((str s).size:Int)=s.length:=by rw[lG]
 go_enter_defers Tryz.func33,Tryz.ntmps33
 go_wp2_with fail
 refine(FZ (vH w s) (w.heap.size+2) s 0 m ?_ ?_ (by omega)).mono ?_
 ·exact XQ w s (by omega)
 ·exact(Ee w s).cell (λh=>h) HM.out
 rw[List.drop_zero];have hk0:=Ee w s;have hl0:=aah w s;have hf0:=aai w s;change ∀(e:Ending) (w':World),CY _ (vH w s) _ _ _ e w'→_;have uq:=hid hk0;have TM:=hid hl0;have AL:=hid hf0;have hsz0:=Py w s;clear hk0 hl0 hf0;generalize vH w s=w0 at *;rintro e w' (⟨f,rfl,hk,hp⟩ | ⟨rs',at',⟨v',rfl,hdone⟩,hk,hrd,hp⟩)
 ·have HBAD:=hid (kK (s:=s) (f:=f) (by rw[HR.out,←HE.out,hp.out];rfl));obtain rfl:r=.bad f:=by rw[←HE.out,hp.out];rfl
  have hl1:=hk.heap (λ(hs:_=_)=>by omega) TM.out;have hf1:=hk.heap (λ(hs:_=_)=>by omega) AL.out;clear hmf HR HE HM hp;simp only[bodyPostD];refine leaves_cons (f:=72) (args:=#[.pointer (some ⟨w.heap.size+1,0,none⟩)]) (by simp) (by simp[go_sem]) ?_;refine(lY (w.heap.size+1) f w' _ _ hf1).mono ?_;rintro e u' w2 ⟨rfl,rfl,hk2,hf2⟩;have hl2:=hk2.heap (by omega) hl1;have hne:((f.err:Int) != 0)=true:=by have:=HBAD.out.1;simp;omega
  refine leaves_cons (f:=76) (args:=#[.pointer (some ⟨w.heap.size+1,0,none⟩),.pointer (some ⟨w.heap.size,0,none⟩)]) (by simp[settle]) (by simp[go_sem]) ?_;refine(AY (w.heap.size+1) w.heap.size f.err f.pos _ w2 _ hf2 hl2 hne).mono ?_;rintro e u' w3 ⟨rfl,rfl,hk3,hl3⟩;have hf3:=hk3.heap (by omega) hf2;have l0:=ah hl3 0 rfl;have g0:=ah hf3 0 rfl;have g1:=ah hf3 1 rfl;simp[Leaves,settle,results,Tryz.results33,go_sem,l0,g0,g1];exact⟨rfl,(((uq.out.trans' hk (λi hi (hs:i=_)=>by omega)).trans' hk2 (λi hi (hs:i=_)=>by omega)).trans' hk3 (λi hi (hs:i=_)=>by omega)).below⟩
 have hr:(if s.drop at'=[] then Ans.ok rs' else .bad ⟨2,at'⟩)=r:=by rw[←HE.out,hp.out];rfl
 obtain⟨a9,c9,rfl⟩:∃a cap,v'=.slice a rs'.length cap:=by
  obtain⟨a,cap,e,_⟩:=hdone.1;exact⟨a,cap,by rw[e,List.length_map]⟩
 have hat:at'≤s.length:=hrd.2.1;have c0:=hrd.c0;have c1:=hrd.c1;have hl1:=hk.heap (λ(hs:_=_)=>by omega) TM.out;have hf1:=hk.heap (λ(hs:_=_)=>by omega) AL.out;have l0:w'.cell? ⟨w.heap.size,0,none⟩=some (.slice none 0 0):=ah hl1 0 rfl;have l0f:=aF hl1 0;have g0:w'.cell? ⟨w.heap.size+1,0,none⟩=some (.int .i64 0):=ah hf1 0 rfl;have g1:w'.cell? ⟨w.heap.size+1,1,none⟩=some (.int .i64 0):=ah hf1 1 rfl;have g0f:=aF hf1 0;have g1f:=aF hf1 1;have HF:=hid hf1;have HL:=hid hl1;have ZJ:=hid hrd;have JR:=hid hdone;have HR0:=hid hr;clear hl1 hf1 hrd hdone hr hp;by_cases hend:at'=s.length
 ·obtain rfl:r=.ok rs':=by rw[←HR0.out,if_pos (by rw[hend];simp)]
  have hd:decide ((at':Int)<(s.length:Int))=false:=by simp;omega
  subst hend;clear HR0;go_wp2_with fail
  go_region
  go_wp2_with fail
  clear hmf HR HM;simp only[bodyPostD];refine leaves_cons (f:=72) (args:=#[.pointer (some ⟨w.heap.size+1,0,none⟩)]) (by simp) (by simp[go_sem]) ?_;refine(D8 _ _).mono ?_;rintro e u' w2 ⟨rfl,rfl,hw2⟩;have hkF:Kept (λk=>k=w.heap.size∨k=w.heap.size+1) w' w2:=by
   rw[hw2];exact(((((Kept.refl _ w').setCell (p:=⟨w.heap.size,0,none⟩) (.inl (.inl rfl)) _).setCell (p:=⟨w.heap.size,0,none⟩) (.inl (.inl rfl)) _).setCell (p:=⟨w.heap.size+1,0,none⟩) (.inl (.inr rfl)) _).setCell (p:=⟨w.heap.size+1,1,none⟩) (.inl (.inr rfl)) _).drew
  have l1:w2.cell? ⟨w.heap.size,0,none⟩=some (.slice a9 rs'.length c9):=by
   rw[hw2];exact ah (eF (eF (aW (aW HL.out 0 (.slice a9 rs'.length c9)) 0 (.slice a9 rs'.length c9)) ⟨w.heap.size+1,0,none⟩ _ (by show w.heap.size≠w.heap.size+1;omega)) ⟨w.heap.size+1,1,none⟩ _ (by show w.heap.size≠w.heap.size+1;omega)) 0 rfl
  have hf2:w2.heap[w.heap.size+1]?=some (.cells #[.int .i64 0,.int .i64 0] 26 (0,0)):=by
   rw[hw2];exact aW (aW (eF (eF HF.out ⟨w.heap.size,0,none⟩ (.slice a9 rs'.length c9) (by show w.heap.size+1≠w.heap.size;omega)) ⟨w.heap.size,0,none⟩ (.slice a9 rs'.length c9) (by show w.heap.size+1≠w.heap.size;omega)) 0 (.int .i64 0)) 1 (.int .i64 0)
  clear hw2 l0 g0 g1;refine leaves_cons (f:=76) (args:=#[.pointer (some ⟨w.heap.size+1,0,none⟩),.pointer (some ⟨w.heap.size,0,none⟩)]) (by simp[settle]) (by simp[go_sem]) ?_;refine(AZ (w.heap.size+1) w.heap.size 0 _ w2 hf2).mono ?_;rintro e u' w3 ⟨rfl,rfl,rfl⟩;have g2:w3.cell? ⟨w.heap.size+1,0,none⟩=some (.int .i64 0):=ah hf2 0 rfl;have g3:w3.cell? ⟨w.heap.size+1,1,none⟩=some (.int .i64 0):=ah hf2 1 rfl;simp[Leaves,settle,results,Tryz.results33,go_sem,l1,g2,g3];refine⟨_,rfl,((uq.out.trans' hk (λi hi (hs:i=_)=>by omega)).trans' hkF (λi hi hs=>by rcases hs with hs | hs<;>omega)).below,?_⟩;exact jB _ _ _ _ _ _ _ JR.out hkF (λk _ hs=>by rcases hs with hs | hs<;>(show k<w0.heap.size;omega)) (λk _ (hx:k<w.heap.size)=>by show k<w0.heap.size;omega)
 obtain rfl:r=.bad ⟨2,at'⟩:=by
  rw[←HR0.out,if_neg];intro he;have:=congrArg List.length he;simp at this;omega
 have hd:(at':Int)<(s.length:Int):=by omega
 clear HR0;go_wp2_with fail
 have afr:dn (w'.setCell ⟨w.heap.size,0,none⟩ (.slice a9 rs'.length c9)) (w.heap.size+2) s at':=⟨eF ZJ.out.1 ⟨w.heap.size,0,none⟩ _ (by show w.heap.size+2≠w.heap.size;omega),ZJ.out.2⟩;refine(iG 2 _ _ s at' afr).mono ?_;rintro e w1 ⟨rfl,hq⟩;have hl3:=(hq.kept (λ_=>False)).heap id (aW HL.out 0 (.slice a9 rs'.length c9));have hf3:=(hq.kept (λ_=>False)).heap id (eF HF.out ⟨w.heap.size,0,none⟩ (.slice a9 rs'.length c9) (by show w.heap.size+1≠w.heap.size;omega));have hk3:Kept (λk=>k=w.heap.size∨k=w.heap.size+2) w0 w1:=((hk.mono (λk _ hs=>.inr hs)).setCell (p:=⟨w.heap.size,0,none⟩) (.inl (.inl rfl)) _).trans (hq.kept _);have hne:(((2:Nat):Int) != 0)=true:=by decide
 clear hmf HR HM hq;simp only[bodyPostD];refine leaves_cons (f:=72) (args:=#[.pointer (some ⟨w.heap.size+1,0,none⟩)]) (by simp) (by simp[go_sem]) ?_;refine(lY (w.heap.size+1) ⟨2,at'⟩ w1 _ _ hf3).mono ?_;rintro e u' w2 ⟨rfl,rfl,hk4,hf2⟩;have hl2:=hk4.heap (by omega) hl3;refine leaves_cons (f:=76) (args:=#[.pointer (some ⟨w.heap.size+1,0,none⟩),.pointer (some ⟨w.heap.size,0,none⟩)]) (by simp[settle]) (by simp[go_sem]) ?_;refine(AY (w.heap.size+1) w.heap.size _ _ _ w2 _ hf2 hl2 hne).mono ?_;rintro e u' w3 ⟨rfl,rfl,hk5,hl4⟩;have hf4:=hk5.heap (by omega) hf2;have l0:=ah hl4 0 rfl;have g0:=ah hf4 0 rfl;have g1:=ah hf4 1 rfl;simp[Leaves,settle,results,Tryz.results33,go_sem,l0,g0,g1];exact⟨rfl,(((uq.out.trans' hk3 (λi hi hs=>by rcases hs with hs | hs<;>omega)).trans' hk4 (λi hi (hs:i=_)=>by omega)).trans' hk5 (λi hi (hs:i=_)=>by omega)).below⟩
def zD:Value:=.agg #[.string (str ql),.string (str lZ),.string (str kL),.string (str nU)]
theorem XR(w:World):Calls Tryz.prog 110 #[] w λe w'=>e=.returned zD∧Below w.heap.size w w':=by
 go_enter Tryz.func110,Tryz.ntmps110
 go_wp2
 refine bodyPost_ret (v:=zD) (by simp[results,Tryz.results110,go_sem];rfl) rfl ?_;exact⟨rfl,(Below.refl _ _).alloc (Nat.le_refl _) _⟩
def ank(d:aC):Value:=.agg #[.string (str d.name),.string (str d.val),.bool d.strong]
@[reducible] def Jv(a b c d:Int):Value:=.agg #[.int .i64 a,.int .i64 b,.int .i64 c,.int .i64 d]
@[reducible] def EN:MapEntry:=⟨.int .i64 1,Jv 0 0 0 0,0⟩
@[reducible] def Jw:MapEntry:=⟨.int .i64 2,Jv 0 1 0 1,1⟩
@[reducible] def Pz:MapEntry:=⟨.int .i64 3,Jv 0 1 2 1,2⟩
@[reducible] def XT:MapEntry:=⟨.int .i64 4,Jv 0 1 2 3,3⟩
def Fa:Nat→Option (Int×Int×Int×Int)
 | 1=>some (0,0,0,0)
 | 2=>some (0,1,0,1)
 | 3=>some (0,1,2,1)
 | 4=>some (0,1,2,3)
 | _=>none
theorem Wu(w2:World)(n:Nat):(Instr.lookup 184 (.map (some w2.heap.size)) (.int .i64 (n:Int)) true).run Tryz.prog (w2.alloc (.map #[EN,Jw,Pz,XT] 4)) =
  .ok (.tuple #[match Fa n with | some (a,b,c,d)=>Jv a b c d | none=>Jv 0 0 0 0,.bool (Fa n).isSome]) (w2.alloc (.map #[EN,Jw,Pz,XT] 4)):=by
 have hb:=aI w2 (.map #[EN,Jw,Pz,XT] 4)
 match n with
 | 0=>exact tN Tryz.underlying184 Tryz.underlying3 hb (by rfl) (by rfl) (by kernel_rfl) true
 | 1=>exact nS (i:=0) Tryz.underlying184 Tryz.underlying3 hb (by rfl) (by rfl) true
 | 2=>exact nS (i:=1) Tryz.underlying184 Tryz.underlying3 hb (by rfl) (by rfl) true
 | 3=>exact nS (i:=2) Tryz.underlying184 Tryz.underlying3 hb (by rfl) (by rfl) true
 | 4=>exact nS (i:=3) Tryz.underlying184 Tryz.underlying3 hb (by rfl) (by rfl) true
 | n+5=>
  refine tN Tryz.underlying184 Tryz.underlying3 hb (by rfl) ?_ (by kernel_rfl) true;have h1:(((n+5:Nat):Int)==1)=false:=by simp;omega
  have h2:(((n+5:Nat):Int)==2)=false:=by simp;omega
  have h3:(((n+5:Nat):Int)==3)=false:=by simp;omega
  have h4:(((n+5:Nat):Int)==4)=false:=by simp;omega
  simp only[Instr.findNow,Instr.sameNow,if_true,h1,h2,h3,h4]
theorem Wv(w2:World):(Instr.mapUpdate 184 (.map (some w2.heap.size)) (.int .i64 1) (Jv 0 0 0 0)).run Tryz.prog (w2.alloc (.map #[] 0))=.ok () (w2.alloc (.map #[EN] 1)):=
 nR Tryz.underlying184 Tryz.underlying3 w2 (by rfl) (by rfl)
theorem Wx(w2:World):(Instr.mapUpdate 184 (.map (some w2.heap.size)) (.int .i64 2) (Jv 0 1 0 1)).run Tryz.prog (w2.alloc (.map #[EN] 1))=.ok () (w2.alloc (.map #[EN,Jw] 2)):=
 nR Tryz.underlying184 Tryz.underlying3 w2 (by rfl) (by rfl)
theorem Wy(w2:World):(Instr.mapUpdate 184 (.map (some w2.heap.size)) (.int .i64 3) (Jv 0 1 2 1)).run Tryz.prog (w2.alloc (.map #[EN,Jw] 2))=.ok () (w2.alloc (.map #[EN,Jw,Pz] 3)):=
 nR Tryz.underlying184 Tryz.underlying3 w2 (by rfl) (by rfl)
theorem WA(w2:World):(Instr.mapUpdate 184 (.map (some w2.heap.size)) (.int .i64 4) (Jv 0 1 2 3)).run Tryz.prog (w2.alloc (.map #[EN,Jw,Pz] 3))=.ok () (w2.alloc (.map #[EN,Jw,Pz,XT] 4)):=
 nR Tryz.underlying184 Tryz.underlying3 w2 (by rfl) (by rfl)
def F5:Nat→B
 | 0=>ql
 | 1=>lZ
 | 2=>kL
 | _=>nU
theorem aaj(w:World):(Instr.index 185 zD (.int .i64 0)).run Tryz.prog w=.ok (.string (str ql)) w:=by kernel_rfl
theorem aak(w:World):(Instr.index 185 zD (.int .i64 1)).run Tryz.prog w=.ok (.string (str lZ)) w:=by kernel_rfl
theorem aal(w:World):(Instr.index 185 zD (.int .i64 2)).run Tryz.prog w=.ok (.string (str kL)) w:=by kernel_rfl
theorem aam(w:World):(Instr.index 185 zD (.int .i64 3)).run Tryz.prog w=.ok (.string (str nU)) w:=by kernel_rfl
theorem ade(k:Nat)(hk:k<4)(w:World):(Instr.index 185 zD (.int .i64 (k:Int))).run Tryz.prog w=.ok (.string (str (F5 k))) w:=by
 match k,hk with
 | 0,_=>exact aaj w
 | 1,_=>exact aak w
 | 2,_=>exact aal w
 | 3,_=>exact aam w
theorem adf{la lb lc ld:B}{st:Bool}{L:List B}{a b c d:Nat}(ha:L[a]?=some la)(hb:L[b]?=some lb)(hc:L[c]?=some lc)(hd:L[d]?=some ld)(k:Nat)(hk:k<4):
  ∃(j:Nat) (x:B),(#[Value.int .i64 a,.int .i64 b,.int .i64 c,.int .i64 d])[k]?=some (.int .i64 (j:Int))∧L[j]?=some x∧(edges la lb lc ld st)[k]?=some ⟨F5 k,x,st⟩:=by
 match k,hk with
 | 0,_=>exact⟨a,la,rfl,ha,rfl⟩
 | 1,_=>exact⟨b,lb,rfl,hb,rfl⟩
 | 2,_=>exact⟨c,lc,rfl,hc,rfl⟩
 | 3,_=>exact⟨d,ld,rfl,hd,rfl⟩
structure WB(w3 wr:World)(base:Nat)(l:Value)(X:List aC)(k:Nat):Prop where
 own:wr.ownsRow base 59 3 l k ((X.take k).map aA).flatten
 kept:Kept (λ_=>False) w3 wr
theorem WB.form{w3 wr:World}{base:Nat}{l:Value}{X:List aC}{k:Nat}(h:WB w3 wr base l X k):∃vo vc,l=.slice vo k vc:=by
 rcases h.own.2 with⟨h,hn⟩ | ⟨g,cap,cur,h,_⟩
 ·exact⟨none,0,by rw[h,hn]⟩
 exact⟨_,cap,h⟩
theorem Ba(d:aC):∀u∈aA d,u.oneCell'=true:=by
 intro u hu;simp only[aA,List.mem_cons,List.not_mem_nil,or_false]at hu;rcases hu with rfl | rfl | rfl<;>rfl
theorem sQ(nm val:B)(L:List B)(strong:Bool)(a b c d:Nat)(la lb lc ld:B)(w:World)(m:Int)(hm:w.cell? ⟨0,0,none⟩=some (.int .i64 m))(hl:val.length≤1048576)(hn:nm=fG)(hs:splitB val=L)(hw:Fa L.length=some ((a:Int),(b:Int),(c:Int),(d:Int)))
  (ha:L[a]?=some la) (hb:L[b]?=some lb) (hc:L[c]?=some lc) (hd:L[d]?=some ld) :
 Calls Tryz.prog 75 #[.agg #[.string (str nm),.string (str val),.bool strong]] w λe w'=>∃v,e=.returned (.tuple #[v,.int .i64 0])∧Below w.heap.size w w'∧dD w' (λk=>k<w.heap.size) v (edges la lb lc ld strong):=by
 have g:(nm==[101,100,103,101])=true:=by simp[hn,fG]
 have HS:=hid hs;have HW:=hid hw;have hLl:L.length≤1048577:=by have:=zB val;rw[hs]at this;omega
 obtain⟨i0,hi0,hz0,hz1,hz2⟩:=info_parts qF;obtain⟨X,HX⟩:∃X,Hid (edges la lb lc ld strong=X):=⟨_,rfl⟩;have HF:=hid (adf (st:=strong) ha hb hc hd);rw[HX.out]at HF ⊢;clear hn hs hw ha hb hc hd;go_enter Tryz.func75,Tryz.ntmps75
 go_wp2_with fail
 refine(CQ val m _ (by omega) (by rw[World.cell?_alloc_old _ _ _ (by have:=World.block_lt_of_cell? _ _ hm;dsimp at this ⊢;omega)];exact hm)).mono ?_;rintro e w2 ⟨rfl,hw2⟩;rw[HS.out]at hw2 ⊢;have hsz:w2.heap.size=w.heap.size+1+1:=by rw[hw2];simp
 have hdb:=aI w (.cells #[.string (str nm),.string (str val),.bool strong] 59 (0,0));have hL:=aI (w.alloc (.cells #[.string (str nm),.string (str val),.bool strong] 59 (0,0))) (.cells (L.map λx=>Value.string (str x)).toArray 9 (0,0));have hd2:=iw hdb (.cells (L.map λx=>Value.string (str x)).toArray 9 (0,0));have hb2:=((Below.refl w.heap.size w).alloc (Nat.le_refl _) (.cells #[.string (str nm),.string (str val),.bool strong] 59 (0,0))).alloc (by simp) (.cells (L.map λx=>Value.string (str x)).toArray 9 (0,0));rw[←hw2]at hL hd2 hb2;have eL:(w.alloc (.cells #[.string (str nm),.string (str val),.bool strong] 59 (0,0))).heap.size=w.heap.size+1:=by simp
 rw[eL]at hL;have HB2:=hid hb2;have HSZ:=hid hsz;have HD2:=hid hd2;have HL2:=hid hL;clear hw2 hdb hsz hb2 eL hd2 hL;go_upto_region 4 with fail
 have e0:=qW (P:=Tryz.prog) w2 184;have e1:=Wv w2;have e2:=Wx w2;have e3:=Wy w2;have e4:=WA w2;have e5:=Wu w2 L.length;rw[HW.out]at e5;simp only[Option.isSome_some]at e5;go_wp2_with fail
 obtain⟨w3,HW3⟩:∃x,Hid ((w2.alloc (.map #[EN,Jw,Pz,XT] 4)).alloc (.cells #[.int .i64 a,.int .i64 b,.int .i64 c,.int .i64 d] 182 (0,0))=x):=⟨_,rfl⟩;rw[HW3.out];clear e0 e1 e2 e3 e4 e5;refine(XR w3).mono ?_;rintro e w4 ⟨rfl,hb4⟩;have hq:w3.heap[w2.heap.size+1]?=some (.cells #[.int .i64 a,.int .i64 b,.int .i64 c,.int .i64 d] 182 (0,0)):=by
  rw[←HW3.out];have:=aI (w2.alloc (.map #[EN,Jw,Pz,XT] 4)) (.cells #[.int .i64 a,.int .i64 b,.int .i64 c,.int .i64 d] 182 (0,0));simpa using this
 have k23:Kept (λ_=>False) w2 w3:=by rw[←HW3.out];exact((Kept.refl _ w2).alloc _).alloc _
 have k34:Kept (λ_=>False) w3 w4:=Kept.of_below hb4;have hq4:=k34.heap id hq;have k24:=k23.trans k34;have HD4:=hid (k24.heap id HD2.out);have FX:=hid (k24.heap id HL2.out);have HQ4:=hid hq4;have HB4:=hid ((HB2.out).trans (k24.below.mono HB2.out.size));have HK:=hid k24;clear hb4 hq k23 k34 hq4 k24;obtain⟨base,fB⟩:∃x,Hid (w4.heap.size=x):=⟨_,rfl⟩;go_upto_block 0 with fail
 go_cut [7] (λl wx=>WB w4 wx base l X 4)
 case first=>
  go_wp2_with fail
  go_loopw [7,33] (λl i wr=>∃k:Nat,k≤4∧i=.int .i64 k∧WB w4 wr base l X k) (λ_ i _=>4-(intOf i).toNat)
  case atStart=>exact⟨0,by omega,rfl,World.ownsRow_nil _ _ _ _,Kept.refl _ _⟩
  case round=>
   obtain⟨i,hi,rfl,hL⟩:=hrel;obtain⟨lo,lc',rfl⟩:=hL.form;have HL:=hid hL;have how:=hL.own;clear hL;by_cases hlt:i<4
   ·obtain⟨j,x,hj,hx,hX⟩:=HF.out i hlt;have d2:wr.cell? ⟨w.heap.size,2,none⟩=some (.bool strong):=ah (HL.out.kept.heap id HD4.out) 2 rfl;have q0:wr.cell? ⟨w2.heap.size+1,i,none⟩=some (.int .i64 j):=ah (HL.out.kept.heap id HQ4.out) i hj;have l0:wr.cell? ⟨w.heap.size+1,j,none⟩=some (.string (str x)):=ah (HL.out.kept.heap id FX.out) j (by simp[hx]);have hjl:j<L.length:=(List.getElem?_eq_some_iff.1 hx).1;have hix:=ade i hlt wr;have MV:base≤wr.heap.size:=by have:=HL.out.kept.size;have:=fB.out;omega
    have HX1:=hid hX;have s1:w2.heap.size+1<wr.heap.size:=by have:=gW HQ4.out;have:=HL.out.kept.size;omega
    have s2:w.heap.size+1<wr.heap.size:=by have:=gW FX.out;have:=HL.out.kept.size;omega
    have n1:Hid (some (w2.heap.size+1)≠(Value.slice lo i lc').ownBlock):=hid λhx=>by
     have:=(how.lt _ hx.symm).1;have:=gW HQ4.out;have:=fB.out;omega
    have n2:Hid (some (w.heap.size+1)≠(Value.slice lo i lc').ownBlock):=hid λhx=>by
     have:=(how.lt _ hx.symm).1;have:=gW FX.out;have:=fB.out;omega
    have n3:Hid (some w.heap.size≠(Value.slice lo i lc').ownBlock):=hid λhx=>by
     have:=(how.lt _ hx.symm).1;have:=gW FX.out;have:=fB.out;omega
    obtain⟨sn,PD⟩:∃y,Hid (F5 i=y):=⟨_,rfl⟩;rw[PD.out]at hix;clear hj hx hX;go_upto_region 11 with fail
    go_region_held3 (λw'=>w'.cell? ⟨w2.heap.size+1,i,none⟩=some (.int .i64 j)∧w'.cell? ⟨w.heap.size+1,j,none⟩=some (.string (str x))∧w'.cell? ⟨w.heap.size,2,none⟩=some (.bool strong)) (first | go_keep | (go_split_ands;exact⟨by rw[hgrow.cell_far _ (by simp;omega) n1.out];assumption,by rw[hgrow.cell_far _ (by simp;omega) n2.out];assumption,by rw[hgrow.cell_far _ (by simp;omega) n3.out];assumption⟩))
     ((refine step_append_lies _ (by rfl) _ _ _ (by rfl) base 59 i0 _ 3 40 Tryz.underlying38 hi0 hz0 hz1 hz2 rfl (by omega) _ i _ (by rfl) (how.alloc _) ⟨wr.heap.size,0,none⟩ 1 1 (aA ⟨sn,x,strong⟩) (by rfl) (by rfl) (World.news_of_block (cs:=(aA ⟨sn,x,strong⟩).toArray) (t:=59) (fr:=(0,0)) (heap_alloc_new wr _)) (Ba _) (by omega) (by unfold maxLen;omega) (by omega) (by simp;omega) (wr.heap.size+1) (by simp) ?_;intro gg cap w5 hown5 hgrow hat MW))
    go_wp2_with fail
    go_roundw
    case measure=>simp[intOf];omega
    case rel=>
     refine⟨i+1,by omega,by go_num,?_,((HL.out.kept.alloc _).drew).grown hgrow (λk hk=>.inr (by have:=(HL.out.own.lt k hk).1;have:=fB.out;omega))⟩;rw[List.take_add_one,HX1.out,PD.out,Option.toList_some,List.map_append,List.flatten_append,List.map_singleton,List.flatten_singleton];exact hown5
   obtain rfl:i=4:=by omega
   go_wp2_with fail
   go_meet
   case rel=>exact HL.out
 case rest=>
  have HE:=hid hcut;obtain⟨lo,lc',rfl⟩:=hcut.form;clear hcut;go_wp2_with fail
  refine bodyPost_ret (v:=.tuple #[.slice lo 4 lc',.int .i64 0]) (by simp[results,Tryz.results75,go_sem]) rfl ?_;refine⟨_,rfl,HB4.out.trans (HE.out.kept.below.mono HB4.out.size),?_⟩;have hX4:X.length=4:=by rw[←HX.out];rfl
  have how:=HE.out.own;rw[List.take_of_length_le (by omega)]at how;have hbs:=HB4.out.size;exact⟨aS ku (by simp[hX4]) how,λk hk=>⟨λhx=>by have:=(how.lt k hk).1;have:=fB.out;omega,(how.lt k hk).2⟩⟩
theorem PE(nm val:B)(L:List B)(strong:Bool)(w:World)(m:Int)(hm:w.cell? ⟨0,0,none⟩=some (.int .i64 m))(hl:val.length≤1048576)(hn:nm=fG)(hs:splitB val=L)(hw:Fa L.length=none):
 Calls Tryz.prog 75 #[.agg #[.string (str nm),.string (str val),.bool strong]] w λe w'=>e=.returned (.tuple #[.slice none 0 0,.int .i64 5])∧Below w.heap.size w w':=by
 have g:(nm==[101,100,103,101])=true:=by simp[hn,fG]
 have HS:=hid hs;have HW:=hid hw;have hLl:L.length≤1048577:=by have:=zB val;rw[hs]at this;omega
 clear hn hs hw;go_enter Tryz.func75,Tryz.ntmps75
 go_wp2_with fail
 refine(CQ val m _ (by omega) (by rw[World.cell?_alloc_old _ _ _ (by have:=World.block_lt_of_cell? _ _ hm;dsimp at this ⊢;omega)];exact hm)).mono ?_;rintro e w2 ⟨rfl,hw2⟩;rw[HS.out]at hw2 ⊢;have hb2:=((Below.refl w.heap.size w).alloc (Nat.le_refl _) (.cells #[.string (str nm),.string (str val),.bool strong] 59 (0,0))).alloc (by simp) (.cells (L.map λx=>Value.string (str x)).toArray 9 (0,0));rw[←hw2]at hb2;have HB2:=hid hb2;clear hw2 hb2;go_upto_region 4 with fail
 have e0:=qW (P:=Tryz.prog) w2 184;have e1:=Wv w2;have e2:=Wx w2;have e3:=Wy w2;have e4:=WA w2;have e5:=Wu w2 L.length;rw[HW.out]at e5;simp only[Option.isSome_none]at e5;go_wp2_with fail
 refine bodyPost_ret (v:=.tuple #[.slice none 0 0,.int .i64 5]) (by simp[results,Tryz.results75,go_sem]) rfl ?_;exact⟨rfl,(HB2.out.alloc HB2.out.size _).alloc (Nat.le_trans HB2.out.size (by simp)) _⟩
theorem CZ(nm val:B)(strong:Bool)(w:World)(hn:nm≠fG):
 Calls Tryz.prog 75 #[.agg #[.string (str nm),.string (str val),.bool strong]] w λe w'=>∃v,e=.returned (.tuple #[v,.int .i64 0])∧Below w.heap.size w w'∧dD w' (λk=>k<w.heap.size) v [⟨nm,val,strong⟩]:=by
 have g:(nm==[101,100,103,101])=false:=beq_false_of_ne hn;clear hn;go_enter Tryz.func75,Tryz.ntmps75
 go_wp2_with fail
 refine bodyPost_ret (v:=.tuple #[.slice (some ⟨w.heap.size+1,0,none⟩) 1 1,.int .i64 0]) (by simp[results,Tryz.results75,go_sem]) rfl ?_;have hh:=aI (w.alloc (.cells #[.string (str nm),.string (str val),.bool strong] 59 (0,0))) (.cells #[.string (str nm),.string (str val),.bool strong] 59 (0,0));have e1:(w.alloc (.cells #[.string (str nm),.string (str val),.bool strong] 59 (0,0))).heap.size=w.heap.size+1:=by simp
 rw[e1]at hh;refine⟨_,rfl,((Below.refl _ _).alloc (Nat.le_refl _) _).alloc (by simp) _,⟨_,_,rfl,Nat.le_refl _,by unfold maxLen;omega,λ_=>⟨_,_,rfl,?_⟩⟩,?_⟩
 ·intro i r hr j c hc;cases i with
  | zero=>
   simp at hr;subst hr;rw[cell_of_row _ _ _ _ _ _ hh];simpa [aA] using hc
  | succ i=>simp at hr
 intro k hk;cases hk;exact⟨λh=>by simp at h;omega,by simp⟩
def TS(w:World)(r:Option (List aC))(e:Ending)(w':World):Prop:=
 match r with
 | none=>e=.returned (.tuple #[.slice none 0 0,.int .i64 5])∧Below w.heap.size w w'
 | some x=>∃v,e=.returned (.tuple #[v,.int .i64 0])∧Below w.heap.size w w'∧dD w' (λk=>k<w.heap.size) v x
theorem TT(d:aC)(w:World)(m:Int)(hm:w.cell? ⟨0,0,none⟩=some (.int .i64 m))(hl:d.val.length≤1048576):
  Calls Tryz.prog 75 #[.agg #[.string (str d.name),.string (str d.val),.bool d.strong]] w (TS w (gu d)):=by
 obtain⟨nm,val,st⟩:=d;simp only at hl ⊢;by_cases hn:nm=fG
 ·unfold gu;simp only[hn,if_true];cases hs:splitB val with
  | nil=>exact absurd hs (xR val)
  | cons a L=>
   match L with
   | []=>exact sQ fG val [a] st 0 0 0 0 a a a a w m hm hl rfl hs rfl rfl rfl rfl rfl
   | [b]=>exact sQ fG val [a,b] st 0 1 0 1 a b a b w m hm hl rfl hs rfl rfl rfl rfl rfl
   | [b,c]=>exact sQ fG val [a,b,c] st 0 1 2 1 a b c b w m hm hl rfl hs rfl rfl rfl rfl rfl
   | [b,c,d]=>exact sQ fG val [a,b,c,d] st 0 1 2 3 a b c d w m hm hl rfl hs rfl rfl rfl rfl rfl
   | b::c::d::x::L=>exact PE fG val _ st w m hm hl rfl hs rfl
 unfold gu;simp only[hn,if_false];exact CZ nm val st w hn
theorem F6{d:aC}{x:List aC}(h:gu d=some x):1≤x.length∧x.length≤4:=by
 unfold gu at h;split at h
 ·split at h
  all_goals first
   | (cases h;exact⟨by simp[edges],by simp[edges]⟩)
   | cases h
 cases h;simp
theorem wK{ds:List aC}{k:Nat}{d:aC}{xs:List aC}(hd:ds[k]?=some d)(hx:fH (ds.take k)=some xs):fH (ds.take (k+1))=match gu d with | none=>none | some y=>some (xs++y):=by
 rw[List.take_add_one,hd,Option.toList_some,WC,hx];simp only[fH];cases gu d<;>simp
theorem yP{ds:List aC}{k:Nat}(h:fH (ds.take k)=none):fH ds=none:=by
 have:=WC (xs:=ds.take k) (ys:=ds.drop k);rw[List.take_append_drop,h]at this;exact this
def WE(w:World)(r:Option (List aC))(e:Ending)(w':World):Prop:=
 match r with
 | none=>e=.returned (.tuple #[.slice none 0 0,.int .i64 5])∧Below w.heap.size w w'
 | some x=>∃v,e=.returned (.tuple #[v,.int .i64 0])∧Below w.heap.size w w'∧dD w' (λk=>k<w.heap.size) v x
structure WG(w wr:World)(base:Nat)(l:Value)(ds:List aC)(k n:Nat)(xs:List aC):Prop where
 own:wr.ownsRow base 59 3 l n (xs.map aA).flatten
 kept:Kept (λ_=>False) w wr
 all:fH (ds.take k)=some xs
 len:n=xs.length∧n≤4*k
theorem WG.form{w wr:World}{base:Nat}{l:Value}{ds xs:List aC}{k n:Nat}(h:WG w wr base l ds k n xs):∃vo vc,l=.slice vo n vc:=by
 rcases h.own.2 with⟨h,hn⟩ | ⟨g,cap,cur,h,_⟩
 ·exact⟨none,0,by rw[h,hn]⟩
 exact⟨_,cap,h⟩
theorem XU(xs:List aC):∀u∈(xs.map aA).flatten,u.oneCell'=true:=by
 intro u hu;simp only[List.mem_flatten,List.mem_map]at hu;obtain⟨r,⟨d,_,rfl⟩,hu⟩:=hu;exact Ba d u hu
theorem Bc(w:World)(v:Value)(ds:List aC)(h:bC w v ds)(hN:ds.length≤5000000)(hone:∀d∈ds,d.val.length≤1048576)(m:Int)(hm:w.cell? ⟨0,0,none⟩=some (.int .i64 m)):
  Calls Tryz.prog 32 #[v] w (WE w (fH ds)):=by
 obtain⟨av,cv,rfl,hcv1,hcv2⟩:=h.form;unfold maxLen at hcv2;obtain⟨base,fB⟩:∃base,Hid (w.heap.size=base):=⟨_,rfl⟩;obtain⟨R,HR⟩:∃R,Hid (fH ds=R):=⟨_,rfl⟩;rw[HR.out];obtain⟨i0,hi0,hz0,hz1,hz2⟩:=info_parts qF;have H:=hid h;have MZ:=hid hone;have HM:=hid hm;clear h hone hm;go_enter Tryz.func32,Tryz.ntmps32
 go_wp2_with fail
 go_loopw [4,11] (λl i wr=>∃(k n:Nat) (xs:List aC),k≤ds.length∧i=.int .i64 k∧WG w wr base l ds k n xs) (λ_ i _=>ds.length-(intOf i).toNat)
 case atStart=>exact⟨0,0,[],by omega,rfl,World.ownsRow_nil _ _ _ _,Kept.refl _ _,rfl,rfl,by omega⟩
 case round=>
  obtain⟨i,n,xs,hi,rfl,hL⟩:=hrel;obtain⟨lo,lc,rfl⟩:=hL.form;have HL:=hid hL;obtain⟨hn1,hn2⟩:=hL.len;clear hL hn1;by_cases hlt:i<ds.length
  ·have hx:=List.getElem?_eq_getElem hlt;generalize hgx:ds[i]=x at hx;clear hgx;obtain⟨b,off,rfl,g0,g1,g2⟩:=bC.at (iy.kept H.out HL.out.kept) hx;have hxl:=MZ.out x (List.mem_of_getElem? hx);have HX:=hid hx;clear hx;go_wp2_with fail
   obtain⟨wa,gX⟩:∃x',Hid (wr.alloc (.cells #[.string (str x.name),.string (str x.val),.bool x.strong] 59 (0,0))=x'):=⟨_,rfl⟩;have ka:Kept (λ_=>False) w wa:=by rw[←gX.out];exact HL.out.kept.alloc _
   have how:wa.ownsRow base 59 3 (.slice lo n lc) n (xs.map aA).flatten:=by rw[←gX.out];exact HL.out.own.alloc _
   have hm1:wa.cell? ⟨0,0,none⟩=some (.int .i64 m):=ka.cell id HM.out;have hsz:base≤wa.heap.size:=by have:=ka.size;have:=fB.out;omega
   have KA:=hid ka;have HOW:=hid how;clear ka how g0 g1 g2;rw[gX.out];refine(TT x wa m hm1 hxl).mono ?_;intro e w2 hE;cases hp:gu x with
   | none=>
    rw[hp]at hE;obtain⟨rfl,hb2⟩:=hE;have hR:Hid (R=none):=hid (by
     have:=wK HX.out HL.out.all;rw[hp]at this;rw[←HR.out];exact yP this)
    have K2:=hid (KA.out.trans (Kept.of_below hb2));clear hp hb2;go_wp2_with fail
    refine bodyPost_ret (v:=.tuple #[.slice none 0 0,.int .i64 5]) (by simp[results,Tryz.results32,go_sem]) rfl ?_;rw[hR.out];exact⟨rfl,K2.out.below⟩
   | some y=>
    rw[hp]at hE;obtain⟨v2,rfl,hb2,hD2⟩:=hE;have hT:Hid (fH (ds.take (i+1))=some (xs++y)):=hid (by
     have:=wK HX.out HL.out.all;rw[hp]at this;exact this)
    obtain⟨hy1,hy2⟩:=F6 hp;obtain⟨ya,yc,rfl,apd,akP⟩:=hD2.form;obtain⟨yb,yo,rfl⟩:=hD2.1.addr (by intro h0;have:=congrArg List.length h0;simp at this;simp[this]at hy1);have hnews:=hid (hD2.1.news ku);have K2:=hid (KA.out.trans (Kept.of_below hb2));have Na:=aK HOW.out (Kept.of_below (S:=λ_=>False) hb2) (λ_ _=>id);have hsz2:base≤w2.heap.size:=by have:=hb2.size;omega
    unfold maxLen at akP;clear hp hb2;go_wp2_with (at_builtin;refine wpList_append_lies _ rfl _ _ _ rfl base 59 i0 _ 3 40 Tryz.underlying38 hi0 hz0 hz1 hz2 rfl (by omega) _ n _ (by rfl) Na ⟨yb,yo,none⟩ y.length yc ((y.map aA).flatten) (by rfl) (by rw[wG 3 _ ku,List.length_map]) hnews.out (XU y) (by omega) (by unfold maxLen;omega) (by omega) (by omega) w2.heap.size rfl ?_;intro gg cap w4 hown4 hgrow4 EO hlt4)
    go_roundw
    case measure=>simp[intOf];omega
    case rel=>
     refine⟨i+1,n+y.length,xs++y,by omega,by go_num,?_,K2.out.grown hgrow4 (λk hk=>.inr (by have:=(Na.lt k hk).1;have:=fB.out;omega)),hT.out,?_⟩
     ·rw[List.map_append,List.flatten_append];exact hown4
     have:=HL.out.len;exact⟨by rw[List.length_append];omega,by omega⟩
  obtain rfl:i=ds.length:=by omega
  go_wp2_with fail
  refine bodyPost_ret (v:=.tuple #[.slice lo n lc,.int .i64 0]) (by simp[results,Tryz.results32,go_sem]) rfl ?_;have hall:=HL.out.all;rw[List.take_length]at hall;rw[←HR.out,hall];refine⟨_,rfl,HL.out.kept.below,aS ku (by rw[List.length_map];exact HL.out.len.1) HL.out.own,λk hk=>⟨λhx=>by have:=(HL.out.own.lt k hk).1;have:=fB.out;omega,(HL.out.own.lt k hk).2⟩⟩
def nV(rs:List au):Nat:=(rs.map λr=>r.decls.length).sum
structure Ef(ns:List ak)(rs:List au):Prop where
 nodes:AU ns
 tests:∀r∈rs,ru r.aZ
 vals:∀r∈rs,∀d∈r.decls,d.val.length≤1048576
 each:∀r∈rs,r.decls.length≤1048576
 decls:nV rs≤274877906944
 few:rs.length≤2097152
theorem wL(rs:List au)(i:Nat){r:au}(h:rs[i]?=some r):nV (rs.take (i+1))=nV (rs.take i)+r.decls.length:=by
 unfold nV;rw[List.take_add_one,h,Option.toList_some,List.map_append,List.sum_append];simp
theorem XV(rs:List au)(i:Nat):nV (rs.take i)≤nV rs:=by
 unfold nV
 conv=>rhs;rw[←List.take_append_drop i rs,List.map_append,List.sum_append]
 omega
theorem F7{rs:List au}{i:Nat}{r:au}(h:rs[i]?=some r):nV (rs.take i)+r.decls.length≤nV rs:=by
 rw[←wL rs i h];exact XV _ _
theorem rD:∀ {ds xs:List aC},fH ds=some xs→xs.length≤4*ds.length
 | [],xs,h=>by cases h;simp
 | d::ds,xs,h=>by
  obtain⟨a,b,h1,h2,rfl⟩:=all_cons h;have:=(F6 h1).2;have:=rD h2;simp;omega
theorem PG{ns:List ak}{k:Int}{aZ:List dZ}(h:ru aZ):(kD ns k aZ).1.low 1048576:=by
 have hh:∀(ss:List dZ) (acc:lX×Bool),(∀s∈ss,iJ s≤1048576)→acc.1.low 1048576→(ss.foldl (jc ns k) acc).1.low 1048576:=by
  intro ss
  induction ss with
  | nil=>intro acc _ ha;exact ha
  | cons s ss ih=>
   intro acc hs ha;refine ih _ (λx hx=>hs x (by simp[hx])) ?_;unfold jc;split
   ·exact low_mono (CW s) (hs s (by simp))
   exact ha
 exact hh aZ _ h.2 ⟨Nat.zero_le _,Nat.zero_le _,Nat.zero_le _⟩
def nK(ns:List ak)(k:Int)(n:ak)(rs:List au)(ay:List B)(cs:List aB)(i:Nat):Ans (List aB):=
 (gG ns k ay (rs.drop i)).then λa=>(iC n).then λb=>.ok (cs++(a++fQ b))
theorem Eh(ns:List ak)(k:Int)(n:ak)(rs:List au)(ay:List B):nK ns k n rs ay [] 0=nX ns k n rs ay:=by
 unfold nK nX;simp
theorem vI{ns:List ak}{k:Int}{n:ak}{rs:List au}{ay:List B}{cs:List aB}{i:Nat}{r:au}(hr:rs[i]?=some r)(h:((kD ns k r.aZ).2&&counts r ay)=false):nK ns k n rs ay cs i=nK ns k n rs ay cs (i+1):=by
 unfold nK;rw[List.drop_eq_getElem_cons (List.getElem?_eq_some_iff.1 hr).1,show rs[i]'(List.getElem?_eq_some_iff.1 hr).1=r from (List.getElem?_eq_some_iff.1 hr).2,gG,h]
 rfl
theorem J3{ns:List ak}{k:Int}{n:ak}{rs:List au}{ay:List B}{cs:List aB}{i:Nat}{r:au}(hr:rs[i]?=some r)(h:((kD ns k r.aZ).2&&counts r ay)=true)(hp:fH r.decls=none):nK ns k n rs ay cs i=.bad ⟨5,0⟩:=by
 unfold nK;rw[List.drop_eq_getElem_cons (List.getElem?_eq_some_iff.1 hr).1,show rs[i]'(List.getElem?_eq_some_iff.1 hr).1=r from (List.getElem?_eq_some_iff.1 hr).2,gG,h,if_pos rfl,hp]
 rfl
theorem F8{ns:List ak}{k:Int}{n:ak}{rs:List au}{ay:List B}{cs:List aB}{i:Nat}{r:au}{d:List aC}(hr:rs[i]?=some r)(h:((kD ns k r.aZ).2&&counts r ay)=true)(hp:fH r.decls=some d):
  nK ns k n rs ay cs i=nK ns k n rs ay (cs++d.map λx=>⟨x,false,(kD ns k r.aZ).1⟩) (i+1):=by
 unfold nK;rw[List.drop_eq_getElem_cons (List.getElem?_eq_some_iff.1 hr).1,show rs[i]'(List.getElem?_eq_some_iff.1 hr).1=r from (List.getElem?_eq_some_iff.1 hr).2,gG,h,if_pos rfl,hp];cases gG ns k ay (rs.drop (i+1))with
 | bad f=>rfl
 | ok a=>
  simp only[Ans.aN];cases iC n with
  | bad f=>rfl
  | ok b=>simp
theorem Ko{ns:List ak}{k:Int}{n:ak}{rs:List au}{ay:List B}{cs:List aB}:nK ns k n rs ay cs rs.length=(iC n).then λb=>.ok (cs++fQ b):=by
 unfold nK;rw[List.drop_length]
 rfl
theorem TU:(Tryz.prog.info? 121).map (λi=>(i.zero,i.size,i.bytes))=some (some (.agg #[.string ⟨#[]⟩,.string ⟨#[]⟩,.bool false,.bool false,.int .i64 0,.int .i64 0,.int .i64 0]),7,72):=by kernel_rfl
def afz(w:World)(r:Ans (List aB))(e:Ending)(w':World):Prop:=
 match r with
 | .bad f=>e=.returned (.tuple #[.slice none 0 0,.int .i64 (f.err:Int)])∧Kept (λ_=>False) w w'
 | .ok cs=>∃v,e=.returned (.tuple #[v,.int .i64 0])∧Kept (λ_=>False) w w'∧w'.ownsRow w.heap.size 121 7 v cs.length (cs.map aY).flatten∧(∀c∈cs,c.w.low 1048576)∧cs.length≤1099600000000
structure CLp(w wr:World)(v:Value)(ns:List ak)(k:Int)(n:ak)(rs:List au)(ay:List B)(r:Ans (List aB))(i:Nat)(cs:List aB):Prop where
 own:wr.ownsRow w.heap.size 121 7 v cs.length (cs.map aY).flatten
 kept:Kept (λ_=>False) w wr
 rest:nK ns k n rs ay cs i=r
 low:∀c∈cs,c.w.low 1048576
 few:cs.length≤4*nV (rs.take i)
theorem xU(c:aB):∀u∈aY c,u.oneCell'=true:=by
 intro u hu;simp only[aY,List.mem_cons,List.not_mem_nil,or_false]at hu;rcases hu with rfl | rfl | rfl | rfl | rfl | rfl | rfl<;>rfl
theorem dw{w:World}{base e size n:Nat}{v:Value}{xs:List Value}(h:w.ownsRow base e size v n xs):∃vo vc,v=.slice vo n vc:=by
 rcases h.2 with⟨h,hn⟩ | ⟨g,cap,cur,h,_⟩
 ·exact⟨none,0,by rw[h,hn]⟩
 exact⟨_,cap,h⟩
theorem sS(cs:List aB)(c:aB):(cs.map aY).flatten++aY c=((cs++[c]).map aY).flatten:=by simp
structure ILp(w:World)(B:Nat)(w4 wx:World)(v:Value)(cs:List aB):Prop where
 own:wx.ownsRow w.heap.size 121 7 v cs.length (cs.map aY).flatten
 kept:Kept (λq=>w.heap.size≤q∧q<B) w4 wx
 side:∀q,v.ownBlock=some q→q<B∨w4.heap.size≤q
theorem ILp.alloc{w:World}{B:Nat}{w4 wx:World}{v:Value}{cs:List aB}(h:ILp w B w4 wx v cs)(o:Obj):ILp w B w4 (wx.alloc o) v cs:=⟨h.own.alloc o,h.kept.alloc o,h.side⟩
theorem ILp.push{w:World}{B:Nat}{w4 wd EP:World}{v v':Value}{cs cs':List aB}{o:Obj}{gg:Nat}(h:ILp w B w4 wd v cs)(h4:w.heap.size≤w4.heap.size)(hB:w.heap.size≤B)(hg:(wd.alloc o).grownBy EP v.ownBlock)(hat:v.ownBlock=some gg∨gg=wd.heap.size+1)
  (ho:EP.ownsRow w.heap.size 121 7 v' cs'.length (cs'.map aY).flatten) (hv:v'.ownBlock=some gg):ILp w B w4 EP v' cs':=by
 refine⟨ho,(h.kept.alloc o).grown hg (λq hq=>?_),λq hq=>?_⟩
 ·have h1:=(h.own.lt q hq).1;rcases h.side q hq with h2 | h2
  ·exact .inl ⟨h1,h2⟩
  exact .inr h2
 rw[hv]at hq;cases hq;rcases hat with h1 | h1
 ·exact h.side _ h1
 right;have:=h.kept.size;omega
theorem TV(ns:List ak)(rs:List au)(hc:Ef ns rs)(ay:List B)(k:Nat)(n:ak)(hn:ns[k]?=some n)(m:Int)(w:World)(v rv mv:Value)(hv:aX w v ns)(hr:gy w rv rs)(hmv:jR w mv ay)(hm:w.cell? ⟨0,0,none⟩=some (.int .i64 m)):
  Calls Tryz.prog 56 #[v,.int .i64 (k:Int),rv,mv] w (afz w (nX ns (k:Int) n rs ay)):=by
 obtain⟨na,qj,rfl,EM,pJ⟩:=hv.form;obtain⟨ra,adh,rfl,XW,C9⟩:=bH.form hr;obtain⟨ma,afA,rfl,hmc1,aan⟩:=jR.form hmv;unfold maxLen at pJ C9 aan;obtain⟨R,HR⟩:∃R,Hid (nX ns (k:Int) n rs ay=R):=⟨_,rfl⟩;rw[HR.out];have h0:0<w.heap.size:=World.block_lt_of_cell? w _ hm;have hkl:k<ns.length:=(List.getElem?_eq_some_iff.1 hn).1;have hfn:=hc.nodes.few;have hfr:=hc.few;have HC:=hid hc;have HN:=hid hn;have HV:=hid hv;have HRS:=hid hr;have HMV:=hid hmv;have HM:=hid hm;obtain⟨i0,hi0,hz0,hz1,hz2⟩:=info_parts TU;obtain⟨j0,hj0,hy0,hy1,hy2⟩:=info_parts qF;obtain⟨g0,hg0,hx0,hx1,hx2⟩:=info_parts sN;clear hc hn hv hr hmv hm;have hL0:Hid (CLp w w (.slice none 0 0) ns (k:Int) n rs ay R 0 []):=hid ⟨World.ownsRow_nil _ _ _ _,Kept.refl _ _,by rw[Eh];exact HR.out,by simp,by simp⟩;go_enter Tryz.func56,Tryz.ntmps56
 go_upto_block 0 with fail
 go_cut [10] (λv wx=>∃cs,Hid (CLp w wx v ns (k:Int) n rs ay R rs.length cs))
 case first=>
  go_wp2_with fail
  go_loopw [10,27] (λv c wr=>∃(i:Nat) (cs:List aB),i≤rs.length∧c=.int .i64 (i:Int)∧Hid (CLp w wr v ns (k:Int) n rs ay R i cs)) (λ_ c _=>rs.length-(intOf c).toNat)
  case atStart=>exact⟨0,[],by omega,rfl,hL0⟩
  case round=>
   obtain⟨i,cs,hi,rfl,HL⟩:=hrel;obtain⟨bU,hwr0⟩:∃x,x=wr:=⟨_,rfl⟩;subst hwr0;obtain⟨vo,vc,hvf⟩:=dw HL.out.own;subst hvf;by_cases hlt:i<rs.length
   ·have hx:=List.getElem?_eq_getElem hlt;generalize hgx:rs[i]=r at hx;clear hgx;obtain⟨b,o,u,rfl,hcs,PI⟩:=bH.at (eG.kept HRS.out HL.out.kept) hx;obtain⟨sv,dv,rfl,hss,hds⟩:=PI;have c0:bU.cell? ⟨b,o+i*5,none⟩=some (.string (str r.ay)):=hcs 0 _ rfl;have c1:bU.cell? ⟨b,o+i*5+1,none⟩=some sv:=hcs 1 _ rfl;have c2:bU.cell? ⟨b,o+i*5+2,none⟩=some dv:=hcs 2 _ rfl;have c3:bU.cell? ⟨b,o+i*5+3,none⟩=some (.int .i64 r.lo):=hcs 3 _ rfl;have c4:bU.cell? ⟨b,o+i*5+4,none⟩=some (.int .i64 r.hi):=hcs 4 _ rfl;have hmem:=List.mem_of_getElem? hx;have hft:=HC.out.tests r hmem;have TW:Hid ((kD ns (k:Int) r.aZ).1.low 1048576):=hid (PG hft);have HVL:=hid (HC.out.vals r hmem);have hnm:=F7 hx;have hnl:=HC.out.decls;have Pm:=hid (wL rs i hx);have hfew:=HL.out.few;have hcb:cs.length≤1099511627776:=by omega
    have HCF:=hid hfew;have hdl:r.decls.length≤1048576:=HC.out.each r hmem;have HX:=hid hx;obtain⟨⟨⟨xa,xb,xc⟩,ok⟩,yD⟩:∃x,Hid (kD ns (k:Int) r.aZ=x):=⟨_,rfl⟩;rw[yD.out]at TW;have XY:Hid (Calls Tryz.prog 84 #[.slice na ns.length qj,.int .i64 (k:Int),.agg #[.string (str r.ay),sv,dv,.int .i64 r.lo,.int .i64 r.hi]] bU λe w'=>e=.returned (.tuple #[.agg #[.int .i64 (xa:Int),.int .i64 (xb:Int),.int .i64 (xc:Int)],.bool ok])∧Kept (λ_=>False) bU w'):=hid (by
     have:=Pq ns HC.out.nodes r (.tuple #[sv,dv]) m bU _ (k:Int) (aO.kept HV.out HL.out.kept) ⟨_,_,rfl,hss,hds⟩ hft (by omega) (HL.out.kept.cell id HM.out);rw[yD.out]at this;exact this)
    have HDS:=hid hds;clear hcs hss hds hx hmem hft hfew hnm;go_wp2_with fail
    refine XY.out.mono ?_;rintro e w2 ⟨rfl,hk2⟩;go_upto_region 6 with fail
    obtain⟨wa,gX⟩:∃x,Hid (w2.alloc (.cells #[.int .i64 (xa:Int),.int .i64 (xb:Int),.int .i64 (xc:Int)] 119 (0,0))=x):=⟨_,rfl⟩;have hya:pF wa w2.heap.size ⟨xa,xb,xc⟩:=by rw[←gX.out];exact aI w2 _
    have hka:Kept (λ_=>False) bU wa:=by rw[←gX.out];exact hk2.alloc _
    have HYA:=hid hya;have CB:=hid hka;rw[gX.out];have a0:=hka.cell id c0;have a2:=hka.cell id c2;have afD:=hk2.size;clear c0 c1 c2 c3 c4 hk2 hka hya;cases ok with
    | false=>
     have hsk:Hid (nK ns (k:Int) n rs ay cs (i+1)=R):=hid (by rw[←vI HX.out (by rw[yD.out];rfl)];exact HL.out.rest);go_wp2_with fail
     go_roundw
     case measure=>simp[intOf];omega
     case rel=>exact⟨i+1,cs,by omega,by go_num,hid ⟨aK HL.out.own CB.out (λ_ _=>id),HL.out.kept.trans CB.out,hsk.out,HL.out.low,by have:=HCF.out;have:=Pm.out;omega⟩⟩
    | true=>
     obtain⟨cb,HCN⟩:∃x,Hid (counts r ay=x):=⟨_,rfl⟩;have HCC:=TR wa b (o+i*5) r _ ay a0 (aH.below HMV.out (HL.out.kept.trans CB.out).below);rw[HCN.out]at HCC;replace HCC:=hid HCC;cases cb with
     | false=>
      have hsk:Hid (nK ns (k:Int) n rs ay cs (i+1)=R):=hid (by rw[←vI HX.out (by rw[yD.out,HCN.out];rfl)];exact HL.out.rest);go_wp2_with (go_at_call 92;refine HCC.out.mono ?_;rintro e w3 ⟨rfl,hk3⟩)
      go_roundw
      case measure=>simp[intOf];omega
      case rel=>exact⟨i+1,cs,by omega,by go_num,hid ⟨aK HL.out.own (CB.out.trans hk3) (λ_ _=>id),HL.out.kept.trans (CB.out.trans hk3),hsk.out,HL.out.low,by have:=HCF.out;have:=Pm.out;omega⟩⟩
     | true=>
      go_wp2_with fail
      refine HCC.out.mono ?_;rintro e w3 ⟨rfl,hk3⟩;have b2:=hk3.cell id a2;have oJ:=hid (CB.out.trans hk3);have HY3:Hid (pF w3 w2.heap.size ⟨xa,xb,xc⟩):=hid (hk3.heap id HYA.out);obtain⟨dl,xW⟩:∃x,Hid (fH r.decls=x):=⟨_,rfl⟩;have vw:=Bc w3 dv r.decls (iy.kept HDS.out oJ.out) (by omega) HVL.out m ((HL.out.kept.trans oJ.out).cell id HM.out);rw[xW.out]at vw;replace vw:=hid vw;clear a0 a2 hk3;go_wp2_with fail
      refine vw.out.mono ?_;intro e w4 he4;cases dl with
      | none=>
       obtain⟨rfl,hb4⟩:=he4;have hrr:Hid (R=.bad ⟨5,0⟩):=hid (by rw[←HL.out.rest];exact J3 HX.out (by rw[yD.out,HCN.out];rfl) xW.out);go_wp2_with fail
       refine bodyPost_ret (v:=.tuple #[.slice none 0 0,.int .i64 5]) (by simp[results,Tryz.results56,go_sem]) rfl ?_;rw[hrr.out];exact⟨rfl,(HL.out.kept.trans oJ.out).trans (Kept.of_below hb4)⟩
      | some d=>
       obtain⟨lv,rfl,hb4,hd4⟩:=he4;obtain⟨la,lc,rfl,PK,wM⟩:=dD.form hd4;unfold maxLen at wM;have Kq:=rD xW.out;have hsk:Hid (nK ns (k:Int) n rs ay (cs++d.map λx=>(⟨x,false,⟨xa,xb,xc⟩⟩:aB)) (i+1)=R):=hid (by
        have:=F8 HX.out (by rw[yD.out,HCN.out];rfl) xW.out (cs:=cs) (n:=n);rw[yD.out]at this;rw[←this];exact HL.out.rest)
       have HD4:Hid (bC w4 (.slice la d.length lc) d):=hid hd4.1;have uY:=hid (oJ.out.trans (Kept.of_below hb4));have HY4:Hid (pF w4 w2.heap.size ⟨xa,xb,xc⟩):=hid ((Kept.of_below (S:=λ_=>False) hb4).heap id HY3.out);have PL:=hid (aK HL.out.own uY.out (λ_ _=>id));have MV:w.heap.size≤w4.heap.size:=(HL.out.kept.trans uY.out).size;have hdo:∀q,(Value.slice la d.length lc).ownBlock=some q→w3.heap.size≤q∧q<w4.heap.size:=λq hq=>⟨Nat.le_of_not_lt (hd4.2 q hq).1,(hd4.2 q hq).2⟩
       have akR:bU.heap.size≤w2.heap.size:=afD;have ape:w2.heap.size<w3.heap.size:=by have:=gW HY3.out;exact this
       clear hb4 hd4 b2;go_wp2_with fail
       go_loopw [10,64] (λv c wx=>∃j:Nat,j≤d.length∧c=.int .i64 (j:Int)∧Hid (ILp w bU.heap.size w4 wx v (cs++(d.take j).map λx=>(⟨x,false,⟨xa,xb,xc⟩⟩:aB)))) (λ_ c _=>d.length-(intOf c).toNat)
       case atStart=>exact⟨0,by omega,rfl,hid ⟨by simpa using PL.out,Kept.refl _ _,λq hq=>.inl (by have:=(HL.out.own.lt q hq).2;omega)⟩⟩
       case round=>
        obtain⟨j,hj,rfl,HI⟩:=hrel;obtain⟨jk,nD⟩:∃x,x=wr:=⟨_,rfl⟩;subst nD;obtain⟨ao,ac,hvf⟩:=dw HI.out.own;subst hvf;have TY:w.heap.size≤bU.heap.size:=HL.out.kept.size;by_cases hjlt:j<d.length
        ·have hy:=List.getElem?_eq_getElem hjlt;generalize qX:d[j]=x at hy;clear qX;have hlen:(cs++(d.take j).map λx=>(⟨x,false,⟨xa,xb,xc⟩⟩:aB)).length=cs.length+j:=by simp;omega
         have hnx:Hid ((cs++(d.take (j+1)).map λx=>(⟨x,false,⟨xa,xb,xc⟩⟩:aB))=(cs++(d.take j).map λx=>(⟨x,false,⟨xa,xb,xc⟩⟩:aB))++[⟨x,false,⟨xa,xb,xc⟩⟩]):=hid (by rw[List.take_add_one,hy,Option.toList_some];simp);obtain⟨db,XZ,rfl,t0,t1,t2⟩:=bC.at (aH.kept HD4.out HI.out.kept (λq hq=>by have:=hdo q hq;omega)) hy;have hyw:pF jk w2.heap.size ⟨xa,xb,xc⟩:=HI.out.kept.heap (by omega) HY4.out;generalize (cs++(d.take j).map λx=>(⟨x,false,⟨xa,xb,xc⟩⟩:aB))=es at *;go_upto_region 13 with fail
         obtain⟨wd,mM⟩:∃x',Hid (jk.alloc (.cells #[.string (str x.name),.string (str x.val),.bool x.strong] 59 (0,0))=x'):=⟨_,rfl⟩;have hdd:wd.heap[jk.heap.size]?=some (.cells #[.string (str x.name),.string (str x.val),.bool x.strong] 59 (0,0)):=by rw[←mM.out];exact aI jk _
         have Ua:Hid (ILp w bU.heap.size w4 wd (.slice ao es.length ac) es):=hid (by rw[←mM.out];exact HI.out.alloc _);have X0:pF wd w2.heap.size ⟨xa,xb,xc⟩:=by rw[←mM.out];exact iw hyw _
         have d0:wd.cell? ⟨jk.heap.size,0,none⟩=some (.string (str x.name)):=ah hdd 0 rfl;have d1:wd.cell? ⟨jk.heap.size,1,none⟩=some (.string (str x.val)):=ah hdd 1 rfl;have d2:wd.cell? ⟨jk.heap.size,2,none⟩=some (.bool x.strong):=ah hdd 2 rfl;obtain⟨y1,y2,y3⟩:=X0.ints;simp only at y1 y2 y3;have hsd:w.heap.size≤wd.heap.size:=by have:=gW hdd;have:=HI.out.kept.size;omega
         have hel:es.length≤1099511627776+4194304:=by omega
         rw[mM.out];clear hdd X0 hyw t0 t1 t2 hy;go_wp2_with (at_builtin;refine wpList_append_lies _ rfl _ _ _ rfl w.heap.size 121 i0 _ 7 72 Tryz.underlying112 hi0 hz0 hz1 hz2 rfl (by omega) _ es.length _ (by rfl) (Ua.out.own.alloc _) ⟨wd.heap.size,0,none⟩ 1 1 (aY ⟨x,false,⟨xa,xb,xc⟩⟩) (by rfl) (by rfl) (World.news_of_block (cs:=(aY ⟨x,false,⟨xa,xb,xc⟩⟩).toArray) (t:=121) (fr:=(0,0)) (heap_alloc_new wd _)) (xU _) (by omega) (by unfold maxLen;omega) (by omega) (by simp;omega) (wd.heap.size+1) (by simp) ?_;intro gg cap EP jG dG nY F9)
         have hpush:=Ua.out.push (v':=.slice (some ⟨gg,0,none⟩) (es.length+1) cap) (cs':=es++[⟨x,false,⟨xa,xb,xc⟩⟩]) MV TY dG nY (by rw[←sS,List.length_append];exact jG) rfl;have HPU:=hid hpush;clear hpush jG dG nY d0 d1 d2 y1 y2 y3;go_wp2_with fail
         go_roundw
         case measure=>simp[intOf];omega
         case rel=>exact⟨j+1,by omega,by go_num,hid (by rw[hnx.out,←hlen];exact HPU.out)⟩
        obtain rfl:j=d.length:=by omega
        have hfin:Hid (CLp w jk (.slice ao (cs++(d.take d.length).map λx=>(⟨x,false,⟨xa,xb,xc⟩⟩:aB)).length ac) ns (k:Int) n rs ay R (i+1) (cs++d.map λx=>(⟨x,false,⟨xa,xb,xc⟩⟩:aB))):=hid (by
         have h1:=HI.out;rw[List.take_length]at h1 ⊢;refine⟨h1.own,(HL.out.kept.trans uY.out).trans' h1.kept (λq hq hx=>by omega),hsk.out,λc hc=>?_,?_⟩
         ·rcases List.mem_append.1 hc with hc | hc
          ·exact HL.out.low c hc
          obtain⟨y,_,rfl⟩:=List.mem_map.1 hc;exact TW.out
         have h2:=HCF.out;have h3:=Pm.out;rw[List.length_append,List.length_map,h3];omega)
        go_wp2_with fail
        go_roundw
        case measure=>simp[intOf];omega
        case rel=>exact⟨i+1,_,by omega,by go_num,hfin⟩
   obtain rfl:i=rs.length:=by omega
   go_wp2_with fail
   go_meet
   case rel=>exact⟨cs,HL⟩
 case rest=>
  obtain⟨cs,HL⟩:=hcut;obtain⟨vo,vc,hvf⟩:=dw HL.out.own;subst hvf;have HR2:Hid ((iC n).then (λb=>Ans.ok (cs++fQ b))=R):=hid (by rw[←Ko (ns:=ns) (k:=(k:Int)) (rs:=rs) (ay:=ay)];exact HL.out.rest);obtain⟨nb,qY,av,rfl,g0,g1,g2,g3,g4,g5,hav⟩:=(aO.kept HV.out HL.out.kept).at HN.out;have HGE:=hid (get_any wc av n aj hav);obtain⟨⟨gv,gb⟩,HG⟩:∃g,Hid (gJ n.attrs aj=g):=⟨_,rfl⟩;rw[HG.out]at HGE;have hgl:gv.length≤1048576:=by have:=xO HC.out.nodes.short (List.mem_of_getElem? HN.out) aj;rw[HG.out]at this;exact this
  have hcb:cs.length≤1099511627776:=by have:=HL.out.few;rw[List.take_length]at this;have:=HC.out.decls;omega
  clear hav;go_wp2_with fail
  refine HGE.out.mono ?_;rintro e w2 ⟨rfl,hb2⟩;have iO:Hid (Kept (λ_=>False) wc w2):=hid (Kept.of_below hb2);have HSD:=A8 gv w2 m ((HL.out.kept.trans iO.out).cell id HM.out) (by omega);obtain⟨sd,Dc⟩:∃x,Hid (dW gv=x):=⟨_,rfl⟩;rw[Dc.out]at HSD;replace HSD:=hid HSD;clear g0 g1 g2 g3 g4 g5 hb2;go_wp2_with fail
  refine HSD.out.mono ?_;intro e w3 he3;cases sd with
  | bad f=>
   obtain⟨rfl,hb3⟩:=he3;have hne:=(kK Dc.out).1;have hrr:Hid (R=.bad ⟨f.err,0⟩):=hid (by rw[←HR2.out];unfold iC;rw[HG.out,Dc.out];rfl);have ahD:((f.err:Int) != 0)=true:=by simp;omega
   go_upto_region 18 with fail
   obtain⟨wf,Ei⟩:∃x,Hid (w3.alloc (.cells #[.int .i64 (f.err:Int),.int .i64 (f.pos:Int)] 26 (0,0))=x):=⟨_,rfl⟩;have hf0:wf.cell? ⟨w3.heap.size,0,none⟩=some (.int .i64 (f.err:Int)):=by rw[←Ei.out];exact ah (aI w3 _) 0 rfl
   have yQ:Hid (Kept (λ_=>False) w wf):=hid (by rw[←Ei.out];exact((HL.out.kept.trans iO.out).trans (Kept.of_below hb3)).alloc _);rw[Ei.out];clear hb3;go_wp2_with fail
   go_quiet (fail)
   go_wp2_with fail
   refine bodyPost_ret (v:=.tuple #[.slice none 0 0,.int .i64 (f.err:Int)]) (by simp[results,Tryz.results56,go_sem]) rfl ?_;rw[hrr.out];exact⟨rfl,yQ.out.drewN _⟩
  | ok ds=>
   obtain⟨lv,rfl,hb3,hd3⟩:=he3;obtain⟨la,lc,rfl,PK,wM⟩:=dD.form hd3;unfold maxLen at wM;obtain⟨aao,akS⟩:=kY Dc.out;go_upto_region 18 with fail
   obtain⟨wf,Ei⟩:∃x,Hid (w3.alloc (.cells #[.int .i64 0,.int .i64 0] 26 (0,0))=x):=⟨_,rfl⟩;have hf0:wf.cell? ⟨w3.heap.size,0,none⟩=some (.int .i64 0):=by rw[←Ei.out];exact ah (aI w3 _) 0 rfl
   have WH:Kept (λ_=>False) wc wf:=by rw[←Ei.out];exact(iO.out.trans (Kept.of_below hb3)).alloc _
   have hdf:bC wf (.slice la ds.length lc) ds:=by rw[←Ei.out];exact aH.alloc hd3.1 _
   have yQ:=hid WH;have HVL:Hid (∀d∈ds,d.val.length≤1048576):=hid (λd hd=>by obtain⟨ws,_,_,_,hl⟩:=(aao d hd).2;omega);rw[Ei.out];obtain⟨dl,xW⟩:∃x,Hid (fH ds=x):=⟨_,rfl⟩;have vw:=Bc wf _ ds hdf (by omega) HVL.out m ((HL.out.kept.trans WH).cell id HM.out);rw[xW.out]at vw;replace vw:=hid vw;have hsf:wc.heap.size≤wf.heap.size:=WH.size;clear hb3 hd3 WH hdf aao;go_wp2_with fail
   refine vw.out.mono ?_;intro e w4 he4;cases dl with
   | none=>
    obtain⟨rfl,hb4⟩:=he4;have hrr:Hid (R=.bad ⟨5,0⟩):=hid (by rw[←HR2.out];unfold iC;rw[HG.out,Dc.out];simp only;rw[xW.out];rfl);go_wp2_with fail
    refine bodyPost_ret (v:=.tuple #[.slice none 0 0,.int .i64 5]) (by simp[results,Tryz.results56,go_sem]) rfl ?_;rw[hrr.out];exact⟨rfl,(HL.out.kept.trans yQ.out).trans (Kept.of_below hb4)⟩
   | some d=>
    obtain⟨lv,rfl,hb4,hd4⟩:=he4;obtain⟨la2,lc2,rfl,akT,afF⟩:=dD.form hd4;unfold maxLen at afF;have Kq:=rD xW.out;have hrr:Hid (R=.ok (cs++fQ d)):=hid (by rw[←HR2.out];unfold iC;rw[HG.out,Dc.out];simp only;rw[xW.out];rfl);have HD4:Hid (bC w4 (.slice la2 d.length lc2) d):=hid hd4.1;have uY:=hid (yQ.out.trans (Kept.of_below hb4));have PL:=hid (aK HL.out.own uY.out (λ_ _=>id));have MV:w.heap.size≤w4.heap.size:=(HL.out.kept.trans uY.out).size;have hdo:∀q,(Value.slice la2 d.length lc2).ownBlock=some q→wf.heap.size≤q∧q<w4.heap.size:=λq hq=>⟨Nat.le_of_not_lt (hd4.2 q hq).1,(hd4.2 q hq).2⟩
    have TY:w.heap.size≤wc.heap.size:=HL.out.kept.size;clear hb4 hd4;go_wp2_with fail
    go_loopw [10,104] (λv c wx=>∃j:Nat,j≤d.length∧c=.int .i64 (j:Int)∧Hid (ILp w wc.heap.size w4 wx v (cs++(d.take j).map λx=>(⟨x,true,⟨0,0,0⟩⟩:aB)))) (λ_ c _=>d.length-(intOf c).toNat)
    case atStart=>exact⟨0,by omega,rfl,hid ⟨by simpa using PL.out,Kept.refl _ _,λq hq=>.inl (by have:=(HL.out.own.lt q hq).2;omega)⟩⟩
    case round=>
     obtain⟨j,hj,rfl,HI⟩:=hrel;obtain⟨jk,nD⟩:∃x,x=wr:=⟨_,rfl⟩;subst nD;obtain⟨ao,ac,hvf⟩:=dw HI.out.own;subst hvf;by_cases hjlt:j<d.length
     ·have hy:=List.getElem?_eq_getElem hjlt;generalize qX:d[j]=x at hy;clear qX;have hlen:(cs++(d.take j).map λx=>(⟨x,true,⟨0,0,0⟩⟩:aB)).length=cs.length+j:=by simp;omega
      have hnx:Hid ((cs++(d.take (j+1)).map λx=>(⟨x,true,⟨0,0,0⟩⟩:aB))=(cs++(d.take j).map λx=>(⟨x,true,⟨0,0,0⟩⟩:aB))++[⟨x,true,⟨0,0,0⟩⟩]):=hid (by rw[List.take_add_one,hy,Option.toList_some];simp);obtain⟨db,XZ,rfl,t0,t1,t2⟩:=bC.at (aH.kept HD4.out HI.out.kept (λq hq=>by have:=hdo q hq;omega)) hy;generalize (cs++(d.take j).map λx=>(⟨x,true,⟨0,0,0⟩⟩:aB))=es at *;go_upto_region 26 with fail
      obtain⟨wd,mM⟩:∃x',Hid (jk.alloc (.cells #[.string (str x.name),.string (str x.val),.bool x.strong] 59 (0,0))=x'):=⟨_,rfl⟩;have hdd:wd.heap[jk.heap.size]?=some (.cells #[.string (str x.name),.string (str x.val),.bool x.strong] 59 (0,0)):=by rw[←mM.out];exact aI jk _
      have Ua:Hid (ILp w wc.heap.size w4 wd (.slice ao es.length ac) es):=hid (by rw[←mM.out];exact HI.out.alloc _);have d0:wd.cell? ⟨jk.heap.size,0,none⟩=some (.string (str x.name)):=ah hdd 0 rfl;have d1:wd.cell? ⟨jk.heap.size,1,none⟩=some (.string (str x.val)):=ah hdd 1 rfl;have d2:wd.cell? ⟨jk.heap.size,2,none⟩=some (.bool x.strong):=ah hdd 2 rfl;have hsd:w.heap.size≤wd.heap.size:=by have:=gW hdd;have:=HI.out.kept.size;omega
      have hel:es.length≤1099511627776+80:=by omega
      rw[mM.out];clear hdd t0 t1 t2 hy;go_wp2_with (at_builtin;refine wpList_append_lies _ rfl _ _ _ rfl w.heap.size 121 i0 _ 7 72 Tryz.underlying112 hi0 hz0 hz1 hz2 rfl (by omega) _ es.length _ (by rfl) (Ua.out.own.alloc _) ⟨wd.heap.size,0,none⟩ 1 1 (aY ⟨x,true,⟨0,0,0⟩⟩) (by rfl) (by rfl) (World.news_of_block (cs:=(aY ⟨x,true,⟨0,0,0⟩⟩).toArray) (t:=121) (fr:=(0,0)) (heap_alloc_new wd _)) (xU _) (by omega) (by unfold maxLen;omega) (by omega) (by simp;omega) (wd.heap.size+1) (by simp) ?_;intro gg cap EP jG dG nY F9)
      have hpush:=Ua.out.push (v':=.slice (some ⟨gg,0,none⟩) (es.length+1) cap) (cs':=es++[⟨x,true,⟨0,0,0⟩⟩]) MV TY dG nY (by rw[←sS,List.length_append];exact jG) rfl;have HPU:=hid hpush;clear hpush jG dG nY d0 d1 d2;go_wp2_with fail
      go_roundw
      case measure=>simp[intOf];omega
      case rel=>exact⟨j+1,by omega,by go_num,hid (by rw[hnx.out,←hlen];exact HPU.out)⟩
     obtain rfl:j=d.length:=by omega
     go_wp2_with fail
     refine bodyPost_ret (v:=.tuple #[.slice ao (cs++(d.take d.length).map λx=>(⟨x,true,⟨0,0,0⟩⟩:aB)).length ac,.int .i64 0]) (by simp[results,Tryz.results56,go_sem]) rfl ?_;rw[hrr.out];have h1:=HI.out;rw[List.take_length]at h1 ⊢;refine⟨_,rfl,(HL.out.kept.trans uY.out).trans' h1.kept (λq hq hx=>by omega),h1.own,λc hc=>?_,?_⟩
     ·rcases List.mem_append.1 hc with hc | hc
      ·exact HL.out.low c hc
      obtain⟨y,_,rfl⟩:=List.mem_map.1 hc;exact⟨Nat.zero_le _,Nat.zero_le _,Nat.zero_le _⟩
     unfold fQ;rw[List.length_append,List.length_map];omega
end Go.Proofs.YtplbdlgmjehckacGreatDoor

