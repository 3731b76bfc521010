/-
 Lemmas for the claims of this seat: the program's functions walked, and plain laws.
-/
import Derived.Test.YtplbdlgmjehckacGreatDoorPkFoTellsFull6
set_option maxRecDepth 100000
set_option maxHeartbeats 3200000
namespace Go.Proofs.YtplbdlgmjehckacGreatDoor
open Go.Lib (hid)
open Go.RowKit
set_option linter.unusedVariables false
set_option linter.unusedSimpArgs false
def iR(w:World)(b:Nat)(s:B)(at_:Nat)(v:Value):Prop:=
 w.heap[b]?=some (.cells #[.string (str s),.int .i64 (at_:Int),v] 132 (0,0))∧at_≤s.length∧s.length≤6000
def adA(f:iL):Value:=.iface 129 (.agg #[.int .i64 (f.err:Int),.int .i64 (f.pos:Int)])
@[reducible] def thrown(f:iL):Ending:=.panicked [{ v:=adA f,recovered:=false }]
theorem iR.kept{w w':World}{b:Nat}{s:B}{a:Nat}{v:Value}{S:Nat→Prop}(h:iR w b s a v)(hk:Kept S w w')(hs:¬S b):iR w' b s a v:=
 ⟨hk.heap hs h.1,h.2⟩
theorem iR.quiet{w w':World}{b:Nat}{s:B}{a:Nat}{v:Value}(h:iR w b s a v)(hk:Qt w w'):iR w' b s a v:=
 h.kept (S:=λ_=>False) (hk.kept _) id
theorem iR.alloc{w:World}{b:Nat}{s:B}{a:Nat}{v:Value}(h:iR w b s a v)(o:Obj):iR (w.alloc o) b s a v:=⟨iw h.1 o,h.2⟩
theorem iR.set{w:World}{b:Nat}{s:B}{a:Nat}{v:Value}(h:iR w b s a v){x:Int}{a':Nat}(hx:x=(a':Int))(hl:a'≤s.length):iR (w.setCell ⟨b,1,none⟩ (.int .i64 x)) b s a' v:=by
 refine⟨?_,hl,h.2.2⟩;subst hx;have:=aW h.1 1 (.int .i64 (a':Int));simpa using this
theorem iR.other{w:World}{b:Nat}{s:B}{a:Nat}{v:Value}(h:iR w b s a v){p:Addr}{x:Value}(hp:b≠p.block):iR (w.setCell p x) b s a v:=⟨eF h.1 p x hp,h.2⟩
theorem iR.drewN{w:World}{b:Nat}{s:B}{a:Nat}{v:Value}(h:iR w b s a v)(n:Nat):iR (w.drewN n) b s a v:=h
theorem iR.c0{w:World}{b:Nat}{s:B}{a:Nat}{v:Value}(h:iR w b s a v):w.cell? ⟨b,0,none⟩=some (.string (str s)):=ah h.1 0 rfl
theorem iR.c1{w:World}{b:Nat}{s:B}{a:Nat}{v:Value}(h:iR w b s a v):w.cell? ⟨b,1,none⟩=some (.int .i64 (a:Int)):=ah h.1 1 rfl
theorem iR.c2{w:World}{b:Nat}{s:B}{a:Nat}{v:Value}(h:iR w b s a v):w.cell? ⟨b,2,none⟩=some v:=ah h.1 2 rfl
theorem iR.free{w:World}{b:Nat}{s:B}{a:Nat}{v:Value}(h:iR w b s a v)(k:Nat):w.frozen? ⟨b,k,none⟩=false:=aF h.1 k
theorem iR.lt{w:World}{b:Nat}{s:B}{a:Nat}{v:Value}(h:iR w b s a v):b<w.heap.size:=gW h.1
theorem kW(err:Nat)(w:World)(b:Nat)(s:B)(at_:Nat)(v:Value)(h:iR w b s at_ v):
  Calls Tryz.prog 64 #[.pointer (some ⟨b,0,none⟩),.int .i64 (err:Int)] w λe w'=>e=thrown ⟨err,at_⟩∧Qt w w':=by
 have h1:=ah h.1 1 rfl;clear h;go_enter Tryz.func64,Tryz.ntmps64
 go_wp2
 exact⟨rfl,rfl,0,rfl⟩
theorem NC(word:B)(w:World)(b:Nat)(s:B)(at_:Nat)(v:Value)(h:iR w b s at_ v):
  Calls Tryz.prog 101 #[.pointer (some ⟨b,0,none⟩),.string (str word)] w λe w'=>e=.returned (.bool (word.isPrefixOf (s.drop at_)))∧∃n,w'=w.drewN n:=by
 have h0:=ah h.1 0 rfl;have h1:=ah h.1 1 rfl;have hl:=h.2.1;have hm:=h.2.2;clear h;go_enter Tryz.func101,Tryz.ntmps101
 go_wp2
 go_quiet ((go_at_call 148;refine Calls.quiet_of_same (yU _ _ _)))
 go_wp2
 go_ret
 exact⟨rfl,_,rfl⟩
theorem uK(word:B)(w:World)(b:Nat)(s:B)(at_:Nat)(v:Value)(h:iR w b s at_ v)(hp:word.isPrefixOf (s.drop at_)=false):
  Calls Tryz.prog 150 #[.pointer (some ⟨b,0,none⟩),.string (str word)] w λe w'=>e=thrown ⟨2,at_⟩∧Qt w w':=by
 have H:=hid h;have HP:=hid hp;clear h hp;go_enter Tryz.func150,Tryz.ntmps150
 go_wp2_with fail
 refine(NC word _ _ _ _ _ H.out).mono ?_;rintro e w1 ⟨rfl,hq0⟩;have hq:Qt w w1:=hq0;clear hq0;rw[HP.out];have H1:=hid (iR.quiet H.out hq);go_wp2_with fail
 refine(kW 2 _ _ _ _ _ H1.out).mono ?_;rintro e w2 ⟨rfl,hq2⟩;have HQ:=hid (hq.trans hq2);clear hq hq2;go_wp2_with fail
 exact⟨rfl,rfl,HQ.out⟩
theorem yg(word:B)(w:World)(b:Nat)(s:B)(at_:Nat)(v:Value)(h:iR w b s at_ v)(hp:word.isPrefixOf (s.drop at_)=true):
  Calls Tryz.prog 150 #[.pointer (some ⟨b,0,none⟩),.string (str word)] w λe w'=>e=.returned (.tuple #[])∧Kept (· = b) w w'∧iR w' b s (at_+word.length) v:=by
 have H:=hid h;have HP:=hid hp;have hl:at_+word.length≤s.length:=by
  have:=(List.isPrefixOf_iff_prefix.1 hp).length_le;simp only[List.length_drop]at this;have:=h.2.1;by_cases hw:word=[]
  ·subst hw;simpa using h.2.1
  have:0<word.length:=List.length_pos_iff.2 hw;omega
 have hm:=h.2.2;clear h hp;go_enter Tryz.func150,Tryz.ntmps150
 go_wp2_with fail
 refine(NC word _ _ _ _ _ H.out).mono ?_;rintro e w1 ⟨rfl,hq0⟩;have hq:Qt w w1:=hq0;clear hq0;rw[HP.out];have h1:=iR.quiet H.out hq;have hk:=hq.kept (· = b);have H1:=hid h1;have c1:=ah h1.1 1 rfl;have f1:=aF h1.1 1;clear h1 hq;have HK:=hid hk;clear hk;go_wp2_with fail
 go_end0
 refine⟨rfl,HK.out.setCell (.inl rfl) _,?_,hl,hm⟩;have:=aW H1.out.1 1 (.int .i64 ((at_+word.length:Nat):Int));simpa using this
theorem uM(s:B)(a j:Nat)(h:j<(s.drop a).length):(s.drop a)[j]=s[a+j]'(by simp only[List.length_drop]at h;omega):=by simp
def rH(w:World)(b:Nat)(s:B)(at_:Nat)(v:Value)(n:Nat)(e:Ending)(w':World):Prop:=
 if n=0 then e=thrown ⟨2,at_⟩∧Qt w w' else if 20<n then e=thrown ⟨7,at_⟩∧Qt w w' else
 e=.returned (.string (str ((s.drop at_).take n)))∧Kept (· = b) w w'∧iR w' b s (at_+n) v
theorem Yt(w:World)(b:Nat)(s:B)(at_:Nat)(v:Value)(h:iR w b s at_ v)(n:Nat)(hn:at_+n≤s.length)
  (hin:∀j,j<n→∃h:at_+j<s.length,gQ j (s[at_+j]'h)=true) (hout:(h:at_+n<s.length)→gQ n (s[at_+n]'h)=false) :
  Calls Tryz.prog 151 #[.pointer (some ⟨b,0,none⟩)] w (rH w b s at_ v n):=by
 have H:=hid h;have Gs:=hid hin;have GK:=hid hout;have hl:=h.2.1;have hm:=h.2.2;have c0:=ah h.1 0 rfl;have c1:=ah h.1 1 rfl;have f1:=aF h.1 1;clear h hin hout;go_enter Tryz.func151,Tryz.ntmps151
 go_upto_block 0 with fail
 go_cut [3] (λk wx=>k=.int .i64 ((at_+n:Nat):Int)∧wx=w)
 case first=>
  go_wp2_with fail
  go_loop [3] (λk=>∃j:Nat,j≤n∧k=.int .i64 ((at_+j:Nat):Int)) (λk=>s.length-(intOf k).toNat)
  case atStart=>exact⟨0,by omega,rfl⟩
  case round=>
   obtain⟨j,hj,rfl⟩:=hrel;by_cases hlt:j<n
   ·obtain⟨h3,h2⟩:=Gs.out j hlt;have h4:=Fv h2;clear h2;rcases h4 with⟨h5,h6⟩ | ⟨h5,h6,h7⟩ | ⟨h5,h6⟩
    ·go_wp2
     go_round
     case rel=>exact⟨j+1,by omega,by go_num⟩
     case measure=>simp[intOf];omega
    ·have e1:(((at_:Int)+(j:Int))==(at_:Int))=false:=by simp;omega
     have e2:(((s[at_+j]'h3).toNat:Int) != 45)=true:=by simp;omega
     go_wp2
     go_round
     case rel=>exact⟨j+1,by omega,by go_num⟩
     case measure=>simp[intOf];omega
    have e1:(((at_:Int)+(j:Int))==(at_:Int))=false:=by simp;omega
    have e2:(((s[at_+j]'h3).toNat:Int) != 45)=false:=by simp;omega
    have e3:((s[at_+j]'h3).toNat:Int)≤45:=by omega
    have e4:45≤((s[at_+j]'h3).toNat:Int):=by omega
    clear h6;go_wp2
    go_round
    case rel=>exact⟨j+1,by omega,by go_num⟩
    case measure=>simp[intOf];omega
   obtain rfl:j=n:=by omega
   by_cases h3:at_+j<s.length
   ·have h4:=JQ (GK.out h3);obtain⟨h5,h6⟩:=h4;by_cases hj0:j=0
    ·have e1:(((at_:Int)+(j:Int))==(at_:Int))=true:=by simp;omega
     have hj1:j≤0:=by omega
     clear hj0;rcases h5 with h5 | h5
     all_goals
      clear h6;go_wp2
      go_meet
      case rel=>exact⟨rfl,rfl⟩
    have h7:=h6.resolve_left hj0;obtain⟨h8,h9⟩:=h7;have e1:(((at_:Int)+(j:Int))==(at_:Int))=false:=by simp;omega
    have e2:(((s[at_+j]'h3).toNat:Int) != 45)=true:=by simpa using h9
    clear h6 h9;rcases h5 with h5 | h5<;>rcases h8 with h8 | h8<;>(try (exfalso;omega))
    all_goals
     go_wp2
     go_meet
     case rel=>exact⟨rfl,rfl⟩
   go_wp2
   go_meet
   case rel=>exact⟨rfl,rfl⟩
 case rest=>
  obtain⟨rfl,rfl⟩:=hcut;go_wp2
  go_quiet (fail)
  have hmin:min n (s.length-at_)=n:=by omega
  have H1:Hid (iR (wc.drewN nq) b s at_ v):=hid (iR.quiet H.out ⟨nq,rfl⟩);by_cases h0:n=0
  ·have e0:((s.drop at_).take n).isEmpty=true:=by rw[h0];simp
   have H0:=hid h0;clear h0;go_wp2_with (go_at_call 64;refine(kW 2 _ _ _ _ _ H1.out).mono ?_;rintro e w2 ⟨rfl,hq2⟩)
   refine⟨rfl,?_⟩;unfold rH;rw[if_pos H0.out];exact⟨rfl,Qt.trans ⟨nq,rfl⟩ hq2⟩
  have e0:((s.drop at_).take n).isEmpty=false:=by
   cases hx:(s.drop at_).take n with
   | nil=>have:=congrArg List.length hx;simp at this;omega
   | cons _ _=>rfl
  by_cases h20:20<n
  ·go_wp2_with (go_at_call 64;refine(kW 7 _ _ _ _ _ H1.out).mono ?_;rintro e w2 ⟨rfl,hq2⟩)
   refine⟨rfl,?_⟩;unfold rH;rw[if_neg h0,if_pos h20];exact⟨rfl,Qt.trans ⟨nq,rfl⟩ hq2⟩
  go_wp2
  go_ret
  unfold rH;rw[if_neg h0,if_neg h20];refine⟨Uz (by rw[Nat.add_sub_cancel_left]),((Kept.refl (· = b) wc).drewN nq).setCell (p:=⟨b,1,none⟩) (.inl rfl) _,?_,hn,hm⟩;have:=aW H1.out.1 1 (.int .i64 ((at_+n:Nat):Int));simpa using this
theorem name_any(w:World)(b:Nat)(s:B)(at_:Nat)(v:Value)(h:iR w b s at_ v):
  Calls Tryz.prog 151 #[.pointer (some ⟨b,0,none⟩)] w (rH w b s at_ v (aJ (s.drop at_))):=by
 have hn:=gZ (s.drop at_);rw[List.length_drop]at hn;have hl:=h.2.1;refine Yt w b s at_ v h _ (by omega) (λj hj=>?_) (λhlt=>?_)
 ·obtain⟨h1,h2⟩:=oL _ _ hj;refine⟨by rw[List.length_drop]at h1;omega,?_⟩;rw[uM s at_ j h1]at h2;exact h2
 have h1:aJ (s.drop at_)<(s.drop at_).length:=by rw[List.length_drop];omega
 have:=nJ _ h1;rw[uM s at_ _ h1]at this;exact this
theorem Qm{f:iL}(w:World)(b:Nat)(s:B)(at_:Nat)(v:Value)(h:iR w b s at_ v)(hp:jO (s.drop at_) at_=.bad f):
  Calls Tryz.prog 151 #[.pointer (some ⟨b,0,none⟩)] w λe w'=>e=thrown f∧Qt w w':=
 (name_any w b s at_ v h).mono λe w' hh=>by
  unfold rH at hh;unfold jO at hp;split at hh
  ·rename_i h0;rw[if_pos h0]at hp;cases hp;exact hh
  rename_i h0
  rw[if_neg h0]at hp;split at hh
  ·rename_i h1;rw[if_pos h1]at hp;cases hp;exact hh
  rename_i h1;rw[if_neg h1]at hp;cases hp
theorem WU{nm l':B}{at':Nat}(w:World)(b:Nat)(s:B)(at_:Nat)(v:Value)(h:iR w b s at_ v)(hp:jO (s.drop at_) at_=.ok (nm,l',at')):
  Calls Tryz.prog 151 #[.pointer (some ⟨b,0,none⟩)] w λe w'=>e=.returned (.string (str nm))∧Kept (· = b) w w'∧iR w' b s at' v∧l'=s.drop at':=
 (name_any w b s at_ v h).mono λe w' hh=>by
  unfold rH at hh;unfold jO at hp;split at hh
  ·rename_i h0;rw[if_pos h0]at hp;cases hp
  rename_i h0
  rw[if_neg h0]at hp;split at hh
  ·rename_i h1;rw[if_pos h1]at hp;cases hp
  rename_i h1;rw[if_neg h1]at hp;cases hp
  exact⟨hh.1,hh.2.1,hh.2.2,by rw[List.drop_drop]⟩
theorem ND(g:Nat)(nm:B)(x:bf)(w:World)(h:w.cell? ⟨g,0,none⟩=some (.string (str nm))):
  Calls Tryz.prog 177 #[.agg #[.string (str x.name),.string (str x.val),.int .i64 x.lo,.int .i64 x.hi],.pointer (some ⟨g,0,none⟩)] w
   λe w'=>e=.returned (.bool (nm==x.name))∧Below w.heap.size w w':=by
 have hg:=World.block_lt_of_cell? w _ h;dsimp only at hg;go_enter Tryz.func177,Tryz.ntmps177
 go_wp2
 go_ret
 exact⟨rfl,(Below.refl _ _).alloc (Nat.le_refl _) _⟩
def yh(nm:B)(al:List bf):Int:=idx (al.findIdx? (λa=>a.name==nm))
def adB(w:World)(n:Int)(e:Ending)(w':World):Prop:=e=.returned (.int .i64 n)∧Below w.heap.size w w'
theorem Qn{nm:B}{al:List bf}{k:Nat}{x:bf}(hb:∀j y,j<k→al[j]?=some y→(y.name==nm)=false)(hx:al[k]?=some x)(hn:(x.name==nm)=true):yh nm al=k:=by
 have hk:=(List.getElem?_eq_some_iff.1 hx).1;have:al.findIdx? (λa=>a.name==nm)=some k:=by
  rw[List.findIdx?_eq_some_iff_getElem];refine⟨hk,?_,λj hj=>?_⟩
  ·rw[(List.getElem?_eq_some_iff.1 hx).2];exact hn
  have:=hb j al[j] hj (List.getElem?_eq_getElem _);simp[this]
 unfold yh;rw[this];rfl
theorem NG{nm:B}{al:List bf}(hb:∀(j:Nat) (y:bf),al[j]?=some y→(y.name==nm)=false):yh nm al = -1:=by
 have:al.findIdx? (λa=>a.name==nm)=none:=by
  rw[List.findIdx?_eq_none_iff];intro x hx;obtain⟨j,hj⟩:=List.mem_iff_getElem?.1 hx;exact hb j x hj
 unfold yh;rw[this];rfl
theorem KD(a b:B):(a==b)=(b==a):=by
 rw[Bool.eq_iff_iff,beq_iff_eq,beq_iff_eq];exact⟨Eq.symm,Eq.symm⟩
theorem Qo(v:Value)(al:List bf)(g:Nat)(nm:B)(w:World)(hv:bZ w v al)(h:w.cell? ⟨g,0,none⟩=some (.string (str nm))):
  Calls Tryz.prog 189 #[v,.func (.func 177) #[] #[.pointer (some ⟨g,0,none⟩)]] w (adB w (yh nm al)):=by
 have HV:=hid hv;obtain⟨a,cap,rfl,hle,hcap⟩:=hv.form;have hg:=World.block_lt_of_cell? w _ h;have HG:=hid h;unfold maxLen at hcap;clear hv h;go_enter Tryz.func189,Tryz.ntmps189
 go_wp2
 go_loopw [8] (λi wr=>∃k:Nat,k≤al.length∧i=.int .i64 k∧Below w.heap.size w wr∧Hid (∀j y,j<k→al[j]?=some y→(y.name==nm)=false)) (λi _=>al.length-(intOf i).toNat)
 case atStart=>exact⟨0,by omega,rfl,Below.refl _ _,λj y hj=>by omega⟩
 case round=>
  obtain⟨k,hk,rfl,hb,HH⟩:=hrel;by_cases hlt:k<al.length
  ·have hv1:=HV.out.below hb;have hx:=List.getElem?_eq_getElem hlt;generalize hgx:al[k]=x at hx;clear hgx;obtain⟨b,off,rfl,g0,g1,g2,g3⟩:=bZ.at hv1 hx;have HX:=hid hx;have HB:=hid hb;have hcell:=hb.cell (p:=⟨g,0,none⟩) hg;rw[HG.out]at hcell;have HC:=hid hcell;clear hx hv1 hb hcell;go_wp2_with (go_at_call 177;refine(ND g nm x _ HC.out).mono ?_;rintro e w2 ⟨rfl,hb2⟩)
   ·have hc:(nm==x.name)=true:=by assumption
    go_ret
    exact⟨yB (Qn HH.out HX.out (by rw[KD];exact hc)).symm,HB.out.trans (hb2.mono HB.out.size)⟩
   have hc:(nm==x.name)=false:=by assumption
   go_roundw
   case rel=>
    refine⟨k+1,by omega,by go_num,HB.out.trans (hb2.mono HB.out.size),λj y hj hy=>?_⟩;by_cases hjk:j=k
    ·subst hjk;rw[HX.out]at hy;cases hy;rw[KD];exact hc
    exact HH.out j y (by omega) hy
   case measure=>simp[intOf];omega
  go_wp2
  go_ret
  refine⟨yB ?_,hb⟩;rw[NG (λj y hy=>HH.out j y (by have:=(List.getElem?_eq_some_iff.1 hy).1;omega) hy)]
theorem Dt(v:Value)(al:List bf)(g:Nat)(nm:B)(w:World)(hv:bZ w v al)(h:w.cell? ⟨g,0,none⟩=some (.string (str nm))):
  Calls Tryz.prog 176 #[v,.func (.func 177) #[] #[.pointer (some ⟨g,0,none⟩)]] w
   λe w'=>e=.returned (.bool (al.any λa=>a.name==nm))∧Below w.heap.size w w':=by
 have HV:=hid hv;have HG:=hid h;clear hv h;go_enter Tryz.func176,Tryz.ntmps176
 go_wp2_with (go_at_call 189;refine(Qo v al g nm _ HV.out HG.out).mono ?_;rintro e w2 ⟨rfl,hb2⟩)
 go_ret
 refine⟨eu ?_,hb2⟩;unfold yh;cases hf:al.findIdx? (λa=>a.name==nm)with
 | none=>
  rw[List.findIdx?_eq_none_iff]at hf;have:(al.any λa=>a.name==nm)=false:=by
   rw[List.any_eq_false];intro x hx;simp[hf x hx]
  rw[this];rfl
 | some k=>
  rw[List.findIdx?_eq_some_iff_getElem]at hf;obtain⟨hk,h1,_⟩:=hf;have:(al.any λa=>a.name==nm)=true:=List.any_eq_true.2 ⟨_,List.getElem_mem hk,h1⟩;rw[this];simp[idx]
def adC(a:bf):Value:=.agg #[.string (str a.name),.string (str a.val),.int .i64 a.lo,.int .i64 a.hi]
def aaX(w:World)(b:Nat)(s:B)(v:Value)(r:Ans (bf×B×Nat))(e:Ending)(w':World):Prop:=
 match r with
 | .bad f=>e=thrown f∧Kept (· = b) w w'
 | .ok (a,l',at')=>e=.returned (adC a)∧Kept (· = b) w w'∧iR w' b s at' v∧l'=s.drop at'
theorem aaY(al:List bf)(s:B)(at_:Nat):pAttr al (s.drop at_) at_=(jO (s.drop (at_+1)) (at_+1)).then λ(nm,l2,at2)=>
  if (al.any λa=>a.name==nm)||al.length==8 then .bad ⟨if al.length=8 then 5 else 7,at_+1⟩ else
  (aV [61,34] l2 at2).then λ(l3,at3)=>
  (aV [34] (l3.drop (pVal l3).length) (at3+(pVal l3).length)).then λ(l5,at5)=>
  .ok (⟨nm,pVal l3,(at_:Int),(at5:Int)⟩,l5,at5):=by
 unfold pAttr;rw[List.drop_drop]
theorem aaZ(w:World)(b:Nat)(s:B)(at_:Nat)(v vl:Value)(al:List bf)(h:iR w b s at_ v)(hal:bZ w vl al)(hvb:∀k,vl.ownBlock=some k→k≠b)
  (hlt:at_<s.length) (h8:al.length≤8) :
  Calls Tryz.prog 152 #[.pointer (some ⟨b,0,none⟩),vl] w (aaX w b s v (pAttr al (s.drop at_) at_)):=by
 obtain⟨r,HR⟩:∃r,Hid (pAttr al (s.drop at_) at_=r):=⟨_,rfl⟩;rw[HR.out];have HR1:=HR.out;rw[aaY]at HR1;have HE:=hid HR1;have H:=hid h;have vw:=hid hal;have HVB:=hid hvb;have c1:=h.c1;have f1:=h.free 1;have hb:=h.lt;have hm:=h.2.2;obtain⟨vlo,vlc,rfl,_,_⟩:=hal.form;clear h hal hvb HR1;go_enter Tryz.func152,Tryz.ntmps152
 go_wp2_with fail
 clear c1 f1;cases hp1:jO (s.drop (at_+1)) (at_+1)with
 | bad f=>
  refine(Qm _ b s (at_+1) v ((H.out.set (a':=at_+1) (by simp) (by omega)).alloc _) hp1).mono ?_;rintro e w2 ⟨rfl,hq⟩;obtain rfl:r=.bad f:=by rw[←HE.out,hp1];rfl
  have HQ:=hid hq;clear hq hp1;go_wp2_with fail
  exact⟨rfl,rfl,(((Kept.refl (· = b) w).setCell (p:=⟨b,1,none⟩) (.inl rfl) _).alloc _).trans (HQ.out.kept _)⟩
 | ok x=>
  obtain⟨nm,l2,at2⟩:=x;refine(WU _ b s (at_+1) v ((H.out.set (a':=at_+1) (by simp) (by omega)).alloc _) hp1).mono ?_;rintro e w2 ⟨rfl,hk2,hr2,rfl⟩;have HE2:=HE.out;rw[hp1]at HE2;simp only[Ans.aN]at HE2;have HEE:=hid HE2;have hk:=(((Kept.refl (· = b) w).setCell (p:=⟨b,1,none⟩) (.inl rfl) (.int .i64 ((at_:Int)+1))).alloc (.cells #[.string ⟨#[]⟩,.string ⟨#[]⟩,.int .i64 0,.int .i64 0] 47)).trans hk2;have hn0:w2.heap[w.heap.size]?=some (.cells #[.string ⟨#[]⟩,.string ⟨#[]⟩,.int .i64 0,.int .i64 0] 47 (0,0)):=by
   refine hk2.heap (by omega) ?_;have:=aI (w.setCell ⟨b,1,none⟩ (.int .i64 ((at_:Int)+1))) (.cells #[.string ⟨#[]⟩,.string ⟨#[]⟩,.int .i64 0,.int .i64 0] 47);simpa using this
  have hal2:bZ w2 (.slice vlo al.length vlc) al:=aH.kept vw.out hk (HVB.out);have iO:=hid hk;have H2:=hid hr2;have HN:=hid hn0;have alf:=hid hal2;clear hk hk2 hr2 hn0 hal2 HE2 hp1;have E8:=gW HN.out;go_wp2_with fail
  refine(Dt _ al w2.heap.size nm _ (aH.alloc alf.out _) (ah (aI _ _) 0 rfl)).mono ?_;rintro e w3 ⟨rfl,hb3⟩;have hr3:iR w3 b s at2 v:=(H2.out.alloc _).kept (S:=λ_=>False) (Kept.of_below hb3) id;have hk3:Kept (· = b) w w3:=((iO.out).alloc _).trans (Kept.of_below hb3);have hn3:w3.heap[w.heap.size]?=some (.cells #[.string ⟨#[]⟩,.string ⟨#[]⟩,.int .i64 0,.int .i64 0] 47 (0,0)):=
   (Kept.of_below (S:=λ_=>False) hb3).heap id (iw HN.out _)
  have ht3:w3.heap[w2.heap.size]?=some (.cells #[.string (str nm),.string ⟨#[]⟩,.int .i64 0,.int .i64 0] 47 (0,0)):=
   (Kept.of_below (S:=λ_=>False) hb3).heap id (aI _ _)
  have c1:=hr3.c1;have f1:=hr3.free 1;have hx2:at_+1≤s.length:=by omega
  have H3:=hid hr3;have oJ:=hid hk3;have HN3:=hid hn3;have HT3:=hid ht3;clear hb3 hr3 hk3 hn3 ht3;cases hany:(al.any λa=>a.name==nm)with
  | true=>
   have hbad:r=.bad ⟨if al.length=8 then 5 else 7,at_+1⟩:=by rw[←HEE.out,hany];rfl
   by_cases Jp:al.length=8
   ·rw[if_pos Jp]at hbad;subst hbad;have e8:((al.length:Int)==8)=true:=by simp;omega
    clear Jp hany;go_wp2_with (go_at_call 64;refine(kW 5 _ b s (at_+1) v (H3.out.set (by simp) hx2)).mono ?_;rintro e w4 ⟨rfl,hq4⟩)
    exact⟨rfl,rfl,(oJ.out.setCell (p:=⟨b,1,none⟩) (.inl rfl) _).trans (hq4.kept _)⟩
   rw[if_neg Jp]at hbad;subst hbad;have e8:((al.length:Int)==8)=false:=by simp;omega
   clear Jp hany;go_wp2_with (go_at_call 64;refine(kW 7 _ b s (at_+1) v (H3.out.set (by simp) hx2)).mono ?_;rintro e w4 ⟨rfl,hq4⟩)
   exact⟨rfl,rfl,(oJ.out.setCell (p:=⟨b,1,none⟩) (.inl rfl) _).trans (hq4.kept _)⟩
  | false=>
   by_cases Jp:al.length=8
   ·have hbad:r=.bad ⟨5,at_+1⟩:=by rw[←HEE.out,hany,Jp];rfl
    subst hbad;have e8:((al.length:Int)==8)=true:=by simp;omega
    clear Jp hany;go_wp2_with (go_at_call 64;refine(kW 5 _ b s (at_+1) v (H3.out.set (by simp) hx2)).mono ?_;rintro e w4 ⟨rfl,hq4⟩)
    exact⟨rfl,rfl,(oJ.out.setCell (p:=⟨b,1,none⟩) (.inl rfl) _).trans (hq4.kept _)⟩
   have e8:((al.length:Int)==8)=false:=by simp;omega
   have hE4:=HEE.out;rw[hany,if_neg (by simp[Jp])]at hE4;have HE4:=hid hE4;clear Jp hany hE4 HEE HE;go_wp2_with fail
   cases hm1:([61,34]:B).isPrefixOf (s.drop at2)with
   | false=>
    refine(uK [61,34] _ b s at2 v H3.out hm1).mono ?_;rintro e w4 ⟨rfl,hq4⟩;obtain rfl:r=.bad ⟨2,at2⟩:=by rw[←HE4.out];unfold aV;rw[hm1];rfl
    have HQ:=hid hq4;clear hq4 hm1;go_wp2_with fail
    exact⟨rfl,rfl,oJ.out.trans (HQ.out.kept _)⟩
   | true=>
    refine(yg [61,34] _ b s at2 v H3.out hm1).mono ?_;rintro e w4 ⟨rfl,hk4,hr4⟩;obtain⟨at3,Yq⟩:∃at3,Hid (at2+([61,34]:B).length=at3):=⟨_,rfl⟩;rw[Yq.out]at hr4;have c0:=hr4.c0;have c1:=hr4.c1;have f1:=hr4.free 1;have hl3:=hr4.2.1;have apJ:=gW HN3.out;have hn4:=hk4.heap (by omega) HN3.out;have hlt3:=gW HT3.out;have ht4:=hk4.heap (by omega) HT3.out;have uY:=hid (oJ.out.trans hk4);have H4:=hid hr4;have HN4:=hid hn4;have HT4:=hid ht4;have xP:=hid hm1;clear hk4 hr4 hn4 ht4 hm1;obtain⟨nv,HNV⟩:∃nv,Hid ((pVal (s.drop at3)).length=nv):=⟨_,rfl⟩;have hnv:at3+nv≤s.length:=by
     have:=fJ isVal (s.drop at3);have h2:(pVal (s.drop at3)).length=nv:=HNV.out;unfold pVal at h2;rw[List.length_drop]at this;omega
    have Gs:Hid (∀j,j<nv→∃h:at3+j<s.length,isVal (s[at3+j]'h)=true):=hid λj hj=>by
     have h2:(pVal (s.drop at3)).length=nv:=HNV.out;obtain⟨h3,h4⟩:=pX isVal (s.drop at3) j (by unfold pVal at h2;omega);refine⟨by rw[List.length_drop]at h3;omega,?_⟩;rw[uM s at3 j h3]at h4;exact h4
    have GK:Hid ((h:at3+nv<s.length)→isVal (s[at3+nv]'h)=false):=hid λhlt=>by
     have h2:(pVal (s.drop at3)).length=nv:=HNV.out;unfold pVal at h2;have h5:((s.drop at3).takeWhile isVal).length<(s.drop at3).length:=by rw[List.length_drop];omega
     have h6:=jE isVal (s.drop at3) h5;rw[uM s at3 _ h5]at h6;have:∀k,(hk:k=nv)→(h:at3+k<s.length)→isVal (s[at3+k]'h)=false→isVal (s[at3+nv]'(by omega))=false:=by
      intro k hk;subst hk;exact λ_ h=>h
     exact this _ h2 _ h6
    go_upto_block 0 with fail
    go_cut [9] (λk wx=>k=.int .i64 ((at3+nv:Nat):Int)∧wx=w4)
    case first=>
     go_wp2_with fail
     go_loop [9] (λk=>∃j:Nat,j≤nv∧k=.int .i64 ((at3+j:Nat):Int)) (λk=>s.length-(intOf k).toNat)
     case atStart=>exact⟨0,by omega,rfl⟩
     case round=>
      obtain⟨j,hj,rfl⟩:=hrel;by_cases hlt:j<nv
      ·obtain⟨h3,h2⟩:=Gs.out j hlt;obtain⟨g1,g2,g3,g4,g5⟩:=Xy h2;clear h2;go_wp2
       go_round
       case rel=>exact⟨j+1,by omega,by go_num⟩
       case measure=>simp[intOf];omega
      obtain rfl:j=nv:=by omega
      by_cases h3:at3+j<s.length
      ·rcases ZW (GK.out h3)with g1 | ⟨g1,g2⟩ | ⟨g1,g2,g3⟩ | ⟨g1,g2,g3,g4⟩ | ⟨g1,g2,g3,g4,g5⟩
       all_goals
        go_wp2
        go_meet
        case rel=>exact⟨rfl,rfl⟩
      go_wp2
      go_meet
      case rel=>exact⟨rfl,rfl⟩
    case rest=>
     obtain⟨rfl,rfl⟩:=hcut;have t0:=ah HT4.out 1 rfl;have t1:=aF HT4.out 1;go_wp2
     go_region
     go_wp2_with fail
     have hbw:¬b=w2.heap.size:=by have:=H2.out.lt;omega
     have hval:(s.drop at3).take nv=pVal (s.drop at3):=by
      rw[←HNV.out];exact takeWhile_take isVal _
     have hr5:iR ((wc.setCell ⟨w2.heap.size,1,none⟩ (.string (str ((s.drop at3).take nv)))).setCell ⟨b,1,none⟩ (.int .i64 ((at3:Int)+(nv:Int)))).drew b s (at3+nv) v:=
      (H4.out.other (p:=⟨w2.heap.size,1,none⟩) hbw).set (by simp) hnv
     have ht5:((wc.setCell ⟨w2.heap.size,1,none⟩ (.string (str ((s.drop at3).take nv)))).setCell ⟨b,1,none⟩ (.int .i64 ((at3:Int)+(nv:Int)))).drew.heap[w2.heap.size]? =
       some (.cells #[.string (str nm),.string (str ((s.drop at3).take nv)),.int .i64 0,.int .i64 0] 47 (0,0)):=
      eF (aW HT4.out 1 _) _ _ (λh=>hbw h.symm)
     have Tn:((wc.setCell ⟨w2.heap.size,1,none⟩ (.string (str ((s.drop at3).take nv)))).setCell ⟨b,1,none⟩ (.int .i64 ((at3:Int)+(nv:Int)))).drew.heap[w.heap.size]? =
       some (.cells #[.string ⟨#[]⟩,.string ⟨#[]⟩,.int .i64 0,.int .i64 0] 47 (0,0)):=
      eF (eF HN4.out _ _ (by show ¬_=w2.heap.size;omega)) _ _ (by show ¬_=b;omega)
     have hk5:Kept (· = b) w ((wc.setCell ⟨w2.heap.size,1,none⟩ (.string (str ((s.drop at3).take nv)))).setCell ⟨b,1,none⟩ (.int .i64 ((at3:Int)+(nv:Int)))).drew:=
      ((uY.out.setCell (p:=⟨w2.heap.size,1,none⟩) (.inr (by show _≤w2.heap.size;omega)) _).setCell (p:=⟨b,1,none⟩) (.inl rfl) _).drew
     have hE5:=HE4.out;unfold aV at hE5;rw[xP.out,if_pos rfl]at hE5;simp only[Ans.aN,List.drop_drop]at hE5;rw[Yq.out,HNV.out]at hE5
     revert hr5 ht5 Tn hk5
     generalize World.drew (World.setCell (World.setCell wc _ _) _ _)=w5;intro hr5 ht5 Tn hk5;have H5:=hid hr5;have HT5:=hid ht5;have HN5:=hid Tn;have zF:=hid hk5;have alh:=hid hval;have ZO:=hid hE5;clear hr5 ht5 Tn hk5 hval hE5 t0 t1 c0 c1 f1;cases hm2:([34]:B).isPrefixOf (s.drop (at3+nv))with
     | false=>
      refine(uK [34] _ b s (at3+nv) v H5.out hm2).mono ?_;rintro e w6 ⟨rfl,hq6⟩;obtain rfl:r=.bad ⟨2,at3+nv⟩:=by rw[←ZO.out,hm2];rfl
      have HQ:=hid hq6;clear hq6 hm2;go_wp2_with fail
      exact⟨rfl,rfl,zF.out.trans (HQ.out.kept _)⟩
     | true=>
      refine(yg [34] _ b s (at3+nv) v H5.out hm2).mono ?_;rintro e w6 ⟨rfl,hk6,OL⟩;have ah1:=gW HT5.out;have yV:=hk6.heap (by omega) HN5.out;have ht6:=hk6.heap (λh=>hbw h.symm) HT5.out;have c1:=OL.c1;have x0:=ah ht6 0 rfl;have x1:=ah ht6 1 rfl;have x2:=ah ht6 2 rfl;have x3:=ah ht6 3 rfl;have y2:=aF ht6 2;have y3:=aF ht6 3;have z0:=ah yV 0 rfl;have z1:=ah yV 1 rfl;have z2:=ah yV 2 rfl;have z3:=ah yV 3 rfl;have u0:=aF yV 0;have u1:=aF yV 1;have u2:=aF yV 2;have u3:=aF yV 3;obtain rfl:r=.ok (⟨nm,pVal (s.drop at3),(at_:Int),((at3+nv+([34]:B).length:Nat):Int)⟩,s.drop (at3+nv+([34]:B).length),at3+nv+([34]:B).length):=by
       rw[←ZO.out,hm2,if_pos rfl];rfl
      have H6:=hid OL;have Fh:=hid (zF.out.trans hk6);clear OL hk6 yV ht6 hm2 ZO HR HE4;have hns:¬w2.heap.size=w.heap.size:=by omega
      go_wp2
      refine bodyPost_ret (v:=.agg #[.string (str nm),.string (str ((s.drop at3).take nv)),.int .i64 (at_:Int),.int .i64 ((at3:Int)+(nv:Int)+1)]) (by
       simp[results,Tryz.results152,go_sem,z0,z1,z2,z3]) rfl ?_
      have hbw0:¬b=w.heap.size:=by omega
      refine⟨?_,?_,?_,rfl⟩
      ·rw[alh.out];rfl
      ·exact(((((Fh.out.setCell (p:=⟨w2.heap.size,2,none⟩) (.inr (by show _≤w2.heap.size;omega)) _).setCell (p:=⟨w2.heap.size,3,none⟩) (.inr (by show _≤w2.heap.size;omega)) _).setCell
        (p:=⟨w.heap.size,0,none⟩) (.inr (Nat.le_refl _)) _).setCell (p:=⟨w.heap.size,1,none⟩) (.inr (Nat.le_refl _)) _).setCell (p:=⟨w.heap.size,2,none⟩) (.inr (Nat.le_refl _)) _).setCell (p:=⟨w.heap.size,3,none⟩) (.inr (Nat.le_refl _)) _
      exact(((((H6.out.other (p:=⟨w2.heap.size,2,none⟩) hbw).other (p:=⟨w2.heap.size,3,none⟩) hbw).other (p:=⟨w.heap.size,0,none⟩) hbw0).other (p:=⟨w.heap.size,1,none⟩) hbw0).other (p:=⟨w.heap.size,2,none⟩) hbw0).other (p:=⟨w.heap.size,3,none⟩) hbw0
end Go.Proofs.YtplbdlgmjehckacGreatDoor

