/-
 Lemmas for the claims of this seat: the program's functions walked, and plain laws.
-/
import Derived.Test.YtplbdlgmjehckacGreatDoorPkFoTellsFull19
import Derived.Test.YtplbdlgmjehckacGreatDoorPkFoTellsFull5
set_option maxHeartbeats 1600000
namespace Go.Proofs.YtplbdlgmjehckacGreatDoor
open Go.Lib (hid)
open Go.RowKit
set_option linter.unusedVariables false
set_option linter.unusedSimpArgs false
def bJ(w:World)(b:Nat)(s:B)(at_:Nat)(f:iL)(v:Value):Prop:=
 w.heap[b]?=some (.cells #[.string (str s),.int .i64 (at_:Int),.int .i64 (f.err:Int),.int .i64 (f.pos:Int),v] 149 (0,0))∧at_≤s.length∧s.length≤6000
def good:iL:=⟨0,0⟩
section
variable {w w':World} {b:Nat} {s:B} {a:Nat} {f:iL} {v:Value}
theorem bJ.kept{S:Nat→Prop}(h:bJ w b s a f v)(hk:Kept S w w')(hs:¬S b):bJ w' b s a f v:=⟨hk.heap hs h.1,h.2⟩
theorem bJ.quiet(h:bJ w b s a f v)(hk:Qt w w'):bJ w' b s a f v:=h.kept (S:=λ_=>False) (hk.kept _) id
theorem bJ.drewN(h:bJ w b s a f v)(n:Nat):bJ (w.drewN n) b s a f v:=h
theorem bJ.alloc(h:bJ w b s a f v)(o:Obj):bJ (w.alloc o) b s a f v:=⟨iw h.1 o,h.2⟩
theorem bJ.set(h:bJ w b s a f v){x:Int}{a':Nat}(hx:x=(a':Int))(hl:a'≤s.length):bJ (w.setCell ⟨b,1,none⟩ (.int .i64 x)) b s a' f v:=by
 refine⟨?_,hl,h.2.2⟩;subst hx;have:=aW h.1 1 (.int .i64 (a':Int));simpa using this
theorem bJ.bad(h:bJ w b s a f v)(g:iL):bJ ((w.setCell ⟨b,2,none⟩ (.int .i64 (g.err:Int))).setCell ⟨b,3,none⟩ (.int .i64 (g.pos:Int))) b s a g v:=by
 refine⟨?_,h.2⟩;have:=aW (aW h.1 2 (.int .i64 (g.err:Int))) 3 (.int .i64 (g.pos:Int));simpa using this
theorem bJ.c0(h:bJ w b s a f v):w.cell? ⟨b,0,none⟩=some (.string (str s)):=ah h.1 0 rfl
theorem bJ.c1(h:bJ w b s a f v):w.cell? ⟨b,1,none⟩=some (.int .i64 (a:Int)):=ah h.1 1 rfl
theorem bJ.c2(h:bJ w b s a f v):w.cell? ⟨b,2,none⟩=some (.int .i64 (f.err:Int)):=ah h.1 2 rfl
theorem bJ.c3(h:bJ w b s a f v):w.cell? ⟨b,3,none⟩=some (.int .i64 (f.pos:Int)):=ah h.1 3 rfl
theorem bJ.c4(h:bJ w b s a f v):w.cell? ⟨b,4,none⟩=some v:=ah h.1 4 rfl
theorem bJ.free(h:bJ w b s a f v)(k:Nat):w.frozen? ⟨b,k,none⟩=false:=aF h.1 k
theorem bJ.lt(h:bJ w b s a f v):b<w.heap.size:=gW h.1
end
theorem NU(w:World)(b:Nat)(s:B)(a:Nat)(f:iL)(v:Value)(h:bJ w b s a f v):
  Calls Tryz.prog 79 #[.pointer (some ⟨b,0,none⟩)] w λe w'=>e=.returned (.bool ((f.err:Int)==0))∧w'=w:=by
 have h2:=h.c2;clear h;go_enter Tryz.func79,Tryz.ntmps79
 go_wp2
 go_ret
 exact⟨rfl,rfl⟩
theorem bK(x:Bool)(w:World)(b:Nat)(s:B)(a:Nat)(f:iL)(v:Value)(h:bJ w b s a f v)(hx:((f.err:Int)==0)=x):
  Calls Tryz.prog 79 #[.pointer (some ⟨b,0,none⟩)] w λe w'=>e=.returned (.bool x)∧w'=w:=by
 have:=NU w b s a f v h;rw[hx]at this;exact this
theorem dP(err pos:Nat)(w:World)(b:Nat)(s:B)(a:Nat)(f:iL)(v:Value)(h:bJ w b s a f v)(hf:f.err=0):
  Calls Tryz.prog 80 #[.pointer (some ⟨b,0,none⟩),.int .i64 (err:Int),.int .i64 (pos:Int)] w λe w'=>e=.returned (.tuple #[])∧Kept (· = b) w w'∧bJ w' b s a ⟨err,pos⟩ v:=by
 have H:=hid h;have c2:=h.c2;have c3:=h.c3;have f2:=h.free 2;have f3:=h.free 3;have hk:((f.err:Int)==0)=true:=by simp[hf]
 clear h;go_enter Tryz.func80,Tryz.ntmps80
 go_wp2_with (go_at_call 79;refine(bK true _ _ _ _ _ _ H.out hk).mono ?_;rintro e w2 ⟨rfl,rfl⟩)
 go_end0
 exact⟨rfl,((Kept.refl (· = b) _).setCell (p:=⟨b,2,none⟩) (.inl rfl) _).setCell (p:=⟨b,3,none⟩) (.inl rfl) _,H.out.bad ⟨err,pos⟩⟩
theorem qK(err pos:Int)(w:World)(b:Nat)(s:B)(a:Nat)(f:iL)(v:Value)(h:bJ w b s a f v)(hf:f.err≠0):
  Calls Tryz.prog 80 #[.pointer (some ⟨b,0,none⟩),.int .i64 err,.int .i64 pos] w λe w'=>e=.returned (.tuple #[])∧w'=w:=by
 have H:=hid h;have hk:((f.err:Int)==0)=false:=by simp;omega
 clear h;go_enter Tryz.func80,Tryz.ntmps80
 go_wp2_with (go_at_call 79;refine(bK false _ _ _ _ _ _ H.out hk).mono ?_;rintro e w2 ⟨rfl,rfl⟩)
 go_end0
 exact⟨rfl,rfl⟩
theorem Dz(word:B)(s:B)(a:Nat)(h:a+word.length≤s.length):((s.drop a).take word.length==word)=word.isPrefixOf (s.drop a):=by
 rw[Bool.eq_iff_iff,beq_iff_eq,List.isPrefixOf_iff_prefix,List.prefix_iff_eq_take];exact⟨Eq.symm,Eq.symm⟩
theorem iT(word:B)(x:Bool)(w:World)(b:Nat)(s:B)(a:Nat)(f:iL)(v:Value)(h:bJ w b s a f v)(hf:f.err=0)(hw:word.length≤100)(hx:word.isPrefixOf (s.drop a)=x):
  Calls Tryz.prog 112 #[.pointer (some ⟨b,0,none⟩),.string (str word)] w λe w'=>e=.returned (.bool x)∧∃n,w'=w.drewN n:=by
 have H:=hid h;have c0:=h.c0;have c1:=h.c1;have hl:=h.2.1;have hm:=h.2.2;have hk:((f.err:Int)==0)=true:=by simp[hf]
 clear h;by_cases hle:a+word.length≤s.length
 ·have d1:decide ((a:Int)+(word.length:Int)≤(s.length:Int))=true:=by simp;omega
  have he:Hid (((s.drop a).take word.length==word)=x):=hid (by rw[Dz word s a hle];exact hx);clear hx;go_enter Tryz.func112,Tryz.ntmps112
  go_wp2
  go_quiet ((go_at_call 79;exact Calls.quiet_of_same (bK true _ _ _ _ _ _ H.out hk)))
  go_wp2
  go_ret
  exact⟨eu he.out,_,rfl⟩
 have d1:decide ((a:Int)+(word.length:Int)≤(s.length:Int))=false:=by simp;omega
 obtain rfl:x=false:=by
  rw[←hx];cases hp:word.isPrefixOf (s.drop a)with
  | false=>rfl
  | true=>
   have:=(List.isPrefixOf_iff_prefix.1 hp).length_le;rw[List.length_drop]at this;omega
 clear hx;go_enter Tryz.func112,Tryz.ntmps112
 go_wp2
 go_quiet ((go_at_call 79;exact Calls.quiet_of_same (bK true _ _ _ _ _ _ H.out hk)))
 go_wp2
 go_ret
 exact⟨rfl,_,rfl⟩
theorem NV(word:B)(w:World)(b:Nat)(s:B)(a:Nat)(f:iL)(v:Value)(h:bJ w b s a f v)(hf:f.err≠0):
  Calls Tryz.prog 112 #[.pointer (some ⟨b,0,none⟩),.string (str word)] w λe w'=>e=.returned (.bool false)∧∃n,w'=w.drewN n:=by
 have H:=hid h;have hk:((f.err:Int)==0)=false:=by simp;omega
 clear h;go_enter Tryz.func112,Tryz.ntmps112
 go_wp2
 go_quiet ((go_at_call 79;exact Calls.quiet_of_same (bK false _ _ _ _ _ _ H.out hk)))
 go_wp2
 go_ret
 exact⟨rfl,_,rfl⟩
theorem NW(word:B)(w:World)(b:Nat)(s:B)(a:Nat)(f:iL)(v:Value)(h:bJ w b s a f v)(hf:f.err=0)(hw:word.length≤100)(hne:word≠[])(hx:word.isPrefixOf (s.drop a)=true):
  Calls Tryz.prog 116 #[.pointer (some ⟨b,0,none⟩),.string (str word)] w λe w'=>e=.returned (.bool true)∧Kept (· = b) w w'∧bJ w' b s (a+word.length) f v:=by
 have H:=hid h;have hl:a+word.length≤s.length:=by
  have:=(List.isPrefixOf_iff_prefix.1 hx).length_le;have:=List.length_pos_iff.2 hne;simp only[List.length_drop]at *;omega
 have hm:=h.2.2;clear h;go_enter Tryz.func116,Tryz.ntmps116
 go_wp2_with fail
 refine(iT word true _ _ _ _ _ _ H.out hf hw hx).mono ?_;rintro e w1 ⟨rfl,n,rfl⟩;have c1:=H.out.c1;have f1:=H.out.free 1;go_wp2_with fail
 go_ret
 exact⟨rfl,((Kept.refl (· = b) w).drewN n).setCell (p:=⟨b,1,none⟩) (.inl rfl) _,(H.out.drewN n).set (by omega) hl⟩
theorem Hy(word:B)(w:World)(b:Nat)(s:B)(a:Nat)(f:iL)(v:Value)(h:bJ w b s a f v)(hw:word.length≤100)(hx:f.err=0→word.isPrefixOf (s.drop a)=false):
  Calls Tryz.prog 116 #[.pointer (some ⟨b,0,none⟩),.string (str word)] w λe w'=>e=.returned (.bool false)∧∃n,w'=w.drewN n:=by
 have hon:Calls Tryz.prog 112 #[.pointer (some ⟨b,0,none⟩),.string (str word)] w λe w'=>e=.returned (.bool false)∧∃n,w'=w.drewN n:=by
  by_cases hf:f.err=0
  ·exact iT word false _ _ _ _ _ _ h hf hw (hx hf)
  exact NV word _ _ _ _ _ _ h hf
 have HON:=hid hon;clear hon h hx;go_enter Tryz.func116,Tryz.ntmps116
 go_wp2_with fail
 refine HON.out.mono ?_;rintro e w1 ⟨rfl,n,rfl⟩;go_wp2_with fail
 go_ret
 exact⟨rfl,n,rfl⟩
theorem abq(word:B)(w:World)(b:Nat)(s:B)(a:Nat)(f:iL)(v:Value)(h:bJ w b s a f v)(hf:f.err=0)(hw:word.length≤100)(hne:word≠[])(hx:word.isPrefixOf (s.drop a)=true):
  Calls Tryz.prog 118 #[.pointer (some ⟨b,0,none⟩),.string (str word)] w λe w'=>e=.returned (.tuple #[])∧Kept (· = b) w w'∧bJ w' b s (a+word.length) f v:=by
 have H:=hid h;clear h;go_enter Tryz.func118,Tryz.ntmps118
 go_wp2_with fail
 refine(NW word _ _ _ _ _ _ H.out hf hw hne hx).mono ?_;rintro e w1 ⟨rfl,hk,h1⟩;have HK:=hid hk;have H1:=hid h1;clear hk h1;go_wp2_with fail
 go_end0
 exact⟨rfl,HK.out,H1.out⟩
theorem adM(word:B)(w:World)(b:Nat)(s:B)(a:Nat)(f:iL)(v:Value)(h:bJ w b s a f v)(hf:f.err=0)(hw:word.length≤100)(hx:word.isPrefixOf (s.drop a)=false):
  Calls Tryz.prog 118 #[.pointer (some ⟨b,0,none⟩),.string (str word)] w λe w'=>e=.returned (.tuple #[])∧Kept (· = b) w w'∧bJ w' b s a ⟨2,a⟩ v:=by
 have H:=hid h;clear h;go_enter Tryz.func118,Tryz.ntmps118
 go_wp2_with fail
 refine(Hy word _ _ _ _ _ _ H.out hw (λ_=>hx)).mono ?_;rintro e w1 ⟨rfl,n,rfl⟩;have c1:=H.out.c1;go_wp2_with (go_at_call 80;refine(dP 2 a _ _ _ _ _ _ (H.out.drewN n) hf).mono ?_;rintro e w2 ⟨rfl,hk,h2⟩)
 go_end0
 exact⟨rfl,((Kept.refl (· = b) w).drewN n).trans hk,h2⟩
theorem KW(word:B)(w:World)(b:Nat)(s:B)(a:Nat)(f:iL)(v:Value)(h:bJ w b s a f v)(hf:f.err≠0)(hw:word.length≤100):
  Calls Tryz.prog 118 #[.pointer (some ⟨b,0,none⟩),.string (str word)] w λe w'=>e=.returned (.tuple #[])∧∃n,w'=w.drewN n:=by
 have H:=hid h;clear h;go_enter Tryz.func118,Tryz.ntmps118
 go_wp2_with fail
 refine(Hy word _ _ _ _ _ _ H.out hw (λh=>absurd h hf)).mono ?_;rintro e w1 ⟨rfl,n,rfl⟩;have c1:=H.out.c1;go_wp2_with (go_at_call 80;refine(qK 2 a _ _ _ _ _ _ (H.out.drewN n) hf).mono ?_;rintro e w2 ⟨rfl,rfl⟩)
 go_end0
 exact⟨rfl,n,rfl⟩
theorem adN(c:UInt8):isLow c=(decide (97≤(c.toNat:Int))&&decide ((c.toNat:Int)≤122)):=by
 unfold isLow;rw[Bool.eq_iff_iff];simp;omega
theorem rU(c:UInt8)(x:Bool)(w:World)(hx:isLow c=x):Calls Tryz.prog 70 #[.int .u8 (c.toNat:Int)] w λe w'=>e=.returned (.bool x)∧w'=w:=by
 rw[adN]at hx;have HX:=hid hx;clear hx;go_enter Tryz.func70,Tryz.ntmps70
 by_cases h1:97≤(c.toNat:Int)
 ·by_cases h2:(c.toNat:Int)≤122
  ·go_wp2
   go_ret
   exact⟨eu (by rw[←HX.out];simp[h1,h2]),rfl⟩
  go_wp2
  go_ret
  exact⟨eu (by rw[←HX.out];simp[h1,h2]),rfl⟩
 go_wp2
 go_ret
 exact⟨eu (by rw[←HX.out];simp;omega),rfl⟩
theorem abr(c:UInt8):dK c=(isLow c||(decide (48≤(c.toNat:Int))&&decide ((c.toNat:Int)≤57))||((c.toNat:Int)==45)):=by
 have e1:decide (c.toNat=45)=((c.toNat:Int)==45):=by
  rw[Bool.eq_iff_iff,decide_eq_true_iff,beq_iff_eq];omega
 have e2:decide (48≤c.toNat)=decide (48≤(c.toNat:Int)):=by
  rw[Bool.eq_iff_iff,decide_eq_true_iff,decide_eq_true_iff];omega
 have e3:decide (c.toNat≤57)=decide ((c.toNat:Int)≤57):=by
  rw[Bool.eq_iff_iff,decide_eq_true_iff,decide_eq_true_iff];omega
 unfold dK;rw[e1,e2,e3]
theorem Fj(c:UInt8)(x:Bool)(w:World)(hx:dK c=x):Calls Tryz.prog 158 #[.int .u8 (c.toNat:Int)] w λe w'=>e=.returned (.bool x)∧w'=w:=by
 rw[abr]at hx;cases hlow:isLow c with
 | true=>
  rw[hlow]at hx;obtain rfl:x=true:=by rw[←hx];rfl
  clear hx;go_enter Tryz.func158,Tryz.ntmps158
  go_wp2_with (go_at_call 70;refine(rU c true _ hlow).mono ?_;rintro e w2 ⟨rfl,rfl⟩)
  go_ret
  exact⟨rfl,rfl⟩
 | false=>
  rw[hlow]at hx;have HX:=hid hx;clear hx;go_enter Tryz.func158,Tryz.ntmps158
  cases h3:((c.toNat:Int)==45)with
  | true=>
   have h45:(c.toNat:Int)<48:=by simp at h3;omega
   go_wp2_with (go_at_call 70;refine(rU c false _ hlow).mono ?_;rintro e w2 ⟨rfl,rfl⟩)
   go_ret
   exact⟨eu (by rw[←HX.out];simp[h3]),rfl⟩
  | false=>
   by_cases h1:48≤(c.toNat:Int)
   ·by_cases h2:(c.toNat:Int)≤57
    ·go_wp2_with (go_at_call 70;refine(rU c false _ hlow).mono ?_;rintro e w2 ⟨rfl,rfl⟩)
     go_ret
     exact⟨eu (by rw[←HX.out];simp[h1,h2]),rfl⟩
    go_wp2_with (go_at_call 70;refine(rU c false _ hlow).mono ?_;rintro e w2 ⟨rfl,rfl⟩)
    go_ret
    exact⟨eu (by rw[←HX.out,h3];simp[h1,h2]),rfl⟩
   go_wp2_with (go_at_call 70;refine(rU c false _ hlow).mono ?_;rintro e w2 ⟨rfl,rfl⟩)
   go_ret
   exact⟨eu (by rw[←HX.out,h3];simp;omega),rfl⟩
def iU(s word:B)(a:Nat):Option Nat:=(bg word (s.drop a)).map (a + ·)
theorem NY{s word:B}{a:Nat}(h:word.isPrefixOf (s.drop a)=true)(hl:a<s.length):iU s word a=some a:=by
 unfold iU;rw[List.drop_eq_getElem_cons hl]at h ⊢;simp only[bg,h,if_true]
 rfl
theorem NZ{s word:B}{a:Nat}(h:word.isPrefixOf (s.drop a)=false)(hl:a<s.length):iU s word a=iU s word (a+1):=by
 unfold iU;rw[List.drop_eq_getElem_cons hl]at h ⊢;simp only[bg,h];cases bg word (s.drop (a+1))with
 | none=>rfl
 | some k=>simp;omega
theorem QO{s word:B}{a:Nat}(hl:s.length<a+word.length)(hw:word≠[])(ha:a≤s.length):iU s word a=none:=by
 unfold iU;cases hf:bg word (s.drop a)with
 | none=>rfl
 | some k=>
  have:=gY _ _ _ hf;rw[List.length_drop]at this;omega
theorem BD(word:B)(r:Option Nat)(w:World)(b:Nat)(s:B)(a:Nat)(f:iL)(v:Value)(h:bJ w b s a f v)(hw:word.length≤100)(hne:word≠[])(hx:iU s word a=r):
  Calls Tryz.prog 113 #[.pointer (some ⟨b,0,none⟩),.string (str word)] w λe w'=>e=.returned (.int .i64 (idx r))∧w'=w:=by
 have H:=hid h;have HX:=hid hx;have c0:=h.c0;have c1:=h.c1;have hl:=h.2.1;have hm:=h.2.2;have hw1:1≤word.length:=List.length_pos_iff.2 hne;clear h hx;go_enter Tryz.func113,Tryz.ntmps113
 go_wp2
 go_loop [5] (λk=>∃j:Nat,a≤j∧j≤s.length∧k=.int .i64 (j:Int)∧Hid (iU s word j=r)) (λk=>s.length-(intOf k).toNat)
 case atStart=>exact⟨a,Nat.le_refl _,hl,rfl,HX⟩
 case round=>
  obtain⟨j,hj1,hj2,rfl,HJ⟩:=hrel;by_cases hle:j+word.length≤s.length
  ·have hjl:j<s.length:=by omega
   cases hp:word.isPrefixOf (s.drop j)with
   | true=>
    have he:((s.drop j).take word.length==word)=true:=by rw[Dz word s j hle];exact hp
    have hr:r=some j:=by rw[←HJ.out];exact NY hp hjl
    clear hp;go_wp2
    go_ret
    exact⟨by first | rfl | (rw[hr];rfl),rfl⟩
   | false=>
    have he:((s.drop j).take word.length==word)=false:=by rw[Dz word s j hle];exact hp
    have hnext:Hid (iU s word (j+1)=r):=hid (by rw[←HJ.out];exact(NZ hp hjl).symm);clear hp;go_wp2
    go_round
    case rel=>exact⟨j+1,by omega,by omega,by go_num,hnext⟩
    case measure=>simp[intOf];omega
  have hr:r=none:=by rw[←HJ.out];exact QO (by omega) hne hj2
  go_wp2
  go_ret
  exact⟨by first | rfl | (rw[hr];rfl),rfl⟩
def KY(w:World)(b:Nat)(s:B)(a:Nat)(f:iL)(v:Value)(long n:Nat)(e:Ending)(w':World):Prop:=
 e=.returned (.string (str ((s.drop a).take n)))∧Kept (· = b) w w' ∧
  (if f.err≠0 then bJ w' b s a f v else if n=0 then bJ w' b s a ⟨2,a⟩ v else if 20<n then bJ w' b s a ⟨long,a⟩ v else bJ w' b s (a+n) f v)
theorem QS{j:Nat}{c:UInt8}(h:gQ j c=true):dK c=true∧(j=0→isLow c=true):=by
 unfold gQ at h;split at h
 ·exact⟨by unfold dK;simp[h],λ_=>h⟩
 rename_i hj;exact⟨h,λhh=>absurd hh hj⟩
theorem QT{j:Nat}{c:UInt8}(h:gQ j c=false):(dK c=false)∨(j=0∧dK c=true∧isLow c=false):=by
 unfold gQ at h;split at h
 ·cases hm:dK c with
  | false=>exact .inl rfl
  | true=>exact .inr ⟨by assumption,rfl,h⟩
 exact .inl h
theorem U3(long:Nat)(hlong:0<long)(w:World)(b:Nat)(s:B)(a:Nat)(f:iL)(v:Value)(h:bJ w b s a f v)(n:Nat)(hn:a+n≤s.length)
  (hin:∀j,j<n→∃h:a+j<s.length,gQ j (s[a+j]'h)=true) (hout:(h:a+n<s.length)→gQ n (s[a+n]'h)=false) :
  Calls Tryz.prog 117 #[.pointer (some ⟨b,0,none⟩),.int .i64 (long:Int)] w (KY w b s a f v long n):=by
 have H:=hid h;have Gs:=hid hin;have GK:=hid hout;have hl:=h.2.1;have hm:=h.2.2;have c0:=h.c0;have c1:=h.c1;have f1:=h.free 1;clear h hin hout;go_enter Tryz.func117,Tryz.ntmps117
 go_upto_block 0 with fail
 go_cut [5] (λk wx=>k=.int .i64 ((a+n:Nat):Int)∧wx=w)
 case first=>
  go_wp2_with fail
  go_loop [5] (λk=>∃j:Nat,j≤n∧k=.int .i64 ((a+j:Nat):Int)) (λk=>s.length-(intOf k).toNat)
  case atStart=>exact⟨0,by omega,rfl⟩
  case round=>
   obtain⟨j,hj,rfl⟩:=hrel;by_cases hlt:j<n
   ·obtain⟨h3,h2⟩:=Gs.out j hlt;obtain⟨h4,h5⟩:=QS h2;clear h2;by_cases hj0:j=0
    ·have h6:=h5 hj0;subst hj0;clear h5;go_wp2_with (first | (go_at_call 158;refine(Fj _ true _ h4).mono ?_;rintro e w2 ⟨rfl,rfl⟩) | (go_at_call 70;refine(rU _ true _ h6).mono ?_;rintro e w2 ⟨rfl,rfl⟩))
     go_round
     case rel=>exact⟨0+1,by omega,by go_num⟩
     case measure=>simp[intOf];omega
    clear h5;have h7:0<j:=by omega
    go_wp2_with (go_at_call 158;refine(Fj _ true _ h4).mono ?_;rintro e w2 ⟨rfl,rfl⟩)
    go_round
    case rel=>exact⟨j+1,by omega,by go_num⟩
    case measure=>simp[intOf];omega
   obtain rfl:j=n:=by omega
   by_cases h3:a+j<s.length
   ·rcases QT (GK.out h3)with h4 | ⟨h7,h4,h5⟩
    ·go_wp2_with (go_at_call 158;refine(Fj _ false _ h4).mono ?_;rintro e w2 ⟨rfl,rfl⟩)
     go_meet
     case rel=>exact⟨rfl,rfl⟩
    subst h7;go_wp2_with (first | (go_at_call 158;refine(Fj _ true _ h4).mono ?_;rintro e w2 ⟨rfl,rfl⟩) | (go_at_call 70;refine(rU _ false _ h5).mono ?_;rintro e w2 ⟨rfl,rfl⟩))
    go_meet
    case rel=>exact⟨rfl,rfl⟩
   go_wp2
   go_meet
   case rel=>exact⟨rfl,rfl⟩
 case rest=>
  obtain⟨rfl,rfl⟩:=hcut;go_wp2
  go_quiet (fail)
  have hmin:min n (s.length-a)=n:=by omega
  have hk:Hid (Kept (· = b) wc (wc.drewN nq)):=hid ((Kept.refl (· = b) wc).drewN nq);have H1:Hid (bJ (wc.drewN nq) b s a f v):=hid (H.out.drewN nq);by_cases h0:n=0
  ·have e0:((s.drop a).take n).isEmpty=true:=by rw[h0];simp
   have hnl:(n:Int)≤20:=by omega
   have H0:=hid h0;clear h0;by_cases hf:f.err=0
   ·have c1q:=H1.out.c1;go_wp2_with fail
    refine(dP 2 a _ _ _ _ _ _ H1.out hf).mono ?_;rintro e w2 ⟨rfl,hk2,h2⟩;have K2:=hid (hk.out.trans hk2);have H2:=hid h2;clear hk2 h2;go_wp2_with fail
    refine(bK false _ _ _ _ _ _ H2.out (by simp)).mono ?_;rintro e w3 ⟨rfl,rfl⟩;go_wp2_with fail
    go_ret
    exact⟨Uz rfl,K2.out,by rw[if_neg (by simp[hf]),if_pos H0.out];exact H2.out⟩
   have c1q:=H1.out.c1;have hfe:((f.err:Int)==0)=false:=by simp;omega
   go_wp2_with fail
   refine(qK 2 a _ _ _ _ _ _ H1.out hf).mono ?_;rintro e w2 ⟨rfl,rfl⟩;go_wp2_with fail
   refine(bK false _ _ _ _ _ _ H1.out hfe).mono ?_;rintro e w3 ⟨rfl,rfl⟩;go_wp2_with fail
   go_ret
   exact⟨Uz rfl,hk.out,by rw[if_pos hf];exact H1.out⟩
  have e0:((s.drop a).take n).isEmpty=false:=by
   cases hx:(s.drop a).take n with
   | nil=>have:=congrArg List.length hx;simp at this;omega
   | cons _ _=>rfl
  by_cases h20:20<n
  ·by_cases hf:f.err=0
   ·have c1q:=H1.out.c1;go_wp2_with fail
    refine(dP long a _ _ _ _ _ _ H1.out hf).mono ?_;rintro e w2 ⟨rfl,hk2,h2⟩;have K2:=hid (hk.out.trans hk2);have H2:=hid h2;have hle:((long:Int)==0)=false:=by simp;omega
    clear hk2 h2;go_wp2_with fail
    refine(bK false _ _ _ _ _ _ H2.out hle).mono ?_;rintro e w3 ⟨rfl,rfl⟩;go_wp2_with fail
    go_ret
    exact⟨Uz rfl,K2.out,by rw[if_neg (by simp[hf]),if_neg h0,if_pos h20];exact H2.out⟩
   have c1q:=H1.out.c1;have hfe:((f.err:Int)==0)=false:=by simp;omega
   go_wp2_with fail
   refine(qK long a _ _ _ _ _ _ H1.out hf).mono ?_;rintro e w2 ⟨rfl,rfl⟩;go_wp2_with fail
   refine(bK false _ _ _ _ _ _ H1.out hfe).mono ?_;rintro e w3 ⟨rfl,rfl⟩;go_wp2_with fail
   go_ret
   exact⟨Uz rfl,hk.out,by rw[if_pos hf];exact H1.out⟩
  by_cases hf:f.err=0
  ·have hfe:((f.err:Int)==0)=true:=by simp[hf]
   go_wp2_with fail
   refine(bK true _ _ _ _ _ _ H1.out hfe).mono ?_;rintro e w3 ⟨rfl,rfl⟩;go_wp2_with fail
   go_ret
   exact⟨Uz rfl,hk.out.setCell (p:=⟨b,1,none⟩) (.inl rfl) _,by rw[if_neg (by simp[hf]),if_neg h0,if_neg h20];exact H1.out.set (by omega) hn⟩
  have hfe:((f.err:Int)==0)=false:=by simp;omega
  go_wp2_with fail
  refine(bK false _ _ _ _ _ _ H1.out hfe).mono ?_;rintro e w3 ⟨rfl,rfl⟩;go_wp2_with fail
  go_ret
  exact⟨Uz rfl,hk.out,by rw[if_pos hf];exact H1.out⟩
theorem KZ(long:Nat)(hlong:0<long)(w:World)(b:Nat)(s:B)(a:Nat)(f:iL)(v:Value)(h:bJ w b s a f v):
  Calls Tryz.prog 117 #[.pointer (some ⟨b,0,none⟩),.int .i64 (long:Int)] w (KY w b s a f v long (aJ (s.drop a))):=by
 have hn:=gZ (s.drop a);rw[List.length_drop]at hn;have hl:=h.2.1;refine U3 long hlong w b s a f v h _ (by omega) (λj hj=>?_) (λhlt=>?_)
 ·obtain⟨h1,h2⟩:=oL _ _ hj;refine⟨by rw[List.length_drop]at h1;omega,?_⟩;rw[List.getElem_drop]at h2;exact h2
 have h1:aJ (s.drop a)<(s.drop a).length:=by rw[List.length_drop];omega
 have:=nJ _ h1;rw[List.getElem_drop]at this;exact this
def Step{α:Type}(f:iL)(R:Ans α)(f':iL)(x:α):Prop:=
 (f.err≠0→f'=f)∧(f.err=0→(f'.err=0∧R=.ok x)∨(f'.err≠0∧R=.bad f'))
theorem Step.dead{α:Type}{f:iL}{R:Ans α}{x:α}(h:f.err≠0):Step f R f x:=⟨λ_=>rfl,λhh=>absurd hh h⟩
theorem Step.ok{α:Type}{R:Ans α}{x:α}(h:R=.ok x):Step good R good x:=⟨λhh=>absurd rfl hh,λ_=>.inl ⟨rfl,h⟩⟩
theorem Step.bad{α:Type}{R:Ans α}{f':iL}{x:α}(h:R=.bad f')(hf:f'.err≠0):Step good R f' x:=⟨λhh=>absurd rfl hh,λ_=>.inr ⟨hf,h⟩⟩
def St{α:Type}(A:Ans α)(f:iL)(X:Ans α):Prop:=(f.err≠0→A=.bad f)∧(f.err=0→A=X)
theorem St.step{α β:Type}{A:Ans α}{f f':iL}{R:Ans β}{k:β→Ans α}{x:β}(h:St A f (R.then k))(hs:Step f R f' x):St A f' (k x):=by
 refine⟨λhf'=>?_,λhf'=>?_⟩
 ·by_cases hf:f.err=0
  ·rcases hs.2 hf with⟨h1,_⟩ | ⟨_,h2⟩
   ·exact absurd h1 hf'
   rw[h.2 hf,h2];rfl
  rw[hs.1 hf];exact h.1 hf
 by_cases hf:f.err=0
 ·rcases hs.2 hf with⟨_,h2⟩ | ⟨h1,_⟩
  ·rw[h.2 hf,h2];rfl
  exact absurd hf' h1
 rw[hs.1 hf]at hf';exact absurd hf' hf
theorem kX(word:B)(w:World)(b:Nat)(s:B)(a:Nat)(f:iL)(v:Value)(h:bJ w b s a f v)(hg:f.err=0→f=good)(hw:word.length≤100)(hne:word≠[]):
  Calls Tryz.prog 118 #[.pointer (some ⟨b,0,none⟩),.string (str word)] w λe w'=>e=.returned (.tuple #[])∧Kept (· = b) w w' ∧
   ∃f' a',bJ w' b s a' f' v∧(f'.err=0→f'=good)∧Hid (Step f (aV word (s.drop a) a) f' (s.drop a',a')):=by
 by_cases hf:f.err=0
 ·cases hx:word.isPrefixOf (s.drop a)with
  | true=>
   refine(abq word _ _ _ _ _ _ h hf hw hne hx).mono ?_;rintro e w1 ⟨rfl,hk,h1⟩;refine⟨rfl,hk,f,_,h1,hg,hid ⟨λ_=>rfl,λ_=>.inl ⟨hf,?_⟩⟩⟩;unfold aV;rw[hx,if_pos rfl,List.drop_drop]
  | false=>
   refine(adM word _ _ _ _ _ _ h hf hw hx).mono ?_;rintro e w1 ⟨rfl,hk,h1⟩;refine⟨rfl,hk,⟨2,a⟩,_,h1,λhh=>absurd hh (by simp),hid ⟨λhh=>absurd hf hh,λ_=>.inr ⟨by simp,?_⟩⟩⟩;unfold aV;rw[hx,if_neg (by simp)]
 refine(KW word _ _ _ _ _ _ h hf hw).mono ?_;rintro e w1 ⟨rfl,n,rfl⟩;exact⟨rfl,(Kept.refl _ w).drewN n,f,a,h.drewN n,hg,hid ⟨λ_=>rfl,λhh=>absurd hh hf⟩⟩
theorem DC(word:B)(k:Nat)(w:World)(b:Nat)(s:B)(a:Nat)(f:iL)(v:Value)(h:bJ w b s a f v)(hw:word.length≤100)(hne:word≠[])(hx:iU s word a=some k):
  Calls Tryz.prog 113 #[.pointer (some ⟨b,0,none⟩),.string (str word)] w λe w'=>e=.returned (.int .i64 (k:Int))∧w'=w:=BD word (some k) w b s a f v h hw hne hx
structure Wk(w:World)(base b:Nat)(s:B)(at_:Nat)(v:Value)(ns:List ak):Prop where
 rd:bJ w b s at_ good v
 nodes:og w base b v ns
 hb:b<base
 hbase:base≤w.heap.size
 few:ns.length≤120
 hb0:0<b
theorem Wk.kept{w w':World}{base b:Nat}{s:B}{a a':Nat}{v:Value}{ns:List ak}(h:Wk w base b s a v ns)(hk:Kept (· = b) w w')(hr:bJ w' b s a' good v):Wk w' base b s a' v ns:=
 ⟨hr,h.nodes.kept hk h.hb,h.hb,Nat.le_trans h.hbase hk.size,h.few,h.hb0⟩
theorem Wk.quiet{w w':World}{base b:Nat}{s:B}{a:Nat}{v:Value}{ns:List ak}(h:Wk w base b s a v ns)(hq:Qt w w'):Wk w' base b s a v ns:=by
 obtain⟨n,rfl⟩:=hq;exact⟨h.rd,h.nodes,h.hb,h.hbase,h.few,h.hb0⟩
theorem Wk.set{w:World}{base b:Nat}{s:B}{a a':Nat}{v:Value}{ns:List ak}(h:Wk w base b s a v ns){x:Int}(hx:x=(a':Int))(hl:a'≤s.length):
  Wk (w.setCell ⟨b,1,none⟩ (.int .i64 x)) base b s a' v ns:=h.kept ((Kept.refl (· = b) w).setCell (p:=⟨b,1,none⟩) (.inl rfl) _) (h.rd.set hx hl)
theorem adO{w w7:World}{base b gg cap:Nat}{s:B}{a:Nat}{v av:Value}{ns:List ak}{n:ak}{mO:List Value}{o:Obj}(h:Wk w base b s a v ns)(h119:ns.length+1≤120)
  (hav:mO.length=ns.length) (hat:∀(i:Nat) (n:ak) (av:Value),ns[i]?=some n→mO[i]?=some av→bZ w av n.attrs∧∀k,av.ownBlock=some k→k≠b∧v.ownBlock≠some k∧k<w.heap.size)
  (ha:bZ w av n.attrs) (hao:∀k,av.ownBlock=some k→k≠b∧v.ownBlock≠some k∧k<w.heap.size)
  (hown:w7.ownsRow base 45 6 (.slice (some ⟨gg,0,none⟩) (ns.length+1) cap) (ns.length+1) ((List.zipWith bV ns mO).flatten++bV n av))
  (hgrow:(w.alloc o).grownBy w7 v.ownBlock) (hvb:∀k,v.ownBlock=some k→k≠b) (hg:v.ownBlock=some gg∨w.heap.size≤gg) :
  Wk (w7.setCell ⟨b,4,none⟩ (.slice (some ⟨gg,0,none⟩) (ns.length+1) cap)) base b s a (.slice (some ⟨gg,0,none⟩) (ns.length+1) cap) (ns++[n]) ∧
  Kept (oh b v) w (w7.setCell ⟨b,4,none⟩ (.slice (some ⟨gg,0,none⟩) (ns.length+1) cap)):=by
 have hb:=h.hb;have hbs:=h.hbase;have jD:Kept (λk=>v.ownBlock=some k) w w7:=((Kept.refl _ w).alloc o).grown hgrow (λk hk=>.inl hk);have PY:=h.rd.kept jD (λhh=>hvb b hh rfl);have hk:Kept (oh b v) w (w7.setCell ⟨b,4,none⟩ (.slice (some ⟨gg,0,none⟩) (ns.length+1) cap)):=
  (jD.mono (λk _ hk=>.inr hk)).setCell (p:=⟨b,4,none⟩) (.inl (.inl rfl)) _
 have yX:=ownsRow_setCell_below hown (a:=⟨b,4,none⟩) (by show b<base;omega) (.slice (some ⟨gg,0,none⟩) (ns.length+1) cap);have new:∀ {x:Value} {al:List bf},bZ w x al→(∀k,x.ownBlock=some k→k≠b∧v.ownBlock≠some k∧k<w.heap.size) →
   bZ (w7.setCell ⟨b,4,none⟩ (.slice (some ⟨gg,0,none⟩) (ns.length+1) cap)) x al∧∀k,x.ownBlock=some k→k≠b∧(Value.slice (some ⟨gg,0,none⟩) (ns.length+1) cap).ownBlock≠some k ∧
    k<(w7.setCell ⟨b,4,none⟩ (.slice (some ⟨gg,0,none⟩) (ns.length+1) cap)).heap.size:=by
  intro x al h1 h2;refine⟨aH.kept h1 hk (λk hk hs=>?_),λk hk'=>⟨(h2 k hk').1,?_,Nat.lt_of_lt_of_le (h2 k hk').2.2 hk.size⟩⟩
  ·rcases hs with hs | hs
   ·exact(h2 k hk).1 hs
   exact(h2 k hk).2.1 hs
  intro he;simp only[Value.ownBlock,Option.some.injEq]at he;subst he;rcases hg with hg | hg
  ·exact(h2 _ hk').2.1 hg
  have:=(h2 _ hk').2.2;omega
 refine⟨⟨⟨?_,PY.2⟩,⟨mO++[av],by simp[hav],?_,?_⟩,hb,Nat.le_trans hbs hk.size,by simpa using h119,h.hb0⟩,hk⟩
 ·have:=aW PY.1 4 (.slice (some ⟨gg,0,none⟩) (ns.length+1) cap);simpa using this
 ·have e:(List.zipWith bV (ns++[n]) (mO++[av])).flatten=(List.zipWith bV ns mO).flatten++bV n av:=by
   rw[List.zipWith_append (by rw[hav])];simp
  rw[e];simpa using yX
 intro i m x hm hx;by_cases hi:i<ns.length
 ·rw[List.getElem?_append_left hi]at hm;rw[List.getElem?_append_left (by rw[hav];exact hi)]at hx;exact new (hat i m x hm hx).1 (hat i m x hm hx).2
 have hi2:=(List.getElem?_eq_some_iff.1 hm).1;simp at hi2;have:i=ns.length:=by omega
 subst this;simp at hm;rw[←hav]at hx;simp at hx;subst hm;subst hx;exact new ha hao
theorem abt{w:World}{base b gg cap:Nat}{s:B}{a:Nat}{ns:List ak}{nd:ak}(h:Wk w base b s a (.slice (some ⟨gg,0,none⟩) (ns.length+1) cap) (ns++[nd]))(x y:Int):
  (∃u,w.cell? ⟨gg,ns.length*6+4,none⟩=some u)∧(∃u,w.cell? ⟨gg,ns.length*6+5,none⟩=some u)∧w.frozen? ⟨gg,ns.length*6+4,none⟩=false∧w.frozen? ⟨gg,ns.length*6+5,none⟩=false ∧
  Wk ((w.setCell ⟨gg,ns.length*6+4,none⟩ (.int .i64 x)).setCell ⟨gg,ns.length*6+5,none⟩ (.int .i64 y)) base b s a (.slice (some ⟨gg,0,none⟩) (ns.length+1) cap) (ns++[{ nd with qE:=x,inT:=y }]):=by
 obtain⟨NH,CP,how',hat'⟩:=h.nodes;have hn1:(ns++[nd]).length=ns.length+1:=by simp
 rw[hn1]at CP how';obtain⟨mO,av,rfl⟩:∃mO av,NH=mO++[av]:=by
  have hne:NH≠[]:=by intro hh;rw[hh]at CP;simp at CP
  exact⟨NH.dropLast,NH.getLast hne,(List.dropLast_concat_getLast hne).symm⟩
 have hav:mO.length=ns.length:=by simpa using CP
 have e:∀m:ak,(List.zipWith bV (ns++[m]) (mO++[av])).flatten=(List.zipWith bV ns mO).flatten++bV m av:=λm=>by
  rw[List.zipWith_append (by rw[hav])];simp
 rw[e]at how';have hl:=WV hav;have hgb:=(how'.lt gg rfl).1;have hb:=h.hb;have hb0:=h.hb0;have c4:=how'.cellAt (ns.length*6+4) (by omega);have c5:=how'.cellAt (ns.length*6+5) (by omega);rw[List.getElem?_append_right (by omega),hl,Nat.add_sub_cancel_left]at c4 c5;have s1:=(how'.stored (ns.length*6+4) (.int .i64 x)).1;have s2:=(s1.stored (ns.length*6+5) (.int .i64 y)).1;have hk:Kept (· = gg) w ((w.setCell ⟨gg,ns.length*6+4,none⟩ (.int .i64 x)).setCell ⟨gg,ns.length*6+5,none⟩ (.int .i64 y)):=
  ((Kept.refl (· = gg) w).setCell (p:=⟨gg,_,none⟩) (.inl rfl) _).setCell (p:=⟨gg,_,none⟩) (.inl rfl) _
 rw[List.set_append_right _ _ (by omega),hl,Nat.add_sub_cancel_left,List.set_append_right _ _ (by omega),hl,Nat.add_sub_cancel_left]at s2;refine⟨⟨_,c4⟩,⟨_,c5⟩,how'.frozenAt _,how'.frozenAt _,⟨h.rd.kept hk (by omega),⟨mO++[av],by simp[hav],?_,?_⟩,hb,Nat.le_trans h.hbase hk.size,?_,hb0⟩⟩
 ·rw[e];simpa [bV] using s2
 ·intro i m z hm hz;have old:∀m':ak,(ns++[nd])[i]?=some m'→m'.attrs=m.attrs→_:=λm' hm' ha=>hat' i m' z hm' hz
  have:∃m':ak,(ns++[nd])[i]?=some m'∧m'.attrs=m.attrs:=by
   by_cases hi:i<ns.length
   ·rw[List.getElem?_append_left hi]at hm ⊢;exact⟨m,hm,rfl⟩
   have hi2:=(List.getElem?_eq_some_iff.1 hm).1;simp at hi2;have:i=ns.length:=by omega
   subst this;simp at hm ⊢;subst hm;rfl
  obtain⟨m',hm',ha⟩:=this;obtain⟨h1,h2⟩:=hat' i m' z hm' hz;rw[ha]at h1;refine⟨aH.kept h1 hk (λk hk' hs=>?_),λk hk'=>⟨(h2 k hk').1,(h2 k hk').2.1,Nat.lt_of_lt_of_le (h2 k hk').2.2 hk.size⟩⟩;exact(h2 k hk').2.1 (by rw[hs];rfl)
 have:=h.few;simpa using this
theorem bJ.alive{w:World}{b:Nat}{s:B}{a:Nat}{f:iL}{v:Value}(h:bJ w b s a f v)(hf:f=good):bJ w b s a good v:=hf ▸ h
theorem QU(w:World)(b:Nat)(s:B)(a:Nat)(f:iL)(v:Value)(h:bJ w b s a f v)(hg:f.err=0→f=good):
  Calls Tryz.prog 117 #[.pointer (some ⟨b,0,none⟩),.int .i64 7] w λe w'=>∃nm:B,e=.returned (.string (str nm))∧Kept (· = b) w w' ∧
   ∃f' a',bJ w' b s a' f' v∧(f'.err=0→f'=good∧nm.length≤20)∧Hid (Step f (jO (s.drop a) a) f' (nm,s.drop a',a')):=by
 refine(KZ 7 (by omega) w b s a f v h).mono ?_;rintro e w1 ⟨rfl,hk,h1⟩;refine⟨_,rfl,hk,?_⟩;have hn:=gZ (s.drop a);have hlen:((s.drop a).take (aJ (s.drop a))).length=aJ (s.drop a):=by rw[List.length_take];omega
 by_cases hf:f.err=0
 ·rw[if_neg (by simp[hf])]at h1;by_cases h0:aJ (s.drop a)=0
  ·rw[if_pos h0]at h1;refine⟨_,_,h1,λhh=>absurd hh (by simp),hid ⟨λhh=>absurd hf hh,λ_=>.inr ⟨by simp,?_⟩⟩⟩;unfold jO;rw[if_pos h0]
  rw[if_neg h0]at h1;by_cases h20:20<aJ (s.drop a)
  ·rw[if_pos h20]at h1;refine⟨_,_,h1,λhh=>absurd hh (by simp),hid ⟨λhh=>absurd hf hh,λ_=>.inr ⟨by simp,?_⟩⟩⟩;unfold jO;rw[if_neg h0,if_pos h20]
  rw[if_neg h20]at h1;refine⟨_,_,h1,λ_=>⟨hg hf,by omega⟩,hid ⟨λhh=>absurd hf hh,λ_=>.inl ⟨hf,?_⟩⟩⟩;unfold jO;rw[if_neg h0,if_neg h20,List.drop_drop]
 rw[if_pos hf]at h1;exact⟨f,a,h1,λhh=>absurd hh hf,hid ⟨λ_=>rfl,λhh=>absurd hh hf⟩⟩
end Go.Proofs.YtplbdlgmjehckacGreatDoor

