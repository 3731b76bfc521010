/-
 Lemmas for the claims of this seat: the program's functions walked, and plain laws.
-/
import Derived.Test.YtplbdlgmjehckacGreatDoorPkFoTellsFull20
set_option maxRecDepth 100000
set_option maxHeartbeats 6400000
namespace Go.Proofs.YtplbdlgmjehckacGreatDoor
open Go.Lib (hid)
open Go.RowKit
set_option linter.unusedVariables false
set_option linter.unusedSimpArgs false
theorem IK:∀ds:List aC,Lib.join (ds.map printOne) [59,32]=dH ds
 | []=>rfl
 | [d]=>by simp[Lib.join,dH,List.intercalate]
 | d::e::ds=>by
  have:=IK (e::ds);simp only[Lib.join,List.map_cons]at this;simp only[Lib.join,List.map_cons,List.intercalate,List.intersperse,List.flatten_cons]at this ⊢;simp[dH,this]
theorem BR(d:aC):(printOne d).length≤d.name.length+d.val.length+13:=by
 unfold printOne;split<;>simp[bM]<;>omega
theorem IL(c:Nat):∀ds:List aC,(∀d∈ds,d.name.length+d.val.length≤c)→(dH ds).length≤ds.length*(c+15)
 | [],_=>by simp[dH]
 | [d],h=>by have:=BR d;have:=h d (by simp);simp[dH];omega
 | d::e::ds,h=>by
  have h1:=BR d;have h2:=h d (by simp);have h3:=IL c (e::ds) (λx hx=>h x (by simp[hx]));simp only[dH,List.length_append,List.length_cons,List.length_nil]at h3 ⊢;rw[Nat.add_one_mul (ds.length+1)];omega
theorem RG(w:World)(a:Option Addr)(n cap:Nat)(h1:n≤cap)(h2:cap≤maxLen)(h0:a=none→n=0):
  Calls Tryz.prog 124 #[.slice a n cap] w λe w'=>(e=.returned (.slice a n n))∧w'=w:=by
 unfold maxLen at h2;go_enter Tryz.func124,Tryz.ntmps124
 go_wp2
 go_ret
 exact⟨rfl,rfl⟩
structure afg(w wr:World)(base:Nat)(l:Value)(ds:List aC)(k:Nat):Prop where
 own:wr.ownsRow base 9 1 l k ((ds.take k).map (λd=>jh (printOne d))).flatten
 kept:Kept (λ_=>False) w wr
theorem ab4(w:World)(v:Value)(ds:List aC)(h:bC w v ds)(hN:ds.length≤4000000)(hone:∀d∈ds,d.name.length+d.val.length≤4000000):
  Calls Tryz.prog 86 #[v] w λe w'=>e=.returned (.string (str (dH ds)))∧Below w.heap.size w w':=by
 obtain⟨av,cv,rfl,hcv1,hcv2⟩:=h.form;unfold maxLen at hcv2;obtain⟨base,fB⟩:∃base,Hid (w.heap.size=base):=⟨_,rfl⟩;obtain⟨i0,hi0,hz0,hz1,hz2⟩:=info_parts GI;have H:=hid h;have MZ:=hid hone;clear h hone;go_enter Tryz.func86,Tryz.ntmps86
 go_upto_block 0 with fail
 go_cut [3] (λl wx=>afg w wx base l ds ds.length)
 case first=>
  go_wp2_with fail
  go_loopw [3,9] (λl i wr=>∃k:Nat,k≤ds.length∧i=.int .i64 k∧afg w wr base l ds k) (λ_ i _=>ds.length-(intOf i).toNat)
  case atStart=>exact⟨0,by omega,rfl,World.ownsRow_nil _ _ _ _,Kept.refl _ _⟩
  case round=>
   obtain⟨i,hi,rfl,hL⟩:=hrel;have HL:=hid hL;have hform:∃vo vc,u3=.slice vo i vc:=by
    rcases hL.own.2 with⟨h,hn⟩ | ⟨g,cap,cur,h,_⟩
    ·exact⟨none,0,by rw[h,hn]⟩
    exact⟨_,cap,h⟩
   obtain⟨lo,lc,rfl⟩:=hform;clear hL;by_cases hlt:i<ds.length
   ·have hx:=List.getElem?_eq_getElem hlt;generalize hgx:ds[i]=x at hx;obtain⟨b,off,rfl,g0,g1,g2⟩:=bC.at (iy _ _ _ _ H.out HL.out.kept.below) hx;have hxl:=MZ.out x (List.mem_of_getElem? hx);have hxn:x.name.length≤4000000:=by omega
    have hxv:x.val.length≤4000000:=by omega
    go_upto_region 5 with fail
    obtain⟨wa,gX⟩:∃x',Hid (wr.alloc (.cells #[.string (str x.name),.string (str x.val),.bool x.strong] 59 (0,0))=x'):=⟨_,rfl⟩;have hn:wa.heap[wr.heap.size]?=some (.cells #[.string (str x.name),.string (str x.val),.bool x.strong] 59 (0,0)):=by rw[←gX.out];exact aI wr _
    have ka:Kept (λ_=>False) w wa:=by rw[←gX.out];exact HL.out.kept.alloc _
    have how:wa.ownsRow base 9 1 (.slice lo i lc) i ((ds.take i).map (λd=>jh (printOne d))).flatten:=by rw[←gX.out];exact HL.out.own.alloc _
    have n0:wa.cell? ⟨wr.heap.size,0,none⟩=some (.string (str x.name)):=ah hn 0 rfl;have n1:wa.cell? ⟨wr.heap.size,1,none⟩=some (.string (str x.val)):=ah hn 1 rfl;have n2:wa.cell? ⟨wr.heap.size,2,none⟩=some (.bool x.strong):=ah hn 2 rfl;have hsz:base≤wa.heap.size:=by have:=ka.size;have:=fB.out;omega
    have KA:=hid ka;have z1:(str x.name).size≤4000000:=by rw[lG];exact hxn
    have z2:(str x.val).size≤4000000:=by rw[lG];exact hxv
    clear hn ka g0 g1 g2;rw[gX.out];go_upto_if 20 with fail
    go_cut [6] (λu wx=>u=.string (str (printOne x))∧wx=wa)
    case first=>
     cases hst:x.strong
     ·rw[hst]at n2;go_wp2_with fail
      go_meet
      case rel=>exact⟨by simp[printOne,hst,bM],rfl⟩
     rw[hst]at n2;go_wp2_with fail
     go_meet
     case rel=>exact⟨by simp[printOne,hst,bM],rfl⟩
    case rest=>
     obtain⟨rfl,rfl⟩:=hcut;obtain⟨P,HP⟩:∃P,Hid (printOne x=P):=⟨_,rfl⟩;have HOW:=hid how;rw[HP.out];clear n0 n1 n2;go_wp2_with (at_builtin;refine wpList_append_lies _ rfl _ _ _ rfl base 9 i0 _ 1 16 Tryz.underlying58 hi0 hz0 hz1 hz2 rfl (by omega) _ i _ (by rfl) (how.alloc _) ⟨wc.heap.size,0,none⟩ 1 1 (jh P) (by rfl) (by rfl) (World.news_of_block (cs:=(jh P).toArray) (t:=9) (fr:=(0,0)) (heap_alloc_new wc _)) (by simp[jh,Value.oneCell']) (by omega) (by unfold maxLen;omega) (by omega) (by simp;omega) (wc.heap.size+1) (by simp) ?_;intro gg cap w4 hown4 hgrow4 EO hlt4)
     go_roundw
     case measure=>simp[intOf];omega
     case rel=>
      refine⟨i+1,by omega,by go_num,?_,(KA.out.alloc _).grown hgrow4 (λk hk=>.inr (by have:=(HOW.out.lt k hk).1;have:=fB.out;omega))⟩;have ht:ds.take (i+1)=ds.take i++[x]:=by rw[List.take_add_one,hx];rfl
      rw[ht,List.map_append,List.flatten_append,List.map_singleton,List.flatten_singleton,HP.out];exact hown4
   obtain rfl:i=ds.length:=by omega
   go_wp2_with fail
   go_meet
   case rel=>exact HL.out
 case rest=>
  have HL:=hid hcut;have how:=hcut.own;rw[List.take_length]at how;clear hcut;by_cases hn0:ds=[]
  ·subst hn0;have hform:∃vo vc,u3=.slice vo 0 vc∧vc≤maxLen:=by
    rcases how.2 with⟨h,hn⟩ | ⟨g,cap,cur,h,h1,h2,h3,h4,_⟩
    ·exact⟨none,0,h,by simp[maxLen]⟩
    exact⟨_,cap,h,h4⟩
   obtain⟨vo,vc,rfl,hvc⟩:=hform;go_wp2_with (go_at_call 124;refine(RG _ vo 0 vc (by omega) hvc (λ_=>rfl)).mono ?_;rintro e w1 ⟨rfl,rfl⟩)
   go_wp2_with (go_at_call 123;refine(Tryz.strings_Join_none _ _ _ _).mono ?_;rintro e w1 ⟨rfl,rfl⟩)
   go_ret
   exact⟨rfl,HL.out.kept.below⟩
  have hrows:=aS (rows:=ds.map (λd=>jh (printOne d))) (by intro r hr;obtain⟨d,_,rfl⟩:=List.mem_map.1 hr;rfl) (by simp) how;obtain⟨a3,c3,rfl,h1,h2,h3⟩:=hrows;obtain⟨g,o,rfl,h4⟩:=h3 (by simpa using hn0);rw[List.length_map]at h1 ⊢;have hg:=(how.lt g rfl).2;have HC:Hid (∀(j:Nat) (y:ByteArray),(ds.map (λd=>str (printOne d)))[j]?=some y→wc.cell? ⟨g,o+j,none⟩=some (.string y)):=hid (by
   intro j y hy;rw[List.getElem?_map]at hy;cases hd:ds[j]? with
   | none=>rw[hd]at hy;simp at hy
   | some d=>
    rw[hd]at hy;simp at hy;subst hy;have:=h4 j (jh (printOne d)) (by simp[hd]) 0 _ rfl;simpa using this)
  have Rl:(ds.map (λd=>str (printOne d))).map (·.data.toList)=ds.map printOne:=by rw[List.map_map];rfl
  have hJ:Lib.join ((ds.map (λd=>str (printOne d))).map (·.data.toList)) (str [59,32]).data.toList=dH ds:=by rw[Rl];exact IK ds
  have HJ:=hid hJ;have hlen:=IL 4000000 ds MZ.out;have hlen2:(dH ds).length≤140737488355328:=by
   refine Nat.le_trans hlen (Nat.le_trans (Nat.mul_le_mul_right _ hN) (by omega))
  have hc3:ds.length≤c3:=by simpa using h1
  have hJn:=Tryz.strings_Join g o ds.length (ds.map (λd=>str (printOne d))) (str [59,32]) wc HC.out hg (by rw[List.length_map];omega) (by rw[List.length_map];exact Nat.le_refl _) (by rw[HJ.out];exact hlen2);rw[List.length_map,HJ.out]at hJn;clear how h3 h4 Rl hJ hlen;go_wp2_with (go_at_call 124;refine(RG _ (some ⟨g,o,none⟩) ds.length c3 hc3 (by simpa using h2) (λh=>by cases h)).mono ?_;rintro e w1 ⟨rfl,rfl⟩)
  go_wp2_with (go_at_call 123;refine hJn.mono ?_;rintro e w2 ⟨rfl,hb⟩)
  go_ret
  exact⟨rfl,HL.out.kept.below.trans (hb.mono HL.out.kept.size)⟩
theorem print_any(w:World)(X:Nat→Prop)(v:Value)(ds:List aC)(h:dD w X v ds)(hN:ds.length≤4000000)(hone:∀d∈ds,d.name.length+d.val.length≤4000000):
  Calls Tryz.prog 86 #[v] w λe w'=>e=.returned (.string (str (dH ds)))∧Below w.heap.size w w':=ab4 w v ds h.1 hN hone
theorem VG:(Tryz.prog.info? 59).map (λi=>(i.zero,i.size,i.bytes))=some (some (.agg #[.string ⟨#[]⟩,.string ⟨#[]⟩,.bool false]),3,40):=by kernel_rfl
structure DOp(w wr:World)(v:Value)(ds:List aC):Prop where
 own:wr.ownsRow w.heap.size 59 3 v ds.length (ds.map aA).flatten
 kept:Kept (λ_=>False) w wr
theorem DOp.qw{w wr wx:World}{v:Value}{ds:List aC}(h:DOp w wr v ds)(hk:Kept (λ_=>False) wr wx):DOp w wx v ds:=⟨aK h.own hk (λ_ _=>id),h.kept.trans hk⟩
theorem DOp.push{w wr:World}{ao:Option Addr}{ac:Nat}{ds:List aC}(h:DOp w wr (.slice ao ds.length ac) ds)(d:aC)(hq:ds.length≤1099600000000):
  ∃a' c' w',(Builtin.append_ #[38,38] 38 #[.slice ao ds.length ac,.slice (some ⟨wr.heap.size,0,none⟩) 1 1]).run Tryz.prog (wr.alloc (.cells #[.string (str d.name),.string (str d.val),.bool d.strong] 59 (0,0)))=.ok (.slice a' (ds.length+1) c') w'∧DOp w w' (.slice a' (ds.length+1) c') (ds++[d]):=by
 obtain⟨i0,hi0,hz0,hz1,hz2⟩:=info_parts VG;obtain⟨wa,gX⟩:∃x,wr.alloc (.cells #[.string (str d.name),.string (str d.val),.bool d.strong] 59 (0,0))=x:=⟨_,rfl⟩;have hb:wa.heap[wr.heap.size]?=some (.cells #[.string (str d.name),.string (str d.val),.bool d.strong] 59 (0,0)):=by rw[←gX];exact aI wr _
 have hka:Kept (λ_=>False) wr wa:=by rw[←gX];exact(Kept.refl _ wr).alloc _
 obtain⟨h2,hk⟩:=h.qw hka;obtain⟨a',c',w',hr',ho',k',_⟩:=kH (P:=Tryz.prog) wa 38 38 w.heap.size 59 i0 _ 3 40 Tryz.underlying38 hi0 hz0 hz1 hz2 rfl (by omega) ao ds.length ac _ h2 (some ⟨wr.heap.size,0,none⟩) 1 1 [aA d] (rE hb rfl (by simp[aA]) rfl (by simp[maxLen])) (by simp[aA]) (by simp[aA,Value.oneCell']) (by unfold maxLen;omega) (by omega) hk.size;rw[gX];refine⟨a',c',w',hr',?_,hk.trans' k' (λi hi hx=>?_)⟩
 ·rw[List.length_append,List.map_append,List.flatten_append];exact ho'
 have:=(h2.lt i hx).1;omega
theorem vZ{w:World}{base:Nat}{v:Value}{ds:List aC}(h:w.ownsRow base 59 3 v ds.length (ds.map aA).flatten):dD w (λ_=>False) v ds:=
 ⟨aS (by intro r hr;obtain⟨x,_,rfl⟩:=List.mem_map.1 hr;rfl) (by simp) h,λk hk=>⟨id,(h.lt k hk).2⟩⟩
def lookOf(r:Ans (List aC)):List aC:=match r with
 | .bad _=>[]
 | .ok l=>l
theorem IQ(ns:List ak)(k:Nat)(gone:List au):aQ ns k gone=(dH (lookOf (dO ns (k:Int) gone [])),decide ((lookOf (dO ns (k:Int) gone [])).length≤20)):=by
 unfold aQ lookOf;cases dO ns (k:Int) gone []with
 | bad f=>rfl
 | ok l=>rfl
theorem Zc(ns:List ak)(gone:List au)(hc:Ef ns gone)(k:Nat)(hk:k≤1048576)(hlk:(lookOf (dO ns (k:Int) gone [])).length≤4000000∧∀d∈lookOf (dO ns (k:Int) gone []),d.name.length+d.val.length≤4000000)(m:Int)(w:World)(v rv:Value)(hv:aX w v ns)(hr:gy w rv gone)(hm:w.cell? ⟨0,0,none⟩=some (.int .i64 m)):
  Calls Tryz.prog 45 #[v,.int .i64 (k:Int),rv] w λe w'=>e=.returned (.tuple #[.string (str (aQ ns k gone).1),.bool (aQ ns k gone).2])∧Kept (λ_=>False) w w':=by
 rw[IQ];have hdc:=Nl ns gone hc [] (k:Int) (by omega) m w v rv (.slice none 0 0) hv hr (aH.nil _ _) hm;obtain⟨look,HLK⟩:∃x,Hid (lookOf (dO ns (k:Int) gone [])=x):=⟨_,rfl⟩;rw[HLK.out]at hlk ⊢;have HDC:Hid (Calls Tryz.prog 22 #[v,.int .i64 (k:Int),rv,.slice none 0 0] w λe w'=>∃la lc er,e=.returned (.tuple #[.slice la look.length lc,.int .i64 er])∧Kept (λ_=>False) w w'∧bC w' (.slice la look.length lc) look):=hid (hdc.mono λe w' he=>by
  have hl:=HLK.out;cases hD:dO ns (k:Int) gone []with
  | bad f=>
   rw[hD]at he hl;obtain⟨rfl,hk',_⟩:=he;obtain rfl:[]=look:=hl;exact⟨none,0,_,rfl,hk',aH.nil _ _⟩
  | ok l=>
   rw[hD]at he hl;obtain rfl:l=look:=hl;obtain⟨lv,rfl,hk',hlv,_⟩:=he;obtain⟨la,lc,rfl,_,_⟩:=bC.form hlv;exact⟨la,lc,0,rfl,hk',hlv⟩)
 obtain⟨hl1,hl2⟩:=hlk;have HL2:=hid hl2;clear hdc hc hv hr hm hl2;go_enter Tryz.func45,Tryz.ntmps45
 go_wp2_with fail
 refine HDC.out.mono ?_;rintro e w1 ⟨la,lc,er,rfl,hk1,hlv⟩;obtain⟨_,_,he,PK,wM⟩:=bC.form hlv;cases he;unfold maxLen at wM;have uZ:=hid hk1;have HLV:=hid hlv;clear hk1 hlv;go_wp2_with fail
 go_loopw [10,22] (λu c wr=>∃i:Nat,i≤look.length∧c=.int .i64 (i:Int)∧Hid (DOp w1 wr u (look.take i))) (λ_ c _=>look.length-(intOf c).toNat)
 case atStart=>exact⟨0,by omega,rfl,hid ⟨World.ownsRow_nil _ _ _ _,Kept.refl _ _⟩⟩
 case round=>
  obtain⟨i,hi,rfl,HL⟩:=hrel;obtain⟨bU,hwr0⟩:∃x,x=wr:=⟨_,rfl⟩;subst hwr0;obtain⟨vo,vc,rfl⟩:=dw HL.out.own;by_cases hlt:i<look.length
  ·have hx:=List.getElem?_eq_getElem hlt;generalize hgx:look[i]=x at hx;clear hgx;obtain⟨lb,lo,rfl,c0,c1,c2⟩:=bC.at (aH.below HLV.out HL.out.kept.below) hx;have hnx:Hid (look.take (i+1)=look.take i++[x]):=hid (by rw[List.take_add_one,hx];rfl);have hle:(look.take i).length≤1099600000000:=by simp;omega
   generalize look.take i=q1 at *;go_upto_region 6 with fail
   obtain⟨wd,mM⟩:∃x',Hid (bU.alloc (.cells #[.string (str x.name),.string (str x.val),.bool x.strong] 53 (0,0))=x'):=⟨_,rfl⟩;have f0:wd.cell? ⟨bU.heap.size,0,none⟩=some (.string (str x.name)):=by rw[←mM.out];exact ah (aI bU _) 0 rfl
   have f1:wd.cell? ⟨bU.heap.size,1,none⟩=some (.string (str x.val)):=by rw[←mM.out];exact ah (aI bU _) 1 rfl
   have f2:wd.cell? ⟨bU.heap.size,2,none⟩=some (.bool x.strong):=by rw[←mM.out];exact ah (aI bU _) 2 rfl
   have Ua:Hid (DOp w1 wd (.slice vo q1.length vc) q1):=hid (HL.out.qw (by rw[←mM.out];exact(Kept.refl _ bU).alloc _));obtain⟨a',c',w',hr',hl'⟩:=Ua.out.push x hle;have HR':=hid hr';have HL':=hid hl';rw[mM.out];clear c0 c1 c2 hx hr' hl';go_wp2_with (at_builtin;refine gK (by rfl) _ _ _ rfl _ _ _ rfl rfl _ HR'.out ?_)
   go_roundw
   case measure=>simp[intOf];omega
   case rel=>exact⟨i+1,by omega,by go_num,hid (by rw[hnx.out];exact HL'.out)⟩
  obtain rfl:i=look.length:=by omega
  have hown:bU.ownsRow w1.heap.size 59 3 (.slice vo look.length vc) look.length (look.map aA).flatten:=by
   have:=HL.out.own;rw[List.take_length]at this;exact this
  have HPR:=hid (print_any bU (λ_=>False) _ look (vZ hown) hl1 HL2.out);have htl:(look.take look.length).length=look.length:=by rw[List.take_length]
  rw[htl];cases hfew:decide (look.length≤20)with
  | true=>
   have hfi:((look.length:Int)≤20)=True:=by simp at hfew;simp;omega
   have hfn:(look.length≤20)=True:=by simp at hfew;simp;omega
   go_wp2_with fail
   refine HPR.out.mono ?_;rintro e w5 ⟨rfl,hb5⟩;go_wp2_with fail
   refine bodyPost_ret (v:=.tuple #[.string (str (dH look)),.bool true]) (by simp[results,Tryz.results45,go_sem]) rfl ?_;exact⟨by show _=Ending.returned (.tuple #[.string (str (dH look)),.bool (decide (look.length≤20))]);rw[hfew],(uZ.out.trans HL.out.kept).trans (Kept.of_below hb5)⟩
  | false=>
   have hfi:((look.length:Int)≤20)=False:=by simp at hfew;simp;omega
   have hfn:(look.length≤20)=False:=by simp at hfew;simp;omega
   go_wp2_with fail
   refine HPR.out.mono ?_;rintro e w5 ⟨rfl,hb5⟩;go_wp2_with fail
   refine bodyPost_ret (v:=.tuple #[.string (str (dH look)),.bool false]) (by simp[results,Tryz.results45,go_sem]) rfl ?_;exact⟨by show _=Ending.returned (.tuple #[.string (str (dH look)),.bool (decide (look.length≤20))]);rw[hfew],(uZ.out.trans HL.out.kept).trans (Kept.of_below hb5)⟩
theorem RH:(Tryz.prog.info? 104).map (λi=>i.size)=some 2:=by kernel_rfl
theorem ab6:liesAt Tryz.prog Tryz.prog.depth 104 (2 / Tryz.prog.cellsOf 104) 0 104 1=true:=by kernel_rfl
theorem agE:(Tryz.prog.info? 5).map (λi=>(i.zero,i.size,i.bytes))=some (some (.int .u8 0),1,1):=by kernel_rfl
theorem VH(b:Nat)(w:World)(h0:w.cell? ⟨b,0,none⟩=some (.pointer (some ⟨b,0,none⟩))):
  Calls Tryz.prog 89 #[.pointer (some ⟨b,0,none⟩)] w λe w'=>e=.returned (.tuple #[])∧w'=w:=by
 obtain⟨j,hj,_⟩:=Option.map_eq_some_iff.1 RH;go_enter Tryz.func89,Tryz.ntmps89
 go_wp2
 rw[Lib.run_neq_ptr_same w _ Tryz.underlying101 hj];go_wp2
 go_end0
 exact⟨rfl,rfl⟩
theorem RI(b:Nat)(w:World)(h0:w.cell? ⟨b,0,none⟩=some (.pointer none))(hsh:w.shape? b=some (104,2))(hfz:w.frozen? ⟨b,0,none⟩=false):
  Calls Tryz.prog 89 #[.pointer (some ⟨b,0,none⟩)] w λe w'=>e=.returned (.tuple #[])∧w'=w.setCell ⟨b,0,none⟩ (.pointer (some ⟨b,0,none⟩)):=by
 obtain⟨j,hj,hjs⟩:=Option.map_eq_some_iff.1 RH;go_enter Tryz.func89,Tryz.ntmps89
 go_wp2
 rw[Lib.run_to_unsafe w ⟨b,0,none⟩ Tryz.underlying101 Tryz.underlying205 hj (by rw[hjs];decide) hsh (Nat.zero_lt_succ 1)];simp only[Result.andThen];rw[Oper.upon_value];go_wp2
 rw[run_callFunc_extern Tryz.func135 (by kernel_rfl) (by kernel_rfl) (by kernel_rfl) (e:=Extern.AbiNoEscape.same) (by kernel_rfl)];rw[Lib.run_noEscape];simp only[Result.andThen];rw[Oper.upon_value];go_wp2
 rw[Lib.run_from_unsafe w ⟨b,0,none⟩ Tryz.underlying205 Tryz.underlying101 hj hsh ab6];simp only[Result.andThen];rw[Oper.upon_value];go_wp2
 go_end0
 exact⟨rfl,rfl⟩
theorem check_any(B b:Nat)(bs:List Value)(w:World)(h:Lib.IsBuilderF 104 5 B b bs w):
  Calls Tryz.prog 89 #[.pointer (some ⟨b,0,none⟩)] w λe w'=>e=.returned (.tuple #[])∧(Lib.BuilderAtF 104 5 B b (.pointer (some ⟨b,0,none⟩)) bs w'∧Below B w w'∧Lib.OthersKept 5 (some b) w w'):=by
 rcases h with h | h
 ·refine(RI b w h.cell0 h.shape h.frozen0).mono ?_;rintro e w' ⟨rfl,rfl⟩;exact⟨rfl,h.used _,(Below.refl B w).setCell (p:=⟨b,0,none⟩) h.1 _,(Lib.OthersKept.refl _ _ w).setCell ⟨b,0,none⟩ rfl _⟩
 refine(VH b w h.cell0).mono ?_;rintro e w' ⟨rfl,rfl⟩;exact⟨rfl,h,Below.refl B _,Lib.OthersKept.refl _ _ _⟩
theorem write_any(B b:Nat)(bs:List Value)(s:ByteArray)(w:World)(h:Lib.IsBuilderF 104 5 B b bs w)(hlen:bs.length+s.size≤140737488355328)(hBw:B≤w.heap.size):
  Calls Tryz.prog 50 #[.pointer (some ⟨b,0,none⟩),.string s] w λe w'=>e=.returned (.tuple #[.int .i64 s.size,.nilIface])∧(Lib.BuilderAtF 104 5 B b (.pointer (some ⟨b,0,none⟩)) (bs++Lib.strCells s) w'∧Below B w w'∧Lib.OthersKept 5 (some b) w w'):=by
 obtain⟨i0,hi,hz0,hz1,hz2⟩:=info_parts agE;go_enter Tryz.func50,Tryz.ntmps50
 go_wp2_with (go_at_call 89;refine(check_any B b bs _ h).mono ?_)
 rintro e w1 ⟨rfl,h1,hb1,hk1⟩;obtain⟨hB,v,hbk,hown,hne⟩:=h1;have c0:w1.cell? ⟨b,0,none⟩=some (.pointer (some ⟨b,0,none⟩)):=by rw[Lib.cell_of_heap hbk];rfl
 have c1:w1.cell? ⟨b,1,none⟩=some v:=by rw[Lib.cell_of_heap hbk];rfl
 go_wp2_with (at_builtin;refine Lib.wpList_append_own_stringF _ rfl _ _ 102 9 rfl B 5 i0 Tryz.underlying102 Tryz.underlying9 hi hz0 hz1 hz2 _ _ _ rfl hown s rfl ?c3 ?c4 ?c5 ?_)
 case c3=>unfold maxLen;omega
 case c4=>omega
 case c5=>have:=hb1.size;omega
 intro v' w2 hown' hgrow _;have hlt:b<w1.heap.size:=by
  rcases Nat.lt_or_ge b w1.heap.size with h' | h'
  ·exact h'
  simp[Array.getElem?_eq_none h']at hbk
 have hb2:w2.heap[b]?=some (.cells #[.pointer (some ⟨b,0,none⟩),v] 104 (0,0)):=by
  rw[hgrow.block b hlt (λe=>hne e.symm)];exact hbk
 have d0:w2.cell? ⟨b,0,none⟩=some (.pointer (some ⟨b,0,none⟩)):=by rw[Lib.cell_of_heap hb2];rfl
 have d1:w2.cell? ⟨b,1,none⟩=some v:=by rw[Lib.cell_of_heap hb2];rfl
 have f1:w2.frozen? ⟨b,1,none⟩=false:=Lib.frozen_of_heap hb2 1;obtain⟨ao,n',cap,rfl⟩:∃ao n' cap,v'=.slice ao n' cap:=by
  rcases hown'.2 with⟨hv,_⟩ | ⟨g,cap,cur,fz,hv,_⟩
  ·exact⟨_,_,_,hv⟩
  exact⟨_,_,_,hv⟩
 go_wp2
 refine bodyPost_ret (v:=.tuple #[.int .i64 s.size,.nilIface]) (by simp[results,Tryz.results50,go_sem]) rfl ?_;refine⟨rfl,?_,?_,(hk1.grown hgrow (Lib.ownsRowF_kind hown)).setCell ⟨b,1,none⟩ rfl _⟩
 ·exact Lib.BuilderAtF.put (T:=104) (e:=5) hB hb2 (bs':=bs++Lib.strCells s) (by simpa [Lib.strCells_length] using hown') (by decide)
 exact(hb1.grown hgrow (by have:=hb1.size;omega) (λk hk=>(hown.lt k hk).1)).setCell (p:=⟨b,1,none⟩) hB _
def IU(r:Ans B):Value:=match r with
 | .bad f=>.tuple #[.string ⟨#[]⟩,.agg #[.int .i64 (f.err:Int),.int .i64 (f.pos:Int)]]
 | .ok t=>.tuple #[.string (str t),.agg #[.int .i64 0,.int .i64 0]]
theorem Ah(p:Nat):IU (.bad ⟨5,p⟩)=.tuple #[.string ⟨#[]⟩,.agg #[.int .i64 5,.int .i64 (p:Int)]]:=rfl
theorem IV:IU (.bad ⟨4,0⟩)=.tuple #[.string ⟨#[]⟩,.agg #[.int .i64 4,.int .i64 0]]:=rfl
theorem RJ(t:B):IU (.ok t)=.tuple #[.string (str t),.agg #[.int .i64 0,.int .i64 0]]:=rfl
def uS(w:World)(s:B)(e:Ending)(w':World):Prop:=
 Kept (λ_=>False) w w'∧match rP s with
  | .bad f=>e=.returned (IU (.bad f))
  | .ok x=>∃st,ni x.1 x.2 st∧e=.returned (IU (RF s x.1 x.2 st))
theorem vT{w:World}{ns:List ak}{rules:List au}{e:Ending}{w':World}(h:Dq w ns rules e w'):∃(bs:Nat) (st:List Bool),e=.returned (.slice (some ⟨bs,0,none⟩) rules.length rules.length)∧ni ns rules st∧w'.heap[bs]?=some (.cells (st.map Value.bool).toArray 4 (0,0))∧w.heap.size≤bs∧Kept (λ_=>False) w w':=h
theorem ab7(s:B)(m:Int)(w:World)(hm:w.cell? ⟨0,0,none⟩=some (.int .i64 m))(hs:s.length≤9223372036854775807):
  Calls Tryz.prog 19 #[.string (str s)] w (uS w s):=by
 have HM:=hid hm;obtain⟨w0,HW0⟩:∃x,Hid (w.alloc (.cells #[.int .i64 0,.int .i64 0] 26 (0,0))=x):=⟨_,rfl⟩;have uq:Hid (Kept (λ_=>False) w w0):=hid (by rw[←HW0.out];exact(Kept.refl _ w).alloc _);have zQ:Hid (∀wx,Kept (λ_=>False) w0 wx→∀x y,_):=hid (λwx hk x y=>UZ (by rw[HW0.out];exact hk) x y);obtain⟨P0,HP⟩:∃P,Hid (rP s=P):=⟨_,rfl⟩;have JD:=Ht s m w0 (uq.out.cell id hm) hs;rw[HP.out]at JD;replace JD:=hid JD;clear hm;go_enter Tryz.func19,Tryz.ntmps19
 go_upto_region 1 with fail
 rw[HW0.out];go_wp2_with fail
 refine JD.out.mono ?_;intro e w1 he1;cases P0 with
 | bad f=>
  obtain⟨rfl,hk1⟩:=he1;unfold QF;have hne:((f.err:Int) != 0)=true:=by
   have:=xg HP.out;simp;omega
  obtain⟨wb,jo⟩:∃x,Hid (w1.alloc (.cells #[.int .i64 (f.err:Int),.int .i64 (f.pos:Int)] 26 (0,0))=x):=⟨_,rfl⟩;have hkb:Kept (λ_=>False) w0 wb:=by rw[←jo.out];exact hk1.alloc _
  have c0:wb.cell? ⟨w1.heap.size,0,none⟩=some (.int .i64 (f.err:Int)):=by rw[←jo.out];exact ah (aI w1 _) 0 rfl
  have c1:wb.cell? ⟨w1.heap.size,1,none⟩=some (.int .i64 (f.pos:Int)):=by rw[←jo.out];exact ah (aI w1 _) 1 rfl
  obtain⟨d,g0,g1,f0,f1⟩:=zQ.out wb hkb (.int .i64 (f.err:Int)) (.int .i64 (f.pos:Int));have HD:=hid d;go_upto_region 2 with fail
  rw[jo.out];clear hk1 hkb d;go_wp2_with fail
  go_region
  go_wp2_with fail
  obtain⟨q0,q1,q2⟩:=HD.out
  revert q0 q1 q2
  generalize hwf:((wb.setCell ⟨w.heap.size,0,none⟩ (.int .i64 (f.err:Int))).setCell ⟨w.heap.size,1,none⟩ (.int .i64 (f.pos:Int)))=wf;intro q0 q1 q2;have p0:wf.drew.cell? ⟨w.heap.size,0,none⟩=some (.int .i64 (f.err:Int)):=q0;have p1:wf.drew.cell? ⟨w.heap.size,1,none⟩=some (.int .i64 (f.pos:Int)):=q1;refine bodyPost_ret (v:=.tuple #[.string ⟨#[]⟩,.agg #[.int .i64 (f.err:Int),.int .i64 (f.pos:Int)]]) (by simp[results,Tryz.results19,go_sem,p0,p1]) rfl ?_;refine⟨q2.drew,?_⟩;rw[HP.out];exact rfl
 | ok x=>
  obtain⟨l,rules⟩:=x;obtain⟨lv,rv,rfl,hk1,hl1,hr1⟩:=he1;have hlim:=IW HP.out;obtain⟨T,hT⟩:=Xl HP.out;have EX:=hid hlim;have HT:=hid hT;have hs6:=hlim.len;have hl6:=hlim.nodes;have OL:=hlim.most;obtain⟨la,lc,rfl,PK,wM⟩:=aX.form hl1;obtain⟨ra,rc,rfl,XW,C9⟩:=bH.form hr1;unfold maxLen at wM C9;obtain⟨wb,jo⟩:∃x,Hid (w1.alloc (.cells #[.int .i64 0,.int .i64 0] 26 (0,0))=x):=⟨_,rfl⟩;have Oi:Kept (λ_=>False) w1 wb:=by rw[←jo.out];exact(Kept.refl _ w1).alloc _
  have HKB:=hid (hk1.trans Oi);have HLB:Hid (aX wb (.slice la l.length lc) l):=hid (aO.kept hl1 Oi);have Us:Hid (gy wb (.slice ra rules.length rc) rules):=hid (eG.kept hr1 Oi);have c0:wb.cell? ⟨w1.heap.size,0,none⟩=some (.int .i64 0):=by rw[←jo.out];exact ah (aI w1 _) 0 rfl
  have QI:=hid (Kz l rules (hlim.ca (gone:=rules) (λr h=>h) (Nat.le_refl _)) m wb _ _ HLB.out Us.out ((uq.out.trans HKB.out).cell id HM.out));clear hk1 hl1 hr1 Oi hlim hT;go_upto_region 2 with fail
  rw[jo.out];go_wp2_with fail
  refine QI.out.mono ?_;intro e w2 he2;obtain⟨bs,st,rfl,hst,hbs,agF,hk2⟩:=vT he2;have HST:=hid hst;have yD:=hid hbs;have iO:=hid (HKB.out.trans hk2);have HL2:Hid (aX w2 (.slice la l.length lc) l):=hid (aO.kept HLB.out hk2);have HR2:Hid (gy w2 (.slice ra rules.length rc) rules):=hid (eG.kept Us.out hk2);have RN:st.length=rules.length:=hst.len;clear hst hbs agF hk2 he2;go_wp2_with fail
  go_loopw [7,8,36] (λg u c wr=>∃i:Nat,i≤rules.length∧c=.int .i64 (i:Int)∧Hid (mW w2 wr g u (dQ (rules.take i) (st.take i)) ((dQ (rules.take i) (st.take i)).map dI))) (λ_ _ c _=>rules.length-(intOf c).toNat)
  case atStart=>exact⟨0,by omega,rfl,hid ⟨wR.nil _ _,World.ownsRow_nil _ _ _ _,Kept.refl _ _⟩⟩
  case round=>
   obtain⟨i,hi,rfl,HF⟩:=hrel;obtain⟨bU,hwr0⟩:∃x,x=wr:=⟨_,rfl⟩;subst hwr0;obtain⟨ga,gc,rfl⟩:=HF.out.gone.form;obtain⟨ea,ec,rfl⟩:=dw HF.out.eds;by_cases hlt:i<rules.length
   ·have hx:=List.getElem?_eq_getElem hlt;generalize hgx:rules[i]=r at hx;clear hgx;obtain⟨b,hb⟩:∃b,st[i]?=some b:=⟨_,List.getElem?_eq_getElem (by rw[RN];exact hlt)⟩;have IX:=hid (Ai hx hb);have hgl:(dQ (rules.take i) (st.take i)).length≤60:=by
     have:=(qL (rs:=rules.take i) (bs:=st.take i)).2;simp at this;omega
    obtain⟨rb,ro,u,rfl,hcs,PI⟩:=bH.at HR2.out hx;have HRU:=hid PI;obtain⟨sv,dv,rfl,hss,hds⟩:=PI;obtain⟨sa,sc,rfl,_,_⟩:=bH.form hss;obtain⟨da,dc,rfl,_,_⟩:=bC.form hds;obtain⟨_,hr0,hr1,hr2⟩:=EX.out.rule r (List.mem_of_getElem? hx);obtain⟨lo,hlo⟩:∃lo:Nat,r.lo=lo:=⟨r.lo.toNat,by omega⟩;obtain⟨hi',hhi⟩:∃hi:Nat,r.hi=hi:=⟨r.hi.toNat,by omega⟩;have ajj:Hid (∀wx,Kept (λ_=>False) w2 wx→wx.cell? ⟨rb,ro+i*5,none⟩=some (.string (str r.ay))∧wx.cell? ⟨rb,ro+i*5+1,none⟩=some (.slice sa r.aZ.length sc)∧wx.cell? ⟨rb,ro+i*5+2,none⟩=some (.slice da r.decls.length dc)∧wx.cell? ⟨rb,ro+i*5+3,none⟩=some (.int .i64 (lo:Int))∧wx.cell? ⟨rb,ro+i*5+4,none⟩=some (.int .i64 (hi':Int))):=hid (λwx hk=>
     ⟨hk.cell id (hcs 0 _ rfl),hk.cell id (hcs 1 _ rfl),hk.cell id (hcs 2 _ rfl),by have:=hk.cell id (hcs 3 _ rfl);rwa [hlo]at this,by have:=hk.cell id (hcs 4 _ rfl);rwa [hhi]at this⟩)
    have sb:bU.cell? ⟨bs,i,none⟩=some (.bool b):=HF.out.kept.cell id (ah yD.out i (by simp[hb]));have HED:Hid (dI r=⟨lo,hi',[32]⟩):=hid (by unfold dI;rw[hlo,hhi];rfl);have HRC:Hid (bI r (.tuple #[.slice sa r.aZ.length sc,.slice da r.decls.length dc])=[.string (str r.ay),.slice sa r.aZ.length sc,.slice da r.decls.length dc,.int .i64 (lo:Int),.int .i64 (hi':Int)]):=hid (by unfold bI;rw[hlo,hhi];rfl);generalize dQ (rules.take i) (st.take i)=qs at *;have hql:(qs.map dI).length=qs.length:=by simp
    rw[hql];clear hcs hss hds hx hb hr0 hr1 hr2 hlo hhi;cases b with
    | true=>
     have HN:Hid (dQ (rules.take (i+1)) (st.take (i+1))=qs):=hid (by rw[IX.out];simp);go_wp2_with fail
     go_roundw
     case measure=>simp[intOf];omega
     case rel=>exact⟨i+1,by omega,by go_num,hid (by have h:=HF.out;rw[hql]at h;rw[HN.out];exact h)⟩
    | false=>
     have HN:Hid (dQ (rules.take (i+1)) (st.take (i+1))=qs++[r]):=hid (by rw[IX.out];simp);obtain⟨c0,c1,c2,c3,c4⟩:=ajj.out bU HF.out.kept;obtain⟨a',c',w',hr',hf'⟩:=HF.out.ahI r _ HRU.out (by omega);rw[HRC.out]at hr';have HR':=hid hr';have HF':=hid hf';obtain⟨d0,d1,d2,d3,d4⟩:=ajj.out w' hf'.kept;obtain⟨a2,c2',w3,hr3,hf3⟩:=hf'.WM ⟨lo,hi',[32]⟩ (by simp;omega);have hst:str [32]=⟨#[32]⟩:=rfl;rw[hql]at hr3 hf3;simp only[hst]at hr3;have HR3:=hid hr3;have HF3:=hid hf3;have Jo:Hid ((dQ (rules.take (i+1)) (st.take (i+1))).map dI=qs.map dI++[⟨lo,hi',[32]⟩]):=hid (by rw[HN.out,List.map_append,List.map_cons,HED.out];rfl);clear hr' hf' hr3 hf3;go_upto_region 11 with(at_builtin;refine gK (by rfl) _ _ _ rfl _ _ _ rfl rfl _ HR'.out ?_)
     go_wp2_with (at_builtin;refine gK (by rfl) _ _ _ rfl _ _ _ rfl rfl _ HR3.out ?_)
     go_roundw
     case measure=>simp[intOf];omega
     case rel=>exact⟨i+1,by omega,by go_num,hid (by rw[Jo.out,HN.out];exact HF3.out)⟩
   obtain rfl:i=rules.length:=by omega
   obtain⟨gone,HG⟩:∃x,Hid (dQ rules st=x):=⟨_,rfl⟩;have hF:mW w2 bU (.slice ga (dQ (rules.take rules.length) (st.take rules.length)).length gc) (.slice ea ((dQ (rules.take rules.length) (st.take rules.length)).map dI).length ec) (dQ (rules.take rules.length) (st.take rules.length)) ((dQ (rules.take rules.length) (st.take rules.length)).map dI):=HF.out;have htk:dQ (rules.take rules.length) (st.take rules.length)=gone:=by rw[List.take_length,List.take_of_length_le (by omega),HG.out]
   rw[htk]at hF ⊢;have BU:=qL (rs:=rules) (bs:=st);rw[HG.out]at BU;have hgl:gone.length≤60:=by have:=BU.2;omega
   have Wj:=hid BU;obtain⟨R,HR⟩:∃x,Hid (RF s l rules st=x):=⟨_,rfl⟩;have DL:Hid (∀w',Kept (λ_=>False) w w'→uS w s (.returned (IU R)) w'):=hid (λw' hk=>by
    refine⟨hk,?_⟩;rw[HP.out];exact⟨st,HST.out,by rw[HR.out]⟩)
   have HE0:Hid (((fE l gone 0 (l.drop 0)).then λes=>tH s (gone.map dI++es))=R):=hid (by
    rw[←HR.out,RP,HG.out];rfl)
   have HFF:=hid hF;have hml:(gone.map dI).length=gone.length:=by simp
   rw[hml]at HFF ⊢;have HW2:=hid (uq.out.trans iO.out);clear hF htk BU HF;have OM:Hid (∃es0,gone.map dI=gone.map dI++es0∧∀es',fE l gone 0 (l.drop 0)=.ok es'→fE l gone 0 l=.ok (es0++es')):=hid ⟨[],by simp,λes' h=>h⟩;have amu:Hid (∀e∈gone.map dI,e.text.length≤2000):=hid (by
    intro e he;obtain⟨r,_,rfl⟩:=List.mem_map.1 he;simp[dI])
   go_wp2_with fail
   go_loopw [8,62] (λu c wr=>∃(k:Nat) (E:List bT),k≤l.length∧c=.int .i64 (k:Int)∧E.length≤60+k∧Hid (∀e∈E,e.text.length≤2000)∧Hid (mW w2 wr (.slice ga gone.length gc) u gone E) ∧
    Hid (((fE l gone k (l.drop k)).then λes=>tH s (E++es))=R)∧Hid (∃es0,E=gone.map dI++es0∧∀es',fE l gone k (l.drop k)=.ok es'→fE l gone 0 l=.ok (es0++es'))) (λ_ c _=>l.length-(intOf c).toNat)
   case atStart=>exact⟨0,gone.map dI,by omega,rfl,by simp;omega,amu,by rw[←hml];rw[←hml]at HFF;exact HFF,HE0,OM⟩
   case round=>
    obtain⟨k,E,hk,rfl,hE,VI,HF,HE,HE2⟩:=hrel;obtain⟨jk,nD⟩:∃x,x=wr:=⟨_,rfl⟩;subst nD;obtain⟨ea',ec',rfl⟩:=dw HF.out.eds;by_cases hlt:k<l.length
    ·have hx:=List.getElem?_eq_getElem hlt;have hdr:=List.drop_eq_getElem_cons hlt;generalize hgx:l[k]=n at hx hdr;clear hgx;have he:=HE.out;rw[hdr,Zd]at he;have hes:=HE2.out;rw[hdr]at hes;have HES:=hid hes;obtain⟨look,ab8,hlk2,Ze,ab9,acd⟩:=RQ HT.out EX.out Wj.out.1 Wj.out.2 hx;have hlo:lookOf (dO l (k:Int) gone [])=look:=by rw[ab8];rfl
     have Tj:=hid (HW2.out.trans HF.out.kept);have aeh:=Zc l gone (EX.out.ca Wj.out.1 Wj.out.2) k (by omega) (by
      rw[hlo];exact⟨by omega,λd hd=>by have:=rQ (Ze d hd);omega⟩) m jk _ _ (aO.kept HL2.out HF.out.kept) (HF.out.gone.reads HF.out.kept) (Tj.out.cell id HM.out)
     have htl:(aQ l k gone).2=true→(aQ l k gone).1.length≤1900:=λh=>by
      rw[acd]at h;rw[ab9];have:=GZ Ze;simp at h;omega
     obtain⟨tx,htx⟩:∃x,(aQ l k gone).1=x:=⟨_,rfl⟩;obtain⟨ok,hok⟩:∃x,(aQ l k gone).2=x:=⟨_,rfl⟩;rw[htx,hok]at aeh htl he;have aeh:=hid aeh;have HTL:=hid htl;have HEE:=hid he;have HX:=hid hx;have HDR:=hid hdr;have ajk:=hid htx;have amv:=hid hok;clear he hes ab8 hlk2 Ze ab9 acd hlo htl htx hok hx hdr;go_wp2_with fail
     refine aeh.out.mono ?_;rintro e w5 ⟨rfl,hk5⟩;have HF5:=hid (HF.out.still hk5);clear hk5;obtain⟨nb,qY,av,rfl,g0,g1,g2,g3,g4,g5,hav⟩:=(aO.kept HL2.out HF5.out.kept).at HX.out;obtain⟨aa,mG,rfl,ML,wI⟩:=hav.form;unfold maxLen at wI;have hnl:=EX.out.node n (List.mem_of_getElem? HX.out);have Jq:=EX.out.attrs n (List.mem_of_getElem? HX.out);obtain⟨ne,hne⟩:∃x:Nat,n.bG=x:=⟨n.bG.toNat,by have:=hnl.bG.1;omega⟩;rw[hne]at g3;have PZ:=hid hne;have ZR:=hid hnl;obtain⟨⟨old,had⟩,HG⟩:∃G,Hid (gJ n.attrs aj=G):=⟨_,rfl⟩;have HCG:Hid (Calls Tryz.prog 46 #[.agg #[.string (str n.name),.int .i64 n.parent,.slice aa n.attrs.length mG,.int .i64 (ne:Int),.int .i64 n.qE,.int .i64 n.inT],.string (str aj)] w5 λe w'=>e=.returned (.tuple #[.string (str old),.bool had])∧Below w5.heap.size w5 w'):=hid (by
      have:=get_any w5 _ n aj hav;unfold MJ at this;rw[HG.out,hne]at this;exact this)
     have hb:=HEE.out;rw[HG.out,hne,Int.toNat_natCast]at hb;have HB:=hid hb;clear hav hnl hne hb;have hbad:(ok=false∨had=false∧n.attrs.length=8∧tx≠[])→R=.bad ⟨5,ne⟩:=λh=>by
      have:=HB.out;rw[if_pos h]at this;exact this.symm
     have HBAD:=hid hbad;clear hbad;cases ok with
     | false=>
      have hr:Hid (R=.bad ⟨5,ne⟩):=hid (HBAD.out (.inl rfl));go_wp2_with fail
      refine HCG.out.mono ?_;rintro e w6 ⟨rfl,hb6⟩;have hk6:Kept (λ_=>False) w5 w6:=Kept.of_below hb6;have x3:=hk6.cell id g3;obtain⟨d,h0,h1,f0,f1⟩:=zQ.out w6 (iO.out.trans (HF5.out.kept.trans hk6)) (.int .i64 5) (.int .i64 (ne:Int));have HD:=hid d;clear d hb6 hk6 g0 g1 g2 g3 g4 g5;go_wp2_with fail
      go_region
      go_wp2_with fail
      obtain⟨q0,q1,q2⟩:=HD.out
      revert q0 q1 q2
      generalize hwf:((w6.setCell ⟨w.heap.size,0,none⟩ (.int .i64 5)).setCell ⟨w.heap.size,1,none⟩ (.int .i64 (ne:Int)))=wf;intro q0 q1 q2;have p0:wf.drew.cell? ⟨w.heap.size,0,none⟩=some (.int .i64 5):=q0;have p1:wf.drew.cell? ⟨w.heap.size,1,none⟩=some (.int .i64 (ne:Int)):=q1;refine bodyPost_ret (v:=.tuple #[.string ⟨#[]⟩,.agg #[.int .i64 5,.int .i64 (ne:Int)]]) (by simp[results,Tryz.results19,go_sem,p0,p1]) rfl ?_;have hfin:=DL.out _ q2.drew;rw[hr.out,Ah]at hfin;exact hfin
     | true=>
      by_cases hq:had=false∧n.attrs.length=8∧tx≠[]
      ·have hr:Hid (R=.bad ⟨5,ne⟩):=hid (HBAD.out (.inr hq));obtain⟨rfl,h8,hte⟩:=hq;have h8I:((n.attrs.length:Int)==8)=true:=by simp;omega
       have htb:tx.isEmpty=false:=by cases tx with
        | nil=>exact absurd rfl hte
        | cons c t=>rfl
       have aqR:(tx==[])=false:=by simpa using hte
       clear hte h8;go_wp2_with fail
       refine HCG.out.mono ?_;rintro e w6 ⟨rfl,hb6⟩;have hk6:Kept (λ_=>False) w5 w6:=Kept.of_below hb6;have x2:=hk6.cell id g2;have x3:=hk6.cell id g3;obtain⟨d,h0,h1,f0,f1⟩:=zQ.out w6 (iO.out.trans (HF5.out.kept.trans hk6)) (.int .i64 5) (.int .i64 (ne:Int));have HD:=hid d;clear d hb6 hk6 g0 g1 g2 g3 g4 g5;go_wp2_with fail
       go_region
       go_wp2_with fail
       obtain⟨q0,q1,q2⟩:=HD.out
       revert q0 q1 q2
       generalize hwf:((w6.setCell ⟨w.heap.size,0,none⟩ (.int .i64 5)).setCell ⟨w.heap.size,1,none⟩ (.int .i64 (ne:Int)))=wf;intro q0 q1 q2;have p0:wf.drew.cell? ⟨w.heap.size,0,none⟩=some (.int .i64 5):=q0;have p1:wf.drew.cell? ⟨w.heap.size,1,none⟩=some (.int .i64 (ne:Int)):=q1;refine bodyPost_ret (v:=.tuple #[.string ⟨#[]⟩,.agg #[.int .i64 5,.int .i64 (ne:Int)]]) (by simp[results,Tryz.results19,go_sem,p0,p1]) rfl ?_;have hfin:=DL.out _ q2.drew;rw[hr.out,Ah]at hfin;exact hfin
      have htl:=HTL.out rfl;have hnb:¬(true=false∨had=false∧n.attrs.length=8∧tx≠[]):=by
       rintro(h | h)
       ·cases h
       exact hq h
      obtain⟨O,HO⟩:∃O,Hid (wO n tx=O):=⟨_,rfl⟩;have HB2:Hid (((fE l gone (k+1) (l.drop (k+1))).then λes=>tH s ((E++O.toList)++es))=R):=hid (by
       have:=HB.out;rw[if_neg hnb,HO.out]at this;exact this)
      have Cm:Hid (∃es0,E++O.toList=gone.map dI++es0∧∀es',fE l gone (k+1) (l.drop (k+1))=.ok es'→fE l gone 0 l=.ok (es0++es')):=hid (by
       obtain⟨es0,h1,h2⟩:=HES.out;refine⟨es0++O.toList,by rw[h1,List.append_assoc],λes' he=>?_⟩;have:=Zf (n:=n) (by rw[amv.out,ajk.out,HG.out];exact hnb) he;rw[ajk.out,HO.out]at this;rw[List.append_assoc];exact h2 _ this)
      have HQ:=hid hq;clear hnb hq;cases had with
      | true=>
       go_wp2_with fail
       refine HCG.out.mono ?_;rintro e w6 ⟨rfl,hb6⟩;have hk6:Kept (λ_=>False) w5 w6:=Kept.of_below hb6;have HF6:=hid (HF5.out.still hk6);have Lu:=Nr l k n tx HX.out (by omega) (by omega) (by rw[PZ.out];omega) (λa ha=>by have:=ZR.out.attrs a ha;omega) w6 _ (aO.kept HL2.out HF6.out.kept);rw[HO.out]at Lu;replace Lu:=hid Lu;clear hb6 hk6 g0 g1 g2 g3 g4 g5;cases O with
       | none=>
        go_wp2_with fail
        refine Lu.out.mono ?_;rintro e w7 ⟨rfl,jD⟩;have HF7:Hid (mW w2 (w7.alloc (.cells #[.int .i64 0,.int .i64 0,.string ⟨#[]⟩] 94 (0,0))) (.slice ga gone.length gc) (.slice ea' E.length ec') gone E):=hid (HF6.out.still (jD.alloc _));clear jD;go_wp2_with fail
        go_roundw
        case measure=>simp[intOf];omega
        case rel=>exact⟨k+1,E,by omega,by go_num,by omega,VI,HF7,hid (by have:=HB2.out;simpa using this),hid (by have:=Cm.out;simpa using this)⟩
       | some x=>
        have hxl:=BX HO.out;go_wp2_with fail
        refine Lu.out.mono ?_;rintro e w7 ⟨rfl,jD⟩;unfold WL;obtain⟨wq,DF⟩:∃y,Hid (w7.alloc (.cells #[.int .i64 (x.lo:Int),.int .i64 (x.hi:Int),.string (str x.text)] 94 (0,0))=y):=⟨_,rfl⟩;have k0:wq.cell? ⟨w7.heap.size,0,none⟩=some (.int .i64 (x.lo:Int)):=by rw[←DF.out];exact ah (aI w7 _) 0 rfl
        have k1:wq.cell? ⟨w7.heap.size,1,none⟩=some (.int .i64 (x.hi:Int)):=by rw[←DF.out];exact ah (aI w7 _) 1 rfl
        have k2:wq.cell? ⟨w7.heap.size,2,none⟩=some (.string (str x.text)):=by rw[←DF.out];exact ah (aI w7 _) 2 rfl
        have HF7:Hid (mW w2 wq (.slice ga gone.length gc) (.slice ea' E.length ec') gone E):=hid (HF6.out.still (by rw[←DF.out];exact jD.alloc _));obtain⟨a',c',w8,YO,hf8⟩:=HF7.out.WM x (by omega);have HR8:=hid YO;have HF8:Hid (mW w2 w8 (.slice ga gone.length gc) (.slice a' (E.length+1) c') gone (E++[x])):=hid hf8;clear jD YO hf8;go_upto_region 21 with fail
        rw[DF.out];go_wp2_with (at_builtin;refine gK (by rfl) _ _ _ rfl _ _ _ rfl rfl _ HR8.out ?_)
        go_roundw
        case measure=>simp[intOf];omega
        case rel=>exact⟨k+1,E++[x],by omega,by go_num,by simp;omega,hid (by
          intro e he;rcases List.mem_append.1 he with he | he
          ·exact VI.out e he
          simp at he;subst he;omega),HF8,HB2,Cm⟩
      | false=>
       by_cases h8:n.attrs.length=8
       ·obtain rfl:tx=[]:=Classical.byContradiction λhte=>HQ.out ⟨rfl,h8,hte⟩
        have h8I:((n.attrs.length:Int)==8)=true:=by simp;omega
        clear h8;go_wp2_with fail
        refine HCG.out.mono ?_;rintro e w6 ⟨rfl,hb6⟩;have hk6:Kept (λ_=>False) w5 w6:=Kept.of_below hb6;have x2:=hk6.cell id g2;have HF6:=hid (HF5.out.still hk6);have Lu:=Nr l k n [] HX.out (by omega) (by simp) (by rw[PZ.out];omega) (λa ha=>by have:=ZR.out.attrs a ha;omega) w6 _ (aO.kept HL2.out HF6.out.kept);rw[HO.out]at Lu;replace Lu:=hid Lu;clear hb6 hk6 g0 g1 g2 g3 g4 g5;cases O with
        | none=>
         go_wp2_with fail
         refine Lu.out.mono ?_;rintro e w7 ⟨rfl,jD⟩;have HF7:Hid (mW w2 (w7.alloc (.cells #[.int .i64 0,.int .i64 0,.string ⟨#[]⟩] 94 (0,0))) (.slice ga gone.length gc) (.slice ea' E.length ec') gone E):=hid (HF6.out.still (jD.alloc _));clear jD;go_wp2_with fail
         go_roundw
         case measure=>simp[intOf];omega
         case rel=>exact⟨k+1,E,by omega,by go_num,by omega,VI,HF7,hid (by have:=HB2.out;simpa using this),hid (by have:=Cm.out;simpa using this)⟩
        | some x=>
         have hxl:=BX HO.out;go_wp2_with fail
         refine Lu.out.mono ?_;rintro e w7 ⟨rfl,jD⟩;unfold WL;obtain⟨wq,DF⟩:∃y,Hid (w7.alloc (.cells #[.int .i64 (x.lo:Int),.int .i64 (x.hi:Int),.string (str x.text)] 94 (0,0))=y):=⟨_,rfl⟩;have k0:wq.cell? ⟨w7.heap.size,0,none⟩=some (.int .i64 (x.lo:Int)):=by rw[←DF.out];exact ah (aI w7 _) 0 rfl
         have k1:wq.cell? ⟨w7.heap.size,1,none⟩=some (.int .i64 (x.hi:Int)):=by rw[←DF.out];exact ah (aI w7 _) 1 rfl
         have k2:wq.cell? ⟨w7.heap.size,2,none⟩=some (.string (str x.text)):=by rw[←DF.out];exact ah (aI w7 _) 2 rfl
         have HF7:Hid (mW w2 wq (.slice ga gone.length gc) (.slice ea' E.length ec') gone E):=hid (HF6.out.still (by rw[←DF.out];exact jD.alloc _));obtain⟨a',c',w8,YO,hf8⟩:=HF7.out.WM x (by omega);have HR8:=hid YO;have HF8:Hid (mW w2 w8 (.slice ga gone.length gc) (.slice a' (E.length+1) c') gone (E++[x])):=hid hf8;clear jD YO hf8;go_upto_region 21 with fail
         rw[DF.out];go_wp2_with (at_builtin;refine gK (by rfl) _ _ _ rfl _ _ _ rfl rfl _ HR8.out ?_)
         go_roundw
         case measure=>simp[intOf];omega
         case rel=>exact⟨k+1,E++[x],by omega,by go_num,by simp;omega,hid (by
           intro e he;rcases List.mem_append.1 he with he | he
           ·exact VI.out e he
           simp at he;subst he;omega),HF8,HB2,Cm⟩
       have h8I:((n.attrs.length:Int)==8)=false:=by simp;omega
       clear h8;go_wp2_with fail
       refine HCG.out.mono ?_;rintro e w6 ⟨rfl,hb6⟩;have hk6:Kept (λ_=>False) w5 w6:=Kept.of_below hb6;have x2:=hk6.cell id g2;have HF6:=hid (HF5.out.still hk6);have Lu:=Nr l k n tx HX.out (by omega) (by omega) (by rw[PZ.out];omega) (λa ha=>by have:=ZR.out.attrs a ha;omega) w6 _ (aO.kept HL2.out HF6.out.kept);rw[HO.out]at Lu;replace Lu:=hid Lu;clear hb6 hk6 g0 g1 g2 g3 g4 g5;cases O with
       | none=>
        go_wp2_with fail
        refine Lu.out.mono ?_;rintro e w7 ⟨rfl,jD⟩;have HF7:Hid (mW w2 (w7.alloc (.cells #[.int .i64 0,.int .i64 0,.string ⟨#[]⟩] 94 (0,0))) (.slice ga gone.length gc) (.slice ea' E.length ec') gone E):=hid (HF6.out.still (jD.alloc _));clear jD;go_wp2_with fail
        go_roundw
        case measure=>simp[intOf];omega
        case rel=>exact⟨k+1,E,by omega,by go_num,by omega,VI,HF7,hid (by have:=HB2.out;simpa using this),hid (by have:=Cm.out;simpa using this)⟩
       | some x=>
        have hxl:=BX HO.out;go_wp2_with fail
        refine Lu.out.mono ?_;rintro e w7 ⟨rfl,jD⟩;unfold WL;obtain⟨wq,DF⟩:∃y,Hid (w7.alloc (.cells #[.int .i64 (x.lo:Int),.int .i64 (x.hi:Int),.string (str x.text)] 94 (0,0))=y):=⟨_,rfl⟩;have k0:wq.cell? ⟨w7.heap.size,0,none⟩=some (.int .i64 (x.lo:Int)):=by rw[←DF.out];exact ah (aI w7 _) 0 rfl
        have k1:wq.cell? ⟨w7.heap.size,1,none⟩=some (.int .i64 (x.hi:Int)):=by rw[←DF.out];exact ah (aI w7 _) 1 rfl
        have k2:wq.cell? ⟨w7.heap.size,2,none⟩=some (.string (str x.text)):=by rw[←DF.out];exact ah (aI w7 _) 2 rfl
        have HF7:Hid (mW w2 wq (.slice ga gone.length gc) (.slice ea' E.length ec') gone E):=hid (HF6.out.still (by rw[←DF.out];exact jD.alloc _));obtain⟨a',c',w8,YO,hf8⟩:=HF7.out.WM x (by omega);have HR8:=hid YO;have HF8:Hid (mW w2 w8 (.slice ga gone.length gc) (.slice a' (E.length+1) c') gone (E++[x])):=hid hf8;clear jD YO hf8;go_upto_region 21 with fail
        rw[DF.out];go_wp2_with (at_builtin;refine gK (by rfl) _ _ _ rfl _ _ _ rfl rfl _ HR8.out ?_)
        go_roundw
        case measure=>simp[intOf];omega
        case rel=>exact⟨k+1,E++[x],by omega,by go_num,by simp;omega,hid (by
          intro e he;rcases List.mem_append.1 he with he | he
          ·exact VI.out e he
          simp at he;subst he;omega),HF8,HB2,Cm⟩
    obtain rfl:k=l.length:=by omega
    obtain⟨es0,hE0,hE1⟩:=HE2.out;rw[List.drop_length]at hE1;have hown:fE l (dQ rules st) 0 l=.ok es0:=by
     have:=hE1 [] rfl;rw[HG.out];simpa using this
    have hall:xJ rules st es0=E:=by unfold xJ;rw[HG.out,hE0]
    obtain⟨hrise,LP⟩:=RV HT.out RN hown;rw[hall]at hrise LP;have hfin:tH s E=R:=by
     have:=HE.out;rw[List.drop_length]at this;simpa [fE] using this
    obtain⟨zs,HZ⟩:∃zs,Hid (iP E=zs):=⟨_,rfl⟩;have hperm:=kF E;rw[HZ.out]at LP hperm;have hlow:∀e∈E,e.lo≤1048576:=λe he=>by
     have:=(Xm LP e (hperm.mem_iff.2 he)).1;omega
    obtain⟨D,hD⟩:∃D:List Uj,D.map (·.e)=E:=by
     refine⟨E.pmap (λe h=>(⟨e,h⟩:Uj)) hlow,?_⟩;rw[List.map_pmap];simp
    have hDl:D.length=E.length:=by rw[←hD];simp
    have hDc:D.map iD=E.map qp:=by rw[←hD,List.map_map];rfl
    have hdown:jk.ownsRow w2.heap.size 94 3 (.slice ea' E.length ec') D.length (D.map iD).flatten:=by
     rw[hDl,hDc];exact HF.out.eds
    have agG:=hid (Qb rfl hdown (by omega));obtain⟨t,HTT⟩:∃t,Hid (eY s 0 zs=t):=⟨_,rfl⟩;have htl:t.length≤1000000:=by
     rw[←HTT.out];have h1:=IY LP (M:=2000) (λe he=>VI.out e (hperm.mem_iff.1 he));have h2:=hperm.length_eq;omega
    have HED:=hid LP;have ajn:=hid hrise;have HDD:=hid hD;have HR5:Hid ((if 6000<t.length then .bad ⟨4,0⟩ else .ok t)=R):=hid (by
     rw[←hfin];unfold tH;rw[HZ.out,HTT.out])
    have HWR:=hid HF.out.kept;have HEB:Hid (∀b,(Value.slice ea' E.length ec').ownBlock=some b→w2.heap.size≤b):=hid (λb hb=>(World.ownsRow.lt HF.out.eds b hb).1);have hzl:zs.length=E.length:=hperm.length_eq;have amw:Hid (∀e∈zs,e.text.length≤2000):=hid (λe he=>VI.out e (hperm.mem_iff.1 he));clear hE0 hE1 hown hall hrise LP hfin hperm hlow hD hDc hdown;go_wp2_with fail
    refine agG.out.mono ?_;rintro e w3 ⟨rfl,D',hp',hs',hrows,hk3⟩;have hz:D'.map (·.e)=zs:=by
     rw[←HZ.out];refine Zg ajn.out ?_ ?_
     ·rw[←HDD.out];exact hp'.map _
     rw[List.pairwise_map];exact hs'
    have hrz:D'.map iD=zs.map qp:=by rw[←hz,List.map_map];rfl
    rw[hrz]at hrows;have ajo:Kept (λ_=>False) w2 w3:=HWR.out.trans' hk3 (λb hb hS=>by have:=HEB.out b hS;omega);have oJ:=hid ajo;obtain⟨w4,Dn⟩:∃x,Hid (w3.alloc (.cells #[.pointer none,.slice none 0 0] 104 (0,0))=x):=⟨_,rfl⟩;have hB0:Lib.IsBuilderF 104 5 w3.heap.size w3.heap.size (Lib.byteCells []) w4:=by
     rw[←Dn.out];exact Lib.IsBuilderF.of (Lib.fresh_isBuilder _ _ w3)
    have ajp:Kept (λ_=>False) w3 w4:=by rw[←Dn.out];exact(Kept.refl _ w3).alloc _
    have h4s:w4.heap.size=w3.heap.size+1:=by rw[←Dn.out];simp
    have HZR:Hid (aH w3 3 (.slice ea' E.length ec') (zs.map qp)):=hid hrows;obtain⟨bb,HBB⟩:∃b,Hid (w3.heap.size=b):=⟨_,rfl⟩;have HB0:=hid hB0;have amx:Hid (Below w3.heap.size w3 w4):=hid ajp.below;have ajq:Hid ([]++eY s 0 (zs.drop 0)=t∧oD s 0 (zs.drop 0)):=hid ⟨by simpa using HTT.out,by simpa using HED.out⟩;have h8I:((s.length:Nat):Int)≤6000:=by omega
    clear hp' hs' hk3 hz hrz hrows ajo hB0 ajp;go_upto_region 26 with fail
    rw[Dn.out];go_wp2_with fail
    go_loopw [19,122] (λa c wr=>∃(i at':Nat) (out:B),a=.int .i64 (at':Int)∧c=.int .i64 (i:Int)∧i≤zs.length∧Hid (Lib.IsBuilderF 104 5 w3.heap.size w3.heap.size (Lib.byteCells out) wr)∧Hid (Below w3.heap.size w3 wr)∧w3.heap.size<wr.heap.size∧Hid (out++eY s at' (zs.drop i)=t∧oD s at' (zs.drop i))) (λ_ c _=>zs.length-(intOf c).toNat)
    case atStart=>exact⟨0,0,[],rfl,rfl,by omega,HB0,amx,by omega,ajq⟩
    case round=>
     obtain⟨i,at',out,rfl,rfl,hi,HBI,HBE,ad6,HO⟩:=hrel;obtain⟨wr2,hwr2⟩:∃x,x=wr:=⟨_,rfl⟩;subst hwr2;by_cases hltz:i<zs.length
     ·have hx:=List.getElem?_eq_getElem hltz;have hdr:=List.drop_eq_getElem_cons hltz;generalize hgx:zs[i]=x at hx hdr;clear hgx;obtain⟨ho1,ho2⟩:=HO.out;rw[hdr]at ho1 ho2;simp only[eY]at ho1;obtain⟨e1,e2,e3,e4⟩:=ho2;obtain⟨eb,eo,rfl,hcs⟩:=aH.at (HZR.out.below HBE.out) (k:=i) (r:=qp x) (by simp[hx]);have c0:wr2.cell? ⟨eb,eo+i*3,none⟩=some (.int .i64 (x.lo:Int)):=hcs 0 _ rfl;have c1:wr2.cell? ⟨eb,eo+i*3+1,none⟩=some (.int .i64 (x.hi:Int)):=hcs 1 _ rfl;have c2:wr2.cell? ⟨eb,eo+i*3+2,none⟩=some (.string (str x.text)):=hcs 2 _ rfl;obtain⟨wq,DF⟩:∃y,Hid (wr2.alloc (.cells #[.int .i64 (x.lo:Int),.int .i64 (x.hi:Int),.string (str x.text)] 94 (0,0))=y):=⟨_,rfl⟩;have hq0:wq.heap[wr2.heap.size]?=some (.cells #[.int .i64 (x.lo:Int),.int .i64 (x.hi:Int),.string (str x.text)] 94 (0,0)):=by rw[←DF.out];exact aI wr2 _
      have k0:wq.cell? ⟨wr2.heap.size,0,none⟩=some (.int .i64 (x.lo:Int)):=ah hq0 0 rfl;have k1:wq.cell? ⟨wr2.heap.size,1,none⟩=some (.int .i64 (x.hi:Int)):=ah hq0 1 rfl;have k2:wq.cell? ⟨wr2.heap.size,2,none⟩=some (.string (str x.text)):=ah hq0 2 rfl;have HQ0:=hid hq0;have hbq:Lib.IsBuilderF 104 5 w3.heap.size w3.heap.size (Lib.byteCells out) wq:=by rw[←DF.out];exact Lib.IsBuilderF.alloc HBI.out _
      have hbeq:Below w3.heap.size w3 wq:=by rw[←DF.out];exact HBE.out.alloc HBE.out.size _
      have hzq:wq.heap.size=wr2.heap.size+1:=by rw[←DF.out];simp
      have aqU:=amw.out x (List.mem_of_getElem? hx);have hout:out.length≤1000000:=by
       have:=congrArg List.length ho1;simp at this;omega
      have ajr:=yt s e1 (show x.lo≤s.length by omega);have Eo:Hid ((out++(sub s at' x.lo++x.text))++eY s x.hi (zs.drop (i+1))=t∧oD s x.hi (zs.drop (i+1))):=hid ⟨by rw[←ho1];simp,e4⟩;have HBQ:=hid hbq;have amy:=hid hbeq;have HCW:=hid (write_any w3.heap.size w3.heap.size (Lib.byteCells out) (str (sub s at' x.lo++x.text)) wq.drew hbq (by rw[Lib.byteCells_length,lG,List.length_append,ajr];omega) (by have:=hbeq.size;exact this));have hlen1:(at':Int)≤x.lo:=by omega
      have hlen2:(x.lo:Int)≤s.length:=by omega
      have ak0:(9223372036854775807<min (x.lo-at') (s.length-at')+x.text.length)=False:=by simp;omega
      unfold sub at HCW;go_upto_region 30 with fail
      rw[DF.out];clear c0 c1 c2 hcs hq0 hbq hbeq hx hdr ho1 e4;have agH:Hid (∀wx,Lib.OthersKept 5 (some w3.heap.size) wq.drew wx→wx.heap[wr2.heap.size]?=some (.cells #[.int .i64 (x.lo:Int),.int .i64 (x.hi:Int),.string (str x.text)] 94 (0,0))):=hid (λwx h=>
       h wr2.heap.size _ HQ0.out (by simp;omega) (λc fz e=>by cases e))
      go_region_held3 (λw'=>w'.cell? ⟨wr2.heap.size,0,none⟩=some (.int .i64 (x.lo:Int))∧w'.cell? ⟨wr2.heap.size,2,none⟩=some (.string (str x.text))) (first | go_keep | exact⟨ah (agH.out _ Zh) 0 rfl,ah (agH.out _ Zh) 2 rfl⟩)
       ((go_at_call 50;refine HCW.out.mono ?_;rintro e w6 ⟨rfl,hb6,Qr,Zh⟩))
      have hx6:=agH.out w6 Zh;have z1:w6.cell? ⟨wr2.heap.size,1,none⟩=some (.int .i64 (x.hi:Int)):=ah hx6 1 rfl;have amA:Hid (Lib.IsBuilderF 104 5 w3.heap.size w3.heap.size (Lib.byteCells (out++(sub s at' x.lo++x.text))) w6):=hid (by
       rw[Lib.byteCells_append];exact .inr hb6)
      have agI:Hid (Below w3.heap.size w3 w6):=hid ((amy.out.drew).trans Qr);have amB:w3.heap.size<w6.heap.size:=by
       have h1:=Qr.size;have h2:wq.drew.heap.size=wq.heap.size:=rfl;omega
      clear hb6 Qr Zh hx6 k0 k1 k2;go_wp2_with fail
      go_roundw
      case measure=>simp[intOf];omega
      case rel=>exact⟨i+1,x.hi,_,rfl,by go_num,by omega,amA,agI,amB,Eo⟩
     obtain rfl:i=zs.length:=by omega
     obtain⟨ho1,ho2⟩:=HO.out;rw[List.drop_length]at ho1 ho2;have ho1:out++s.drop at'=t:=ho1;have ho2:at'≤s.length:=ho2;have hout:out.length≤1000000:=by
      have:=congrArg List.length ho1;simp at this;omega
     have HOT:=hid ho1;have HCW:=hid (write_any w3.heap.size w3.heap.size (Lib.byteCells out) (str (s.drop at')) wr2 HBI.out (by rw[Lib.byteCells_length,lG,List.length_drop];omega) (by omega));have ha1:(at':Int)≤s.length:=by omega
     clear ho1;go_wp2_with fail
     refine HCW.out.mono ?_;rintro e w6 ⟨rfl,hb6,Qr,Zh⟩;have hbt:Lib.IsBuilderF 104 5 w3.heap.size w3.heap.size (Lib.byteCells t) w6:=by
      rw[←HOT.out,Lib.byteCells_append];exact .inr hb6
     have aei:Below w3.heap.size w3 w6:=HBE.out.trans Qr;have agI:=hid aei;have HBT:=hid hbt;have HLEN:Hid (Calls Tryz.prog 51 #[.pointer (some ⟨w3.heap.size,0,none⟩)] w6 λe w'=>e=.returned (.int .i64 (t.length:Int))∧w'=w6):=hid (by
      have:=Tryz.Builder_Len_f w3.heap.size w3.heap.size (Lib.byteCells t) w6 hbt;rw[Lib.byteCells_length]at this;exact this)
     have amC:Hid (Calls Tryz.prog 52 #[.pointer (some ⟨w3.heap.size,0,none⟩)] w6 λe w'=>e=.returned (.string (str t))∧Below w3.heap.size w6 w'):=hid ((Tryz.Builder_String_any_f w3.heap.size w3.heap.size t w6 hbt aei.size).mono λe w' h=>⟨h.1,h.2.2⟩);have amD:=hid (iO.out.trans (oJ.out.trans (Kept.of_below (S:=λ_=>False) aei)));clear hb6 Qr Zh hbt aei;by_cases h60:6000<t.length
     ·have hr:Hid (R=.bad ⟨4,0⟩):=hid (by rw[←HR5.out,if_pos h60]);have h6I:(6000:Int)<t.length:=by omega
      obtain⟨d,h0,h1,f0,f1⟩:=zQ.out w6 amD.out (.int .i64 4) (.int .i64 0);have HD:=hid d;clear d;go_wp2_with (go_at_call 51;refine HLEN.out.mono ?_;rintro e w9 ⟨rfl,rfl⟩)
      obtain⟨q0,q1,q2⟩:=HD.out
      revert q0 q1 q2
      generalize hwf:((w9.setCell ⟨w.heap.size,0,none⟩ (.int .i64 4)).setCell ⟨w.heap.size,1,none⟩ (.int .i64 0))=wf;intro q0 q1 q2;refine bodyPost_ret (v:=.tuple #[.string ⟨#[]⟩,.agg #[.int .i64 4,.int .i64 0]]) (by simp[results,Tryz.results19,go_sem,q0,q1]) rfl ?_;have hfin:=DL.out _ q2;rw[hr.out,IV]at hfin;exact hfin
     have hr:Hid (R=.ok t):=hid (by rw[←HR5.out,if_neg h60]);have h6I:(t.length:Int)≤6000:=by omega
     go_wp2_with (go_at_call 51;refine HLEN.out.mono ?_;rintro e w9 ⟨rfl,rfl⟩)
     refine amC.out.mono ?_;rintro e w7 ⟨rfl,hb7⟩;have ajs:Kept (λ_=>False) w2 w7:=oJ.out.trans (Kept.of_below (agI.out.trans hb7));obtain⟨d,h0,h1,f0,f1⟩:=zQ.out w7 (iO.out.trans ajs) (.int .i64 0) (.int .i64 0);have HD:=hid d;clear d hb7 ajs;go_wp2_with fail
     obtain⟨q0,q1,q2⟩:=HD.out
     revert q0 q1 q2
     generalize hwf:((w7.setCell ⟨w.heap.size,0,none⟩ (.int .i64 0)).setCell ⟨w.heap.size,1,none⟩ (.int .i64 0))=wf;intro q0 q1 q2;refine bodyPost_ret (v:=.tuple #[.string (str t),.agg #[.int .i64 0,.int .i64 0]]) (by simp[results,Tryz.results19,go_sem,q0,q1]) rfl ?_;have hfin:=DL.out _ q2;rw[hr.out,RJ]at hfin;exact hfin
end Go.Proofs.YtplbdlgmjehckacGreatDoor

