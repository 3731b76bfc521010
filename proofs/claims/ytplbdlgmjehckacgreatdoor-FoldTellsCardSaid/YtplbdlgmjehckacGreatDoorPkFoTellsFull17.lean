/-
 Lemmas for the claims of this seat: the program's functions walked, and plain laws.
-/
import Derived.Test.YtplbdlgmjehckacGreatDoorPkFoTellsFull16
import Derived.Test.YtplbdlgmjehckacGreatDoorPkFoTellsFull5
set_option maxRecDepth 100000
set_option maxHeartbeats 6400000
namespace Go.Proofs.YtplbdlgmjehckacGreatDoor
open Go.Lib (hid)
open Go.RowKit
set_option linter.unusedVariables false
set_option linter.unusedSimpArgs false
def oK(p:Nat×B):Value:=.agg #[.int .i64 (p.1:Int),.string (str p.2)]
theorem WR(a b:B):((str a).toList==(str b).toList)=decide (a=b):=by
 rw[Bool.eq_iff_iff];simp only[beq_iff_eq,decide_eq_true_eq];constructor
 ·intro h;have e:∀x:B,(str x).toList=x:=λx=>by rw[ByteArray.toList_eq];rfl
  rw[e,e]at h;exact h
 rintro rfl;rfl
theorem aaR{fs:List Field}{x y:String×TypeId×Nat}(h:fs.map (λf=>(f.name,f.type,f.offset))=[x,y]):∃f0 f1,fs=[f0,f1]:=by
 cases fs with
 | nil=>cases h
 | cons a t=>
  cases t with
  | nil=>cases h
  | cons b u=>
   cases u with
   | nil=>exact⟨a,b,rfl⟩
   | cons c v=>cases h
theorem zH:Tryz.prog.plainKey 3=true:=by kernel_rfl
theorem ug:Tryz.prog.plainKey 9=true:=by kernel_rfl
theorem adu(p q:Nat×B)(w:World):(Op.equalIn 10000 86 (oK p) (oK q)).run Tryz.prog w=.ok (decide (p=q)) w:=by
 have hs:Tryz.prog.stoodInHeld 86=false:=by kernel_rfl
 have hf:(Tryz.prog.fieldsOf 86).toList.map (λf=>(f.name,f.type,f.offset))=[("node",3,0),("name",9,1)]:=by kernel_rfl
 have hu:Tryz.prog.underlying 86=some (.struct (Tryz.prog.fieldsOf 86)):=by kernel_rfl
 unfold oK;rw[run_equalIn_struct w 9999 _ _ _ hu hs]
 revert hf
 generalize (Tryz.prog.fieldsOf 86).toList=fs;intro hf;obtain⟨f0,f1,rfl⟩:=aaR hf;simp only[List.map_cons,List.map_nil,List.cons.injEq,Prod.mk.injEq,and_true]at hf;obtain⟨⟨n0,t0,o0⟩,n1,t1,o1⟩:=hf;have q1:∀a b:Int,(Op.equalIn 9999 3 (.int .i64 a) (.int .i64 b)).run Tryz.prog w=.ok (a==b) w:=λa b=>run_equalIn_int w 9998 3 .i64 .i64 a b Tryz.underlying3
 have q2:∀a b:ByteArray,(Op.equalIn 9999 9 (.string a) (.string b)).run Tryz.prog w=.ok (a.toList==b.toList) w:=λa b=>run_equalIn_string w 9998 9 a b Tryz.underlying9
 have x0:=run_part_plain w zH (xs:=#[.int .i64 (p.1:Int),.string (str p.2)]) (off:=0) (v:=.int .i64 (p.1:Int)) rfl;have x1:=run_part_plain w ug (xs:=#[.int .i64 (p.1:Int),.string (str p.2)]) (off:=1) (v:=.string (str p.2)) rfl;have y0:=run_part_plain w zH (xs:=#[.int .i64 (q.1:Int),.string (str q.2)]) (off:=0) (v:=.int .i64 (q.1:Int)) rfl;have y1:=run_part_plain w ug (xs:=#[.int .i64 (q.1:Int),.string (str q.2)]) (off:=1) (v:=.string (str q.2)) rfl;obtain⟨pa,pb⟩:=p;obtain⟨qa,qb⟩:=q;have e:∀a b:Nat,((a:Int)==(b:Int))=decide (a=b):=λa b=>by
  by_cases h:a=b
  ·simp[h]
  simp[h];omega
 have n0':f0.name ≠ "_" := by rw[n0];decide
 have n1':f1.name ≠ "_" := by rw[n1];decide
 simp only at x0 x1 y0 y1;simp only[Op.eqFields,Sem.run_bind,if_pos n0',if_pos n1',t0,o0,t1,o1,x0,y0,q1,q2,Result.andThen_ok,e,WR];by_cases h1:pa=qa
 ·subst h1;simp only[decide_true,Bool.not_true,Bool.false_eq_true,if_false,Sem.run_bind,Result.andThen_ok,x1,y1,q2,WR];by_cases h2:pb=qb<;>simp[h2]
 simp[h1]
theorem zI(p:Nat×B)(em:Bool)(w:World):(Instr.checkKey em 10000 86 (oK p)).run Tryz.prog w=.ok () w:=by
 have hf:(Tryz.prog.fieldsOf 86).toList.map (λf=>(f.name,f.type,f.offset))=[("node",3,0),("name",9,1)]:=by kernel_rfl
 have hu:Tryz.prog.underlying 86=some (.struct (Tryz.prog.fieldsOf 86)):=by kernel_rfl
 have x0:=run_part_plain w zH (xs:=#[.int .i64 (p.1:Int),.string (str p.2)]) (off:=0) (v:=.int .i64 (p.1:Int)) rfl;have x1:=run_part_plain w ug (xs:=#[.int .i64 (p.1:Int),.string (str p.2)]) (off:=1) (v:=.string (str p.2)) rfl;have k0:∀n,(Instr.checkKey em (n+1) 3 (.int .i64 (p.1:Int))).run Tryz.prog w=.ok () w:=λn=>by
  simp[Instr.checkKey,run_underlying Tryz.underlying3]
 have k1:∀n,(Instr.checkKey em (n+1) 9 (.string (str p.2))).run Tryz.prog w=.ok () w:=λn=>by
  simp[Instr.checkKey,run_underlying Tryz.underlying9]
 have main:∀n,(Instr.checkKey em (n+2) 86 (.agg #[.int .i64 (p.1:Int),.string (str p.2)])).run Tryz.prog w=.ok () w:=by
  intro n;rw[show n+2=(n+1)+1 from rfl,Instr.checkKey];simp only[Sem.run_bind,run_underlying hu,Result.andThen_ok];rw[←Array.forIn_toList]
  revert hf
  generalize (Tryz.prog.fieldsOf 86).toList=fs;intro hf;obtain⟨f0,f1,rfl⟩:=aaR hf;simp only[List.map_cons,List.map_nil,List.cons.injEq,Prod.mk.injEq,and_true]at hf;obtain⟨⟨n0,t0,o0⟩,n1,t1,o1⟩:=hf;have n0':f0.name ≠ "_" := by rw[n0];decide
  have n1':f1.name ≠ "_" := by rw[n1];decide
  simp only[List.forIn_cons,List.forIn_nil,Sem.run_bind,Sem.run_ite,if_pos n0',if_pos n1',t0,o0,t1,o1,x0,x1,k0,k1,Result.andThen_ok,Sem.run_pure]
 exact main 9998
def jw(w:World)(b:Nat)(ms:List (Nat×B)):Prop:=∃es c,w.heap[b]?=some (.map es c)∧es.toList.map (λx=>(x.key,x.val))=ms.map λp=>(oK p,.bool true)
theorem jw.made(w:World):jw (w.alloc (.map #[] 0)) w.heap.size []:=⟨#[],0,aI w _,rfl⟩
theorem jw.kept{S:Nat→Prop}{w w':World}{b:Nat}{ms:List (Nat×B)}(h:jw w b ms)(hk:Kept S w w')(hs:¬S b):jw w' b ms:=by
 obtain⟨es,c,h1,h2⟩:=h;exact⟨es,c,hk.heap hs h1,h2⟩
theorem jw.lt{w:World}{b:Nat}{ms:List (Nat×B)}(h:jw w b ms):b<w.heap.size:=by
 obtain⟨es,c,h1,_⟩:=h;exact gW h1
theorem wU(p:Nat×B)(w:World):∀(es:List MapEntry) (ms:List (Nat×B)) (i:Nat),es.map (λx=>(x.key,x.val))=ms.map (λp=>(oK p,.bool true)) →
  (p ∉ ms∧(Instr.findAsking 86 (oK p) es i).run Tryz.prog w=.ok none w)∨(p∈ms∧∃j,(Instr.findAsking 86 (oK p) es i).run Tryz.prog w=.ok (some (j,.bool true)) w)
 | [],[],i,_=>.inl ⟨by simp,by simp[Instr.findAsking]⟩
 | e::es,m::ms,i,h=>by
  simp only[List.map_cons,List.cons.injEq,Prod.mk.injEq]at h;obtain⟨⟨hk,hv⟩,ht⟩:=h;have he:(Op.equal 86 (oK p) e.key).run Tryz.prog w=.ok (decide (p=m)) w:=by rw[hk];exact adu p m w
  by_cases hp:p=m
  ·right;subst hp;refine⟨by simp,i,?_⟩;simp[Instr.findAsking,he,hv]
  rcases wU p w es ms (i+1) ht with⟨h1,h2⟩ | ⟨h1,j,h2⟩
  ·exact .inl ⟨by simp[hp,h1],by simp[Instr.findAsking,he,hp,h2]⟩
  exact .inr ⟨by simp[h1],j,by simp[Instr.findAsking,he,hp,h2]⟩
theorem Dp(p:Nat×B)(w:World)(es:List MapEntry):(Instr.findKey 86 (oK p) es).run Tryz.prog w=(Instr.findAsking 86 (oK p) es).run Tryz.prog w:=by
 refine run_findKey_eq w ?_ (oK p) es;rw[Tryz.underlying86]
theorem Yk(w:World):(zeroValue 4).run Tryz.prog w=.ok (.bool false) w:=by
 obtain⟨i0,hi0,hz0,hz1,hz2⟩:=info_parts (show(Tryz.prog.info? 4).map (λi=>(i.zero,i.size,i.bytes))=some (some (.bool false),1,1) by kernel_rfl);simp[zeroValue,run_typeInfo w hi0,hz0,Result.andThen]
theorem jw.look{w:World}{b:Nat}{ms:List (Nat×B)}(h:jw w b ms)(p:Nat×B):
  (Instr.lookup 79 (.map (some b)) (oK p) false).run Tryz.prog w=.ok (.bool (decide (p∈ms))) w:=by
 obtain⟨es,c,hb,he⟩:=h;rcases wU p w es.toList ms 0 he with⟨h1,h2⟩ | ⟨h1,j,h2⟩
 ·simp[Instr.lookup,run_underlying Tryz.underlying79,MapKept.run_getObj_map hb,zI,Dp,h2,Yk,h1,Result.andThen]
 simp[Instr.lookup,run_underlying Tryz.underlying79,MapKept.run_getObj_map hb,zI,Dp,h2,h1,Result.andThen]
theorem jw.add{w:World}{b:Nat}{ms:List (Nat×B)}(h:jw w b ms)(p:Nat×B)(hp:p ∉ ms):
  ∃w',(Instr.mapUpdate 79 (.map (some b)) (oK p) (.bool true)).run Tryz.prog w=.ok () w'∧jw w' b (ms++[p])∧Kept (· = b) w w'∧w'.heap.size=w.heap.size:=by
 obtain⟨es,c,hb,he⟩:=h;rcases wU p w es.toList ms 0 he with⟨h1,h2⟩ | ⟨h1,j,h2⟩
 ·refine⟨{ w with heap:=w.heap.setIfInBounds b (.map (es.push ⟨oK p,.bool true,c⟩) (c+1)) },?_,⟨_,_,(MapKept.heap_set hb).1,?_⟩,qh _,by simp⟩
  ·simp[Instr.mapUpdate,run_underlying Tryz.underlying79,MapKept.run_getObj_map hb,zI,Dp,h2,MapKept.run_setObj_map _ hb,Result.andThen]
  simp[he]
 exact absurd h1 hp
def qx(w:World)(v:Value)(ps:List (Nat×B)):Prop:=aH w 2 v (ps.map jM)
theorem yS{w:World}{base:Nat}{v:Value}{ps:List (Nat×B)}(h:w.ownsRow base 86 2 v ps.length (ps.map jM).flatten):qx w v ps:=
 aS (λr hr=>by obtain⟨a,_,rfl⟩:=List.mem_map.1 hr;rfl) (by simp) h
theorem qx.form{w:World}{v:Value}{ps:List (Nat×B)}(h:qx w v ps):∃a cap,v=.slice a ps.length cap∧ps.length≤cap∧cap≤maxLen:=by
 obtain⟨a,cap,e,h1,h2,_⟩:=h;exact⟨a,cap,by rw[e];simp,by simpa using h1,h2⟩
theorem qx.at{w:World}{a:Option Addr}{n cap:Nat}{ps:List (Nat×B)}(h:qx w (.slice a n cap) ps){k:Nat}{p:Nat×B}(hx:ps[k]?=some p):
  ∃b off,a=some ⟨b,off,none⟩∧w.cell? ⟨b,off+k*2,none⟩=some (.int .i64 (p.1:Int))∧w.cell? ⟨b,off+k*2+1,none⟩=some (.string (str p.2)):=by
 obtain⟨b,off,ha,h5⟩:=aH.at h (k:=k) (r:=jM p) (by simp[hx]);exact⟨b,off,ha,h5 0 _ rfl,h5 1 _ rfl⟩
theorem Qk(p:Nat×B)(w:World)(tb mb:Nat)(ms:List (Nat×B))(hc:w.cell? ⟨tb,0,none⟩=some (.map (some mb)))(hm:jw w mb ms):
  Calls Tryz.prog 42 #[.agg #[.int .i64 (p.1:Int),.string (str p.2)],.pointer (some ⟨tb,0,none⟩)] w λe w'=>e=.returned (.bool (decide (p∈ms)))∧Below w.heap.size w w':=by
 go_enter Tryz.func42,Tryz.ntmps42
 go_upto_region 1 with fail
 obtain⟨wa,gX⟩:∃x,Hid (w.alloc (.cells #[.int .i64 (p.1:Int),.string (str p.2)] 86 (0,0))=x):=⟨_,rfl⟩;have c0:wa.cell? ⟨w.heap.size,0,none⟩=some (.int .i64 (p.1:Int)):=by rw[←gX.out];exact ah (aI w _) 0 rfl
 have c1:wa.cell? ⟨w.heap.size,1,none⟩=some (.string (str p.2)):=by rw[←gX.out];exact ah (aI w _) 1 rfl
 have hk:Kept (λ_=>False) w wa:=by rw[←gX.out];exact(Kept.refl _ w).alloc _
 have d0:=hk.cell id hc;have hl:=(hm.kept hk id).look p;unfold oK at hl;have HK:=hid hk;rw[gX.out];clear hc hm hk;go_wp2
 go_ret
 exact⟨rfl,HK.out.below⟩
theorem Gt(v:Value)(ps:List (Nat×B))(w:World)(tb mb:Nat)(ms:List (Nat×B))(hv:qx w v ps)(hc:w.cell? ⟨tb,0,none⟩=some (.map (some mb)))(hm:jw w mb ms):
  Calls Tryz.prog 85 #[v,.func (.func 42) #[] #[.pointer (some ⟨tb,0,none⟩)]] w λe w'=>∃r:Int,e=.returned (.int .i64 r)∧decide (0≤r)=(ps.any λp=>decide (p∈ms))∧Below w.heap.size w w':=by
 have HV:=hid hv;have HC:=hid hc;have HM:=hid hm;obtain⟨a,cap,rfl,hle,hcap⟩:=hv.form;unfold maxLen at hcap;clear hv hc hm;go_enter Tryz.func85,Tryz.ntmps85
 go_wp2
 go_loopw [8] (λi wr=>∃k:Nat,k≤ps.length∧i=.int .i64 k∧Below w.heap.size w wr∧Hid (∀j y,j<k→ps[j]?=some y→y ∉ ms)) (λi _=>ps.length-(intOf i).toNat)
 case atStart=>exact⟨0,by omega,rfl,Below.refl _ _,λj y hj=>by omega⟩
 case round=>
  obtain⟨k,hk,rfl,hb,HH⟩:=hrel;by_cases hlt:k<ps.length
  ·have hx:=List.getElem?_eq_getElem hlt;generalize hgx:ps[k]=x at hx;clear hgx;obtain⟨b,off,rfl,g0,g1⟩:=qx.at (aH.below HV.out hb) hx;have HX:=hid hx;have HB:=hid hb;have XY:=hid (Qk x wr tb mb ms ((Kept.of_below (S:=λ_=>False) hb).cell id HC.out) (HM.out.kept (Kept.of_below (S:=λ_=>False) hb) id));clear hx hb;go_wp2_with (go_at_call 42;refine XY.out.mono ?_;rintro e w2 ⟨rfl,hb2⟩)
   ·have hc:decide (x∈ms)=true:=by first | assumption | exact decide_eq_true (by assumption)
    go_ret
    refine⟨_,rfl,?_,HB.out.trans (hb2.mono HB.out.size)⟩;have:(ps.any λp=>decide (p∈ms))=true:=List.any_eq_true.2 ⟨x,List.mem_of_getElem? HX.out,hc⟩;rw[this];simp
   have hc:decide (x∈ms)=false:=by first | assumption | exact decide_eq_false (by assumption)
   go_roundw
   case rel=>
    refine⟨k+1,by omega,by go_num,HB.out.trans (hb2.mono HB.out.size),λj y hj hy=>?_⟩;by_cases hjk:j=k
    ·subst hjk;rw[HX.out]at hy;cases hy;simpa using hc
    exact HH.out j y (by omega) hy
   case measure=>simp[intOf];omega
  go_wp2
  go_ret
  refine⟨_,rfl,?_,hb⟩;have:(ps.any λp=>decide (p∈ms))=false:=by
   rw[List.any_eq_false];intro y hy;obtain⟨j,hj⟩:=List.mem_iff_getElem?.1 hy;simpa using HH.out j y (by have:=(List.getElem?_eq_some_iff.1 hj).1;omega) hj
  rw[this];simp
theorem Gu(v:Value)(ps:List (Nat×B))(w:World)(tb mb:Nat)(ms:List (Nat×B))(hv:qx w v ps)(hc:w.cell? ⟨tb,0,none⟩=some (.map (some mb)))(hm:jw w mb ms):
  Calls Tryz.prog 41 #[v,.func (.func 42) #[] #[.pointer (some ⟨tb,0,none⟩)]] w λe w'=>e=.returned (.bool (ps.any λp=>decide (p∈ms)))∧Below w.heap.size w w':=by
 have HI:=hid (Gt v ps w tb mb ms hv hc hm);clear hv hc hm;go_enter Tryz.func41,Tryz.ntmps41
 go_wp2_with (go_at_call 85;refine HI.out.mono ?_;rintro e w2 ⟨r,rfl,hr,hb2⟩)
 go_ret
 first
  | exact⟨eu hr,hb2⟩
  | exact⟨rfl,hb2⟩
theorem Ut:(Tryz.prog.info? 81).map (λi=>(i.zero,i.size,i.bytes))=some (some (.slice none 0 0),1,24):=by kernel_rfl
structure kE(w wr:World)(ns:List ak)(rules:List au)(bs mb tb aa lo f:Nat)(sb:List Bool)(yT:List Value)(ms:List (Nat×B)):Prop where
 bools:wr.heap[bs]?=some (.cells (sb.map Value.bool).toArray 4 (0,0))
 map:jw wr mb ms
 box:wr.heap[tb]?=some (.cells #[.map (some mb)] 79 (0,0))
 Yl:wr.heap[aa]?=some (.cells yT.toArray 81 (0,0))
 kept:Kept (λ_=>False) w wr
 rows:∀(i:Nat) (v:Value) (r:au),i<f→yT[i]?=some v→rules[i]?=some r→wr.ownsRow lo 86 2 v (touches ns r).length ((touches ns r).map jM).flatten
 slen:sb.length=rules.length
 Uu:yT.length=rules.length
 h1:w.heap.size≤bs
 h2:bs<mb
 h3:mb<tb
 h4:tb<aa
 h5:aa<lo
 h6:lo≤wr.heap.size
section
variable {w wr wx:World} {ns:List ak} {rules:List au} {bs mb tb aa lo f:Nat} {sb:List Bool} {yT:List Value} {ms:List (Nat×B)}
theorem kE.quiet(h:kE w wr ns rules bs mb tb aa lo f sb yT ms)(hk:Kept (λ_=>False) wr wx):kE w wx ns rules bs mb tb aa lo f sb yT ms:=
 ⟨hk.heap id h.bools,h.map.kept hk id,hk.heap id h.box,hk.heap id h.Yl,h.kept.trans hk,λi v r hi hv hr=>aK (h.rows i v r hi hv hr) hk (λ_ _=>id),h.slen,h.Uu,h.h1,h.h2,h.h3,h.h4,h.h5,Nat.le_trans h.h6 hk.size⟩
theorem kE.WS(h:kE w wr ns rules bs mb tb aa lo f sb yT ms){i:Nat}{x:Bool}(hx:sb[i]?=some x):wr.cell? ⟨bs,i,none⟩=some (.bool x):=ah h.bools i (by simp[hx])
theorem kE.cellT(h:kE w wr ns rules bs mb tb aa lo f sb yT ms){i:Nat}{x:Value}(hx:yT[i]?=some x):wr.cell? ⟨aa,i,none⟩=some x:=ah h.Yl i (by simp[hx])
theorem kE.setB(h:kE w wr ns rules bs mb tb aa lo f sb yT ms)(i:Nat)(x:Bool):kE w (wr.setCell ⟨bs,i,none⟩ (.bool x)) ns rules bs mb tb aa lo f (sb.set i x) yT ms:=by
 have a1:=h.h1;have a2:=h.h2;have a3:=h.h3;have a4:=h.h4;have a5:=h.h5;have hk:Kept (· = bs) wr (wr.setCell ⟨bs,i,none⟩ (.bool x)):=(Kept.refl (· = bs) wr).setCell (.inl rfl) _;refine⟨?_,h.map.kept hk (by omega),hk.heap (by omega) h.box,hk.heap (by omega) h.Yl,h.kept.trans' hk (λk hk' hs=>by omega),λi v r hi hv hr=>?_,by simpa using h.slen,h.Uu,a1,a2,a3,a4,a5,Nat.le_trans h.h6 hk.size⟩
 ·have:=aW h.bools i (.bool x);rw[this];congr 2;simp[List.map_set]
 have ho:=h.rows i v r hi hv hr;exact aK ho hk (λk hk'=>by have:=(ho.lt k hk').1;omega)
theorem kE.ak9(h:kE w wr ns rules bs mb tb aa lo f sb yT ms){x:Value}{r:au}(hr:rules[f]?=some r)(ho:wr.ownsRow lo 86 2 x (touches ns r).length ((touches ns r).map jM).flatten):
  kE w (wr.setCell ⟨aa,f,none⟩ x) ns rules bs mb tb aa lo (f+1) sb (yT.set f x) ms:=by
 have a1:=h.h1;have a2:=h.h2;have a3:=h.h3;have a4:=h.h4;have a5:=h.h5;have hk:Kept (· = aa) wr (wr.setCell ⟨aa,f,none⟩ x):=(Kept.refl (· = aa) wr).setCell (.inl rfl) _;have hfl:f<yT.length:=by rw[h.Uu];exact(List.getElem?_eq_some_iff.1 hr).1
 refine⟨hk.heap (by omega) h.bools,h.map.kept hk (by omega),hk.heap (by omega) h.box,?_,h.kept.trans' hk (λk hk' hs=>by omega),λi v q hi hv hq=>?_,h.slen,by simpa using h.Uu,a1,a2,a3,a4,a5,Nat.le_trans h.h6 hk.size⟩
 ·have:=aW h.Yl f x;rw[this];congr 2;simp
 rw[List.getElem?_set]at hv;split at hv
 ·rename_i he
  subst he
  try rw[if_pos hfl]at hv
  cases hv;rw[hr]at hq;cases hq;exact aK ho hk (λk hk'=>by have:=(ho.lt k hk').1;omega)
 have ho':=h.rows i v q (by omega) hv hq;exact aK ho' hk (λk hk'=>by have:=(ho'.lt k hk').1;omega)
theorem kE.add(h:kE w wr ns rules bs mb tb aa lo f sb yT ms){ms':List (Nat×B)}(hm:jw wx mb ms')(hk:Kept (· = mb) wr wx):kE w wx ns rules bs mb tb aa lo f sb yT ms':=by
 have a1:=h.h1;have a2:=h.h2;have a3:=h.h3;have a4:=h.h4;have a5:=h.h5;refine⟨hk.heap (by omega) h.bools,hm,hk.heap (by omega) h.box,hk.heap (by omega) h.Yl,h.kept.trans' hk (λk hk' hs=>by omega),λi v r hi hv hr=>?_,h.slen,h.Uu,a1,a2,a3,a4,a5,Nat.le_trans h.h6 hk.size⟩;have ho:=h.rows i v r hi hv hr;exact aK ho hk (λk hk'=>by have:=(ho.lt k hk').1;omega)
end
def uJ(rules:List au)(i:Nat)(sb:List Bool):Prop:=sb.length=rules.length∧∀(j:Nat) (r:au),rules[j]?=some r→sb[j]?=some (decide (j<i)&&decide (r.ay≠[]))
theorem uJ.done{rules:List au}{sb:List Bool}(h:uJ rules rules.length sb):sb=rules.map λr=>decide (r.ay≠[]):=by
 apply List.ext_getElem?;intro j;rw[List.getElem?_map];cases hr:rules[j]? with
 | none=>rw[List.getElem?_eq_none_iff]at hr;rw[List.getElem?_eq_none (by rw[h.1];exact hr)];rfl
 | some r=>
  rw[h.2 j r hr];have:=(List.getElem?_eq_some_iff.1 hr).1;simp[this]
theorem uJ.start(rules:List au):uJ rules 0 (List.replicate rules.length false):=by
 refine⟨by simp,λj r hr=>?_⟩;have:=(List.getElem?_eq_some_iff.1 hr).1;simp[this]
theorem uJ.step{rules:List au}{i:Nat}{sb:List Bool}{r:au}(h:uJ rules i sb)(hr:rules[i]?=some r):uJ rules (i+1) (sb.set i (decide (r.ay≠[]))):=by
 have hil:=(List.getElem?_eq_some_iff.1 hr).1;refine⟨by simpa using h.1,λj q hq=>?_⟩;rw[List.getElem?_set];by_cases hij:i=j
 ·subst hij;rw[hr]at hq;cases hq;rw[if_pos rfl,if_pos (by rw[h.1];exact hil)];simp
 rw[if_neg hij,h.2 j q hq];congr 2;rw[Bool.eq_iff_iff];simp;omega
theorem Uw{s:dZ}(h:wV s):iJ s≤36:=by
 have key:∀ps:List eP,(∀p∈ps,p.tests.length≤6)→(ps.map λp=>p.tests.length).sum≤6*ps.length:=by
  intro ps
  induction ps with
  | nil=>intro _;simp
  | cons p ps ih=>
   intro hp;have:=ih λq hq=>hp q (by simp[hq])
   have:=hp p (by simp);simp;omega
 have:=key s h.2;have:=h.1;unfold iJ;omega
theorem jQ.few{r:au}(h:jQ r):ru r.aZ:=⟨by have:=h.aZ;omega,λs hs=>by have:=Uw (h.parts s hs);omega⟩
theorem Gv:∀ {rs:List au},(∀r∈rs,jQ r)→nV rs≤20*rs.length
 | [],_=>by simp[nV]
 | r::rs,h=>by
  have:=Gv (rs:=rs) λq hq=>h q (List.mem_cons_of_mem _ hq)
  have:=(h r (by simp)).decls;simp[nV]at *;omega
theorem xZ.mt{s:B}{l:List ak}{rules:List au}(h:xZ s l rules):AU l:=by
 have hl:=h.len;refine⟨λn hn a ha=>?_,by have:=h.nodes;omega,λn hn=>?_⟩
 ·have:=(h.node n hn).attrs a ha;omega
 have:=(h.node n hn).parent;omega
theorem xZ.ca{s:B}{l:List ak}{rules:List au}(h:xZ s l rules){gone:List au}(hg:∀r∈gone,r∈rules)(hn:gone.length≤rules.length):Ef l gone:=by
 have hm:=h.most;have hr:∀r∈gone,jQ r:=λr hr=>(h.rule r (hg r hr)).1
 refine⟨h.mt,λr hr'=>(hr r hr').few,λr hr' d hd=>?_,λr hr'=>?_,?_,by omega⟩
 ·have:=(hr r hr').each d hd;omega
 ·have:=(hr r hr').decls;omega
 have:=Gv hr;omega
theorem aaS{w:World}{b b' e size n:Nat}{v:Value}{xs:List Value}(h:w.ownsRow b e size v n xs)(hb:b'≤b):w.ownsRow b' e size v n xs:=by
 refine⟨h.1,?_⟩;rcases h.2 with x | ⟨g,cap,cur,hv,hg,hh,rest⟩
 ·exact .inl x
 exact .inr ⟨g,cap,cur,hv,by omega,hh,rest⟩
def Dq(w:World)(ns:List ak)(rules:List au)(e:Ending)(w':World):Prop:=
 ∃(bs:Nat) (st:List Bool),e=.returned (.slice (some ⟨bs,0,none⟩) rules.length rules.length)∧ni ns rules st∧w'.heap[bs]?=some (.cells (st.map Value.bool).toArray 4 (0,0))∧w.heap.size≤bs∧Kept (λ_=>False) w w'
theorem Ym(w:World)(n:Nat)(hn:n≤1073741824):∃w',(Instr.makeSlice 80 (.int .i64 (n:Int)) (.int .i64 (n:Int))).run Tryz.prog w=.ok (.slice (some ⟨w.heap.size,0,none⟩) n n) w'∧w'.heap[w.heap.size]?=some (.cells (List.replicate n (.slice none 0 0)).toArray 81 (0,0))∧Kept (λ_=>False) w w':=by
 obtain⟨i,hi,hz0,hz1,hz2⟩:=info_parts Ut;obtain⟨w',h1,h2,h3⟩:=run_make_full (P:=Tryz.prog) w w.heap.size 80 81 i (.slice none 0 0) 1 Tryz.underlying80 hi hz0 hz1 .i64 .i64 n (by rw[hz2];omega) (by unfold maxLen;omega) (Nat.le_refl _);refine⟨w',h1,?_,(Kept.refl _ w).grown h3 (λk hk=>by cases hk)⟩;rcases h2.2 with⟨hx,_⟩ | ⟨g,cap,cur,hv,hb,hg,hnc,hcm,hcs,htake⟩
 ·cases hx
 cases hv;have hcl:cur.toList.length=n*1:=by simpa using hcs
 rw[List.take_of_length_le (by omega)]at htake;have:cur=(List.replicate n (Value.slice none 0 0)).toArray:=by
  apply Array.ext';rw[htake];have e:(Value.slice none 0 0).cells=#[.slice none 0 0]:=rfl;rw[e];apply List.ext_getElem
  ·simp[size_madeCells]
  intro j h5 h6;simp[madeCells,Nat.mod_one]
 rw[←this];exact hg
theorem Kz(ns:List ak)(rules:List au)(hc:Ef ns rules)(m:Int)(w:World)(v rv:Value)(hv:aX w v ns)(hr:gy w rv rules)(hm:w.cell? ⟨0,0,none⟩=some (.int .i64 m)):
  Calls Tryz.prog 17 #[v,rv] w (Dq w ns rules):=by
 obtain⟨na,qj,rfl,EM,pJ⟩:=hv.form;obtain⟨ra,adh,rfl,XW,C9⟩:=bH.form hr;unfold maxLen at pJ C9;have hfew:=hc.few;have HC:=hid hc;have HV:=hid hv;have HR:=hid hr;have HM:=hid hm;clear hc hv hr hm;obtain⟨w1,hmk,hb1,k1⟩:=Dj w rules.length (by omega);obtain⟨bs,yD⟩:∃y,Hid (w.heap.size=y):=⟨_,rfl⟩;obtain⟨wm,Tj⟩:∃x,Hid (w1.alloc (.map #[] 0)=x):=⟨_,rfl⟩;have e0:=qW (P:=Tryz.prog) w1 79;have hpm:jw wm w1.heap.size []:=by rw[←Tj.out];exact jw.made w1
 have km:Kept (λ_=>False) w1 wm:=by rw[←Tj.out];exact(Kept.refl _ w1).alloc _
 have zm:wm.heap.size=w1.heap.size+1:=by rw[←Tj.out];simp
 rw[Tj.out]at e0;obtain⟨mb,Jm⟩:∃y,Hid (w1.heap.size=y):=⟨_,rfl⟩;rw[Jm.out]at e0 hpm;obtain⟨tb,HTB⟩:∃y,Hid (wm.heap.size=y):=⟨_,rfl⟩;have kt:Kept (λ_=>False) wm (wm.alloc (.cells #[.map (some mb)] 79 (0,0))):=(Kept.refl _ wm).alloc _;have ht:(wm.alloc (.cells #[.map (some mb)] 79 (0,0))).heap[wm.heap.size]?=some (.cells #[.map (some mb)] 79 (0,0)):=aI wm _;have zt:(wm.alloc (.cells #[.map (some mb)] 79 (0,0))).heap.size=wm.heap.size+1:=by simp
 obtain⟨wl,ahT,hal,kl⟩:=Ym (wm.alloc (.cells #[.map (some mb)] 79 (0,0))) rules.length (by omega);rw[zt]at ahT hal;obtain⟨lo,HLO⟩:∃y,Hid (wl.heap.size=y):=⟨_,rfl⟩;have zb:=gW hb1;have za:=gW hal;have HST:Hid (kE w wl ns rules bs mb tb (tb+1) lo 0 (List.replicate rules.length false) (List.replicate rules.length (.slice none 0 0)) []):=hid (by
  have hb:=yD.out;have hmb:=Jm.out;have htb:=HTB.out;have hlo:=HLO.out;rw[hb]at hb1 zb;rw[htb]at ht hal zm za;exact⟨kl.heap id (kt.heap id (km.heap id hb1)),(hpm.kept kt id).kept kl id,kl.heap id ht,hal,k1.trans (km.trans (kt.trans kl)),λi v r hi=>by omega,by simp,by simp,by omega,by omega,by omega,by omega,by omega,by omega⟩)
 have HB0:=hid (uJ.start rules);rw[yD.out]at hmk;rw[HTB.out]at ahT;have htb':wm.heap.size=tb:=HTB.out;clear hb1 k1 hpm km zm kt ht zt hal kl zb za;go_enter Tryz.func17,Tryz.ntmps17
 go_wp2_with fail
 go_loopw [22] (λc wr=>∃(i:Nat) (sb:List Bool) (yT:List Value),i≤rules.length∧c=.int .i64 (i:Int)∧Hid (kE w wr ns rules bs mb tb (tb+1) lo i sb yT [])∧Hid (uJ rules i sb)) (λc _=>rules.length-(intOf c).toNat)
 case atStart=>exact⟨0,_,_,by omega,rfl,HST,HB0⟩
 case round=>
  obtain⟨i,sb,yT,hi,rfl,HS,HB⟩:=hrel;obtain⟨bU,hwr0⟩:∃x,x=wr:=⟨_,rfl⟩;subst hwr0;by_cases hlt:i<rules.length
  ·have hx:=List.getElem?_eq_getElem hlt;generalize hgx:rules[i]=r at hx;clear hgx;obtain⟨rb,ro,u,rfl,hcs,PI⟩:=bH.at HR.out hx;have HK:=hid HS.out.kept;have hrm:=List.mem_of_getElem? hx;have HCT:Hid (Calls Tryz.prog 40 #[.slice na ns.length qj,.pointer (some ⟨rb,ro+i*5,none⟩)] bU λe w'=>∃pv base,e=.returned pv∧Kept (λ_=>False) bU w'∧bU.heap.size≤base∧w'.ownsRow base 86 2 pv (touches ns r).length ((touches ns r).map jM).flatten):=
    hid (Qi ns HC.out.nodes r (HC.out.tests r hrm) (HC.out.vals r hrm) (HC.out.each r hrm) m bU _ u rb (ro+i*5) (aO.kept HV.out HK.out) (λj c hj=>HK.out.cell id (hcs j c hj)) (xX.kept PI HK.out) (HK.out.cell id HM.out))
   have HC0:Hid (w.cell? ⟨rb,ro+i*5,none⟩=some (.string (str r.ay))):=hid (hcs 0 _ rfl);have HX:=hid hx;obtain⟨x0,hx0⟩:∃x,sb[i]?=some x:=⟨_,List.getElem?_eq_getElem (by rw[HS.out.slen];exact hlt)⟩;obtain⟨t0,ht0⟩:∃x,yT[i]?=some x:=⟨_,List.getElem?_eq_getElem (by rw[HS.out.Uu];exact hlt)⟩;have HX0:=hid hx0;have HT0:=hid ht0;clear hcs PI hx hrm hx0 ht0;go_wp2_with fail
   refine HCT.out.mono ?_;rintro e w2 ⟨pv,base,rfl,hk2,hb2,how⟩;obtain⟨vo,vc,rfl⟩:=dw how;have HS2:=hid (HS.out.quiet hk2);have HS3:=hid (HS2.out.ak9 HX.out (aaS how (by have:=HS.out.h6;omega)));have c1:w2.cell? ⟨tb+1,i,none⟩=some t0:=HS2.out.cellT HT0.out;have f1:w2.frozen? ⟨tb+1,i,none⟩=false:=aF HS2.out.Yl i;have c2:(w2.setCell ⟨tb+1,i,none⟩ (.slice vo (touches ns r).length vc)).cell? ⟨rb,ro+i*5,none⟩=some (.string (str r.ay)):=HS3.out.kept.cell id HC0.out;have c3:(w2.setCell ⟨tb+1,i,none⟩ (.slice vo (touches ns r).length vc)).cell? ⟨bs,i,none⟩=some (.bool x0):=HS3.out.WS HX0.out;have f3:(w2.setCell ⟨tb+1,i,none⟩ (.slice vo (touches ns r).length vc)).frozen? ⟨bs,i,none⟩=false:=aF HS3.out.bools i;have hme:(!List.isEmpty r.ay)=decide (r.ay≠[]):=by cases r.ay<;>simp
   have HS4:=hid (HS3.out.setB i (!List.isEmpty r.ay));have HB4:Hid (uJ rules (i+1) (sb.set i (!List.isEmpty r.ay))):=hid (by rw[hme];exact HB.out.step HX.out);clear hk2 hb2 how hme;go_wp2_with fail
   go_roundw
   case measure=>simp[intOf];omega
   case rel=>exact⟨i+1,_,_,by omega,by go_num,HS4,HB4⟩
  obtain rfl:i=rules.length:=by omega
  have hsb:=HB.out.done;subst hsb;have HI:=hid (KC.start ns rules);obtain⟨all,aaI⟩:∃x,Hid (rules.flatMap (touches ns)=x):=⟨_,rfl⟩;go_wp2_with fail
  go_loopg [9] (jH all []+1) (λk mv wx=>∃(b:Bool) (sb:List Bool) (ms:List (Nat×B)),mv=.bool b∧k=(if b then jH all ms+1 else 0)∧Hid (kE w wx ns rules bs mb tb (tb+1) lo rules.length sb yT ms)∧Hid (KC ns rules sb ms)∧Hid (b=false→ni ns rules sb))
  case atStart=>exact⟨true,_,_,rfl,rfl,HS,HI,hid (λh=>by cases h)⟩
  case round=>
   obtain⟨b,sb,ms,rfl,hgk,OI,HI1,HD⟩:=hrel;obtain⟨jk,nD⟩:∃x,x=wr:=⟨_,rfl⟩;subst nD;cases b with
   | false=>
    have HD':=hid (HD.out rfl);go_wp2_with fail
    go_ret
    exact⟨bs,sb,rfl,HD'.out,OI.out.bools,OI.out.h1,OI.out.kept⟩
   | true=>
    have hgk:gk=jH all ms+1:=hgk;have HAT:=hid (Gw.start HI1.out);go_wp2_with fail
    go_loopw [9,46] (λmv c wx=>∃(i:Nat) (sb':List Bool) (mm:Ql),i≤rules.length∧c=.int .i64 (i:Int)∧mv=.bool mm.more∧Hid (kE w wx ns rules bs mb tb (tb+1) lo rules.length sb' yT mm.ms)∧Hid (Gw ns rules ms i ⟨sb',mm⟩)) (λ_ c _=>rules.length-(intOf c).toNat)
    case atStart=>exact⟨0,sb,⟨ms,false⟩,by omega,rfl,rfl,OI,HAT⟩
    case round=>
     obtain⟨i,sb',mm,hi',rfl,rfl,HS2,HA⟩:=hrel;obtain⟨wr2,hwr2⟩:∃x,x=wr:=⟨_,rfl⟩;subst hwr2;by_cases hlt':i<rules.length
     ·have hx:=List.getElem?_eq_getElem hlt';generalize hgx:rules[i]=r at hx;clear hgx;obtain⟨x0,hx0⟩:∃x,sb'[i]?=some x:=⟨_,List.getElem?_eq_getElem (by rw[HS2.out.slen];exact hlt')⟩;obtain⟨t0,ht0⟩:∃x,yT[i]?=some x:=⟨_,List.getElem?_eq_getElem (by rw[HS2.out.Uu];exact hlt')⟩;have how:=HS2.out.rows i t0 r hlt' ht0 hx;obtain⟨vo,vc,rfl⟩:=dw how;have HPA:=hid (yS how);have hblt:bs<wr2.heap.size:=gW HS2.out.bools;obtain⟨ps,HPS⟩:∃x,Hid (touches ns r=x):=⟨_,rfl⟩;rw[HPS.out]at HPA ht0;obtain⟨_,_,he,hp1,hp2⟩:=HPA.out.form;cases he;unfold maxLen at hp2;have HT0:=hid ht0;have HX0:=hid hx0;have aaT:=HA.out.step hx;rw[HPS.out]at aaT;replace aaT:=hid aaT;obtain⟨q,HQ⟩:∃q:Bool,Hid (((sb'[i]?==some true)||ps.any (λp=>decide (p∈mm.ms)))=q):=⟨_,rfl⟩;have b0:wr2.cell? ⟨bs,i,none⟩=some (.bool x0):=HS2.out.WS hx0;have f0:wr2.frozen? ⟨bs,i,none⟩=false:=aF HS2.out.bools i;have a0:wr2.cell? ⟨tb+1,i,none⟩=some (.slice vo ps.length vc):=HS2.out.cellT ht0;have HSB:Hid (kE w wr2 ns rules bs mb tb (tb+1) lo rules.length sb' yT mm.ms):=HS2;have HXR:=hid hx;clear how hx ht0;go_upto_region 16 with fail
      go_cut [] (λwx=>Hid (kE w wx ns rules bs mb tb (tb+1) lo rules.length (sb'.set i q) yT mm.ms))
      case first=>
       cases x0 with
       | true=>
        have hq:q=true:=by rw[←HQ.out,hx0];simp
        subst hq;have HF:=hid (HS2.out.setB i true);clear hx0;go_wp2_with fail
        go_meet
        case rel=>exact HF
       | false=>
        have hq:ps.any (λp=>decide (p∈mm.ms))=q:=by rw[←HQ.out,hx0];simp
        have HCH:=Gu _ ps wr2 tb mb mm.ms HPA.out (ah HS2.out.box 0 rfl) HS2.out.map;rw[hq]at HCH;replace HCH:=hid HCH;clear hx0 hq;go_wp2_with fail
        refine HCH.out.mono ?_;rintro e w5 ⟨rfl,hb5⟩;have HS5:=hid (HS2.out.quiet (Kept.of_below hb5));have HS6:=hid (HS5.out.setB i q);have d0:w5.cell? ⟨bs,i,none⟩=some (.bool false):=HS5.out.WS HX0.out;have g0:w5.frozen? ⟨bs,i,none⟩=false:=aF HS5.out.bools i;clear hb5;go_wp2_with fail
        go_meet
        case rel=>exact HS6
      case rest=>
       have HS3:Hid (kE w wc ns rules bs mb tb (tb+1) lo rules.length (sb'.set i q) yT mm.ms):=hcut;have hil:i<sb'.length:=by rw[HS2.out.slen];exact hlt'
       have d0:wc.cell? ⟨bs,i,none⟩=some (.bool q):=HS3.out.WS (by rw[List.getElem?_set,if_pos rfl,if_pos hil]);have d1:wc.cell? ⟨tb+1,i,none⟩=some (.slice vo ps.length vc):=HS3.out.cellT HT0.out;clear b0 f0 a0 hx0;cases q with
       | false=>
        have HN:Hid (Gw ns rules ms (i+1) ⟨sb'.set i false,mm⟩):=hid (by
         have:=aaT.out;unfold Nw at this;rw[if_neg (by rw[HQ.out];simp)]at this;exact this)
        go_wp2_with fail
        go_roundw
        case measure=>simp[intOf];omega
        case rel=>exact⟨i+1,_,mm,by omega,by go_num,rfl,HS3,HN⟩
       | true=>
        have HN:Hid (Gw ns rules ms (i+1) ⟨sb'.set i true,eX mm ps⟩):=hid (by
         have:=aaT.out;unfold Nw at this;rw[if_pos HQ.out]at this;exact this)
        go_wp2_with fail
        go_loopw [9,74] (λmv c wx=>∃j:Nat,j≤ps.length∧c=.int .i64 (j:Int)∧mv=.bool (eX mm (ps.take j)).more∧Hid (kE w wx ns rules bs mb tb (tb+1) lo rules.length (sb'.set i true) yT (eX mm (ps.take j)).ms)) (λ_ c _=>ps.length-(intOf c).toNat)
        case atStart=>exact⟨0,by omega,rfl,rfl,HS3⟩
        case round=>
         obtain⟨j,hj,rfl,rfl,HS4⟩:=hrel;obtain⟨wr3,Ny⟩:∃x,x=wr:=⟨_,rfl⟩;subst Ny;by_cases hjlt:j<ps.length
         ·have hy:=List.getElem?_eq_getElem hjlt;generalize qX:ps[j]=y at hy;clear qX;have hown:=HS4.out.rows i _ r hlt' HT0.out HXR.out;rw[HPS.out]at hown;obtain⟨pb,po,rfl,g0,g1⟩:=qx.at (yS hown) hy;have Eo:Hid (eX mm (ps.take (j+1))=jU (eX mm (ps.take j)) y):=hid (by
           rw[List.take_add_one,hy,Option.toList_some];unfold eX;rw[List.foldl_append];rfl)
          generalize eX mm (ps.take j)=mj at *;clear hown hy;go_upto_region 21 with fail
          obtain⟨wd,mM⟩:∃x,Hid (wr3.alloc (.cells #[.int .i64 (y.1:Int),.string (str y.2)] 86 (0,0))=x):=⟨_,rfl⟩;have k0:wd.cell? ⟨wr3.heap.size,0,none⟩=some (.int .i64 (y.1:Int)):=by rw[←mM.out];exact ah (aI wr3 _) 0 rfl
          have k1:wd.cell? ⟨wr3.heap.size,1,none⟩=some (.string (str y.2)):=by rw[←mM.out];exact ah (aI wr3 _) 1 rfl
          have HS5:Hid (kE w wd ns rules bs mb tb (tb+1) lo rules.length (sb'.set i true) yT mj.ms):=hid (HS4.out.quiet (by rw[←mM.out];exact(Kept.refl _ wr3).alloc _));have k2:wd.cell? ⟨tb,0,none⟩=some (.map (some mb)):=ah HS5.out.box 0 rfl;have hl:=HS5.out.map.look y;unfold oK at hl;rw[mM.out];clear g0 g1;by_cases hym:y∈mj.ms
          ·have Jo:Hid (eX mm (ps.take (j+1))=mj):=hid (by rw[Eo.out];unfold jU;rw[if_pos hym]);rw[decide_eq_true hym]at hl;clear hym;go_wp2_with fail
           go_roundw
           case measure=>simp[intOf];omega
           case rel=>exact⟨j+1,by omega,by go_num,by rw[Jo.out],hid (by rw[Jo.out];exact HS5.out)⟩
          have Jo:Hid (eX mm (ps.take (j+1))=⟨mj.ms++[y],true⟩):=hid (by rw[Eo.out];unfold jU;rw[if_neg hym]);rw[decide_eq_false hym]at hl;obtain⟨w7,hadd,ZN,jD,hz7⟩:=HS5.out.map.add y hym;unfold oK at hadd;have HS7:=hid (HS5.out.add ZN jD);clear hym ZN jD hz7;go_wp2_with fail
          go_roundw
          case measure=>simp[intOf];omega
          case rel=>exact⟨j+1,by omega,by go_num,by rw[Jo.out],hid (by rw[Jo.out];exact HS7.out)⟩
         obtain rfl:j=ps.length:=by omega
         have HS5:Hid (kE w wr3 ns rules bs mb tb (tb+1) lo rules.length (sb'.set i true) yT (eX mm ps).ms):=hid (by have:=HS4.out;rw[List.take_length]at this;exact this);have htk:(eX mm (ps.take ps.length)).more=(eX mm ps).more:=by rw[List.take_length]
         go_wp2_with fail
         go_roundw
         case measure=>simp[intOf];omega
         case rel=>exact⟨i+1,_,eX mm ps,by omega,by go_num,by rw[htk],HS5,HN⟩
     obtain rfl:i=rules.length:=by omega
     have hleft:mm.more=true→jH all mm.ms<jH all ms:=λh=>by rw[←aaI.out];exact HA.out.left h
     have ahX:=hid hleft;have alb:=hid HA.out.inv;have JR:Hid (mm.more=false→ni ns rules sb'):=hid (λh=>HA.out.done h);clear hleft;go_wp2_with fail
     go_roundg (if mm.more then jH all mm.ms+1 else 0)
     case measure=>
      have:=ahX.out;cases hmm:mm.more with
      | true=>have:=this hmm;simp;omega
      | false=>simp
     case rel=>exact⟨mm.more,sb',mm.ms,rfl,rfl,HS2,alb,JR⟩
theorem Yn:(Tryz.prog.info? 89).map (λi=>(i.zero,i.size,i.bytes))=some (some (.map none),1,8):=by kernel_rfl
theorem dL.apart{d:TypeDesc}{w:World}{b base e size n:Nat}{f:Value→Option Value}{v:Value}{xs:List Value}(h:dL d w b f)(ho:w.ownsRow base e size v n xs):¬v.ownBlock=some b:=by
 obtain⟨es,c,hb,_⟩:=h.ex;intro hv;rcases ho.2 with⟨h1,_⟩ | ⟨g,cap,cur,h1,_,hg,_⟩
 ·rw[h1]at hv;cases hv
 rw[h1]at hv;simp only[Value.ownBlock,Option.some.injEq]at hv;subst hv;rw[hb]at hg;cases hg
theorem dL.Gx{d:TypeDesc}{w:World}{b c:Nat}{f:Value→Option Value}{cs:Array Value}{t:TypeId}{z:Nat×Nat}(h:dL d w b f)(hc:w.heap[c]?=some (.cells cs t z)):¬b=c:=by
 obtain⟨es,k,hb,_⟩:=h.ex;rintro rfl;rw[hb]at hc;cases hc
structure Yo(w wr:World)(ns:List ak)(rules:List au)(bs base i:Nat)(pv:Value)(sb:List Bool)(OJ:List Nat):Prop where
 bools:jP wr bs sb
 beg:uJ rules i sb
 own:wr.ownsRow base 89 1 pv i (OJ.map λb=>Value.map (some b))
 aaV:OJ.length=i
 maps:∀(j b:Nat) (r:au),OJ[j]?=some b→rules[j]?=some r→dL .string wr b (mX ((touches ns r).map uf))∧w.heap.size≤b
 kept:Kept (λ_=>False) w wr
 low:base≤wr.heap.size
theorem Yo.quiet{w wr wx:World}{ns:List ak}{rules:List au}{bs base i:Nat}{pv:Value}{sb:List Bool}{OJ:List Nat}(h:Yo w wr ns rules bs base i pv sb OJ)(hk:Kept (λ_=>False) wr wx):Yo w wx ns rules bs base i pv sb OJ:=
 ⟨hk.heap id h.bools,h.beg,aK h.own hk (λ_ _=>id),h.aaV,λj b r hb hr=>⟨(h.maps j b r hb hr).1.kept hk id,(h.maps j b r hb hr).2⟩,h.kept.trans hk,Nat.le_trans h.low hk.size⟩
structure Ux(wA wx:World)(bs:Nat)(sb:List Bool):Prop where
 bools:jP wx bs sb
 kept:Kept (· = bs) wA wx
theorem Ux.quiet{wA wx wy:World}{bs:Nat}{sb:List Bool}(h:Ux wA wx bs sb)(hk:Kept (λ_=>False) wx wy):Ux wA wy bs sb:=⟨hk.heap id h.bools,h.kept.trans (hk.mono (λ_ _ h=>h.elim))⟩
theorem Bj{α β:Type}(f:α→β)(l:List α):(l.map λa=>[f a]).flatten=l.map f:=by induction l<;>simp_all
theorem Yp{ns:List ak}(h:ns.length≤120){rules:List au}{i j:Nat}{r q:au}(hi:rules[i]?=some r)(hj:rules[j]?=some q):
  ((touches ns r).map uf).any (λk=>decide (k∈(touches ns q).map uf))=meets ns rules i j:=by
 rw[Bool.eq_iff_iff,Uy h hi hj,List.any_eq_true];constructor
 ·rintro⟨k,h1,h2⟩;refine⟨k,lQ.2 ?_,lQ.2 ?_⟩
  ·obtain⟨p,hp,rfl⟩:=List.mem_map.1 h1;exact⟨p,hp,rfl⟩
  obtain⟨p,hp,e⟩:=List.mem_map.1 (of_decide_eq_true h2);exact⟨p,hp,e⟩
 rintro⟨k,h1,h2⟩;obtain⟨p,p1,e1⟩:=lQ.1 h1;obtain⟨p',p2,e2⟩:=lQ.1 h2;exact⟨k,List.mem_map.2 ⟨p,p1,e1⟩,decide_eq_true (List.mem_map.2 ⟨p',p2,e2⟩)⟩
theorem Gy(ns:List ak)(rules:List au)(hc:Ef ns rules)(hen:∀r∈rules,∀d∈r.decls,d.name.length≤1048576)(hn:ns.length≤120)(m:Int)(w:World)(v rv:Value)(hv:aX w v ns)(hr:gy w rv rules)(hm:w.cell? ⟨0,0,none⟩=some (.int .i64 m)):
  Calls Tryz.prog 18 #[v,rv] w (Dq w ns rules):=by
 obtain⟨na,qj,rfl,EM,pJ⟩:=hv.form;obtain⟨ra,adh,rfl,XW,C9⟩:=bH.form hr;unfold maxLen at pJ C9;have hfew:=hc.few;have HC:=hid hc;have HV:=hid hv;have HR:=hid hr;have HM:=hid hm;have HEN:=hid hen;have HN:=hid hn;obtain⟨w1,hmk,hb1,k1⟩:=Dj w rules.length (by omega);obtain⟨bs,yD⟩:∃y,Hid (w.heap.size=y):=⟨_,hid rfl⟩;rw[yD.out]at hmk hb1;have hz1:=gW hb1;have HST:Hid (Yo w w1 ns rules bs w1.heap.size 0 (.slice none 0 0) (List.replicate rules.length false) []):=hid ⟨hb1,uJ.start rules,World.ownsRow_nil _ _ _ _,rfl,λj b r h=>by simp at h,k1,Nat.le_refl _⟩;have apy:w.heap.size≤w1.heap.size:=k1.size;clear hc hv hr hm hen hn hb1 k1;go_enter Tryz.func18,Tryz.ntmps18
 go_wp2_with fail
 go_loopw [6,17] (λpv c wr=>∃(i:Nat) (sb:List Bool) (OJ:List Nat),i≤rules.length∧c=.int .i64 (i:Int)∧Hid (Yo w wr ns rules bs w1.heap.size i pv sb OJ)) (λ_ c _=>rules.length-(intOf c).toNat)
 case atStart=>exact⟨0,_,[],by omega,rfl,HST⟩
 case round=>
  obtain⟨i,sb,OJ,hi,rfl,HS⟩:=hrel;obtain⟨bU,hwr0⟩:∃x,x=wr:=⟨_,rfl⟩;subst hwr0;obtain⟨po,pc,rfl⟩:=dw (n:=i) HS.out.own;by_cases hlt:i<rules.length
  ·have hx:=List.getElem?_eq_getElem hlt;generalize hgx:rules[i]=r at hx;clear hgx;have HK:=hid HS.out.kept;have hrm:=List.mem_of_getElem? hx;obtain⟨rb,ro,uu,rfl,hcs,sv,dv,rfl,hss,hds⟩:=bH.at HR.out hx;obtain⟨sa,sc,rfl,_,_⟩:=bH.form hss;obtain⟨da,dc,rfl,_,_⟩:=bC.form hds;have q0:bU.cell? ⟨rb,ro+i*5,none⟩=some (.string (str r.ay)):=HK.out.cell id (hcs 0 _ rfl);have q1:bU.cell? ⟨rb,ro+i*5+1,none⟩=some (.slice sa r.aZ.length sc):=HK.out.cell id (hcs 1 _ rfl);have q2:bU.cell? ⟨rb,ro+i*5+2,none⟩=some (.slice da r.decls.length dc):=HK.out.cell id (hcs 2 _ rfl);have q3:bU.cell? ⟨rb,ro+i*5+3,none⟩=some (.int .i64 r.lo):=HK.out.cell id (hcs 3 _ rfl);have q4:bU.cell? ⟨rb,ro+i*5+4,none⟩=some (.int .i64 r.hi):=HK.out.cell id (hcs 4 _ rfl);obtain⟨x0,hx0⟩:∃x,sb[i]?=some x:=⟨_,List.getElem?_eq_getElem (by rw[HS.out.beg.1];exact hlt)⟩;obtain⟨wn,wW⟩:∃x,Hid (bU.alloc (.cells #[.string (str r.ay),.slice sa r.aZ.length sc,.slice da r.decls.length dc,.int .i64 r.lo,.int .i64 r.hi] 42 (0,0))=x):=⟨_,hid rfl⟩;obtain⟨nb,oO⟩:∃x,Hid (bU.heap.size=x):=⟨_,hid rfl⟩;have hn0:wn.heap[nb]?=some (.cells #[.string (str r.ay),.slice sa r.aZ.length sc,.slice da r.decls.length dc,.int .i64 r.lo,.int .i64 r.hi] 42 (0,0)):=by rw[←wW.out,←oO.out];exact aI bU _
   have hkn:Kept (λ_=>False) bU wn:=by rw[←wW.out];exact(Kept.refl _ bU).alloc _
   have PD:=hid (HS.out.quiet hkn);have ahY:¬nb=bs:=by have:=gW HS.out.bools;have:=oO.out;omega
   have c0:=PD.out.bools.cell hx0;have f0:=PD.out.bools.free i;have n0:=ah hn0 0 rfl;have hme:(!List.isEmpty r.ay)=decide (r.ay≠[]):=by cases r.ay<;>simp
   obtain⟨wy,JZ⟩:∃x,Hid (wn.setCell ⟨bs,i,none⟩ (.bool (!List.isEmpty r.ay))=x):=⟨_,hid rfl⟩;have hky:Kept (· = bs) wn wy:=by rw[←JZ.out];exact(Kept.refl (· = bs) wn).setCell (p:=⟨bs,i,none⟩) (.inl rfl) _
   have hny:=hky.heap ahY hn0;have WT:Hid (wn.heap.size≤wy.heap.size):=hid hky.size;have hbw:w.heap.size≤bs:=by have:=yD.out;omega
   have Tm:Hid (Kept (λ_=>False) w wy):=hid (PD.out.kept.trans' hky (λk hk hs=>by omega));have HBY:Hid (jP wy bs (sb.set i (!List.isEmpty r.ay))):=hid (by rw[←JZ.out];exact PD.out.bools.put i _);have HBG:Hid (uJ rules (i+1) (sb.set i (!List.isEmpty r.ay))):=hid (by rw[hme];exact HS.out.beg.step hx);have HOY:Hid (wy.ownsRow w1.heap.size 89 1 (.slice po i pc) i (OJ.map λb=>Value.map (some b))):=hid (aK PD.out.own hky (λk hk hs=>by have:=(PD.out.own.lt k hk).1;omega));have HMY:Hid (∀(j b:Nat) (r:au),OJ[j]?=some b→rules[j]?=some r→dL .string wy b (mX ((touches ns r).map uf))∧w.heap.size≤b):=hid (λj b r hb hr=>by
    obtain⟨h1,h2⟩:=PD.out.maps j b r hb hr;exact⟨h1.kept hky (h1.Gx PD.out.bools),h2⟩)
   have JD:Hid (Calls Tryz.prog 43 #[.slice na ns.length qj,.agg #[.string (str r.ay),.slice sa r.aZ.length sc,.slice da r.decls.length dc,.int .i64 r.lo,.int .i64 r.hi]] wy λe w'=>∃b,e=.returned (.map (some b))∧Kept (λ_=>False) wy w'∧wy.heap.size≤b∧dL .string w' b (mX ((touches ns r).map uf))):=
    hid (Ur ns HC.out.nodes (by have:=HN.out;omega) r (HC.out.tests r hrm) (HC.out.vals r hrm) (HEN.out r hrm) (HC.out.each r hrm) m wy _ (.tuple #[.slice sa r.aZ.length sc,.slice da r.decls.length dc]) (aO.kept HV.out Tm.out) ⟨_,_,rfl,qJ.kept hss Tm.out,iy.kept hds Tm.out⟩ (Tm.out.cell id HM.out))
   have HX:=hid hx;have HME:=hid hme;clear hcs hss hds hrm hx hx0 hn0 hkn ahY hme hky;go_upto_region 6 with fail
   rw[wW.out,oO.out];clear q0 q1 q2 q3 q4 wW;go_upto_region 7 with fail
   rw[JZ.out];clear c0 f0 n0;have n0:=ah hny 0 rfl;have n1:=ah hny 1 rfl;have n2:=ah hny 2 rfl;have n3:=ah hny 3 rfl;have n4:=ah hny 4 rfl;go_wp2_with fail
   refine JD.out.mono ?_;rintro e w3 ⟨b3,rfl,hk3,hb3,Gz⟩;have Nz:=aK HOY.out hk3 (λ_ _=>id);have h3z:w1.heap.size≤w3.heap.size:=by have:=PD.out.low;have:=WT.out;have:=hk3.size;omega
   have oJ:=hid hk3;have Ar:=hid Gz;have HB3:=hid hb3;obtain⟨i0,hi0,hz0,hz1',hz2⟩:=info_parts Yn;clear n0 n1 n2 n3 n4 hny hk3 hb3 Gz;go_wp2_with (at_builtin;refine wpList_append_lies _ rfl _ _ _ rfl w1.heap.size 89 i0 _ 1 8 Tryz.underlying88 hi0 hz0 hz1' hz2 rfl (by omega) _ i _ (by rfl) (Nz.alloc _) ⟨w3.heap.size,0,none⟩ 1 1 [.map (some b3)] (by rfl) (by rfl) (World.news_of_block (cs:=#[.map (some b3)]) (t:=89) (fr:=(0,0)) (heap_alloc_new w3 _)) (by simp[Value.oneCell']) (by omega) (by unfold maxLen;omega) (by omega) (by simp;omega) (w3.heap.size+1) (by simp) ?_;intro gg cap w6 hown6 hgrow6 ES aaW)
   have HS6:Hid (Yo w w6 ns rules bs w1.heap.size (i+1) (.slice (some ⟨gg,0,none⟩) (i+1) cap) (sb.set i (!List.isEmpty r.ay)) (OJ++[b3])):=hid (by
    have hk6:Kept (λk=>(Value.slice po i pc).ownBlock=some k) w3 w6:=((Kept.refl _ w3).alloc _).grown hgrow6 (λk hk=>.inl hk);have hlo:=λk hk=>(Nz.lt k hk).1
    refine⟨(HBY.out.kept oJ.out id).kept hk6 (λhs=>by have:=hlo _ hs;omega),HBG.out,by rw[List.map_append];exact hown6,by rw[List.length_append,HS.out.aaV];rfl,λj b q hb hq=>?_,(Tm.out.trans oJ.out).trans' hk6 (λk hk hs=>by have:=hlo k hs;omega),Nat.le_trans h3z hk6.size⟩;by_cases hj:j<OJ.length
    ·rw[List.getElem?_append_left hj]at hb;obtain⟨h1,h2⟩:=HMY.out j b q hb hq;have h3:=h1.kept oJ.out id;exact⟨h3.kept hk6 (h3.apart Nz),h2⟩
    have hj2:=(List.getElem?_eq_some_iff.1 hb).1;simp at hj2;obtain rfl:j=OJ.length:=by omega
    simp at hb;subst hb;rw[HS.out.aaV,HX.out]at hq;cases hq;exact⟨Ar.out.kept hk6 (Ar.out.apart Nz),by have:=HB3.out;have:=Tm.out.size;omega⟩)
   clear hown6 hgrow6 ES Nz;go_roundw
   case measure=>simp[intOf];omega
   case rel=>exact⟨i+1,_,_,by omega,by go_num,HS6⟩
  obtain rfl:i=rules.length:=by omega
  have hsb:sb=rules.map λr => !r.ay.isEmpty:=by
   rw[HS.out.beg.done];refine List.map_congr_left λr _=>?_
   cases r.ay<;>simp
  have HI:Hid (GH ns rules sb):=hid (by rw[hsb];exact GH.start);have hown:bU.ownsRow w1.heap.size 89 1 (.slice po rules.length pc) rules.length (OJ.map λb=>[Value.map (some b)]).flatten:=by rw[Bj];exact HS.out.own
  have HRW:Hid (aH bU 1 (.slice po rules.length pc) (OJ.map λb=>[Value.map (some b)])):=hid (aS (by intro r hr;obtain⟨b,_,rfl⟩:=List.mem_map.1 hr;rfl) (by simp[HS.out.aaV]) hown);have HPB:Hid (∀k,(Value.slice po rules.length pc).ownBlock=some k→¬k=bs):=hid (λk hk hs=>by have:=(HS.out.own.lt k hk).1;omega);have hpl:rules.length≤pc:=by
   obtain⟨_,_,hcc,h1,_⟩:=HRW.out;simp only[Value.slice.injEq]at hcc;obtain⟨_,h2,rfl⟩:=hcc;omega
  have HA0:Hid (Ux bU bU bs sb):=hid ⟨HS.out.bools,Kept.refl _ _⟩;have hbw:w.heap.size≤bs:=by have:=yD.out;omega
  obtain⟨wA,hwA⟩:∃x,x=bU:=⟨_,rfl⟩;subst hwA;clear hsb hown;go_wp2_with fail
  go_loopg [9] (pK sb+1) (λk mv wx=>∃(b:Bool) (sc:List Bool),mv=.bool b∧k=(if b then pK sc+1 else 0)∧Hid (Ux wA wx bs sc)∧Hid (GH ns rules sc)∧Hid (b=false→ni ns rules sc))
  case atStart=>exact⟨true,sb,rfl,rfl,HA0,HI,hid (λh=>by cases h)⟩
  case round=>
   obtain⟨b,sb1,rfl,hgk,HA1,HI1,HD⟩:=hrel;obtain⟨jk,nD⟩:∃x,x=wr:=⟨_,rfl⟩;subst nD;cases b with
   | false=>
    have HD':=hid (HD.out rfl);go_wp2_with fail
    go_ret
    exact⟨bs,sb1,rfl,HD'.out,HA1.out.bools,hbw,HS.out.kept.trans' HA1.out.kept (λk hk hs=>by omega)⟩
   | true=>
    have hgk:gk=pK sb1+1:=hgk;have HAT:=hid (yE.start HI1.out);go_wp2_with fail
    go_loopw [9,38] (λmv c wx=>∃(i:Nat) (sb':List Bool) (more:Bool),i≤rules.length∧c=.int .i64 (i:Int)∧mv=.bool more∧Hid (Ux wA wx bs sb')∧Hid (yE ns rules sb1 i 0 sb' more)) (λ_ c _=>rules.length-(intOf c).toNat)
    case atStart=>exact⟨0,sb1,false,by omega,rfl,rfl,HA1,HAT⟩
    case round=>
     obtain⟨i,sb',more,hi',rfl,rfl,HA2,MP⟩:=hrel;obtain⟨wr2,hwr2⟩:∃x,x=wr:=⟨_,rfl⟩;subst hwr2;by_cases hlt':i<rules.length
     ·go_wp2_with fail
      go_loopw [9,43] (λmv c wx=>∃(j:Nat) (sc:List Bool) (mo:Bool),j≤rules.length∧c=.int .i64 (j:Int)∧mv=.bool mo∧Hid (Ux wA wx bs sc)∧Hid (yE ns rules sb1 i j sc mo)) (λ_ c _=>rules.length-(intOf c).toNat)
      case atStart=>exact⟨0,sb',more,by omega,rfl,rfl,HA2,MP⟩
      case round=>
       obtain⟨j,sc,mo,hj,rfl,rfl,Yq,Wq⟩:=hrel;obtain⟨wr3,Ny⟩:∃x,x=wr:=⟨_,rfl⟩;subst Ny;by_cases hjlt:j<rules.length
       ·have alc:=Wq.out.inv.len;obtain⟨xj,hxj⟩:∃x,sc[j]?=some x:=⟨_,List.getElem?_eq_getElem (by omega)⟩;obtain⟨xi,hxi⟩:∃x,sc[i]?=some x:=⟨_,List.getElem?_eq_getElem (by omega)⟩;have hml:=HS.out.aaV;obtain⟨bi,hbi⟩:∃x,OJ[i]?=some x:=⟨_,List.getElem?_eq_getElem (by omega)⟩;obtain⟨bj,hbj⟩:∃x,OJ[j]?=some x:=⟨_,List.getElem?_eq_getElem (by omega)⟩;have hri:=List.getElem?_eq_getElem hlt';have hrj:=List.getElem?_eq_getElem hjlt;obtain⟨pg,ady,rfl,hci⟩:=aH.at HRW.out (k:=i) (r:=[.map (some bi)]) (by simp[hbi]);obtain⟨_,_,hpp,hcj⟩:=aH.at HRW.out (k:=j) (r:=[.map (some bj)]) (by simp[hbj]);cases hpp;have hpg:=HPB.out pg rfl;have x1:=Yq.out.bools.cell hxj;have x2:=Yq.out.bools.cell hxi;have x3:wr3.cell? ⟨pg,ady+i,none⟩=some (.map (some bi)):=Yq.out.kept.cell hpg (by have:=hci 0 _ rfl;simpa using this);have x4:wr3.cell? ⟨pg,ady+j,none⟩=some (.map (some bj)):=Yq.out.kept.cell hpg (by have:=hcj 0 _ rfl;simpa using this);have y2:=Yq.out.bools.free i;have HXI:=hid hxi;have HXJ:=hid hxj;have HMI:=hid (HS.out.maps i bi _ hbi hri).1;have HMJ:=hid (HS.out.maps j bj _ hbj hrj).1;have HAM:=hid (Yp HN.out hri hrj);clear hci hcj hri hrj hbi hbj hxi hxj hml alc;cases xj with
        | false=>
         have Eo:=hid (Wq.out.miss (λh=>by rw[HXJ.out]at h;cases h));go_wp2_with fail
         go_quiet (fail)
         go_wp2_with fail
         go_roundw
         case measure=>simp[intOf];omega
         case rel=>exact⟨j+1,sc,mo,by omega,by go_num,rfl,hid (Yq.out.quiet ((Kept.refl _ _).drewN _)),Eo⟩
        | true=>
         cases xi with
         | true=>
          have Eo:=hid (Wq.out.miss (λ_ h=>by rw[HXI.out]at h;cases h));go_wp2_with fail
          go_quiet (fail)
          go_wp2_with fail
          go_roundw
          case measure=>simp[intOf];omega
          case rel=>exact⟨j+1,sc,mo,by omega,by go_num,rfl,hid (Yq.out.quiet ((Kept.refl _ _).drewN _)),Eo⟩
         | false=>
          obtain⟨R,HR0⟩:∃x,Hid (meets ns rules i j=x):=⟨_,hid rfl⟩;have HC0:Hid (∀wz,Kept (λ_=>False) wr3 wz→Calls Tryz.prog 44 #[.map (some bi),.map (some bj)] wz λe w'=>e=.returned (.bool R)∧Kept (λ_=>False) wr3 w'):=hid (λwz hz=>by
           have hkz:=Yq.out.kept.trans (hz.mono (T:=(· = bs)) (λ_ _ h=>h.elim));have:=Yj _ _ bi bj wz (HMI.out.kept hkz (HMI.out.Gx HS.out.bools)) (HMJ.out.kept hkz (HMJ.out.Gx HS.out.bools));rw[HAM.out,HR0.out]at this;exact this.mono λe w' ⟨h1,h2⟩=>⟨h1,hz.trans h2⟩)
          go_upto_region 18 with fail
          go_region_held3 (λw'=>w'.cell? ⟨bs,j,none⟩=some (.bool true)∧w'.cell? ⟨bs,i,none⟩=some (.bool false)∧w'.cell? ⟨pg,ady+i,none⟩=some (.map (some bi))∧w'.cell? ⟨pg,ady+j,none⟩=some (.map (some bj))) (first | exact⟨hk9.cell id x1,hk9.cell id x2,hk9.cell id x3,hk9.cell id x4⟩ | go_keep)
           ((first
            | (go_at_call 44;refine(HC0.out _ (by first | exact(Kept.refl _ wr3).drew | exact Kept.refl _ wr3)).mono ?_;rintro e w9 ⟨rfl,hk9⟩)))
          have HA9:=hid (Yq.out.quiet hk9);have z2:=HA9.out.bools.cell HXI.out;have z9:=HA9.out.bools.free i;clear hk9 x1 x2 x3 x4 y2;cases R with
          | false=>
           have Eo:=hid (Wq.out.miss (λ_ _=>HR0.out));go_wp2_with fail
           go_roundw
           case measure=>simp[intOf];omega
           case rel=>exact⟨j+1,sc,mo,by omega,by go_num,rfl,HA9,Eo⟩
          | true=>
           have Eo:=hid (Wq.out.hit HXJ.out HXI.out HR0.out);go_wp2_with fail
           go_roundw
           case measure=>simp[intOf];omega
           case rel=>exact⟨j+1,_,true,by omega,by go_num,rfl,hid ⟨HA9.out.bools.put i true,HA9.out.kept.setCell (p:=⟨bs,i,none⟩) (.inl rfl) _⟩,Eo⟩
       obtain rfl:j=rules.length:=by omega
       have Eo:=hid Wq.out.row;go_wp2_with fail
       go_roundw
       case measure=>simp[intOf];omega
       case rel=>exact⟨i+1,sc,mo,by omega,by go_num,rfl,Yq,Eo⟩
     obtain rfl:i=rules.length:=by omega
     cases more with
     | true=>
      have hlf:=MP.out.left rfl;go_wp2_with fail
      go_roundg (pK sb'+1)
      case measure=>omega
      case rel=>exact⟨true,sb',rfl,rfl,HA2,hid MP.out.inv,hid (λh=>by cases h)⟩
     | false=>
      go_wp2_with fail
      go_roundg 0
      case measure=>omega
      case rel=>exact⟨false,sb',rfl,rfl,HA2,hid MP.out.inv,hid (λ_=>MP.out.done)⟩
def kM(w:World)(b:Nat)(l:List B):Prop:=w.heap[b]?=some (.cells (l.map λx=>Value.string (str x)).toArray 9 (0,0))
theorem kM.cell{w:World}{b:Nat}{l:List B}(h:kM w b l){k:Nat}{x:B}(hk:l[k]?=some x):w.cell? ⟨b,k,none⟩=some (.string (str x)):=ah h k (by simp[hk])
theorem kM.free{w:World}{b:Nat}{l:List B}(h:kM w b l)(k:Nat):w.frozen? ⟨b,k,none⟩=false:=aF h k
theorem kM.put{w:World}{b:Nat}{l:List B}(h:kM w b l)(k:Nat)(x:B):kM (w.setCell ⟨b,k,none⟩ (.string (str x))) b (l.set k x):=by
 have:=aW h k (.string (str x));simpa [kM,List.map_set] using this
theorem kM.kept{w w':World}{b:Nat}{l:List B}{S:Nat→Prop}(h:kM w b l)(hk:Kept S w w')(hs:¬S b):kM w' b l:=hk.heap hs h
theorem Yr(w:World)(n:Nat)(hn:n≤1073741824):∃w',(Instr.makeSlice 58 (.int .i64 (n:Int)) (.int .i64 (n:Int))).run Tryz.prog w=.ok (.slice (some ⟨w.heap.size,0,none⟩) n n) w'∧kM w' w.heap.size (List.replicate n [])∧Kept (λ_=>False) w w':=by
 obtain⟨i,hi,hz0,hz1,hz2⟩:=info_parts GI;obtain⟨w',h1,h2,h3⟩:=run_make_full (P:=Tryz.prog) w w.heap.size 58 9 i (.string ⟨#[]⟩) 1 Tryz.underlying58 hi hz0 hz1 .i64 .i64 n (by rw[hz2];omega) (by unfold maxLen;omega) (Nat.le_refl _);refine⟨w',h1,?_,(Kept.refl _ w).grown h3 (λk hk=>by cases hk)⟩;rcases h2.2 with⟨hx,_⟩ | ⟨g,cap,cur,hv,hb,hg,hnc,hcm,hcs,htake⟩
 ·cases hx
 cases hv;have hcl:cur.toList.length=n*1:=by simpa using hcs
 rw[List.take_of_length_le (by omega)]at htake;have:cur=((List.replicate n ([]:B)).map λx=>Value.string (str x)).toArray:=by
  apply Array.ext';rw[htake];have e:(Value.string ⟨#[]⟩).cells=#[.string ⟨#[]⟩]:=rfl;rw[e];apply List.ext_getElem
  ·simp[size_madeCells]
  intro j h5 h6;simp[madeCells,Nat.mod_one,str]
 unfold kM;rw[←this];exact hg
theorem l7{ops:Array Oper}{rest:List Oper}{o:Oper}{a:Act}{w:World}{Q:Exit→Act→World→Prop}(hw:Region.wanted o (yielded ops a.tmps)=true)(s x:Operand)(t u:TypeId)
  (ho:o.op=.call { callee:=.builtin .append,args:=#[s,x],argTypes:=#[t,u] }) (sv xv v:Value) (hs:a.eval s=sv) (hx:a.eval x=xv) (w':World)
  (hr:(Builtin.append_ #[t,u] o.type #[sv,xv]).run Tryz.prog w=.ok v w') (h:wpList Tryz.prog ops Q rest (a.put o.dst v) w'):wpList Tryz.prog ops Q (o::rest) a w:=
 wpList_step λK hK=>by
  rw[if_pos hw];unfold Oper.wp execOp;simp only[ho,resolve,invoke,builtin,Sem.run_bind,Sem.run_pure,Result.andThen_ok,List.map_toArray,List.map_cons,List.map_nil,hs,hx,hr];exact hK _ _ h
def kC(w:World)(base:Nat)(v:Value)(l:B):Prop:=w.ownsRow base 5 1 v l.length (l.map λb=>Value.int .u8 (b.toNat:Int))
theorem kC.nil(w:World)(base:Nat):kC w base (.slice none 0 0) []:=World.ownsRow_nil _ _ _ _
theorem kC.form{w:World}{base:Nat}{v:Value}{l:B}(h:kC w base v l):∃a c,v=.slice a l.length c:=dw (n:=l.length) h
theorem adz:(Tryz.prog.info? 5).map (λi=>(i.zero,i.size,i.bytes))=some (some (.int .u8 0),1,1):=by kernel_rfl
theorem kC.push{w0 w:World}{base:Nat}{v:Value}{l:B}(h:kC w base v l)(hk:Kept (λ_=>False) w0 w)(hb:base=w0.heap.size)(x:B)(hx:l.length+x.length≤1000000000):
  ∃a' c' w',(Builtin.append_ #[102,9] 102 #[v,.string (str x)]).run Tryz.prog w=.ok (.slice a' (l++x).length c') w'∧kC w' base (.slice a' (l++x).length c') (l++x)∧Kept (λ_=>False) w0 w'∧Kept (λk=>v.ownBlock=some k) w w':=by
 obtain⟨i0,hi0,hz0,hz1,hz2⟩:=info_parts adz;have hsz:(str x).size=x.length:=lG x;obtain⟨v',w',h1,h2,h3,_⟩:=Lib.run_append_own_string (P:=Tryz.prog) w base 102 9 102 5 i0 Tryz.underlying102 Tryz.underlying9 hi0 hz0 hz1 hz2 v l.length _ h (str x) (by rw[hsz];unfold maxLen;omega) (by rw[hsz];omega) (by have:=hk.size;omega);have h2':kC w' base v' (l++x):=by
  unfold kC;rw[List.length_append,List.map_append];rw[hsz]at h2;exact h2
 obtain⟨a',c',rfl⟩:=h2'.form;exact⟨a',c',w',h1,h2',hk.grown h3 (λk hk'=>.inr (by have:=(World.ownsRow.lt h k hk').1;omega)),(Kept.refl _ w).grown h3 (λk hk=>.inl hk)⟩
theorem kC.text{w:World}{base:Nat}{v:Value}{l:B}(h:kC w base v l):(convert 102 9 v).run Tryz.prog w=.ok (.string (str l)) w:=by
 have hown:w.ownsRow base 5 1 v l.length (l.map λb=>[Value.int .u8 (b.toNat:Int)]).flatten:=by rw[Bj];exact h
 have hrow:=aS (rows:=l.map λb=>[Value.int .u8 (b.toNat:Int)]) (by intro r hr;obtain⟨b,_,rfl⟩:=List.mem_map.1 hr;rfl) (by simp) hown;obtain⟨a,c,rfl,h1,h2,h3⟩:=hrow;rw[List.length_map];cases l with
 | nil=>
  cases a with
  | none=>exact run_convert_bytes_nil w 102 5 Tryz.underlying102 Tryz.underlying5 0 c 9 Tryz.underlying9
  | some p=>
   obtain⟨pb,po,ps⟩:=p;rcases h.2 with⟨hh,_⟩ | ⟨g,cap,cur,hv,_⟩
   ·cases hh
   cases hv;exact run_convert_bytes_arg w 102 5 Tryz.underlying102 Tryz.underlying5 _ _ 0 c [] rfl (λi hi=>by omega) 9 Tryz.underlying9
 | cons x xs=>
  obtain⟨b,o,rfl,h4⟩:=h3 (by simp);have:=run_convert_bytes_arg (P:=Tryz.prog) w 102 5 Tryz.underlying102 Tryz.underlying5 b o (x::xs).length c ((x::xs).map λb=>(b.toNat:Int)) (by simp) (λi hi=>by
   have hx:=List.getElem?_eq_getElem hi;have h5:=h4 i [Value.int .u8 ((((x::xs)[i]).toNat:Nat):Int)] (by rw[List.getElem?_map,hx];rfl) 0 _ rfl;rw[Nat.mul_one,Nat.add_zero]at h5;rw[h5,List.getD_eq_getElem?_getD,List.getElem?_map,hx]
   rfl) 9 Tryz.underlying9
  rw[this];congr 2;unfold strOfNums str;congr 2;rw[List.map_map]
  conv=>rhs;rw[←List.map_id (x::xs)]
  refine List.map_congr_left λb _=>?_
  simp
end Go.Proofs.YtplbdlgmjehckacGreatDoor

