/-
  Lemmas for the claims of this seat: the program's functions walked, and plain laws. In this order: Txt PgSpec ShSpec ShLoc.
-/
import Derived.Lib.Index
import Derived.Lib.Strings
import Derived.Laws.Strings
namespace Go.Proofs.YtplbdlgmjehckadGreatDoor
set_option linter.unusedVariables false
set_option linter.unusedSimpArgs false
abbrev B := List UInt8
def str (l : B) : ByteArray := ⟨l.toArray⟩
@[go_sem, simp] theorem str_toList (l : B) : (str l).toList = l := ByteArray.toList_mk l
@[go_sem, simp] theorem str_data (l : B) : (str l).data.toList = l := rfl
@[go_sem, simp] theorem str_size (l : B) : (str l).size = l.length := rfl
theorem eq_str (s : ByteArray) : s = str s.data.toList := rfl
theorem str_inj {a b : B} (h : str a = str b) : a = b := by
  have := congrArg (fun s : ByteArray => s.data.toList) h; simpa using this
@[go_sem] theorem str_extract (l : B) (a b : Nat) : (str l).extract a b = str ((l.drop a).take (b - a)) := Lib.extract_eq (str l) a b
@[go_sem] theorem take_rest (l : B) (a : Nat) : (l.drop a).take (l.length - a) = l.drop a := List.take_of_length_le (by simp)
theorem str_append (a b : B) : str a ++ str b = str (a ++ b) := by
  unfold str; apply ByteArray.ext; simp
@[go_sem] theorem str_append_mk (a b : B) : str a ++ ByteArray.mk b.toArray = str (a ++ b) := str_append a b
@[go_sem] theorem mk_append_str (a b : B) : ByteArray.mk a.toArray ++ str b = str (a ++ b) := str_append a b
attribute [go_sem] str_append
theorem str_lt {l : B} {k : Nat} (h : k < (str l).size) : k < l.length := h
@[go_sem] theorem str_get (l : B) (k : Nat) (h : k < (str l).size) : (str l)[k] = l[k]'(str_lt h) := rfl
def isLow (c : UInt8) : Bool := decide (97 ≤ c.toNat) && decide (c.toNat ≤ 122)
def isMore (c : UInt8) : Bool := isLow c || (decide (48 ≤ c.toNat) && decide (c.toNat ≤ 57)) || decide (c.toNat = 45)
def nameLen : B → Nat
  | [] => 0
  | c :: t => if isLow c then 1 + (t.takeWhile isMore).length else 0
def named (s : B) : Bool := decide (1 ≤ s.length) && decide (s.length ≤ 20) && decide (nameLen s = s.length)
def findSub (sub : B) : B → Option Nat
  | [] => if sub.isEmpty then some 0 else none
  | c :: t => if sub.isPrefixOf (c :: t) then some 0 else (findSub sub t).map (· + 1)
theorem index_findSub (sub : B) : ∀ s : B, Lib.index s sub = match findSub sub s with | none => -1 | some k => (k : Int)
  | [] => by
    simp only [Lib.index, findSub]
    split <;> rfl
  | c :: t => by
    simp only [Lib.index, findSub]
    split
    · rfl
    · rw [index_findSub sub t]
      cases h : findSub sub t with
      | none => simp
      | some k =>
        have : ¬ ((k : Int) == -1) = true := by simp
        simp [this]
theorem findSub_le (sub : B) : ∀ (s : B) (k : Nat), findSub sub s = some k → k + sub.length ≤ s.length
  | [], k, h => by
    simp only [findSub] at h
    split at h
    · rename_i he; cases h; simp at he; subst he; simp
    · cases h
  | c :: t, k, h => by
    simp only [findSub] at h
    split at h
    · rename_i he
      cases h
      have := (List.isPrefixOf_iff_prefix.1 he).length_le
      omega
    · cases hf : findSub sub t with
      | none => rw [hf] at h; cases h
      | some j =>
        rw [hf] at h
        cases h
        have := findSub_le sub t j hf
        simp only [List.length_cons]; omega
theorem takeWhile_len_le (p : UInt8 → Bool) (l : B) : (l.takeWhile p).length ≤ l.length := (List.takeWhile_prefix p).length_le
theorem nameLen_le (l : B) : nameLen l ≤ l.length := by
  cases l with
  | nil => simp [nameLen]
  | cons c t =>
    simp only [nameLen]
    split
    · have := takeWhile_len_le isMore t; simp only [List.length_cons]; omega
    · omega
def inName (j : Nat) (c : UInt8) : Bool := if j = 0 then isLow c else isMore c
theorem nameLen_in (l : B) (j : Nat) (h : j < nameLen l) : ∃ h' : j < l.length, inName j (l[j]) = true := by
  cases l with
  | nil => simp [nameLen] at h
  | cons c t =>
    simp only [nameLen] at h
    split at h
    · rename_i hc
      cases j with
      | zero => exact ⟨by simp, by simpa [inName] using hc⟩
      | succ j =>
        have h1 : j < (t.takeWhile isMore).length := by omega
        have h2 := takeWhile_len_le isMore t
        refine ⟨by simp only [List.length_cons]; omega, ?_⟩
        have hp := List.takeWhile_prefix isMore (l := t)
        have e : t[j]'(by omega) = (t.takeWhile isMore)[j] := (List.IsPrefix.getElem hp h1).symm
        have hm : isMore ((t.takeWhile isMore)[j]) = true := by
          have := List.all_takeWhile (p := isMore) (l := t)
          rw [List.all_eq_true] at this
          exact this _ (List.getElem_mem h1)
        simp only [inName, List.getElem_cons_succ]
        rw [e]; simpa using hm
    · omega
theorem takeWhile_stop (p : UInt8 → Bool) : ∀ (l : B) (h : (l.takeWhile p).length < l.length), p (l[(l.takeWhile p).length]) = false
  | [], h => by simp at h
  | c :: t, h => by
    by_cases hc : p c = true
    · simp only [List.takeWhile_cons, hc, if_true, List.length_cons] at h ⊢
      simp only [List.getElem_cons_succ]
      exact takeWhile_stop p t (by omega)
    · simp only [List.takeWhile_cons, hc] at h ⊢
      simpa using hc
theorem takeWhile_in (p : UInt8 → Bool) (l : B) (j : Nat) (h : j < (l.takeWhile p).length) : ∃ h' : j < l.length, p (l[j]) = true := by
  have h2 := takeWhile_len_le p l
  refine ⟨by omega, ?_⟩
  have e : l[j]'(by omega) = (l.takeWhile p)[j] := (List.IsPrefix.getElem (List.takeWhile_prefix p (l := l)) h).symm
  have := List.all_takeWhile (p := p) (l := l)
  rw [List.all_eq_true] at this
  rw [e]; exact this _ (List.getElem_mem h)
theorem takeWhile_take (p : UInt8 → Bool) (l : B) : l.take (l.takeWhile p).length = l.takeWhile p := (List.prefix_iff_eq_take.1 (List.takeWhile_prefix p)).symm
theorem nameLen_out (l : B) (h : nameLen l < l.length) : inName (nameLen l) (l[nameLen l]) = false := by
  cases l with
  | nil => simp at h
  | cons c t =>
    by_cases hc : isLow c = true
    · have e : nameLen (c :: t) = (t.takeWhile isMore).length + 1 := by simp [nameLen, hc, Nat.add_comm]
      have h2 : (t.takeWhile isMore).length < t.length := by rw [e] at h; simpa using h
      have := takeWhile_stop isMore t h2
      have e2 : (c :: t)[nameLen (c :: t)] = t[(t.takeWhile isMore).length] := by simp [e]
      rw [e2, e]; simpa [inName] using this
    · have e : nameLen (c :: t) = 0 := by simp [nameLen, hc]
      have e2 : (c :: t)[nameLen (c :: t)] = c := by simp [e]
      rw [e2, e]; simpa [inName] using hc
theorem inName_yes {j : Nat} {c : UInt8} (h : inName j c = true) :
    (97 ≤ (c.toNat : Int) ∧ (c.toNat : Int) ≤ 122) ∨ (0 < j ∧ (48 ≤ (c.toNat : Int) ∧ (c.toNat : Int) ≤ 57)) ∨ (0 < j ∧ (c.toNat : Int) = 45) := by
  unfold inName at h
  split at h
  · simp [isLow] at h; omega
  · simp [isMore, isLow] at h; omega
theorem inName_no {j : Nat} {c : UInt8} (h : inName j c = false) :
    ((c.toNat : Int) < 97 ∨ 122 < (c.toNat : Int)) ∧ (j = 0 ∨ (((c.toNat : Int) < 48 ∨ 57 < (c.toNat : Int)) ∧ (c.toNat : Int) ≠ 45)) := by
  unfold inName at h
  split at h
  · simp [isLow] at h; omega
  · simp [isMore, isLow] at h; omega
end Go.Proofs.YtplbdlgmjehckadGreatDoor

namespace Go.Proofs.YtplbdlgmjehckadGreatDoor
set_option linter.unusedVariables false
set_option linter.unusedSimpArgs false
structure PAttr where
  name : B
  val : B
  lo : Int
  hi : Int
  deriving DecidableEq
structure PNode where
  name : B
  parent : Int
  attrs : List PAttr
  nameEnd : Int
  inF : Int
  inT : Int
  deriving DecidableEq
structure Flt where
  err : Nat
  pos : Nat
  deriving DecidableEq
inductive Ans (α : Type) where
  | bad (f : Flt)
  | ok (a : α)
  deriving DecidableEq
def Ans.then {α β : Type} (a : Ans α) (k : α → Ans β) : Ans β := match a with | .bad f => .bad f | .ok x => k x
@[simp] theorem Ans.bad_then {α β : Type} (f : Flt) (k : α → Ans β) : (Ans.bad f).then k = .bad f := rfl
@[simp] theorem Ans.ok_then {α β : Type} (x : α) (k : α → Ans β) : (Ans.ok x).then k = k x := rfl
def isVal (c : UInt8) : Bool := decide (32 ≤ c.toNat) && decide (c.toNat ≤ 126) && !decide (c.toNat = 34) && !decide (c.toNat = 60) && !decide (c.toNat = 38)
theorem isVal_yes {c : UInt8} (h : isVal c = true) : 32 ≤ (c.toNat : Int) ∧ (c.toNat : Int) ≤ 126 ∧ ((c.toNat : Int) != 34) = true ∧ ((c.toNat : Int) != 60) = true ∧ ((c.toNat : Int) != 38) = true := by
  simp [isVal] at h; simp; omega
theorem isVal_no {c : UInt8} (h : isVal c = false) : (c.toNat : Int) < 32 ∨ (32 ≤ (c.toNat : Int) ∧ 126 < (c.toNat : Int)) ∨
    (32 ≤ (c.toNat : Int) ∧ (c.toNat : Int) ≤ 126 ∧ ((c.toNat : Int) != 34) = false) ∨
    (32 ≤ (c.toNat : Int) ∧ (c.toNat : Int) ≤ 126 ∧ ((c.toNat : Int) != 34) = true ∧ ((c.toNat : Int) != 60) = false) ∨
    (32 ≤ (c.toNat : Int) ∧ (c.toNat : Int) ≤ 126 ∧ ((c.toNat : Int) != 34) = true ∧ ((c.toNat : Int) != 60) = true ∧ ((c.toNat : Int) != 38) = false) := by
  simp [isVal] at h; simp; omega
def pName (l : B) (at_ : Nat) : Ans (B × B × Nat) :=
  if nameLen l = 0 then .bad ⟨2, at_⟩ else if 20 < nameLen l then .bad ⟨7, at_⟩ else .ok (l.take (nameLen l), l.drop (nameLen l), at_ + nameLen l)
def pMust (w l : B) (at_ : Nat) : Ans (B × Nat) := if w.isPrefixOf l then .ok (l.drop w.length, at_ + w.length) else .bad ⟨2, at_⟩
def pVal (l : B) : B := l.takeWhile isVal
def pAttr (as : List PAttr) (l : B) (at_ : Nat) : Ans (PAttr × B × Nat) :=
  (pName (l.drop 1) (at_ + 1)).then fun (nm, l2, at2) =>
  if (as.any fun a => a.name == nm) || as.length == 8 then .bad ⟨if as.length = 8 then 5 else 7, at_ + 1⟩ else
  (pMust [61, 34] l2 at2).then fun (l3, at3) =>
  (pMust [34] (l3.drop (pVal l3).length) (at3 + (pVal l3).length)).then fun (l5, at5) =>
  .ok (⟨nm, pVal l3, (at_ : Int), (at5 : Int)⟩, l5, at5)
def pAttrs : Nat → List PAttr → B → Nat → Ans (List PAttr × B × Nat)
  | 0, as, l, at_ => .bad ⟨2, 0⟩
  | fuel + 1, as, l, at_ =>
    if [32].isPrefixOf l then (pAttr as l at_).then fun (a, l', at') => pAttrs fuel (as ++ [a]) l' at'
    else .ok (as, l, at_)
def pOpen (parent : Int) (deep count : Nat) (l : B) (at_ : Nat) : Ans (PNode × B × Nat) :=
  if 20 < deep then .bad ⟨4, at_⟩ else if count = 120 then .bad ⟨4, at_⟩ else
  (pMust [60] l at_).then fun (l1, at1) =>
  (pName l1 at1).then fun (nm, l2, at2) =>
  (pAttrs (l2.length + 1) [] l2 at2).then fun (as, l3, at3) =>
  (pMust [62] l3 at3).then fun (l4, at4) =>
  .ok (⟨nm, parent, as, at2, 0, 0⟩, l4, at4)
def styleName : B := [115, 116, 121, 108, 101]
def styleEnd : B := [60, 47, 115, 116, 121, 108, 101, 62]
def pInside (items : Int → Nat → List PNode → B → Nat → Ans (List PNode × B × Nat)) (deep : Nat) (ns : List PNode) (n : PNode) (l : B) (at_ : Nat) : Ans (List PNode × B × Nat) :=
  if n.name = styleName then
    match findSub styleEnd l with
    | none => .bad ⟨2, at_ + l.length⟩
    | some e => .ok (ns ++ [{ n with inF := (at_ : Int), inT := ((at_ + e : Nat) : Int) }], l.drop e, at_ + e)
  else items (ns.length : Int) (deep + 1) (ns ++ [n]) l at_
def pElem (items : Int → Nat → List PNode → B → Nat → Ans (List PNode × B × Nat)) (parent : Int) (deep : Nat) (ns : List PNode) (l : B) (at_ : Nat) : Ans (List PNode × B × Nat) :=
  (pOpen parent deep ns.length l at_).then fun (n, l1, at1) =>
  (pInside items deep ns n l1 at1).then fun (ns2, l2, at2) =>
  (pMust ([60, 47] ++ n.name ++ [62]) l2 at2).then fun (l3, at3) => .ok (ns2, l3, at3)
def pTextOk (c : UInt8) : Bool := decide (c.toNat = 10) || (decide (32 ≤ c.toNat) && decide (c.toNat ≤ 126))
def noteBegin : B := [60, 33, 45, 45]
def noteEnd : B := [45, 45, 62]
def pItems : Nat → Int → Nat → List PNode → B → Nat → Ans (List PNode × B × Nat)
  | 0, _, _, _, _, _ => .bad ⟨2, 0⟩
  | fuel + 1, parent, deep, ns, l, at_ =>
    match l with
    | [] => .ok (ns, [], at_)
    | c :: t =>
      if [60, 47].isPrefixOf (c :: t) then .ok (ns, c :: t, at_)
      else if noteBegin.isPrefixOf (c :: t) then
        match findSub noteEnd ((c :: t).drop 4) with
        | none => .bad ⟨2, at_ + (c :: t).length⟩
        | some e => pItems fuel parent deep ns ((c :: t).drop (4 + e + 3)) (at_ + (4 + e + 3))
      else if [60].isPrefixOf (c :: t) then
        (pElem (pItems fuel) parent deep ns (c :: t) at_).then fun (ns', l', at') => pItems fuel parent deep ns' l' at'
      else if pTextOk c then pItems fuel parent deep ns t (at_ + 1)
      else .bad ⟨2, at_⟩
def pParse (s : B) : Ans (List PNode) :=
  if 6000 < s.length then .bad ⟨4, 0⟩ else
  (pItems (s.length + 1) (-1) 1 [] s 0).then fun (ns, l, at_) => if l = [] then .ok ns else .bad ⟨2, at_⟩
def pGet (as : List PAttr) (name : B) : B × Bool :=
  match as.find? (fun a => a.name == name) with
  | some a => (a.val, true)
  | none => ([], false)
def lastWith (l : List PNode) (p : Int) : Nat → Int
  | 0 => -1
  | i + 1 => if (l[i]?).any (fun x => x.parent == p) then (i : Int) else lastWith l p i
def pAhead (l : List PNode) (k : Int) : Int :=
  if k < 0 ∨ (l.length : Int) ≤ k then -1 else
  match l[k.toNat]? with
  | some n => lastWith l n.parent k.toNat
  | none => -1
end Go.Proofs.YtplbdlgmjehckadGreatDoor

namespace Go.Proofs.YtplbdlgmjehckadGreatDoor
set_option linter.unusedVariables false
set_option linter.unusedSimpArgs false
structure PTest where
  kind : Int
  name : B
  val : B
  deriving DecidableEq
structure PPart where
  join : Int
  tests : List PTest
  deriving DecidableEq
abbrev PSel := List PPart
structure PDecl where
  name : B
  val : B
  strong : Bool
  deriving DecidableEq
structure PRule where
  media : B
  sels : List PSel
  decls : List PDecl
  lo : Int
  hi : Int
  deriving DecidableEq
def gapBegin : B := [47, 42]
def gapEnd : B := [42, 47]
def sGaps : Nat → B → Nat → Ans (B × Nat)
  | 0, _, _ => .bad ⟨2, 0⟩
  | f + 1, l, at_ =>
    match l with
    | [] => .ok ([], at_)
    | c :: t =>
      if c.toNat = 32 ∨ c.toNat = 10 then sGaps f t (at_ + 1)
      else if gapBegin.isPrefixOf (c :: t) then
        match findSub gapEnd ((c :: t).drop 2) with
        | none => .bad ⟨2, at_⟩
        | some e => sGaps f ((c :: t).drop (2 + e + 2)) (at_ + (2 + e + 2))
      else .ok (c :: t, at_)
def sGap (l : B) (at_ : Nat) : Ans (B × Nat) := sGaps (l.length + 1) l at_
def sName (l : B) (at_ : Nat) : Ans (B × B × Nat) :=
  if nameLen l = 0 ∨ 20 < nameLen l then .bad ⟨2, at_⟩ else .ok (l.take (nameLen l), l.drop (nameLen l), at_ + nameLen l)
def firstWord : B := [58, 102, 105, 114, 115, 116]
def sAttrTest (l : B) (at_ : Nat) : Ans (PTest × B × Nat) :=
  (sName l at_).then fun (nm, l1, at1) =>
  if nm = styleName then .bad ⟨1, at1⟩ else
  if [61].isPrefixOf l1 then
    (sName (l1.drop 1) (at1 + 1)).then fun (v, l2, at2) =>
    (pMust [93] l2 at2).then fun (l3, at3) => .ok (⟨5, nm, v⟩, l3, at3)
  else (pMust [93] l1 at1).then fun (l3, at3) => .ok (⟨4, nm, []⟩, l3, at3)
def sTest (l : B) (at_ : Nat) : Ans (Option PTest × B × Nat) :=
  if [46].isPrefixOf l then (sName (l.drop 1) (at_ + 1)).then fun (nm, l1, at1) => .ok (some ⟨2, nm, []⟩, l1, at1)
  else if [35].isPrefixOf l then (sName (l.drop 1) (at_ + 1)).then fun (nm, l1, at1) => .ok (some ⟨3, nm, []⟩, l1, at1)
  else if firstWord.isPrefixOf l then .ok (some ⟨6, [], []⟩, l.drop 6, at_ + 6)
  else if [91].isPrefixOf l then (sAttrTest (l.drop 1) (at_ + 1)).then fun (t, l1, at1) => .ok (some t, l1, at1)
  else .ok (none, l, at_)
def sTestsL : Nat → List PTest → Bool → B → Nat → Ans (List PTest × B × Nat)
  | 0, _, _, _, _ => .bad ⟨2, 0⟩
  | f + 1, ts, some_, l, at_ =>
    (sTest l at_).then fun (t, l1, at1) =>
    match t with
    | none => if some_ then .ok (ts, l, at_) else .bad ⟨2, at_⟩
    | some t => if ts.length = 6 then .bad ⟨5, at1⟩ else sTestsL f (ts ++ [t]) true l1 at1
def sHead (l : B) (at_ : Nat) : Ans (List PTest × Bool × B × Nat) :=
  if [42].isPrefixOf l then .ok ([], true, l.drop 1, at_ + 1)
  else if nameLen l = 0 then .ok ([], false, l, at_)
  else (sName l at_).then fun (nm, l1, at1) => .ok ([⟨1, nm, []⟩], true, l1, at1)
def sTests (l : B) (at_ : Nat) : Ans (List PTest × B × Nat) :=
  (sHead l at_).then fun (ts, some_, l1, at1) => sTestsL (l1.length + 1) ts some_ l1 at1
def selEnds (gap : Bool) (l : B) : Bool := !gap || l.isEmpty || [44].isPrefixOf l || [123].isPrefixOf l
def sJoin (l : B) (at_ : Nat) : Ans (Option Int × B × Nat) :=
  (sGap l at_).then fun (l1, at1) =>
  if [62].isPrefixOf l1 then (sGap (l1.drop 1) (at1 + 1)).then fun (l2, at2) => .ok (some 2, l2, at2)
  else if [43].isPrefixOf l1 then (sGap (l1.drop 1) (at1 + 1)).then fun (l2, at2) => .ok (some 3, l2, at2)
  else if selEnds (decide (at_ < at1)) l1 then .ok (none, l1, at1) else .ok (some 1, l1, at1)
def sSelL : Nat → List PPart → B → Nat → Ans (PSel × B × Nat)
  | 0, _, _, _ => .bad ⟨2, 0⟩
  | f + 1, ps, l, at_ =>
    (sJoin l at_).then fun (j, l1, at1) =>
    match j with
    | none => .ok (ps, l1, at1)
    | some j => if ps.length = 6 then .bad ⟨5, at1⟩ else
      (sTests l1 at1).then fun (ts, l2, at2) => sSelL f (ps ++ [⟨j, ts⟩]) l2 at2
def sSel (l : B) (at_ : Nat) : Ans (PSel × B × Nat) :=
  (sTests l at_).then fun (ts, l1, at1) => sSelL (l1.length + 1) [⟨0, ts⟩] l1 at1
def isWord (c : UInt8) : Bool := isLow c || (decide (48 ≤ c.toNat) && decide (c.toNat ≤ 57)) || decide (c.toNat = 35) || decide (c.toNat = 46) || decide (c.toNat = 37) || decide (c.toNat = 45)
def joinW : List B → B
  | [] => []
  | [w] => w
  | w :: ws => w ++ [32] ++ joinW ws
def sValL : Nat → List B → B → Nat → Ans (B × B × Nat)
  | 0, _, _, _ => .bad ⟨2, 0⟩
  | f + 1, ws, l, at_ =>
    let w := l.takeWhile isWord
    if w = [] then (if ws = [] then .bad ⟨2, at_⟩ else .ok (joinW ws, l, at_))
    else if 60 < (joinW (ws ++ [w])).length then .bad ⟨4, at_⟩
    else (sGap (l.drop w.length) (at_ + w.length)).then fun (l1, at1) => sValL f (ws ++ [w]) l1 at1
def sVal (l : B) (at_ : Nat) : Ans (B × B × Nat) := sValL (l.length + 1) [] l at_
def importantWord : B := [105, 109, 112, 111, 114, 116, 97, 110, 116]
def sStrong (l : B) (at_ : Nat) : Ans (Bool × B × Nat) :=
  if [33].isPrefixOf l then
    (pMust importantWord (l.drop 1) (at_ + 1)).then fun (l1, at1) => (sGap l1 at1).then fun (l2, at2) => .ok (true, l2, at2)
  else .ok (false, l, at_)
def sDecl (l : B) (at_ : Nat) : Ans (PDecl × B × Nat) :=
  (sName l at_).then fun (nm, l1, at1) =>
  (sGap l1 at1).then fun (l2, at2) =>
  (pMust [58] l2 at2).then fun (l3, at3) =>
  (sGap l3 at3).then fun (l4, at4) =>
  (sVal l4 at4).then fun (v, l5, at5) =>
  (sStrong l5 at5).then fun (st, l6, at6) => .ok (⟨nm, v, st⟩, l6, at6)
def sDeclsL : Nat → List PDecl → B → Nat → Ans (List PDecl × B × Nat)
  | 0, _, _, _ => .bad ⟨2, 0⟩
  | f + 1, ds, l, at_ =>
    if l.isEmpty || [125].isPrefixOf l then .ok (ds, l, at_)
    else if ds.length = 20 then .bad ⟨5, at_⟩
    else (sDecl l at_).then fun (d, l1, at1) =>
      if [59].isPrefixOf l1 then (sGap (l1.drop 1) (at1 + 1)).then fun (l2, at2) => sDeclsL f (ds ++ [d]) l2 at2
      else .ok (ds ++ [d], l1, at1)
def sDecls (l : B) (at_ : Nat) : Ans (List PDecl × B × Nat) :=
  (sGap l at_).then fun (l1, at1) => sDeclsL (l1.length + 1) [] l1 at1
def sSelsL : Nat → List PSel → B → Nat → Ans (List PSel × B × Nat)
  | 0, _, _, _ => .bad ⟨2, 0⟩
  | f + 1, ss, l, at_ =>
    if ss.length = 8 then .bad ⟨5, at_⟩ else
    (sSel l at_).then fun (x, l1, at1) =>
    if [44].isPrefixOf l1 then (sGap (l1.drop 1) (at1 + 1)).then fun (l2, at2) => sSelsL f (ss ++ [x]) l2 at2
    else .ok (ss ++ [x], l1, at1)
def sRule (media : B) (l : B) (at_ : Nat) : Ans (PRule × B × Nat) :=
  (sSelsL (l.length + 1) [] l at_).then fun (ss, l1, at1) =>
  (pMust [123] l1 at1).then fun (l2, at2) =>
  (sDecls l2 at2).then fun (ds, l3, at3) =>
  (pMust [125] l3 at3).then fun (l4, at4) => .ok (⟨media, ss, ds, (at_ : Int), (at4 : Int)⟩, l4, at4)
def mediaWord : B := [64, 109, 101, 100, 105, 97]
def sMediaHead (l : B) (at_ : Nat) : Ans (B × B × Nat) :=
  (sGap l at_).then fun (l1, at1) =>
  if at1 = at_ then .bad ⟨2, at1⟩ else
  (sName l1 at1).then fun (nm, l2, at2) =>
  (sGap l2 at2).then fun (l3, at3) =>
  (pMust [123] l3 at3).then fun (l4, at4) => .ok (nm, l4, at4)
def sRulesL : Nat → B → List PRule → B → Nat → Ans (List PRule × B × Nat)
  | 0, _, _, _, _ => .bad ⟨2, 0⟩
  | f + 1, media, rs, l, at_ =>
    if l.isEmpty || [125].isPrefixOf l then .ok (rs, l, at_)
    else if media.isEmpty && mediaWord.isPrefixOf l then
      (sMediaHead (l.drop 6) (at_ + 6)).then fun (nm, l1, at1) =>
      (sGap l1 at1).then fun (l2, at2) =>
      (sRulesL f nm rs l2 at2).then fun (rs', l3, at3) =>
      (pMust [125] l3 at3).then fun (l4, at4) =>
      (sGap l4 at4).then fun (l5, at5) => sRulesL f media rs' l5 at5
    else if rs.length = 60 then .bad ⟨5, at_⟩
    else (sRule media l at_).then fun (r, l1, at1) =>
      (sGap l1 at1).then fun (l2, at2) => sRulesL f media (rs ++ [r]) l2 at2
def sParse (s : B) : Ans (List PRule) :=
  if 4000 < s.length then .bad ⟨4, 0⟩ else
  (sGap s 0).then fun (l, at_) =>
  (sRulesL (s.length + 1) [] [] l at_).then fun (rs, l1, at1) => if l1 = [] then .ok rs else .bad ⟨2, at1⟩
def sDeclsOf (s : B) : Ans (List PDecl) :=
  if 4000 < s.length then .bad ⟨4, 0⟩ else
  (sDecls s 0).then fun (ds, l1, at1) => if l1 = [] then .ok ds else .bad ⟨2, at1⟩
def printOne (d : PDecl) : B := d.name ++ [58, 32] ++ d.val ++ (if d.strong then [32, 33] ++ importantWord else [])
def sPrint : List PDecl → B
  | [] => []
  | [d] => printOne d
  | d :: ds => printOne d ++ [59, 32] ++ sPrint ds
end Go.Proofs.YtplbdlgmjehckadGreatDoor

namespace Go.Proofs.YtplbdlgmjehckadGreatDoor
set_option linter.unusedVariables false
set_option linter.unusedSimpArgs false
theorem then_ok {α β : Type} {r : Ans α} {k : α → Ans β} {y : β} (h : r.then k = .ok y) : ∃ x, r = .ok x ∧ k x = .ok y := by
  cases r with
  | bad f => cases h
  | ok x => exact ⟨x, rfl, h⟩
theorem then_of {α β : Type} {r : Ans α} {k : α → Ans β} {x : α} (h : r = .ok x) : r.then k = k x := by rw [h]; rfl
def guardCh (c : UInt8) : Bool := decide (c.toNat = 125) || decide (c.toNat = 123) || decide (c.toNat = 59) || decide (c.toNat = 44)
def free (w : B) : Prop := ∀ c ∈ w, guardCh c = false
structure Same (l m : B) : Prop where
  head : l.head? = m.head?
  word : ∀ w, free w → w.isPrefixOf l = w.isPrefixOf m
theorem Same.refl (l : B) : Same l l := ⟨rfl, fun _ _ => rfl⟩
theorem Same.cons {l m : B} (c : UInt8) (h : Same l m) : Same (c :: l) (c :: m) := by
  refine ⟨rfl, fun w hw => ?_⟩
  cases w with
  | nil => rfl
  | cons x w =>
    simp only [List.isPrefixOf]
    rw [h.word w (fun y hy => hw y (by simp [hy]))]
theorem Same.pre {l m : B} (t : B) (h : Same l m) : Same (t ++ l) (t ++ m) := by
  induction t with
  | nil => exact h
  | cons c t ih => exact ih.cons c
theorem Same.guard {c : UInt8} (hc : guardCh c = true) (l m : B) : Same (c :: l) (c :: m) := by
  refine ⟨rfl, fun w hw => ?_⟩
  cases w with
  | nil => rfl
  | cons x w =>
    have hx := hw x (by simp)
    have : (x == c) = false := by
      rw [beq_eq_false_iff_ne]; rintro rfl; rw [hc] at hx; cases hx
    simp [List.isPrefixOf, this]
theorem Same.nil {m : B} (h : Same [] m) : m = [] := by
  have := h.head
  cases m with
  | nil => rfl
  | cons c m => simp at this
theorem Same.symm {l m : B} (h : Same l m) : Same m l := ⟨h.head.symm, fun w hw => (h.word w hw).symm⟩
theorem one_prefix (c : UInt8) (l : B) : [c].isPrefixOf l = (l.head? == some c) := by
  cases l with
  | nil => rfl
  | cons x l => simp [List.isPrefixOf, Bool.beq_comm]
theorem Same.one {l m : B} (h : Same l m) (c : UInt8) : [c].isPrefixOf l = [c].isPrefixOf m := by rw [one_prefix, one_prefix, h.head]
theorem Same.isEmpty {l m : B} (h : Same l m) : l.isEmpty = m.isEmpty := by
  have := h.head
  cases l <;> cases m <;> simp_all
theorem free_of {w : B} (h : w.all (fun c => !guardCh c) = true) : free w := by
  intro c hc
  have := List.all_eq_true.1 h c hc
  simpa using this
theorem free_gap : free gapBegin := free_of (by decide)
theorem free_first : free firstWord := free_of (by decide)
def Loc {α : Type} (P : B → Nat → Ans (α × B × Nat)) : Prop :=
  ∀ l a v l' a', P l a = .ok (v, l', a') → ∃ t, l = t ++ l' ∧ a' = a + t.length ∧ ∀ m b, Same l' m → P (t ++ m) b = .ok (v, m, b + t.length)
theorem takeWhile_same {p : UInt8 → Bool} (t : B) {l m : B} (h : l.head? = m.head?) (ht : (t ++ l).takeWhile p = t) : (t ++ m).takeWhile p = t := by
  induction t with
  | nil =>
    cases m with
    | nil => rfl
    | cons c m =>
      cases l with
      | nil => simp at h
      | cons x l =>
        simp at h; subst h
        simp only [List.nil_append, List.takeWhile_cons] at ht ⊢
        split at ht
        · cases ht
        · rename_i hp; rw [if_neg hp]
  | cons c t ih =>
    simp only [List.cons_append, List.takeWhile_cons] at ht ⊢
    split at ht
    · rename_i hp
      simp only [hp, if_true]
      congr 1
      exact ih (by simpa using ht)
    · cases ht
theorem nameLen_eq (c : UInt8) (t : B) : nameLen (c :: t) = if isLow c then ((c :: t).takeWhile isMore).length else 0 := by
  simp only [nameLen]
  split
  · rename_i h
    have : isMore c = true := by simp [isMore, h]
    simp [List.takeWhile_cons, this]; omega
  · rfl
theorem nameLen_same {t l m : B} (h : l.head? = m.head?) (hn : nameLen (t ++ l) = t.length) (ht : t ≠ []) : nameLen (t ++ m) = t.length := by
  cases t with
  | nil => exact absurd rfl ht
  | cons c t =>
    simp only [List.cons_append] at hn ⊢
    rw [nameLen_eq] at hn ⊢
    split at hn
    · rename_i hc
      simp only [hc, if_true]
      have h1 : ((c :: (t ++ l)).takeWhile isMore) = c :: t := by
        have hp : ((c :: (t ++ l)).takeWhile isMore) <+: (c :: (t ++ l)) := List.takeWhile_prefix _
        have := List.prefix_iff_eq_take.1 hp
        rw [hn] at this
        rw [this]; simp
      rw [← List.cons_append] at h1 ⊢
      rw [takeWhile_same (c :: t) h h1]
    · simp at hn
theorem name_loc : Loc sName := by
  intro l a v l' a' h
  unfold sName at h
  split at h
  · cases h
  · rename_i hn
    cases h
    have hle := nameLen_le l
    refine ⟨l.take (nameLen l), (List.take_append_drop _ _).symm, by simp; omega, fun m b hs => ?_⟩
    have hl : (l.take (nameLen l)).length = nameLen l := by simp; omega
    have : nameLen (l.take (nameLen l) ++ m) = (l.take (nameLen l)).length := by
      refine nameLen_same hs.head (by rw [List.take_append_drop, hl]) ?_
      intro h0
      rw [h0] at hl; simp at hl; omega
    unfold sName
    rw [this, hl, if_neg hn]
    simp [hl]
inductive IsGap : B → Prop
  | nil : IsGap []
  | one {c : UInt8} {t : B} (h : c.toNat = 32 ∨ c.toNat = 10) (ht : IsGap t) : IsGap (c :: t)
  | note {x t : B} (h : findSub gapEnd (x ++ gapEnd) = some x.length) (ht : IsGap t) : IsGap (gapBegin ++ (x ++ gapEnd) ++ t)
theorem IsGap.app {g h : B} (hg : IsGap g) (hh : IsGap h) : IsGap (g ++ h) := by
  induction hg with
  | nil => exact hh
  | one hc _ ih => exact .one hc ih
  | note hx _ ih => rw [List.append_assoc]; exact .note hx ih
theorem findSub_take {w : B} (hw : w ≠ []) : ∀ {l : B} {e : Nat} (r : B), findSub w l = some e → findSub w (l.take (e + w.length) ++ r) = some e
  | [], e, r, h => by
    simp only [findSub] at h
    split at h
    · rename_i he; simp at he; exact absurd he hw
    · cases h
  | c :: t, e, r, h => by
    have hle := findSub_le w (c :: t) e h
    simp only [findSub] at h
    split at h
    · rename_i hp
      cases h
      have : (c :: t).take (0 + w.length) = w := by
        rw [Nat.zero_add]; exact (List.prefix_iff_eq_take.1 (List.isPrefixOf_iff_prefix.1 hp)).symm
      rw [this]
      cases w with
      | nil => exact absurd rfl hw
      | cons x w =>
        have : (x :: w).isPrefixOf (x :: w ++ r) = true := List.isPrefixOf_iff_prefix.2 (List.prefix_append _ _)
        simp only [List.cons_append, findSub] at this ⊢
        rw [if_pos this]
    · rename_i hp
      cases hf : findSub w t with
      | none => rw [hf] at h; cases h
      | some j =>
        rw [hf] at h; cases h
        have ih := findSub_take hw r hf
        have e1 : (c :: t).take (j + 1 + w.length) = c :: t.take (j + w.length) := by
          rw [show j + 1 + w.length = (j + w.length) + 1 from by omega, List.take_succ_cons]
        rw [e1]
        simp only [List.cons_append, findSub]
        rw [ih]
        have : ¬ w.isPrefixOf (c :: (t.take (j + w.length) ++ r)) = true := by
          intro hq
          apply hp
          have hq' := List.isPrefixOf_iff_prefix.1 hq
          rw [← List.cons_append, ← e1] at hq'
          have h1 : w <+: (c :: t).take (j + 1 + w.length) := List.prefix_of_prefix_length_le hq' (List.prefix_append _ _) (by simp at hle ⊢; omega)
          exact List.isPrefixOf_iff_prefix.2 (h1.trans (List.take_prefix _ _))
        rw [if_neg this]; rfl
theorem findSub_at {w : B} : ∀ {l : B} {e : Nat}, findSub w l = some e → ∃ r, l = l.take e ++ w ++ r
  | [], e, h => by
    simp only [findSub] at h
    split at h
    · rename_i he; cases h; simp at he; subst he; exact ⟨[], rfl⟩
    · cases h
  | c :: t, e, h => by
    simp only [findSub] at h
    split at h
    · rename_i hp
      cases h
      obtain ⟨r, hr⟩ := List.isPrefixOf_iff_prefix.1 hp
      exact ⟨r, by simp [hr]⟩
    · cases hf : findSub w t with
      | none => rw [hf] at h; cases h
      | some j =>
        rw [hf] at h; cases h
        obtain ⟨r, hr⟩ := findSub_at hf
        exact ⟨r, by simp only [List.take_succ_cons, List.cons_append]; rw [← hr]⟩
theorem note_split {t : B} {e : Nat} (hp : gapBegin.isPrefixOf t = true) (hf : findSub gapEnd (t.drop 2) = some e) :
    ∃ x, x.length = e ∧ t = gapBegin ++ (x ++ gapEnd) ++ t.drop (2 + e + 2) ∧ findSub gapEnd (x ++ gapEnd) = some x.length := by
  obtain ⟨r, hr⟩ := List.isPrefixOf_iff_prefix.1 hp
  subst hr
  have h2 : (gapBegin ++ r).drop 2 = r := rfl
  rw [h2] at hf
  obtain ⟨r2, hr2⟩ := findSub_at hf
  have hle := findSub_le _ _ _ hf
  have hx : (r.take e).length = e := by simp [gapEnd] at hle ⊢; omega
  refine ⟨r.take e, hx, ?_, ?_⟩
  · have : (gapBegin ++ r).drop (2 + e + 2) = r2 := by
      rw [show 2 + e + 2 = 2 + (e + 2) from by omega, ← List.drop_drop, h2]
      conv => lhs; rw [hr2]
      rw [List.drop_append]
      simp [hx, gapEnd]
    rw [this, List.append_assoc, ← hr2]
  · have := findSub_take (w := gapEnd) (by simp [gapEnd]) [] hf
    rw [List.append_nil] at this
    have e1 : r.take (e + gapEnd.length) = r.take e ++ gapEnd := by
      conv => lhs; rw [hr2]
      rw [List.take_append_of_le_length (by simp [hx])]
      rw [List.take_of_length_le (by simp [hx])]
    rw [e1] at this
    rw [hx]; exact this
def stops (l : B) : Bool := !(([32] : B).isPrefixOf l) && !(([10] : B).isPrefixOf l) && !(gapBegin.isPrefixOf l)
theorem stops_same {l m : B} (h : Same l m) (hl : stops l = true) : stops m = true := by
  unfold stops at hl ⊢; rw [← h.one, ← h.one, ← h.word _ free_gap]; exact hl
theorem gaps_fuel : ∀ (n : Nat) (l : B) (a f g : Nat), l.length ≤ n → l.length < f → l.length < g → sGaps f l a = sGaps g l a := by
  intro n
  induction n with
  | zero =>
    intro l a f g hn hf hg
    obtain rfl := List.length_eq_zero_iff.1 (Nat.le_zero.1 hn)
    cases f with
    | zero => omega
    | succ f => cases g with
      | zero => omega
      | succ g => rfl
  | succ n ih =>
    intro l a f g hn hf hg
    cases f with
    | zero => omega
    | succ f =>
      cases g with
      | zero => omega
      | succ g =>
        cases l with
        | nil => rfl
        | cons c t =>
          simp only [List.length_cons] at hn hf hg
          simp only [sGaps]
          split
          · exact ih t _ f g (by omega) (by omega) (by omega)
          · split
            · split
              · rfl
              · exact ih _ _ f g (by simp; omega) (by simp; omega) (by simp; omega)
            · rfl
theorem gaps_gap {l : B} {a f : Nat} (h : l.length < f) : sGaps f l a = sGap l a := gaps_fuel l.length l a f _ (Nat.le_refl _) h (by omega)
theorem gap_cons (c : UInt8) (t : B) (a : Nat) : sGap (c :: t) a = if c.toNat = 32 ∨ c.toNat = 10 then sGap t (a + 1) else if gapBegin.isPrefixOf (c :: t) then
    match findSub gapEnd ((c :: t).drop 2) with
    | none => .bad ⟨2, a⟩
    | some e => sGap ((c :: t).drop (2 + e + 2)) (a + (2 + e + 2)) else .ok (c :: t, a) := by
  conv => lhs; unfold sGap
  simp only [List.length_cons, sGaps]
  by_cases h1 : c.toNat = 32 ∨ c.toNat = 10
  · rw [if_pos h1, if_pos h1]; have := @gaps_gap t (a + 1) (t.length + 1) (by omega); exact this
  · rw [if_neg h1, if_neg h1]
    by_cases h2 : gapBegin.isPrefixOf (c :: t) = true
    · rw [if_pos h2, if_pos h2]
      cases hf : findSub gapEnd ((c :: t).drop 2) with
      | none => rfl
      | some e => have := @gaps_gap ((c :: t).drop (2 + e + 2)) (a + (2 + e + 2)) (t.length + 1) (by rw [List.length_drop, List.length_cons]; omega); exact this
    · rw [if_neg h2, if_neg h2]
theorem gap_stop {l : B} (a : Nat) (h : stops l = true) : sGap l a = .ok (l, a) := by
  cases l with
  | nil => rfl
  | cons c t =>
    rw [gap_cons]
    unfold stops at h
    simp [one_prefix] at h
    rw [if_neg (by rintro (h1 | h1); exact h.1.1 (UInt8.toNat_inj.1 h1); exact h.1.2 (UInt8.toNat_inj.1 h1)), if_neg (by simp [h.2])]
theorem gap_note {x : B} (hx : findSub gapEnd (x ++ gapEnd) = some x.length) (l : B) (a : Nat) : sGap (gapBegin ++ (x ++ gapEnd) ++ l) a = sGap l (a + (2 + x.length + 2)) := by
  have e : gapBegin ++ (x ++ gapEnd) ++ l = 47 :: (42 :: ((x ++ gapEnd) ++ l)) := by simp [gapBegin]
  have hd : (47 :: (42 :: ((x ++ gapEnd) ++ l))).drop 2 = (x ++ gapEnd) ++ l := rfl
  have hf : findSub gapEnd ((x ++ gapEnd) ++ l) = some x.length := by
    have := findSub_take (w := gapEnd) (by simp [gapEnd]) l hx
    rw [List.take_of_length_le (by simp)] at this
    exact this
  have hdd : (47 :: (42 :: ((x ++ gapEnd) ++ l))).drop (2 + x.length + 2) = l := by
    rw [show 2 + x.length + 2 = 2 + (x.length + 2) from by omega, ← List.drop_drop, hd, List.append_assoc, List.drop_append]
    simp [gapEnd]
  rw [e, gap_cons, if_neg (by decide), if_pos (by simp [gapBegin, List.isPrefixOf]), hd, hf]
  simp only
  rw [hdd]
theorem gap_of {g : B} (hg : IsGap g) : ∀ (l : B) (a : Nat), sGap (g ++ l) a = sGap l (a + g.length) := by
  induction hg with
  | nil => intro l a; rfl
  | @one c t hc ht ih =>
    intro l a
    rw [List.cons_append, gap_cons, if_pos hc, ih]
    simp only [List.length_cons]; congr 1; omega
  | @note x t hx ht ih =>
    intro l a
    rw [List.append_assoc, gap_note hx, ih]
    congr 1; simp [gapBegin, gapEnd]; omega
theorem gap_inv : ∀ (n : Nat) (l : B) (a : Nat) (l' : B) (a' : Nat), l.length ≤ n → sGap l a = .ok (l', a') → ∃ g, IsGap g ∧ l = g ++ l' ∧ a' = a + g.length ∧ stops l' = true := by
  intro n
  induction n with
  | zero =>
    intro l a l' a' hn h
    obtain rfl := List.length_eq_zero_iff.1 (Nat.le_zero.1 hn)
    cases h
    exact ⟨[], .nil, rfl, rfl, by decide⟩
  | succ n ih =>
    intro l a l' a' hn h
    cases l with
    | nil => cases h; exact ⟨[], .nil, rfl, rfl, by decide⟩
    | cons c t =>
      rw [gap_cons] at h
      split at h
      · rename_i hc
        obtain ⟨g, h1, h2, h3, h4⟩ := ih t (a + 1) l' a' (by simp at hn; omega) h
        exact ⟨c :: g, .one hc h1, by rw [h2]; rfl, by simp [h3]; omega, h4⟩
      · rename_i hc
        split at h
        · rename_i hp
          split at h
          · cases h
          · rename_i e hf
            obtain ⟨x, hx, hsplit, hfx⟩ := note_split hp hf
            obtain ⟨g, h1, h2, h3, h4⟩ := ih _ _ l' a' (by simp at hn ⊢; omega) h
            refine ⟨gapBegin ++ (x ++ gapEnd) ++ g, .note hfx h1, ?_, ?_, h4⟩
            · conv => lhs; rw [hsplit, h2]
              simp
            · rw [h3]; simp [gapBegin, gapEnd]; omega
        · rename_i hp
          cases h
          refine ⟨[], .nil, rfl, rfl, ?_⟩
          have h1 : ¬ c = 32 := fun e => hc (.inl (by rw [e]; rfl))
          have h2 : ¬ c = 10 := fun e => hc (.inr (by rw [e]; rfl))
          unfold stops
          rw [Bool.and_eq_true, Bool.and_eq_true, one_prefix, one_prefix]
          refine ⟨⟨by simp [h1], by simp [h2]⟩, by rw [Bool.not_eq_true] at hp; rw [hp]; rfl⟩
theorem gap_loc {l l' : B} {a a' : Nat} (h : sGap l a = .ok (l', a')) : ∃ g, IsGap g ∧ l = g ++ l' ∧ a' = a + g.length ∧ stops l' = true ∧ ∀ m b, Same l' m → sGap (g ++ m) b = .ok (m, b + g.length) := by
  obtain ⟨g, h1, h2, h3, h4⟩ := gap_inv _ l a l' a' (Nat.le_refl _) h
  exact ⟨g, h1, h2, h3, h4, fun m b hs => by rw [gap_of h1, gap_stop _ (stops_same hs h4)]⟩
theorem must_loc {w l l' : B} {a a' : Nat} (h : pMust w l a = .ok (l', a')) : l = w ++ l' ∧ a' = a + w.length ∧ ∀ m b, pMust w (w ++ m) b = .ok (m, b + w.length) := by
  unfold pMust at h
  split at h
  · rename_i hp
    cases h
    obtain ⟨r, rfl⟩ := List.isPrefixOf_iff_prefix.1 hp
    refine ⟨by simp, rfl, fun m b => ?_⟩
    unfold pMust
    rw [if_pos (List.isPrefixOf_iff_prefix.2 (List.prefix_append _ _))]; simp
  · cases h
theorem prefix_split {w l : B} (h : w.isPrefixOf l = true) : ∃ r, l = w ++ r ∧ l.drop w.length = r := by
  obtain ⟨r, rfl⟩ := List.isPrefixOf_iff_prefix.1 h
  exact ⟨r, rfl, by simp⟩
theorem prefix_pos (w r : B) : w.isPrefixOf (w ++ r) = true := List.isPrefixOf_iff_prefix.2 (List.prefix_append _ _)
end Go.Proofs.YtplbdlgmjehckadGreatDoor

