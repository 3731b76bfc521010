/-
  Plain Lean, no program: texts as lists of bytes.
-/
import Derived.Lib.Index
import Derived.Lib.Strings
import Derived.Laws.Strings
namespace Go.Proofs.Ytplbdlgmjehckab
set_option linter.unusedVariables false
set_option linter.unusedSimpArgs false

abbrev B := List UInt8

/-- a text as the model holds it -/
def str (l : B) : ByteArray := ⟨l.toArray⟩
@[go_sem, simp] theorem str_toList (l : B) : (str l).toList = l := ByteArray.toList_mk l
@[go_sem, simp] theorem str_data (l : B) : (str l).data.toList = l := rfl
@[go_sem, simp] theorem str_size (l : B) : (str l).size = l.length := rfl
theorem eq_str (s : ByteArray) : s = str s.data.toList := rfl
theorem str_inj {a b : B} (h : str a = str b) : a = b := by
  have := congrArg (fun s : ByteArray => s.data.toList) h; simpa using this
@[go_sem] theorem str_extract (l : B) (a b : Nat) : (str l).extract a b = str ((l.drop a).take (b - a)) := Lib.extract_eq (str l) a b
@[go_sem] theorem take_rest (l : B) (a : Nat) : (l.drop a).take (l.length - a) = l.drop a := List.take_of_length_le (by simp)
theorem str_append (a b : B) : str a ++ str b = str (a ++ b) := by
  unfold str; apply ByteArray.ext; simp
@[go_sem] theorem str_append_mk (a b : B) : str a ++ ByteArray.mk b.toArray = str (a ++ b) := str_append a b
@[go_sem] theorem mk_append_str (a b : B) : ByteArray.mk a.toArray ++ str b = str (a ++ b) := str_append a b
attribute [go_sem] str_append
theorem str_lt {l : B} {k : Nat} (h : k < (str l).size) : k < l.length := h
@[go_sem] theorem str_get (l : B) (k : Nat) (h : k < (str l).size) : (str l)[k] = l[k]'(str_lt h) := rfl

/-! ### letters -/
def isLow (c : UInt8) : Bool := decide (97 ≤ c.toNat) && decide (c.toNat ≤ 122)
def isMore (c : UInt8) : Bool := isLow c || (decide (48 ≤ c.toNat) && decide (c.toNat ≤ 57)) || decide (c.toNat = 45)

/-- how many bytes of a name stand at a text's beginning -/
def nameLen : B → Nat
  | [] => 0
  | c :: t => if isLow c then 1 + (t.takeWhile isMore).length else 0

def named (s : B) : Bool := decide (1 ≤ s.length) && decide (s.length ≤ 20) && decide (nameLen s = s.length)

/-- where a text stands first in another -/
def findSub (sub : B) : B → Option Nat
  | [] => if sub.isEmpty then some 0 else none
  | c :: t => if sub.isPrefixOf (c :: t) then some 0 else (findSub sub t).map (· + 1)

theorem index_findSub (sub : B) : ∀ s : B, Lib.index s sub = match findSub sub s with | none => -1 | some k => (k : Int)
  | [] => by
    simp only [Lib.index, findSub]
    split <;> rfl
  | c :: t => by
    simp only [Lib.index, findSub]
    split
    · rfl
    · rw [index_findSub sub t]
      cases h : findSub sub t with
      | none => simp
      | some k =>
        have : ¬ ((k : Int) == -1) = true := by simp
        simp [this]

theorem findSub_le (sub : B) : ∀ (s : B) (k : Nat), findSub sub s = some k → k + sub.length ≤ s.length
  | [], k, h => by
    simp only [findSub] at h
    split at h
    · rename_i he; cases h; simp at he; subst he; simp
    · cases h
  | c :: t, k, h => by
    simp only [findSub] at h
    split at h
    · rename_i he
      cases h
      have := (List.isPrefixOf_iff_prefix.1 he).length_le
      omega
    · cases hf : findSub sub t with
      | none => rw [hf] at h; cases h
      | some j =>
        rw [hf] at h
        cases h
        have := findSub_le sub t j hf
        simp only [List.length_cons]; omega

theorem takeWhile_len_le (p : UInt8 → Bool) (l : B) : (l.takeWhile p).length ≤ l.length := (List.takeWhile_prefix p).length_le

theorem nameLen_le (l : B) : nameLen l ≤ l.length := by
  cases l with
  | nil => simp [nameLen]
  | cons c t =>
    simp only [nameLen]
    split
    · have := takeWhile_len_le isMore t; simp only [List.length_cons]; omega
    · omega

/-- a byte that belongs to a name, at place j of it -/
def inName (j : Nat) (c : UInt8) : Bool := if j = 0 then isLow c else isMore c

theorem nameLen_in (l : B) (j : Nat) (h : j < nameLen l) : ∃ h' : j < l.length, inName j (l[j]) = true := by
  cases l with
  | nil => simp [nameLen] at h
  | cons c t =>
    simp only [nameLen] at h
    split at h
    · rename_i hc
      cases j with
      | zero => exact ⟨by simp, by simpa [inName] using hc⟩
      | succ j =>
        have h1 : j < (t.takeWhile isMore).length := by omega
        have h2 := takeWhile_len_le isMore t
        refine ⟨by simp only [List.length_cons]; omega, ?_⟩
        have hp := List.takeWhile_prefix isMore (l := t)
        have e : t[j]'(by omega) = (t.takeWhile isMore)[j] := (List.IsPrefix.getElem hp h1).symm
        have hm : isMore ((t.takeWhile isMore)[j]) = true := by
          have := List.all_takeWhile (p := isMore) (l := t)
          rw [List.all_eq_true] at this
          exact this _ (List.getElem_mem h1)
        simp only [inName, List.getElem_cons_succ]
        rw [e]; simpa using hm
    · omega

theorem takeWhile_stop (p : UInt8 → Bool) : ∀ (l : B) (h : (l.takeWhile p).length < l.length), p (l[(l.takeWhile p).length]) = false
  | [], h => by simp at h
  | c :: t, h => by
    by_cases hc : p c = true
    · simp only [List.takeWhile_cons, hc, if_true, List.length_cons] at h ⊢
      simp only [List.getElem_cons_succ]
      exact takeWhile_stop p t (by omega)
    · simp only [List.takeWhile_cons, hc] at h ⊢
      simpa using hc

theorem takeWhile_in (p : UInt8 → Bool) (l : B) (j : Nat) (h : j < (l.takeWhile p).length) : ∃ h' : j < l.length, p (l[j]) = true := by
  have h2 := takeWhile_len_le p l
  refine ⟨by omega, ?_⟩
  have e : l[j]'(by omega) = (l.takeWhile p)[j] := (List.IsPrefix.getElem (List.takeWhile_prefix p (l := l)) h).symm
  have := List.all_takeWhile (p := p) (l := l)
  rw [List.all_eq_true] at this
  rw [e]; exact this _ (List.getElem_mem h)

theorem takeWhile_take (p : UInt8 → Bool) (l : B) : l.take (l.takeWhile p).length = l.takeWhile p := (List.prefix_iff_eq_take.1 (List.takeWhile_prefix p)).symm

theorem nameLen_out (l : B) (h : nameLen l < l.length) : inName (nameLen l) (l[nameLen l]) = false := by
  cases l with
  | nil => simp at h
  | cons c t =>
    by_cases hc : isLow c = true
    · have e : nameLen (c :: t) = (t.takeWhile isMore).length + 1 := by simp [nameLen, hc, Nat.add_comm]
      have h2 : (t.takeWhile isMore).length < t.length := by rw [e] at h; simpa using h
      have := takeWhile_stop isMore t h2
      have e2 : (c :: t)[nameLen (c :: t)] = t[(t.takeWhile isMore).length] := by simp [e]
      rw [e2, e]; simpa [inName] using this
    · have e : nameLen (c :: t) = 0 := by simp [nameLen, hc]
      have e2 : (c :: t)[nameLen (c :: t)] = c := by simp [e]
      rw [e2, e]; simpa [inName] using hc

/-- 'inName' in numbers, as the walk's tests have it -/
theorem inName_yes {j : Nat} {c : UInt8} (h : inName j c = true) :
    (97 ≤ (c.toNat : Int) ∧ (c.toNat : Int) ≤ 122) ∨ (0 < j ∧ (48 ≤ (c.toNat : Int) ∧ (c.toNat : Int) ≤ 57)) ∨ (0 < j ∧ (c.toNat : Int) = 45) := by
  unfold inName at h
  split at h
  · simp [isLow] at h; omega
  · simp [isMore, isLow] at h; omega
theorem inName_no {j : Nat} {c : UInt8} (h : inName j c = false) :
    ((c.toNat : Int) < 97 ∨ 122 < (c.toNat : Int)) ∧ (j = 0 ∨ (((c.toNat : Int) < 48 ∨ 57 < (c.toNat : Int)) ∧ (c.toNat : Int) ≠ 45)) := by
  unfold inName at h
  split at h
  · simp [isLow] at h; omega
  · simp [isMore, isLow] at h; omega

end Go.Proofs.Ytplbdlgmjehckab
