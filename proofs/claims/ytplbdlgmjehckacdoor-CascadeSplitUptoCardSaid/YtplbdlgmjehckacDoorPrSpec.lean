/-
  Plain Lean, no program: properties (chapter 4), as functions; plain ones are plain.
-/
import Derived.Test.YtplbdlgmjehckacDoorShSpec
namespace Go.Proofs.YtplbdlgmjehckacDoor
set_option linter.unusedVariables false
set_option linter.unusedSimpArgs false

/-- a text, cut at each blank -/
def splitB : B → List B
  | [] => [[]]
  | c :: t => if c = 32 then [] :: splitB t else match splitB t with
    | [] => [[c]]
    | w :: ws => (c :: w) :: ws
theorem splitB_ne (l : B) : splitB l ≠ [] := by
  cases l with
  | nil => simp [splitB]
  | cons c t =>
    simp only [splitB]
    split
    · simp
    · split <;> simp

def edgeName : B := [101, 100, 103, 101]
def edgeTop : B := [101, 100, 103, 101, 45, 116, 111, 112]
def edgeRight : B := [101, 100, 103, 101, 45, 114, 105, 103, 104, 116]
def edgeBottom : B := [101, 100, 103, 101, 45, 98, 111, 116, 116, 111, 109]
def edgeLeft : B := [101, 100, 103, 101, 45, 108, 101, 102, 116]
def edges (a b c d : B) (st : Bool) : List PDecl := [⟨edgeTop, a, st⟩, ⟨edgeRight, b, st⟩, ⟨edgeBottom, c, st⟩, ⟨edgeLeft, d, st⟩]

/-- a declaration's plain ones; none: it is no edge's -/
def pExpand (d : PDecl) : Option (List PDecl) :=
  if d.name = edgeName then
    match splitB d.val with
    | [a] => some (edges a a a a d.strong)
    | [a, b] => some (edges a b a b d.strong)
    | [a, b, c] => some (edges a b c b d.strong)
    | [a, b, c, e] => some (edges a b c e d.strong)
    | _ => none
  else some [d]

def pAll : List PDecl → Option (List PDecl)
  | [] => some []
  | d :: ds => match pExpand d with
    | none => none
    | some x => match pAll ds with
      | none => none
      | some y => some (x ++ y)

def colorName : B := [99, 111, 108, 111, 114]
def fontName : B := [102, 111, 110, 116]
def sizeName : B := [115, 105, 122, 101]
def pInherits (n : B) : Bool := n == colorName || n == fontName || n == sizeName
def pInitial (n : B) : B :=
  if n = colorName then [98, 108, 97, 99, 107] else if n = fontName then [112, 108, 97, 105, 110] else if n = sizeName then [49, 48]
  else if n = edgeTop ∨ n = edgeRight ∨ n = edgeBottom ∨ n = edgeLeft then [48] else [110, 111, 110, 101]

/-! ### plain ones -/
theorem edges_ne {a b c d : B} {st : Bool} : ∀ y ∈ edges a b c d st, y.name ≠ edgeName ∧ y.strong = st := by
  intro y hy
  simp only [edges, List.mem_cons, List.not_mem_nil, or_false] at hy
  rcases hy with rfl | rfl | rfl | rfl <;> exact ⟨by simp [edgeTop, edgeRight, edgeBottom, edgeLeft, edgeName], rfl⟩
theorem expand_plain {d : PDecl} {x : List PDecl} (h : pExpand d = some x) : ∀ y ∈ x, y.name ≠ edgeName ∧ y.strong = d.strong := by
  unfold pExpand at h
  split at h
  · split at h
    all_goals first
      | (cases h; exact edges_ne)
      | cases h
  · rename_i hn
    cases h
    intro y hy
    simp at hy; subst hy
    exact ⟨hn, rfl⟩
theorem all_plain : ∀ {l x : List PDecl}, pAll l = some x → ∀ y ∈ x, y.name ≠ edgeName
  | [], x, h, y, hy => by cases h; cases hy
  | d :: ds, x, h, y, hy => by
    simp only [pAll] at h
    cases h1 : pExpand d with
    | none => rw [h1] at h; cases h
    | some a =>
      rw [h1] at h
      cases h2 : pAll ds with
      | none => rw [h2] at h; cases h
      | some b =>
        rw [h2] at h; cases h
        rcases List.mem_append.1 hy with hy | hy
        · exact (expand_plain h1 y hy).1
        · exact all_plain h2 y hy
theorem all_of_plain : ∀ {x : List PDecl}, (∀ y ∈ x, y.name ≠ edgeName) → pAll x = some x
  | [], _ => rfl
  | d :: ds, h => by
    have h1 : pExpand d = some [d] := by unfold pExpand; rw [if_neg (h d (by simp))]
    simp only [pAll, h1, all_of_plain (fun y hy => h y (by simp [hy]) : ∀ y ∈ ds, y.name ≠ edgeName)]
    rfl
theorem all_twice {l x : List PDecl} (h : pAll l = some x) : pAll x = some x := all_of_plain (all_plain h)
theorem all_cons {d : PDecl} {ds x : List PDecl} (h : pAll (d :: ds) = some x) : ∃ a b, pExpand d = some a ∧ pAll ds = some b ∧ x = a ++ b := by
  simp only [pAll] at h
  cases h1 : pExpand d with
  | none => rw [h1] at h; cases h
  | some a =>
    rw [h1] at h
    cases h2 : pAll ds with
    | none => rw [h2] at h; cases h
    | some b => rw [h2] at h; cases h; exact ⟨a, b, rfl, rfl, rfl⟩
theorem all_app {xs ys : List PDecl} : pAll (xs ++ ys) = match pAll xs with | none => none | some a => match pAll ys with | none => none | some b => some (a ++ b) := by
  induction xs with
  | nil => simp only [List.nil_append, pAll]; cases pAll ys <;> rfl
  | cons d ds ih =>
    simp only [List.cons_append, pAll]
    cases pExpand d with
    | none => rfl
    | some a =>
      simp only [ih]
      cases pAll ds with
      | none => rfl
      | some b =>
        cases pAll ys with
        | none => rfl
        | some c => simp
/-- words without blanks, put together, are cut so again -/
def joinB : List B → B
  | [] => []
  | [w] => w
  | w :: ws => w ++ [32] ++ joinB ws
theorem splitB_word {w : B} (h : ∀ c ∈ w, c ≠ 32) (r : B) : splitB (w ++ (32 :: r)) = w :: splitB r := by
  induction w with
  | nil => simp [splitB]
  | cons c w ih =>
    simp only [List.cons_append, splitB]
    rw [if_neg (h c (by simp)), ih (fun x hx => h x (by simp [hx]))]
theorem splitB_last {w : B} (h : ∀ c ∈ w, c ≠ 32) : splitB w = [w] := by
  induction w with
  | nil => rfl
  | cons c w ih =>
    simp only [splitB]
    rw [if_neg (h c (by simp)), ih (fun x hx => h x (by simp [hx]))]
theorem splitB_join : ∀ {ws : List B}, ws ≠ [] → (∀ w ∈ ws, ∀ c ∈ w, c ≠ 32) → splitB (joinB ws) = ws
  | [], h, _ => absurd rfl h
  | [w], _, h => by simp only [joinB]; exact splitB_last (h w (by simp))
  | w :: x :: ws, _, h => by
    have := splitB_join (ws := x :: ws) (by simp) (fun y hy => h y (List.mem_cons_of_mem _ hy))
    show splitB (w ++ [32] ++ joinB (x :: ws)) = _
    rw [List.append_assoc, List.singleton_append, splitB_word (h w (by simp)), this]

end Go.Proofs.YtplbdlgmjehckacDoor
