/- Plain laws, part a: words on lists, indexes, small numbers. -/
import Derived.Test.YtphjhelolaoihaaRgH
import Derived.IntWalk
set_option linter.all false
namespace Pl
open Rg Go

theorem w64_id {n : Int} (h : -9223372036854775808 ≤ n ∧ n ≤ 9223372036854775807) : w64 n = n := IntWalk.i64_in n h

/-- The most that a list of the program holds. -/
abbrev big : Nat := 4000000

section
variable {α : Type} {r : Ty} {pre t : List r.Den} {x : r.Den}

theorem xi_nat {l : List r.Den} {i : Nat} (h : i < l.length) : xi r l (i : Int) = l[i] := by
  unfold xi
  rw [Int.toNat_natCast, List.getD_eq_getElem?_getD, List.getElem?_eq_getElem h]; rfl

theorem xi_at : xi r (pre ++ x :: t) (pre.length : Int) = x := by
  unfold xi
  rw [Int.toNat_natCast, List.getD_eq_getElem?_getD, List.getElem?_append_right (Nat.le_refl _)]; simp

theorem inB_at {pre t : List α} {x : α} : inB (pre.length : Int) (pre ++ x :: t).length = true := by
  simp [inB]; omega

theorem inB_nat {i n : Nat} : inB (i : Int) n = decide (i < n) := by
  simp [inB]

theorem lt_at {pre t : List α} {x : α} : decide ((pre.length : Int) < ((pre ++ x :: t).length : Int)) = true := by
  simp; omega

theorem lt_end {pre : List α} : decide ((pre.length : Int) < ((pre ++ []).length : Int)) = false := by simp

theorem next_at {pre : List α} {x : α} (h : pre.length ≤ 1000000000000) : w64 ((pre.length : Int) + (1 : Int)) = ((pre ++ [x]).length : Int) := by
  rw [w64_id (by omega)]; simp

theorem app_cons {pre t : List α} {x : α} : pre ++ x :: t = (pre ++ [x]) ++ t := by simp

theorem prev_at {pre : List α} {y : α} (h : pre.length ≤ 1000000000000) : w64 (((pre ++ [y]).length : Int) - (1 : Int)) = (pre.length : Int) := by
  rw [w64_id (by simp; omega)]; simp

theorem xi_prev {pre t : List r.Den} {y : r.Den} : xi r ((pre ++ [y]) ++ t) (pre.length : Int) = y := by
  rw [List.append_assoc]; exact xi_at
end

theorem snoc {α : Type} (l : List α) : l = [] ∨ ∃ L b, l = L ++ [b] := by
  rcases List.eq_nil_or_concat l with h | ⟨L, b, h⟩
  · exact .inl h
  · exact .inr ⟨L, b, by rw [h, List.concat_eq_append]⟩

theorem fits_small {eb n : Nat} (h : n ≤ 10000000) (he : eb ≤ 1000) : appFits eb n = true := by
  unfold appFits
  refine Nat.ble_eq_true_of_le ?_
  calc n * eb ≤ 10000000 * 1000 := Nat.mul_le_mul h he
    _ ≤ _ := by decide

/-- The bytes of equal strings. -/
theorem sEq_iff {x y : ByteArray} : sEq x y = true ↔ x = y := by
  unfold sEq
  rw [← beq_toList]
  constructor
  · intro h
    rw [beq_toList, toList_eq, toList_eq] at h
    exact ByteArray.ext (Array.toList_inj.1 (eq_of_beq h))
  · intro h; subst h
    rw [beq_toList]; exact beq_self_eq_true _

/-! ### what a walk of data gives -/
def Ret {α : Type} (o : Option α) (Q : α → Prop) : Prop := ∃ y, o = some y ∧ Q y

theorem Ret.bind {α β : Type} {o : Option α} {f : α → Option β} {Q : β → Prop} {R : α → Prop} (h : Ret o R) (hf : ∀ y, R y → Ret (f y) Q) : Ret (o.bind f) Q := by
  obtain ⟨y, rfl, hy⟩ := h
  exact hf y hy

theorem Ret.eq {α β : Type} {o : Option α} {y : α} {f : α → Option β} {Q : β → Prop} (h : o = some y) (hf : Ret (f y) Q) : Ret (o.bind f) Q := by
  subst h; exact hf

theorem Ret.some {α : Type} {y : α} {Q : α → Prop} (h : Q y) : Ret (some y) Q := ⟨y, rfl, h⟩

theorem Ret.ite {α : Type} {c : Bool} {x y : Option α} {Q : α → Prop} (h1 : c = true → Ret x Q) (h2 : c = false → Ret y Q) : Ret (bif c then x else y) Q := by
  cases c
  · exact h2 rfl
  · exact h1 rfl

theorem Ret.mono {α : Type} {o : Option α} {Q R : α → Prop} (h : Ret o Q) (hr : ∀ y, Q y → R y) : Ret o R := by
  obtain ⟨y, hy, hq⟩ := h; exact ⟨y, hy, hr y hq⟩
end Pl

/- Plain laws, part b: items, their lists, what is in them. -/
namespace Pl
open Rg Go

abbrev PItem := Int × Int × Int × ByteArray × Unit
abbrev PRing := Int × List Int × Unit
abbrev PToken := Int × Int × Int × Int × Int × List Int × Unit
abbrev PMate := Int × PRing × List PItem × List Int × List ByteArray × Int × Int × Int × Int × PToken × Unit
abbrev PFly := Int × Bool × PToken × PItem × Unit
abbrev PWork := PRing × List PMate × List PFly × List (List PItem) × List PItem × Unit
abbrev PTurn := Int × Int × Int × Int × ByteArray × Unit
abbrev PBundle := Int × Int × Int × List PItem × Unit

def zItem : PItem := (0, 0, 0, ⟨#[]⟩, ())
def zToken : PToken := (0, 0, 0, 0, 0, [], ())
def zRing : PRing := (0, [], ())
def zMate : PMate := (0, zRing, [], [], [], 0, 0, 0, 0, zToken, ())

def inR (n a b : Int) : Bool := decide (a ≤ n) && decide (n ≤ b)

theorem inR_iff {n a b : Int} : inR n a b = true ↔ a ≤ n ∧ n ≤ b := by simp [inR]

def itemOk (x : PItem) : Bool := inR x.1 1 60 && inR x.2.1 1 5 && inR x.2.2.1 1 2 && decide ((x.2.2.2.1.size : Int) ≤ 60)

/-- Items that are right and ascend, behind p. -/
def itemsFrom : Option Int → List PItem → Bool
  | _, [] => true
  | p, x :: t => itemOk x && (match p with | some q => decide (q < x.1) | none => true) && itemsFrom (some x.1) t

def itemsOk (l : List PItem) : Bool := itemsFrom none l

def lastOf : List PItem → Option Int
  | [] => none
  | [x] => some x.1
  | _ :: t => lastOf t

theorem lastOf_append {l : List PItem} {x : PItem} : lastOf (l ++ [x]) = some x.1 := by
  induction l with
  | nil => rfl
  | cons y l ih =>
    cases l with
    | nil => rfl
    | cons z l => exact ih

theorem itemsFrom_iff : ∀ {l : List PItem} {p : Option Int}, itemsFrom p l = true ↔ (∀ x, x ∈ l → itemOk x = true) ∧ l.Pairwise (fun a b => a.1 < b.1) ∧ ∀ q, p = some q → ∀ x, x ∈ l → q < x.1
  | [], p => by simp [itemsFrom]
  | x :: t, p => by
    unfold itemsFrom
    simp only [Bool.and_eq_true, itemsFrom_iff (l := t), List.mem_cons, List.pairwise_cons, Option.some.injEq]
    constructor
    · rintro ⟨⟨h1, h2⟩, h3, h4, h5⟩
      refine ⟨?_, ⟨fun y hy => h5 _ rfl y hy, h4⟩, ?_⟩
      · rintro y (rfl | hy)
        · exact h1
        · exact h3 y hy
      · rintro q rfl y (rfl | hy)
        · simpa using h2
        · have a : q < x.1 := by simpa using h2
          have b := h5 _ rfl y hy
          omega
    · rintro ⟨h1, ⟨h2, h3⟩, h4⟩
      refine ⟨⟨h1 x (.inl rfl), ?_⟩, fun y hy => h1 y (.inr hy), h3, ?_⟩
      · cases p with
        | none => rfl
        | some q => simpa using h4 q rfl x (.inl rfl)
      · rintro q rfl y hy; exact h2 y hy

theorem itemsOk_iff {l : List PItem} : itemsOk l = true ↔ (∀ x, x ∈ l → itemOk x = true) ∧ l.Pairwise (fun a b => a.1 < b.1) := by
  unfold itemsOk
  rw [itemsFrom_iff]
  simp

/-- The numbers of right items lie in 1 .. 60, so there are at most 60. -/
theorem itemsFrom_length : ∀ {l : List PItem} {p : Option Int}, itemsFrom p l = true → (∀ q, p = some q → q ≤ 60) → (l.length : Int) ≤ 60 - (match p with | some q => max q 0 | none => 0)
  | [], none, _, _ => by simp
  | [], some q, _, hq => by have := hq q rfl; simp; omega
  | x :: t, p, h, hq => by
    unfold itemsFrom at h
    simp only [Bool.and_eq_true] at h
    obtain ⟨⟨h1, h2⟩, h3⟩ := h
    simp only [itemOk, Bool.and_eq_true, inR_iff] at h1
    have := itemsFrom_length h3 (fun q e => by cases e; omega)
    simp only at this
    cases p with
    | none => simp only [List.length_cons]; omega
    | some q =>
      have h2 : q < x.1 := by simpa using h2
      simp only [List.length_cons]; omega

theorem itemsOk_length {l : List PItem} (h : itemsOk l = true) : l.length ≤ 60 := by
  have := itemsFrom_length (p := none) h (fun q e => by cases e)
  simp at this; omega

/-- Is an item of a number among them? -/
def hasSeq (l : List PItem) (n : Int) : Bool := l.any fun x => x.1 == n

def itemAt (l : List PItem) (n : Int) : PItem × Bool :=
  match l.find? fun x => x.1 == n with
  | some x => (x, true)
  | none => (zItem, false)

theorem itemAt_snd {l : List PItem} {n : Int} : (itemAt l n).2 = hasSeq l n := by
  unfold itemAt hasSeq
  induction l with
  | nil => rfl
  | cons x t ih =>
    rw [List.find?_cons, List.any_cons]
    cases hx : x.1 == n
    · simpa using ih
    · rfl

theorem hasSeq_iff {l : List PItem} {n : Int} : hasSeq l n = true ↔ ∃ x, x ∈ l ∧ x.1 = n := by
  unfold hasSeq
  rw [List.any_eq_true]
  exact ⟨fun ⟨x, h1, h2⟩ => ⟨x, h1, eq_of_beq h2⟩, fun ⟨x, h1, h2⟩ => ⟨x, h1, by rw [h2]; exact beq_self_eq_true _⟩⟩

theorem itemAt_of_mem {l : List PItem} {n : Int} (h : hasSeq l n = true) : (itemAt l n).1 ∈ l ∧ (itemAt l n).1.1 = n := by
  unfold itemAt
  cases hf : l.find? fun x => x.1 == n with
  | none =>
    obtain ⟨x, h1, h2⟩ := hasSeq_iff.1 h
    have := List.find?_eq_none.1 hf x h1
    rw [h2] at this; simp at this
  | some x => exact ⟨List.mem_of_find?_eq_some hf, by have := List.find?_some hf; simpa using this⟩

theorem pairwise_inj {l : List PItem} (h : l.Pairwise (fun a b => a.1 < b.1)) {x y : PItem} (hx : x ∈ l) (hy : y ∈ l) (e : x.1 = y.1) : x = y := by
  induction l with
  | nil => simp at hx
  | cons z l ih =>
    obtain ⟨h1, h2⟩ := List.pairwise_cons.1 h
    rcases List.mem_cons.1 hx with ex | hx'
    · rcases List.mem_cons.1 hy with ey | hy'
      · rw [ex, ey]
      · have := h1 y hy'; rw [ex] at e; omega
    · rcases List.mem_cons.1 hy with ey | hy'
      · have := h1 x hx'; rw [ey] at e; omega
      · exact ih h2 hx' hy'

theorem itemAt_eq {l : List PItem} (h : l.Pairwise (fun a b => a.1 < b.1)) {x : PItem} (hx : x ∈ l) : itemAt l x.1 = (x, true) := by
  have h1 : hasSeq l x.1 = true := hasSeq_iff.2 ⟨x, hx, rfl⟩
  obtain ⟨h2, h3⟩ := itemAt_of_mem h1
  have e1 := pairwise_inj h h2 hx h3
  have e2 := itemAt_snd (l := l) (n := x.1)
  rw [h1] at e2
  exact Prod.ext e1 e2

/-! ### how far the numbers go without a hole -/
/-- From n on, at most k more. -/
def aruGo (l : List PItem) : Nat → Nat → Nat
  | 0, n => n
  | k + 1, n => if hasSeq l ((n : Int) + 1) then aruGo l k (n + 1) else n

def aru (l : List PItem) : Nat := aruGo l l.length 0

theorem pigeon : ∀ (n : Nat) (l : List Int), (∀ k : Nat, 1 ≤ k → k ≤ n → (k : Int) ∈ l) → n ≤ l.length
  | 0, _, _ => Nat.zero_le _
  | n + 1, l, h => by
    have h1 := h (n + 1) (by omega) (Nat.le_refl _)
    have h2 := pigeon n (l.erase ((n + 1 : Nat) : Int)) fun k hk hk' => by
      rw [List.mem_erase_of_ne (by omega)]
      exact h k hk (by omega)
    rw [List.length_erase_of_mem h1] at h2
    have := List.length_pos_of_mem h1
    omega

theorem hasSeq_map {l : List PItem} {n : Int} : hasSeq l n = true ↔ n ∈ l.map (·.1) := by
  rw [hasSeq_iff, List.mem_map]

theorem aruGo_spec {l : List PItem} : ∀ (k n : Nat), (∀ j : Nat, 1 ≤ j → j ≤ n → hasSeq l (j : Int) = true) → l.length ≤ n + k →
    (∀ j : Nat, 1 ≤ j → j ≤ aruGo l k n → hasSeq l (j : Int) = true) ∧ hasSeq l ((aruGo l k n : Int) + 1) = false
  | 0, n, h, hl => by
    refine ⟨h, ?_⟩
    cases hh : hasSeq l (((aruGo l 0 n : Nat) : Int) + 1)
    · rfl
    · exfalso
      have hh : hasSeq l ((n : Int) + 1) = true := hh
      have := pigeon (n + 1) (l.map (·.1)) fun j h1 h2 => by
        rw [← hasSeq_map]
        by_cases e : j ≤ n
        · exact h j h1 e
        · have : j = n + 1 := by omega
          subst this
          exact_mod_cast hh
      rw [List.length_map] at this
      omega
  | k + 1, n, h, hl => by
    unfold aruGo
    by_cases hh : hasSeq l ((n : Int) + 1) = true
    · rw [if_pos hh]
      exact aruGo_spec k (n + 1) (fun j h1 h2 => by
        by_cases e : j ≤ n
        · exact h j h1 e
        · have : j = n + 1 := by omega
          subst this
          exact_mod_cast hh) (by omega)
    · rw [if_neg hh]
      exact ⟨h, by simpa using hh⟩

theorem aru_has {l : List PItem} {j : Nat} (h1 : 1 ≤ j) (h2 : j ≤ aru l) : hasSeq l (j : Int) = true :=
  (aruGo_spec l.length 0 (fun j h1 h2 => by omega) (by omega)).1 j h1 h2

theorem aru_not {l : List PItem} : hasSeq l ((aru l : Int) + 1) = false := (aruGo_spec l.length 0 (fun j h1 h2 => by omega) (by omega)).2

theorem aru_unique {l : List PItem} {n : Nat} (h1 : ∀ j : Nat, 1 ≤ j → j ≤ n → hasSeq l (j : Int) = true) (h2 : hasSeq l ((n : Int) + 1) = false) : n = aru l := by
  rcases Nat.lt_trichotomy n (aru l) with h | h | h
  · have := aru_has (l := l) (j := n + 1) (by omega) (by omega)
    have e : (((n + 1 : Nat) : Int)) = (n : Int) + 1 := by omega
    rw [e, h2] at this; cases this
  · exact h
  · have := h1 (aru l + 1) (by omega) (by omega)
    have e : (((aru l + 1 : Nat) : Int)) = (aru l : Int) + 1 := by omega
    rw [e, aru_not] at this; cases this

theorem aru_le {l : List PItem} : aru l ≤ l.length := by
  have := pigeon (aru l) (l.map (·.1)) fun j h1 h2 => by rw [← hasSeq_map]; exact aru_has h1 h2
  rwa [List.length_map] at this

theorem aru_mono {l l' : List PItem} (h : ∀ n, hasSeq l n = true → hasSeq l' n = true) : aru l ≤ aru l' := by
  rcases Nat.lt_or_ge (aru l') (aru l) with hlt | hge
  · have := h _ (aru_has (l := l) (j := aru l' + 1) (by omega) (by omega))
    have e : (((aru l' + 1 : Nat) : Int)) = (aru l' : Int) + 1 := by omega
    rw [e, aru_not] at this; cases this
  · exact hge
end Pl

/- Plain laws, part d: rings, tokens, members. -/
namespace Pl
open Rg Go

/-- Numbers in a .. b that ascend, behind p. -/
def intsFrom (a b : Int) : Option Int → List Int → Bool
  | _, [] => true
  | p, x :: t => inR x a b && (match p with | some q => decide (q < x) | none => true) && intsFrom a b (some x) t

def lastI : List Int → Option Int
  | [] => none
  | [x] => some x
  | _ :: t => lastI t

theorem lastI_append {l : List Int} {x : Int} : lastI (l ++ [x]) = some x := by
  induction l with
  | nil => rfl
  | cons y l ih =>
    cases l with
    | nil => rfl
    | cons z l => exact ih

theorem intsFrom_iff {a b : Int} : ∀ {l : List Int} {p : Option Int}, intsFrom a b p l = true ↔ (∀ x, x ∈ l → a ≤ x ∧ x ≤ b) ∧ l.Pairwise (· < ·) ∧ ∀ q, p = some q → ∀ x, x ∈ l → q < x
  | [], p => by simp [intsFrom]
  | x :: t, p => by
    unfold intsFrom
    simp only [Bool.and_eq_true, intsFrom_iff (l := t), List.mem_cons, List.pairwise_cons, Option.some.injEq, inR_iff]
    constructor
    · rintro ⟨⟨h1, h2⟩, h3, h4, h5⟩
      refine ⟨?_, ⟨fun y hy => h5 _ rfl y hy, h4⟩, ?_⟩
      · rintro y (rfl | hy)
        · exact h1
        · exact h3 y hy
      · rintro q rfl y (rfl | hy)
        · simpa using h2
        · have a : q < x := by simpa using h2
          have b := h5 _ rfl y hy
          omega
    · rintro ⟨h1, ⟨h2, h3⟩, h4⟩
      refine ⟨⟨h1 x (.inl rfl), ?_⟩, fun y hy => h1 y (.inr hy), h3, ?_⟩
      · cases p with
        | none => rfl
        | some q => simpa using h4 q rfl x (.inl rfl)
      · rintro q rfl y hy; exact h2 y hy

def ringOk (r : PRing) : Bool := inR r.1 1 9 && inR (r.2.1.length : Int) 1 5 && intsFrom 1 5 none r.2.1

def tokenOk (t : PToken) : Bool :=
  inR t.1 1 9 && inR t.2.1 1 1000000000 && inR t.2.2.1 0 60 && inR t.2.2.2.1 0 t.2.2.1 && inR t.2.2.2.2.1 0 5 && decide ((t.2.2.2.2.2.1.length : Int) ≤ 20) && intsFrom 1 t.2.2.1 none t.2.2.2.2.2.1

theorem ringOk_iff {r : PRing} : ringOk r = true ↔ (1 ≤ r.1 ∧ r.1 ≤ 9) ∧ (1 ≤ r.2.1.length ∧ r.2.1.length ≤ 5) ∧ (∀ x, x ∈ r.2.1 → 1 ≤ x ∧ x ≤ 5) ∧ r.2.1.Pairwise (· < ·) := by
  unfold ringOk
  simp only [Bool.and_eq_true, inR_iff, intsFrom_iff]
  constructor
  · rintro ⟨⟨h1, h2⟩, h3, h4, _⟩; exact ⟨h1, by omega, h3, h4⟩
  · rintro ⟨h1, h2, h3, h4⟩; exact ⟨⟨h1, by omega⟩, h3, h4, fun q h => by cases h⟩

theorem tokenOk_iff {t : PToken} : tokenOk t = true ↔ (1 ≤ t.1 ∧ t.1 ≤ 9) ∧ (1 ≤ t.2.1 ∧ t.2.1 ≤ 1000000000) ∧ (0 ≤ t.2.2.1 ∧ t.2.2.1 ≤ 60) ∧ (0 ≤ t.2.2.2.1 ∧ t.2.2.2.1 ≤ t.2.2.1) ∧ (0 ≤ t.2.2.2.2.1 ∧ t.2.2.2.2.1 ≤ 5) ∧
    t.2.2.2.2.2.1.length ≤ 20 ∧ (∀ x, x ∈ t.2.2.2.2.2.1 → 1 ≤ x ∧ x ≤ t.2.2.1) ∧ t.2.2.2.2.2.1.Pairwise (· < ·) := by
  unfold tokenOk
  simp only [Bool.and_eq_true, inR_iff, intsFrom_iff, decide_eq_true_eq]
  constructor
  · rintro ⟨⟨⟨⟨⟨⟨h1, h2⟩, h3⟩, h4⟩, h5⟩, h6⟩, h7, h8, _⟩; exact ⟨h1, h2, h3, h4, h5, by omega, h7, h8⟩
  · rintro ⟨h1, h2, h3, h4, h5, h6, h7, h8⟩; exact ⟨⟨⟨⟨⟨⟨h1, h2⟩, h3⟩, h4⟩, h5⟩, by omega⟩, h7, h8, fun q h => by cases h⟩

/-- All of it zero. -/
def blankT (t : PToken) : Bool := (t.1 == 0) && (t.2.1 == 0) && (t.2.2.1 == 0) && (t.2.2.2.1 == 0) && (t.2.2.2.2.1 == 0) && ((t.2.2.2.2.2.1.length : Int) == 0)

def shortTx (s : ByteArray) : Bool := decide ((s.size : Int) ≤ 60)

/-- What a member has to say. -/
def wordsOk (lv : List Int) (tx : List ByteArray) : Bool := lv.all (fun n => inR n 1 2) && tx.all shortTx && decide ((tx.length : Int) ≤ 20) && ((lv.length : Int) == (tx.length : Int))

theorem wordsOk_iff {lv : List Int} {tx : List ByteArray} : wordsOk lv tx = true ↔ (∀ n, n ∈ lv → 1 ≤ n ∧ n ≤ 2) ∧ (∀ s, s ∈ tx → s.size ≤ 60) ∧ tx.length ≤ 20 ∧ lv.length = tx.length := by
  unfold wordsOk
  simp only [Bool.and_eq_true, List.all_eq_true, inR_iff, shortTx, decide_eq_true_eq, beq_iff_eq]
  constructor
  · rintro ⟨⟨⟨h1, h2⟩, h3⟩, h4⟩; exact ⟨h1, fun s hs => by have := h2 s hs; omega, by omega, by omega⟩
  · rintro ⟨h1, h2, h3, h4⟩; exact ⟨⟨⟨h1, fun s hs => by have := h2 s hs; omega⟩, by omega⟩, by omega⟩

/-- A right member: m.2.1 is its ring, m.2.2.1 its items, .2.2.2.1 and .2.2.2.2.1 its words; then Round, Seen, Line, Heard, Last. -/
def mateOk (m : PMate) : Bool :=
  ringOk m.2.1 && m.2.1.2.1.contains m.1 && itemsOk m.2.2.1 && wordsOk m.2.2.2.1 m.2.2.2.2.1 && inR m.2.2.2.2.2.1 0 1000000000 && inR m.2.2.2.2.2.2.1 0 60 &&
    inR m.2.2.2.2.2.2.2.1 0 (aru m.2.2.1 : Int) && inR m.2.2.2.2.2.2.2.2.1 0 (aru m.2.2.1 : Int) && (blankT m.2.2.2.2.2.2.2.2.2.1 || tokenOk m.2.2.2.2.2.2.2.2.2.1)

structure MateOk (m : PMate) : Prop where
  ring : ringOk m.2.1 = true
  mem : m.1 ∈ m.2.1.2.1
  items : itemsOk m.2.2.1 = true
  words : wordsOk m.2.2.2.1 m.2.2.2.2.1 = true
  round : 0 ≤ m.2.2.2.2.2.1 ∧ m.2.2.2.2.2.1 ≤ 1000000000
  seen : 0 ≤ m.2.2.2.2.2.2.1 ∧ m.2.2.2.2.2.2.1 ≤ 60
  line : 0 ≤ m.2.2.2.2.2.2.2.1 ∧ m.2.2.2.2.2.2.2.1 ≤ (aru m.2.2.1 : Int)
  heard : 0 ≤ m.2.2.2.2.2.2.2.2.1 ∧ m.2.2.2.2.2.2.2.2.1 ≤ (aru m.2.2.1 : Int)
  last : blankT m.2.2.2.2.2.2.2.2.2.1 = true ∨ tokenOk m.2.2.2.2.2.2.2.2.2.1 = true

theorem mateOk_iff {m : PMate} : mateOk m = true ↔ MateOk m := by
  unfold mateOk
  simp only [Bool.and_eq_true, Bool.or_eq_true, inR_iff, List.contains_iff_mem]
  constructor
  · rintro ⟨⟨⟨⟨⟨⟨⟨⟨h1, h2⟩, h3⟩, h4⟩, h5⟩, h6⟩, h7⟩, h8⟩, h9⟩
    exact ⟨h1, h2, h3, h4, h5, h6, h7, h8, h9⟩
  · rintro ⟨h1, h2, h3, h4, h5, h6, h7, h8, h9⟩
    exact ⟨⟨⟨⟨⟨⟨⟨⟨h1, h2⟩, h3⟩, h4⟩, h5⟩, h6⟩, h7⟩, h8⟩, h9⟩

/-- How long the lists of a member are. -/
structure MateSm (m : PMate) : Prop where
  members : m.2.1.2.1.length ≤ 3000000
  items : m.2.2.1.length ≤ 3000000
  level : m.2.2.2.1.length ≤ 3000000
  texts : m.2.2.2.2.1.length ≤ 3000000
  wants : m.2.2.2.2.2.2.2.2.2.1.2.2.2.2.2.1.length ≤ 3000000

theorem MateOk.sm {m : PMate} (h : MateOk m) : MateSm m := by
  have h1 := ringOk_iff.1 h.ring
  have h2 := itemsOk_length h.items
  have h3 := wordsOk_iff.1 h.words
  refine ⟨by omega, by omega, by omega, by omega, ?_⟩
  rcases h.last with h4 | h4
  · simp only [blankT, Bool.and_eq_true, beq_iff_eq] at h4; omega
  · have := tokenOk_iff.1 h4; omega
end Pl

/- Plain laws, part f: what a member does, as data. -/
namespace Pl
open Rg Go

def mSetItems (m : PMate) (l : List PItem) : PMate := (m.1, m.2.1, l, m.2.2.2)
def mSetWords (m : PMate) (lv : List Int) (tx : List ByteArray) : PMate := (m.1, m.2.1, m.2.2.1, lv, tx, m.2.2.2.2.2)
def mSetHeard (m : PMate) (h : Int) : PMate := (m.1, m.2.1, m.2.2.1, m.2.2.2.1, m.2.2.2.2.1, m.2.2.2.2.2.1, m.2.2.2.2.2.2.1, m.2.2.2.2.2.2.2.1, h, m.2.2.2.2.2.2.2.2.2)

def sayOk (m : PMate) (lv : Int) (tx : ByteArray) : Bool := mateOk m && inR lv 1 2 && shortTx tx && decide ((m.2.2.2.2.1.length : Int) < 20)

def say (m : PMate) (lv : Int) (tx : ByteArray) : PMate × Bool :=
  bif sayOk m lv tx then (mSetWords m (m.2.2.2.1 ++ [lv]) (m.2.2.2.2.1 ++ [tx]), true) else (zMate, false)

/-- What is heard from h on. -/
def hearGo (l : List PItem) (line : Int) : Nat → Int → List PItem
  | 0, _ => []
  | k + 1, h => bif ((itemAt l (h + 1)).1.2.2.1 == 2) && decide ((itemAt l (h + 1)).1.1 > line) then [] else (itemAt l (h + 1)).1 :: hearGo l line k (h + 1)

def hearList (m : PMate) : List PItem := hearGo m.2.2.1 m.2.2.2.2.2.2.2.1 (aru m.2.2.1 - m.2.2.2.2.2.2.2.2.1.toNat) m.2.2.2.2.2.2.2.2.1

def hear (m : PMate) : PMate × List PItem :=
  bif mateOk m then (mSetHeard m (m.2.2.2.2.2.2.2.2.1 + (hearList m).length), hearList m) else (m, [])

def insert (l : List PItem) (x : PItem) : List PItem := l.filter (fun y => decide (y.1 < x.1)) ++ x :: l.filter (fun y => decide (y.1 > x.1))

def putItem (l : List PItem) (x : PItem) : List PItem := bif itemsOk l && itemOk x && !hasSeq l x.1 then insert l x else l

def catchI (m : PMate) (x : PItem) : PMate := bif mateOk m then mSetItems m (putItem m.2.2.1 x) else m

def give (t : PToken) (l : List PItem) : List PItem := l.filter fun x => t.2.2.2.2.2.1.contains x.1

def tSetSeq (t : PToken) (n : Int) : PToken := (t.1, t.2.1, n, t.2.2.2)
def tSetAru (t : PToken) (n : Int) : PToken := (t.1, t.2.1, t.2.2.1, n, t.2.2.2.2)
def tSetLow (t : PToken) (n : Int) : PToken := (t.1, t.2.1, t.2.2.1, t.2.2.2.1, n, t.2.2.2.2.2)
def tSetWants (t : PToken) (l : List Int) : PToken := (t.1, t.2.1, t.2.2.1, t.2.2.2.1, t.2.2.2.2.1, l, ())
def tSetRound (t : PToken) (n : Int) : PToken := (t.1, n, t.2.2)

def lvOf (lv : List Int) : Int := match lv with | n :: _ => bif n == 2 then 2 else 1 | [] => 1

/-- The words that get numbers: at most k, from s on. -/
def numGo (id : Int) : Nat → List Int → List ByteArray → Int → List PItem
  | 0, _, _, _ => []
  | _, _, [], _ => []
  | k + 1, lv, x :: tx, s => bif decide (s < 60) && shortTx x then (s + 1, id, lvOf lv, x, ()) :: numGo id k lv.tail tx (s + 1) else []

def number (t : PToken) (id : Int) (lv : List Int) (tx : List ByteArray) : PToken × List PItem :=
  bif tokenOk t && inR id 1 5 then
    (bif (t.2.2.2.1 == t.2.2.1) && (t.2.2.2.2.1 == 0) then tSetAru (tSetSeq t (t.2.2.1 + (numGo id 3 lv tx t.2.2.1).length)) (t.2.2.1 + (numGo id 3 lv tx t.2.2.1).length) else tSetSeq t (t.2.2.1 + (numGo id 3 lv tx t.2.2.1).length), numGo id 3 lv tx t.2.2.1)
  else (t, [])

def markT (t : PToken) (id a : Int) : PToken :=
  bif tokenOk t && inR id 1 5 && decide (0 ≤ a) then
    bif decide (a < t.2.2.2.1) then tSetLow (tSetAru t a) id
    else bif t.2.2.2.2.1 == id then
      bif decide (a > t.2.2.1) then tSetLow (tSetAru t t.2.2.1) 0
      else bif a == t.2.2.1 then tSetLow (tSetAru t a) 0 else tSetAru t a
    else t
  else t

/-- The numbers of x .. hi with p behind acc, at most 20. -/
def pickGo (p : Int → Bool) (hi : Int) : Nat → Int → List Int → List Int
  | 0, _, acc => acc
  | k + 1, x, acc => bif decide (x ≤ hi) && decide ((acc.length : Int) < 20) then pickGo p hi k (x + 1) (bif p x then acc ++ [x] else acc) else acc

def missing (l : List PItem) (s : Int) : List Int := pickGo (fun n => !hasSeq l n) (min s 60) 61 (aru l + 1) []

def lacks (t : PToken) (l : List PItem) : PToken :=
  tSetWants t (pickGo (fun n => (!hasSeq l n && t.2.2.2.2.2.1.contains n) || (missing l t.2.2.1).contains n) 60 61 1 [])

def holdOk (m : PMate) (t : PToken) : Bool := mateOk m && tokenOk t && (t.1 == m.2.1.1) && decide (m.2.2.2.2.2.1 < t.2.1) && decide (t.2.1 < 1000000000)

def holdNew (m : PMate) (t : PToken) : List PItem := (number t m.1 m.2.2.2.1 m.2.2.2.2.1).2
def holdItems (m : PMate) (t : PToken) : List PItem := (holdNew m t).foldl putItem m.2.2.1
def holdTok (m : PMate) (t : PToken) : PToken := tSetRound (lacks (markT (number t m.1 m.2.2.2.1 m.2.2.2.2.1).1 m.1 (aru (holdItems m t))) (holdItems m t)) (t.2.1 + 1)
def holdLine (m : PMate) (t : PToken) : Int := max m.2.2.2.2.2.2.2.1 (min (min t.2.2.2.1 m.2.2.2.2.2.2.1) (aru (holdItems m t)))
def holdMate (m : PMate) (t : PToken) : PMate :=
  (m.1, m.2.1, holdItems m t, m.2.2.2.1.drop (holdNew m t).length, m.2.2.2.2.1.drop (holdNew m t).length, t.2.1, t.2.2.2.1, holdLine m t, m.2.2.2.2.2.2.2.2.1, holdTok m t, ())

def hold (m : PMate) (t : PToken) : PMate × List PItem × PToken × Bool :=
  bif holdOk m t then (holdMate m t, give t m.2.2.1 ++ holdNew m t, holdTok m t, true) else (m, [], zToken, false)

theorem insert_length {x : PItem} : ∀ {l : List PItem}, (l.filter fun z => decide (z.1 < x.1)).length + (l.filter fun z => decide (z.1 > x.1)).length ≤ l.length
  | [] => by simp
  | a :: l => by
    have ih := insert_length (x := x) (l := l)
    simp only [List.filter_cons]
    by_cases h1 : a.1 < x.1
    · have h2 : ¬ a.1 > x.1 := by omega
      simp only [decide_eq_true h1, decide_eq_false h2, if_true, if_neg Bool.false_ne_true, List.length_cons]; omega
    · by_cases h2 : a.1 > x.1
      · simp only [decide_eq_true h2, decide_eq_false h1, if_true, if_neg Bool.false_ne_true, List.length_cons]; omega
      · simp only [decide_eq_false h2, decide_eq_false h1, if_neg Bool.false_ne_true, List.length_cons]; omega

theorem putItem_length {l : List PItem} {x : PItem} : (putItem l x).length ≤ l.length + 1 := by
  unfold putItem
  cases itemsOk l && itemOk x && !hasSeq l x.1
  · simp
  · have := insert_length (x := x) (l := l)
    unfold insert
    simp only [cond_true, List.length_append, List.length_cons]; omega

/-! ### what is kept -/
theorem MateOk.words' {m : PMate} (h : MateOk m) : (∀ n, n ∈ m.2.2.2.1 → 1 ≤ n ∧ n ≤ 2) ∧ (∀ s, s ∈ m.2.2.2.2.1 → s.size ≤ 60) ∧ m.2.2.2.2.1.length ≤ 20 ∧ m.2.2.2.1.length = m.2.2.2.2.1.length := wordsOk_iff.1 h.words

theorem say_ok {m : PMate} {lv : Int} {tx : ByteArray} (h : sayOk m lv tx = true) : MateOk (say m lv tx).1 := by
  unfold say; rw [h]
  unfold sayOk at h
  simp only [Bool.and_eq_true, mateOk_iff, inR_iff, shortTx, decide_eq_true_eq] at h
  obtain ⟨⟨⟨h1, h2⟩, h3⟩, h4⟩ := h
  obtain ⟨w1, w2, w3, w4⟩ := h1.words'
  refine ⟨h1.ring, h1.mem, h1.items, ?_, h1.round, h1.seen, h1.line, h1.heard, h1.last⟩
  show wordsOk (m.2.2.2.1 ++ [lv]) (m.2.2.2.2.1 ++ [tx]) = true
  rw [wordsOk_iff]
  refine ⟨?_, ?_, by simp; omega, by simp [w4]⟩
  · intro n hn
    rcases List.mem_append.1 hn with hn | hn
    · exact w1 n hn
    · rw [List.mem_singleton] at hn; subst hn; exact h2
  · intro s hs
    rcases List.mem_append.1 hs with hs | hs
    · exact w2 s hs
    · rw [List.mem_singleton] at hs; subst hs; omega

theorem hearGo_length {l : List PItem} {line : Int} : ∀ {k : Nat} {h : Int}, (hearGo l line k h).length ≤ k
  | 0, _ => Nat.le_refl _
  | k + 1, h => by
    unfold hearGo
    cases ((itemAt l (h + 1)).1.2.2.1 == 2) && decide ((itemAt l (h + 1)).1.1 > line)
    · simp only [cond_false, List.length_cons]
      have := hearGo_length (l := l) (line := line) (k := k) (h := h + 1)
      omega
    · simp

theorem hearList_length {m : PMate} (h : MateOk m) : m.2.2.2.2.2.2.2.2.1 + (hearList m).length ≤ (aru m.2.2.1 : Int) := by
  have h1 := h.heard
  have h2 : (hearList m).length ≤ aru m.2.2.1 - m.2.2.2.2.2.2.2.2.1.toNat := hearGo_length
  omega

theorem hear_ok {m : PMate} (h : MateOk m) : MateOk (hear m).1 := by
  unfold hear
  rw [mateOk_iff.2 h]
  have := hearList_length h
  have h1 := h.heard
  exact ⟨h.ring, h.mem, h.items, h.words, h.round, h.seen, h.line, ⟨by show 0 ≤ m.2.2.2.2.2.2.2.2.1 + (hearList m).length; omega, this⟩, h.last⟩

theorem insert_mem {l : List PItem} {x y : PItem} (h : hasSeq l x.1 = false) : y ∈ insert l x ↔ y = x ∨ y ∈ l := by
  unfold insert
  simp only [List.mem_append, List.mem_filter, List.mem_cons, decide_eq_true_eq]
  constructor
  · rintro (⟨h1, _⟩ | h1 | ⟨h1, _⟩)
    · exact .inr h1
    · exact .inl h1
    · exact .inr h1
  · rintro (h1 | h1)
    · exact .inr (.inl h1)
    · have : y.1 ≠ x.1 := fun e => by
        have := hasSeq_iff.2 ⟨y, h1, e⟩
        rw [h] at this; cases this
      rcases Int.lt_or_gt_of_ne this with h2 | h2
      · exact .inl ⟨h1, h2⟩
      · exact .inr (.inr ⟨h1, h2⟩)

theorem insert_ok {l : List PItem} {x : PItem} (hl : itemsOk l = true) (hx : itemOk x = true) (h : hasSeq l x.1 = false) : itemsOk (insert l x) = true := by
  obtain ⟨h1, h2⟩ := itemsOk_iff.1 hl
  rw [itemsOk_iff]
  refine ⟨?_, ?_⟩
  · intro y hy
    rcases (insert_mem h).1 hy with rfl | hy
    · exact hx
    · exact h1 y hy
  · unfold insert
    rw [List.pairwise_append]
    refine ⟨h2.filter _, ?_, ?_⟩
    · rw [List.pairwise_cons]
      refine ⟨?_, h2.filter _⟩
      intro y hy
      simp only [List.mem_filter, decide_eq_true_eq] at hy
      exact hy.2
    · intro y hy z hz
      simp only [List.mem_filter, List.mem_cons, decide_eq_true_eq] at hy hz
      rcases hz with rfl | hz
      · exact hy.2
      · omega

theorem putItem_mem {l : List PItem} {x y : PItem} (h : y ∈ l) : y ∈ putItem l x := by
  unfold putItem
  cases hc : itemsOk l && itemOk x && !hasSeq l x.1
  · exact h
  · simp only [Bool.and_eq_true, Bool.not_eq_true'] at hc
    exact (insert_mem hc.2).2 (.inr h)

theorem putItem_ok {l : List PItem} {x : PItem} (h : itemsOk l = true) : itemsOk (putItem l x) = true := by
  unfold putItem
  cases hc : itemsOk l && itemOk x && !hasSeq l x.1
  · exact h
  · simp only [Bool.and_eq_true, Bool.not_eq_true'] at hc
    exact insert_ok h hc.1.2 hc.2

theorem hasSeq_mono {l l' : List PItem} (h : ∀ y, y ∈ l → y ∈ l') {n : Int} (hn : hasSeq l n = true) : hasSeq l' n = true := by
  obtain ⟨x, h1, h2⟩ := hasSeq_iff.1 hn
  exact hasSeq_iff.2 ⟨x, h x h1, h2⟩

theorem aru_mono' {l l' : List PItem} (h : ∀ y, y ∈ l → y ∈ l') : aru l ≤ aru l' := aru_mono fun _ => hasSeq_mono h

theorem catch_ok {m : PMate} {x : PItem} (h : MateOk m) : MateOk (catchI m x) := by
  unfold catchI
  rw [mateOk_iff.2 h]
  have ha := aru_mono' (l := m.2.2.1) (l' := putItem m.2.2.1 x) fun y hy => putItem_mem hy
  have h1 := h.line
  have h2 := h.heard
  refine ⟨h.ring, h.mem, putItem_ok h.items, h.words, h.round, h.seen, ⟨h1.1, ?_⟩, ⟨h2.1, ?_⟩, h.last⟩
  · show m.2.2.2.2.2.2.2.1 ≤ (aru (putItem m.2.2.1 x) : Int); omega
  · show m.2.2.2.2.2.2.2.2.1 ≤ (aru (putItem m.2.2.1 x) : Int); omega

theorem fold_mem {y : PItem} : ∀ {xs l : List PItem}, y ∈ l → y ∈ xs.foldl putItem l
  | [], _, h => h
  | x :: xs, l, h => fold_mem (xs := xs) (putItem_mem h)

theorem fold_ok : ∀ {xs l : List PItem}, itemsOk l = true → itemsOk (xs.foldl putItem l) = true
  | [], _, h => h
  | x :: xs, l, h => fold_ok (xs := xs) (putItem_ok h)

theorem numGo_length {id : Int} : ∀ {k : Nat} {lv : List Int} {tx : List ByteArray} {s : Int}, (numGo id k lv tx s).length ≤ k ∧ (numGo id k lv tx s).length ≤ tx.length ∧ (s ≤ 60 → s + (numGo id k lv tx s).length ≤ 60)
  | 0, lv, tx, s => by simp [numGo]
  | k + 1, lv, [], s => by simp [numGo]
  | k + 1, lv, x :: tx, s => by
    unfold numGo
    cases hc : decide (s < 60) && shortTx x
    · simp
    · simp only [Bool.and_eq_true, decide_eq_true_eq] at hc
      have := numGo_length (id := id) (k := k) (lv := lv.tail) (tx := tx) (s := s + 1)
      simp only [cond_true, List.length_cons]
      refine ⟨by omega, by omega, ?_⟩
      intro _
      have := this.2.2 (by omega)
      push_cast; omega

theorem pick_spec {p : Int → Bool} {hi : Int} : ∀ (k : Nat) (x : Int) (acc : List Int), acc.length ≤ 20 → (∀ n, n ∈ acc → n < x) → acc.Pairwise (· < ·) →
    (pickGo p hi k x acc).length ≤ 20 ∧ (pickGo p hi k x acc).Pairwise (· < ·) ∧ ∀ n, n ∈ pickGo p hi k x acc → n ∈ acc ∨ (x ≤ n ∧ n ≤ hi ∧ p n = true)
  | 0, x, acc, h1, h2, h3 => ⟨h1, h3, fun n hn => .inl hn⟩
  | k + 1, x, acc, h1, h2, h3 => by
    unfold pickGo
    cases hc : decide (x ≤ hi) && decide ((acc.length : Int) < 20)
    · exact ⟨h1, h3, fun n hn => .inl hn⟩
    · simp only [Bool.and_eq_true, decide_eq_true_eq] at hc
      cases hp : p x
      · obtain ⟨a, b, c⟩ := pick_spec (p := p) (hi := hi) k (x + 1) acc h1 (fun n hn => by have := h2 n hn; omega) h3
        refine ⟨a, b, fun n hn => ?_⟩
        rcases c n hn with h | h
        · exact .inl h
        · exact .inr ⟨by omega, h.2⟩
      · obtain ⟨a, b, c⟩ := pick_spec (p := p) (hi := hi) k (x + 1) (acc ++ [x]) (by simp; omega)
          (fun n hn => by
            rcases List.mem_append.1 hn with h | h
            · have := h2 n h; omega
            · rw [List.mem_singleton] at h; omega)
          (by
            rw [List.pairwise_append]
            exact ⟨h3, List.pairwise_singleton _ _, fun a ha b hb => by rw [List.mem_singleton] at hb; subst hb; exact h2 a ha⟩)
        refine ⟨a, b, fun n hn => ?_⟩
        rcases c n hn with h | h
        · rcases List.mem_append.1 h with h | h
          · exact .inl h
          · rw [List.mem_singleton] at h; subst h; exact .inr ⟨Int.le_refl _, hc.1, hp⟩
        · exact .inr ⟨by omega, h.2⟩

theorem missing_mem {l : List PItem} {s n : Int} (h : n ∈ missing l s) : n ≤ s ∧ hasSeq l n = false := by
  obtain ⟨_, _, h3⟩ := pick_spec (p := fun n => !hasSeq l n) (hi := min s 60) 61 (aru l + 1) [] (by simp) (by simp) List.Pairwise.nil
  rcases h3 n h with h | h
  · simp at h
  · exact ⟨by omega, by simpa using h.2.2⟩

theorem lacks_ok {t : PToken} {l : List PItem} (h : tokenOk t = true) : tokenOk (lacks t l) = true := by
  obtain ⟨h1, h2, h3, h4, h5, h6, h7, h8⟩ := tokenOk_iff.1 h
  rw [tokenOk_iff]
  obtain ⟨a, b, c⟩ := pick_spec (p := fun n => (!hasSeq l n && t.2.2.2.2.2.1.contains n) || (missing l t.2.2.1).contains n) (hi := 60) 61 1 [] (by simp) (by simp) List.Pairwise.nil
  refine ⟨h1, h2, h3, h4, h5, a, ?_, b⟩
  intro x hx
  rcases c x hx with h | ⟨g1, g2, g3⟩
  · simp at h
  · refine ⟨g1, ?_⟩
    show x ≤ t.2.2.1
    simp only [Bool.or_eq_true, Bool.and_eq_true, List.contains_iff_mem] at g3
    rcases g3 with g | g
    · exact (h7 x g.2).2
    · exact (missing_mem g).1

theorem mark_ok {t : PToken} {id a : Int} (h : tokenOk t = true) : tokenOk (markT t id a) = true := by
  unfold markT
  cases hc : tokenOk t && inR id 1 5 && decide (0 ≤ a)
  · exact h
  · simp only [Bool.and_eq_true, inR_iff, decide_eq_true_eq] at hc
    obtain ⟨h1, h2, h3, h4, h5, h6, h7, h8⟩ := tokenOk_iff.1 h
    simp only [cond_true]
    cases c1 : decide (a < t.2.2.2.1)
    · simp only [decide_eq_false_iff_not] at c1
      cases c2 : t.2.2.2.2.1 == id
      · exact h
      · cases c3 : decide (a > t.2.2.1)
        · simp only [decide_eq_false_iff_not] at c3
          cases c4 : a == t.2.2.1
          · rw [cond_false, cond_true, cond_false, cond_false, tokenOk_iff]
            exact ⟨h1, h2, h3, ⟨hc.2, by show a ≤ t.2.2.1; omega⟩, h5, h6, h7, h8⟩
          · rw [cond_false, cond_true, cond_false, cond_true, tokenOk_iff]
            exact ⟨h1, h2, h3, ⟨hc.2, by show a ≤ t.2.2.1; omega⟩, by show (0:Int) ≤ 0 ∧ (0:Int) ≤ 5; omega, h6, h7, h8⟩
        · rw [cond_false, cond_true, cond_true, tokenOk_iff]
          exact ⟨h1, h2, h3, ⟨h3.1, Int.le_refl _⟩, by show (0:Int) ≤ 0 ∧ (0:Int) ≤ 5; omega, h6, h7, h8⟩
    · simp only [decide_eq_true_eq] at c1
      rw [cond_true, tokenOk_iff]
      exact ⟨h1, h2, h3, ⟨hc.2, by show a ≤ t.2.2.1; omega⟩, by show (0:Int) ≤ id ∧ id ≤ 5; omega, h6, h7, h8⟩

theorem number_ok {t : PToken} {id : Int} {lv : List Int} {tx : List ByteArray} (h : tokenOk t = true) : tokenOk (number t id lv tx).1 = true := by
  unfold number
  cases hc : tokenOk t && inR id 1 5
  · exact h
  · obtain ⟨h1, h2, h3, h4, h5, h6, h7, h8⟩ := tokenOk_iff.1 h
    have hn := numGo_length (id := id) (k := 3) (lv := lv) (tx := tx) (s := t.2.2.1)
    have hn3 := hn.2.2 h3.2
    simp only [cond_true]
    cases (t.2.2.2.1 == t.2.2.1) && (t.2.2.2.2.1 == 0)
    · rw [cond_false, tokenOk_iff]
      refine ⟨h1, h2, ⟨?_, hn3⟩, ⟨h4.1, ?_⟩, h5, h6, fun x hx => ⟨(h7 x hx).1, ?_⟩, h8⟩
      · show 0 ≤ t.2.2.1 + _; omega
      · show t.2.2.2.1 ≤ t.2.2.1 + _; omega
      · have := (h7 x hx).2
        show x ≤ t.2.2.1 + _; omega
    · rw [cond_true, tokenOk_iff]
      refine ⟨h1, h2, ⟨?_, hn3⟩, ⟨?_, Int.le_refl _⟩, h5, h6, fun x hx => ⟨(h7 x hx).1, ?_⟩, h8⟩
      · show 0 ≤ t.2.2.1 + _; omega
      · show 0 ≤ t.2.2.1 + _; omega
      · have := (h7 x hx).2
        show x ≤ t.2.2.1 + _; omega

theorem holdTok_ok {m : PMate} {t : PToken} (h : tokenOk t = true) (hr : t.2.1 < 1000000000) : tokenOk (holdTok m t) = true := by
  have := lacks_ok (l := holdItems m t) (mark_ok (id := m.1) (a := aru (holdItems m t)) (number_ok (id := m.1) (lv := m.2.2.2.1) (tx := m.2.2.2.2.1) h))
  obtain ⟨h1, h2, h3, h4, h5, h6, h7, h8⟩ := tokenOk_iff.1 this
  obtain ⟨_, g2, _⟩ := tokenOk_iff.1 h
  unfold holdTok
  rw [tokenOk_iff]
  exact ⟨h1, ⟨by show 1 ≤ t.2.1 + 1; omega, by show t.2.1 + 1 ≤ 1000000000; omega⟩, h3, h4, h5, h6, h7, h8⟩

theorem holdNew_length {m : PMate} {t : PToken} : (holdNew m t).length ≤ 3 := by
  unfold holdNew number
  cases tokenOk t && inR m.1 1 5
  · simp
  · exact numGo_length.1

theorem hold_ok {m : PMate} {t : PToken} (h : holdOk m t = true) : MateOk (holdMate m t) := by
  unfold holdOk at h
  simp only [Bool.and_eq_true, mateOk_iff, beq_iff_eq, decide_eq_true_eq] at h
  obtain ⟨⟨⟨⟨h1, h2⟩, h3⟩, h4⟩, h5⟩ := h
  obtain ⟨g1, g2, g3, g4, g5, g6, g7, g8⟩ := tokenOk_iff.1 h2
  obtain ⟨w1, w2, w3, w4⟩ := h1.words'
  have ha := aru_mono' (l := m.2.2.1) (l' := holdItems m t) fun y hy => fold_mem hy
  have e1 := h1.line
  have e2 := h1.heard
  refine ⟨h1.ring, h1.mem, fold_ok h1.items, ?_, ⟨by show 0 ≤ t.2.1; omega, by show t.2.1 ≤ 1000000000; omega⟩, ⟨g4.1, by show t.2.2.2.1 ≤ 60; omega⟩, ⟨?_, ?_⟩, ⟨e2.1, ?_⟩, .inr (holdTok_ok h2 h5)⟩
  · show wordsOk (m.2.2.2.1.drop _) (m.2.2.2.2.1.drop _) = true
    rw [wordsOk_iff]
    exact ⟨fun n hn => w1 n (List.mem_of_mem_drop hn), fun s hs => w2 s (List.mem_of_mem_drop hs), by simp; omega, by simp [w4]⟩
  · show 0 ≤ holdLine m t
    unfold holdLine; omega
  · show holdLine m t ≤ (aru (holdItems m t) : Int)
    unfold holdLine; omega
  · show m.2.2.2.2.2.2.2.2.1 ≤ (aru (holdItems m t) : Int); omega
end Pl

/- Plain laws, part ta: those who go on together, as data. -/
namespace Pl
open Rg Go

def bundleOk (b : PBundle) : Bool := inR b.1 1 5 && inR b.2.1 1 9 && inR b.2.2.1 0 (b.2.1 - 1) && itemsOk b.2.2.2.1 && (decide (b.2.2.1 > 0) || ((b.2.2.2.1.length : Int) == 0))

def isOf (r id : Int) (b : PBundle) : Bool := (b.1 == id) && ((b.2.1 == r) && bundleOk b)

def firstB (r : Int) (l : List PBundle) (id : Int) : Option PBundle := l.find? (isOf r id)

def withB (r : Int) (l : List PBundle) (id old d : Int) : Bool :=
  match firstB r l d with
  | some b => (d == id) || (decide (old > 0) && (b.2.2.1 == old))
  | none => false

def together (r : PRing) (l : List PBundle) (id : Int) : List Int :=
  match firstB r.1 l id with
  | some own => r.2.1.filter (withB r.1 l id own.2.2.1)
  | none => []

def itemsOf : Option PBundle → List PItem
  | some b => b.2.2.2.1
  | none => []

def unionI (ls : List (List PItem)) : List PItem := ls.foldl (fun u l => bif itemsOk l then l.foldl putItem u else u) []

def whole (u : List PItem) : List PItem := u.filter fun x => decide (x.1 ≤ (aru u : Int))

def wholeOf (r : PRing) (l : List PBundle) (who : List Int) : List PItem := whole (unionI (who.map fun d => itemsOf (firstB r.1 l d)))

def rest (r : PRing) (l : List PBundle) (id h : Int) : List PItem :=
  match firstB r.1 l id with
  | some own => bif own.2.2.1 == 0 then [] else (wholeOf r l (together r l id)).filter fun x => decide (x.1 > h)
  | none => []

def allHere (r : PRing) (l : List PBundle) : Bool := r.2.1.all fun d => (firstB r.1 l d).isSome

theorem union_fold : ∀ {ls : List (List PItem)} {u : List PItem}, itemsOk u = true → itemsOk (ls.foldl (fun u l => bif itemsOk l then l.foldl putItem u else u) u) = true
  | [], u, h => h
  | l :: ls, u, h => by
    rw [List.foldl_cons]
    refine union_fold ?_
    cases itemsOk l
    · exact h
    · exact fold_ok h

theorem union_ok {ls : List (List PItem)} : itemsOk (unionI ls) = true := union_fold rfl

/-- Items whose numbers go on without a hole. -/
theorem consec : ∀ (L : List PItem) (s a : Int), L.Pairwise (fun x y => x.1 < y.1) → (∀ x, x ∈ L → s < x.1 ∧ x.1 ≤ a) → (∀ n, s < n → n ≤ a → ∃ x, x ∈ L ∧ x.1 = n) → ∀ k : Nat, L.filter (fun x => decide (x.1 > s + k)) = L.drop k
  | [], _, _, _, _, _, k => by simp
  | x :: t, s, a, h1, h2, h3, k => by
    obtain ⟨p1, p2⟩ := List.pairwise_cons.1 h1
    have hx := h2 x (by simp)
    have e : x.1 = s + 1 := by
      obtain ⟨y, hy, ey⟩ := h3 (s + 1) (by omega) (by omega)
      rcases List.mem_cons.1 hy with e | hy
      · subst e; exact ey
      · have := p1 y hy; omega
    have ih := consec t (s + 1) a p2 (fun y hy => ⟨by have := p1 y hy; omega, (h2 y (by simp [hy])).2⟩) (fun n n1 n2 => by
      obtain ⟨y, hy, ey⟩ := h3 n (by omega) n2
      rcases List.mem_cons.1 hy with e' | hy
      · subst e'; omega
      · exact ⟨y, hy, ey⟩)
    cases k with
    | zero =>
      rw [List.drop_zero]
      refine List.filter_eq_self.2 fun y hy => ?_
      rw [decide_eq_true_eq]
      have := h2 y hy
      omega
    | succ k =>
      rw [List.filter_cons]
      have ex : decide (x.1 > s + ((k + 1 : Nat) : Int)) = false := by rw [decide_eq_false_iff_not]; omega
      rw [ex]
      simp only [Bool.false_eq_true, if_false, List.drop_succ_cons]
      rw [← ih k]
      congr 1
      funext y
      congr 1
      apply propext
      constructor <;> intro h <;> omega

theorem whole_spec {u : List PItem} (h : itemsOk u = true) : (whole u).Pairwise (fun x y => x.1 < y.1) ∧ (∀ x, x ∈ whole u → (0 : Int) < x.1 ∧ x.1 ≤ (aru u : Int)) ∧ ∀ n : Int, 0 < n → n ≤ (aru u : Int) → ∃ x, x ∈ whole u ∧ x.1 = n := by
  obtain ⟨h1, h2⟩ := itemsOk_iff.1 h
  refine ⟨h2.filter _, ?_, ?_⟩
  · intro x hx
    unfold whole at hx
    simp only [List.mem_filter, decide_eq_true_eq] at hx
    have := h1 x hx.1
    simp only [itemOk, Bool.and_eq_true, inR_iff] at this
    exact ⟨by omega, hx.2⟩
  · intro n n1 n2
    obtain ⟨k, hk⟩ : ∃ k : Nat, n = k := ⟨n.toNat, by omega⟩
    subst hk
    obtain ⟨x, hx, e⟩ := hasSeq_iff.1 (aru_has (l := u) (j := k) (by omega) (by omega))
    refine ⟨x, ?_, e⟩
    unfold whole
    simp only [List.mem_filter, decide_eq_true_eq]
    exact ⟨hx, by omega⟩

theorem wholeOf_drop {r : PRing} {l : List PBundle} {who : List Int} (k : Nat) : (wholeOf r l who).filter (fun x => decide (x.1 > (k : Int))) = (wholeOf r l who).drop k := by
  obtain ⟨h1, h2, h3⟩ := whole_spec (u := unionI (who.map fun d => itemsOf (firstB r.1 l d))) union_ok
  have := consec _ 0 _ h1 h2 h3 k
  rw [show (0 : Int) + (k : Int) = (k : Int) from Int.zero_add _] at this
  exact this

theorem rest_drop {r : PRing} {l : List PBundle} {id : Int} (k : Nat) : rest r l id k = (rest r l id 0).drop k := by
  unfold rest
  cases firstB r.1 l id with
  | none => simp
  | some own =>
    simp only
    cases own.2.2.1 == 0
    · simp only [cond_false]
      have h0 := wholeOf_drop (r := r) (l := l) (who := together r l id) 0
      have e0 : (((0 : Nat) : Int)) = 0 := rfl
      rw [wholeOf_drop k, ← e0, h0, List.drop_zero]
    · simp

theorem firstB_isOf {r id : Int} {l : List PBundle} {b : PBundle} (h : firstB r l id = some b) : b.1 = id ∧ b.2.1 = r ∧ bundleOk b = true := by
  have := List.find?_some h
  simp only [isOf, Bool.and_eq_true, beq_iff_eq] at this
  exact ⟨this.1, this.2.1, this.2.2⟩

/-- Whoever goes on with another goes on with the same. -/
theorem together_same {r : PRing} {l : List PBundle} {id d : Int} (hd : d ∈ together r l id) (hne : d ≠ id) : together r l d = together r l id ∧ rest r l d 0 = rest r l id 0 := by
  unfold together at hd
  cases ho : firstB r.1 l id with
  | none => rw [ho] at hd; simp at hd
  | some own =>
    rw [ho] at hd
    simp only [List.mem_filter] at hd
    obtain ⟨_, hw⟩ := hd
    unfold withB at hw
    cases hb : firstB r.1 l d with
    | none => rw [hb] at hw; simp at hw
    | some b =>
      rw [hb] at hw
      simp only [Bool.or_eq_true, Bool.and_eq_true, decide_eq_true_eq, beq_iff_eq] at hw
      rcases hw with e | ⟨p, e⟩
      · exact absurd e hne
      · have et : together r l d = together r l id := by
          unfold together
          rw [ho, hb]
          simp only
          refine List.filter_congr fun x _ => ?_
          unfold withB
          cases hx : firstB r.1 l x with
          | none => rfl
          | some c =>
            simp only
            rw [e, decide_eq_true p]
            have c1 : x = d → c.2.2.1 = own.2.2.1 := fun h => by rw [h, hb] at hx; cases hx; exact e
            have c2 : x = id → c.2.2.1 = own.2.2.1 := fun h => by rw [h, ho] at hx; cases hx; rfl
            rw [Bool.eq_iff_iff]
            simp only [Bool.or_eq_true, Bool.and_eq_true, beq_iff_eq, true_and]
            constructor
            · rintro (h | h)
              · exact .inr (c1 h)
              · exact .inr h
            · rintro (h | h)
              · exact .inr (c2 h)
              · exact .inr h
        refine ⟨et, ?_⟩
        unfold rest
        rw [ho, hb]
        simp only
        have z1 : (b.2.2.1 == 0) = (own.2.2.1 == 0) := by rw [e]
        rw [z1, et]

theorem together_self {r : PRing} {l : List PBundle} {id : Int} (hid : id ∈ r.2.1) (h : allHere r l = true) : id ∈ together r l id := by
  unfold allHere at h
  have := List.all_eq_true.1 h id hid
  unfold together
  cases ho : firstB r.1 l id with
  | none => rw [ho] at this; cases this
  | some own =>
    simp only [List.mem_filter]
    refine ⟨hid, ?_⟩
    unfold withB
    rw [ho]
    simp

theorem together_rises {r : PRing} {l : List PBundle} {id : Int} (h : r.2.1.Pairwise (· < ·)) : (together r l id).Pairwise (· < ·) := by
  unfold together
  cases firstB r.1 l id with
  | none => exact List.Pairwise.nil
  | some own => exact h.filter _
end Pl
