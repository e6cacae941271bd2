/- Plain laws, part c: items, as the program has them. -/
import Derived.Test.YtphjhelolaoihaaPa
import Derived.Test.YtphjhelolaoihaaDf
set_option linter.all false
namespace Go.Proofs.Ytphjhelolaoihaa.R
open Pl Rg Go

theorem s_l01In_eq (K : Nat) (n a b : Int) : s_l01In K n a b = some (inR n a b, ()) := by
  unfold s_l01In inR
  show (bif decide (a ≤ n) then _ else _) = _
  cases decide (a ≤ n) <;> rfl

theorem i_inRange_eq (K : Nat) (n a b : Int) : i_inRange K n a b = some (inR n a b, ()) := by
  unfold i_inRange inR
  show (bif decide (a ≤ n) then _ else _) = _
  cases decide (a ≤ n) <;> rfl

theorem i_isDaemon_eq (K : Nat) (n : Int) : i_isDaemon K n = some (inR n 1 5, ()) := by
  unfold i_isDaemon; rw [i_inRange_eq]; rfl

theorem i_isLevel_eq (K : Nat) (n : Int) : i_isLevel K n = some (inR n 1 2, ()) := by
  unfold i_isLevel inR
  cases h1 : n == 1 <;> cases h2 : n == 2 <;> simp_all <;> omega

theorem s_ItemOk_eq (K : Nat) (x : PItem) : s_ItemOk K x = some (itemOk x, ()) := by
  unfold s_ItemOk itemOk
  simp only [s_l01In_eq, Option.bind_some]
  cases inR x.1 1 60 <;> cases inR x.2.1 1 5 <;> cases inR x.2.2.1 1 2 <;> rfl

theorem i_ItemOk_eq (K : Nat) (x : PItem) : i_ItemOk K x = some (itemOk x, ()) := by
  unfold i_ItemOk itemOk
  simp only [i_inRange_eq, i_isDaemon_eq, i_isLevel_eq, Option.bind_some]
  cases inR x.1 1 60 <;> cases inR x.2.1 1 5 <;> cases inR x.2.2.1 1 2 <;> rfl

section
variable {K : Nat}

/-- A loop's answer: yes, or no at once. -/
def yes (b : Bool) : (Bool × Unit) ⊕ Unit := bif b then .inr () else .inl (false, ())

theorem s_ItemsOk_l0_eq : ∀ (t pre : List PItem) (n : Nat), t.length < n → (pre ++ t).length ≤ 1000000000000 → s_ItemsOk_l0 K n (pre ++ t) (pre.length : Int) = some (yes (itemsFrom (lastOf pre) t))
  | [], pre, n + 1, _, _ => by
    unfold s_ItemsOk_l0
    rw [lt_end]; rfl
  | x :: t, pre, n + 1, hn, hl => by
    have hp : pre.length ≤ 1000000000000 := by simp at hl; omega
    have ih := s_ItemsOk_l0_eq t (pre ++ [x]) n (by simpa using hn) (by simpa using hl)
    unfold s_ItemsOk_l0
    rw [lt_at, inB_at, xi_at (r := R_Item), s_ItemOk_eq, next_at (x := x) hp, app_cons, ih, lastOf_append]
    simp only [cond_true, Option.bind_some, itemsFrom]
    cases hx : itemOk x
    · rfl
    · simp only [Bool.not_true, cond_false, Bool.true_and]
      rcases snoc pre with rfl | ⟨pre', y, rfl⟩
      · simp [lastOf]
      · have hg : decide ((((pre' ++ [y]).length : Nat) : Int) > (0:Int)) = true := by simp
        have hp' : pre'.length ≤ 1000000000000 := by simp at hp; omega
        rw [hg, prev_at hp', lastOf_append]
        have hb : inB (pre'.length : Int) ((pre' ++ [y]) ++ [x] ++ t).length = true := by
          rw [List.append_assoc, List.append_assoc]; exact inB_at
        have hxp : xi R_Item ((pre' ++ [y]) ++ [x] ++ t) (pre'.length : Int) = y := by
          rw [List.append_assoc]; exact xi_prev (r := R_Item)
        rw [hb, hxp]
        simp only [cond_true]
        have e : decide (y.1 ≥ x.1) = !decide (y.1 < x.1) := by
          by_cases h : y.1 < x.1 <;> simp [h] <;> omega
        rw [e]
        cases decide (y.1 < x.1) <;> simp [yes]

theorem s_ItemsOk_eq {l : List PItem} (h : l.length < K) (hK : l.length ≤ 1000000000000) : s_ItemsOk K l = some (itemsOk l, ()) := by
  unfold s_ItemsOk
  have := s_ItemsOk_l0_eq (K := K) l [] K h hK
  rw [show ((0 : Int)) = (([] : List PItem).length : Int) from rfl, show s_ItemsOk_l0 K K l (([] : List PItem).length : Int) = some (yes (itemsFrom none l)) from this]
  show _ = some (itemsFrom none l, ())
  cases itemsFrom none l <;> rfl

theorem i_ItemsOk_l0_eq : ∀ (t pre : List PItem) (n : Nat), t.length < n → (pre ++ t).length ≤ 1000000000000 → i_ItemsOk_l0 K n (pre ++ t) (pre ++ t) ((pre ++ t).length : Int) (pre.length : Int) = some (yes (itemsFrom (lastOf pre) t))
  | [], pre, n + 1, _, _ => by
    unfold i_ItemsOk_l0
    rw [lt_end]; rfl
  | x :: t, pre, n + 1, hn, hl => by
    have hp : pre.length ≤ 1000000000000 := by simp at hl; omega
    have ih := i_ItemsOk_l0_eq t (pre ++ [x]) n (by simpa using hn) (by simpa using hl)
    unfold i_ItemsOk_l0
    rw [lt_at, inB_at, xi_at (r := R_Item), i_ItemOk_eq, next_at (x := x) hp, app_cons, ih, lastOf_append]
    simp only [cond_true, Option.bind_some, itemsFrom]
    cases hx : itemOk x
    · rfl
    · simp only [Bool.not_true, cond_false, Bool.true_and]
      rcases snoc pre with rfl | ⟨pre', y, rfl⟩
      · simp [lastOf]
      · have hg : decide ((((pre' ++ [y]).length : Nat) : Int) > (0:Int)) = true := by simp
        have hp' : pre'.length ≤ 1000000000000 := by simp at hp; omega
        rw [hg, prev_at hp', lastOf_append]
        have hb : inB (pre'.length : Int) ((pre' ++ [y]) ++ [x] ++ t).length = true := by
          rw [List.append_assoc, List.append_assoc]; exact inB_at
        have hxp : xi R_Item ((pre' ++ [y]) ++ [x] ++ t) (pre'.length : Int) = y := by
          rw [List.append_assoc]; exact xi_prev (r := R_Item)
        rw [hb, hxp]
        simp only [cond_true]
        have e : decide (x.1 ≤ y.1) = !decide (y.1 < x.1) := by
          by_cases h : y.1 < x.1 <;> simp [h] <;> omega
        rw [e]
        cases decide (y.1 < x.1) <;> simp [yes]

theorem i_ItemsOk_eq {l : List PItem} (h : l.length < K) (hK : l.length ≤ 1000000000000) : i_ItemsOk K l = some (itemsOk l, ()) := by
  unfold i_ItemsOk
  have := i_ItemsOk_l0_eq (K := K) l [] K h hK
  rw [show i_ItemsOk_l0 K K l l (l.length : Int) (0 : Int) = some (yes (itemsFrom none l)) from this]
  show _ = some (itemsFrom none l, ())
  cases itemsFrom none l <;> rfl

/-! ### a number among numbers; an item of a number -/
theorem s_l05In_l0_eq (x : Int) : ∀ (t pre : List Int) (n : Nat), t.length < n → (pre ++ t).length ≤ 1000000000000 → s_l05In_l0 K n (pre ++ t) x (pre.length : Int) = some (bif t.contains x then .inl (true, ()) else .inr ())
  | [], pre, n + 1, _, _ => by
    unfold s_l05In_l0
    rw [lt_end]; rfl
  | y :: t, pre, n + 1, hn, hl => by
    have hp : pre.length ≤ 1000000000000 := by simp at hl; omega
    have ih := s_l05In_l0_eq x t (pre ++ [y]) n (by simpa using hn) (by simpa using hl)
    unfold s_l05In_l0
    rw [lt_at, inB_at, xi_at (r := .int .i64), next_at (x := y) hp, app_cons, ih]
    simp only [cond_true, List.contains_cons]
    have e : (y == x) = (x == y) := by rw [Bool.eq_iff_iff]; simp only [beq_iff_eq]; exact eq_comm
    rw [e]
    cases x == y <;> simp

theorem s_l05In_eq {l : List Int} {x : Int} (h : l.length < K) (hK : l.length ≤ 1000000000000) : s_l05In K l x = some (l.contains x, ()) := by
  unfold s_l05In
  have := s_l05In_l0_eq (K := K) x l [] K h hK
  rw [show s_l05In_l0 K K l x (0 : Int) = some (bif l.contains x then .inl (true, ()) else .inr ()) from this]
  cases l.contains x <;> rfl

theorem slices_Index_l0_eq (x : Int) : ∀ (t pre : List Int) (n : Nat), t.length < n → (pre ++ t).length ≤ 1000000000000 →
    ∃ i : Int, slices_Index_int_int_l0 K n (pre ++ t) x ((pre ++ t).length : Int) (pre.length : Int) = some (bif t.contains x then .inl (i, ()) else .inr ()) ∧ 0 ≤ i
  | [], pre, n + 1, _, _ => by
    unfold slices_Index_int_int_l0
    rw [lt_end]; exact ⟨0, rfl, Int.le_refl _⟩
  | y :: t, pre, n + 1, hn, hl => by
    have hp : pre.length ≤ 1000000000000 := by simp at hl; omega
    obtain ⟨i, ih, hi⟩ := slices_Index_l0_eq x t (pre ++ [y]) n (by simpa using hn) (by simpa using hl)
    unfold slices_Index_int_int_l0
    rw [lt_at, inB_at, xi_at (r := .int .i64), next_at (x := y) hp, app_cons, ih]
    simp only [cond_true, List.contains_cons]
    cases hxy : x == y
    · exact ⟨i, by simp, hi⟩
    · exact ⟨pre.length, by simp, by omega⟩

theorem slices_Contains_eq {l : List Int} {x : Int} (h : l.length < K) (hK : l.length ≤ 1000000000000) : slices_Contains_int_int K l x = some (l.contains x, ()) := by
  unfold slices_Contains_int_int slices_Index_int_int
  obtain ⟨i, h1, h2⟩ := slices_Index_l0_eq (K := K) x l [] K h hK
  rw [show slices_Index_int_int_l0 K K l x (l.length : Int) (0 : Int) = some (bif l.contains x then .inl (i, ()) else .inr ()) from h1]
  cases l.contains x
  · rfl
  · simp [h2]

theorem i_ItemAt_l0_eq (s : Int) (z : PItem) : ∀ (t pre : List PItem) (n : Nat), t.length < n → (pre ++ t).length ≤ 1000000000000 →
    i_ItemAt_l0 K n s (pre ++ t) ((pre ++ t).length : Int) (pre.length : Int) z = some (match t.find? fun x => x.1 == s with | some x => .inl (x, true, ()) | none => .inr ((), z, ()))
  | [], pre, n + 1, _, _ => by
    unfold i_ItemAt_l0
    rw [lt_end]; rfl
  | y :: t, pre, n + 1, hn, hl => by
    have hp : pre.length ≤ 1000000000000 := by simp at hl; omega
    have ih := i_ItemAt_l0_eq s z t (pre ++ [y]) n (by simpa using hn) (by simpa using hl)
    unfold i_ItemAt_l0
    rw [lt_at, inB_at, xi_at (r := R_Item), next_at (x := y) hp, app_cons, ih]
    simp only [cond_true, List.find?_cons]
    cases y.1 == s <;> simp

theorem i_ItemAt_eq {l : List PItem} {s : Int} (h : l.length < K) (hK : l.length ≤ 1000000000000) : i_ItemAt K l s = some ((itemAt l s).1, (itemAt l s).2, ()) := by
  unfold i_ItemAt
  have := i_ItemAt_l0_eq (K := K) s zItem l [] K h hK
  rw [show i_ItemAt_l0 K K s l (l.length : Int) (0 : Int) ((0:Int), ((0:Int), ((0:Int), ((⟨#[]⟩ : ByteArray), ())))) = _ from this]
  unfold itemAt
  cases l.find? fun x => x.1 == s <;> rfl

/-! ### how far the numbers go -/
theorem i_AruOf_l0_eq {l : List PItem} (h : l.length < K) (hK : l.length ≤ 1000000000000) : ∀ (k n m : Nat), m + k = aru l → k < n → i_AruOf_l0 K n l (m : Int) = some (.inl ((aru l : Int), ()))
  | k, n + 1, m, hm, hk => by
    unfold i_AruOf_l0
    have hle := aru_le (l := l)
    rw [w64_id (by omega), i_ItemAt_eq h hK]
    simp only [Option.bind_some, itemAt_snd]
    cases k with
    | zero =>
      have : m = aru l := by omega
      subst this
      rw [aru_not]; rfl
    | succ k =>
      have h1 := aru_has (l := l) (j := m + 1) (by omega) (by omega)
      have e : ((m : Int) + 1) = ((m + 1 : Nat) : Int) := by omega
      rw [e, h1]
      exact i_AruOf_l0_eq h hK k n (m + 1) (by omega) (by omega)

theorem i_AruOf_eq {l : List PItem} (h : l.length < K) (hK : l.length ≤ 1000000000000) : i_AruOf K l = some ((aru l : Int), ()) := by
  unfold i_AruOf
  have hle := aru_le (l := l)
  have := i_AruOf_l0_eq (K := K) h hK (aru l) K 0 (by omega) (by omega)
  rw [show i_AruOf_l0 K K l (0 : Int) = _ from this]
  rfl

end
end Go.Proofs.Ytphjhelolaoihaa.R

/- Plain laws, part e: rings, tokens, members, as the program has them. -/
namespace Go.Proofs.Ytphjhelolaoihaa.R
open Pl Rg Go

section
variable {K : Nat}

def yesT (tk : PToken) (b : Bool) : (Bool × Unit) ⊕ (Unit × PToken × Unit) := bif b then .inr ((), tk, ()) else .inl (false, ())

/-! ### blankT tokens -/
/-! ### words -/
theorem all_zip {lv : List Int} {tx : List ByteArray} (h : lv.length = tx.length) : (lv.zip tx).all (fun p => inR p.1 1 2 && shortTx p.2) = (lv.all (fun n => inR n 1 2) && tx.all shortTx) := by
  induction lv generalizing tx with
  | nil =>
    cases tx with
    | nil => rfl
    | cons _ _ => simp at h
  | cons y lv ih =>
    cases tx with
    | nil => simp at h
    | cons x tx =>
      simp only [List.zip_cons_cons, List.all_cons, ih (by simpa using h)]
      cases inR y 1 2 <;> cases shortTx x <;> simp

def yesM (m : PMate) (b : Bool) : (Bool × Unit) ⊕ (Unit × PMate × Unit) := bif b then .inr ((), m, ()) else .inl (false, ())

/-! ### members -/
/-! ### copies -/
end
end Go.Proofs.Ytphjhelolaoihaa.R

/- Plain laws, part g: what a member does, as the spec has it. -/
namespace Go.Proofs.Ytphjhelolaoihaa.R
open Pl Rg Go

section
variable {K : Nat}

theorem gt_not {a b : Int} : decide (a > b) = !decide (a ≤ b) := by
  by_cases h : a ≤ b <;> simp [h]; omega

theorem ge_not {a b : Int} : decide (a ≥ b) = !decide (a < b) := by
  by_cases h : a < b <;> simp [h]; omega

/-! ### hear -/
/-! ### an item among items -/
/-! ### what is given again -/
end
end Go.Proofs.Ytphjhelolaoihaa.R

/- Plain laws, part r: an item put among items, as the program has it. -/
namespace Go.Proofs.Ytphjhelolaoihaa.R
open Pl Rg Go

section
variable {K : Nat}

theorem i_putItem_l0_eq (x : PItem) : ∀ (t pre : List PItem) (n : Nat), (∀ y, y ∈ pre → y.1 < x.1) → t.length < n → (pre ++ t).length ≤ 1000000000000 →
    ∃ p s : List PItem, p ++ s = pre ++ t ∧ (∀ y, y ∈ p → y.1 < x.1) ∧ (∀ y s', s = y :: s' → x.1 ≤ y.1) ∧ i_putItem_l0 K n (pre ++ t) (pre.length : Int) x = some (.inr (pre ++ t, (), (p.length : Int), x, ()))
  | [], pre, n + 1, h, _, _ => by
    unfold i_putItem_l0
    rw [lt_end]
    exact ⟨pre, [], rfl, h, fun y s' e => (by cases e), rfl⟩
  | y :: t, pre, n + 1, h, hn, hl => by
    have hp : pre.length ≤ 1000000000000 := by simp at hl; omega
    unfold i_putItem_l0
    rw [lt_at, inB_at, xi_at (r := R_Item), next_at (x := y) hp]
    cases c : decide (y.1 < x.1)
    · rw [decide_eq_false_iff_not] at c
      exact ⟨pre, y :: t, rfl, h, fun z s' e => by cases e; omega, rfl⟩
    · rw [decide_eq_true_eq] at c
      obtain ⟨p, s, h1, h2, h3, h4⟩ := i_putItem_l0_eq x t (pre ++ [y]) n (fun z hz => by
        rcases List.mem_append.1 hz with hz | hz
        · exact h z hz
        · rw [List.mem_singleton] at hz; subst hz; exact c) (by simpa using hn) (by simpa using hl)
      refine ⟨p, s, by rw [h1]; simp, h2, h3, ?_⟩
      rw [app_cons (pre := pre) (t := t)]
      exact h4

theorem filter_all {α : Type} {p : α → Bool} : ∀ {l : List α}, (∀ x, x ∈ l → p x = true) → l.filter p = l
  | [], _ => rfl
  | x :: l, h => by rw [List.filter_cons, h x (by simp)]; simp only [if_true]; rw [filter_all fun y hy => h y (by simp [hy])]

theorem filter_none {α : Type} {p : α → Bool} : ∀ {l : List α}, (∀ x, x ∈ l → p x = false) → l.filter p = []
  | [], _ => rfl
  | x :: l, h => by rw [List.filter_cons, h x (by simp)]; simp only [Bool.false_eq_true, if_false]; exact filter_none fun y hy => h y (by simp [hy])

theorem i_putItem_eq {l : List PItem} {x : PItem} (h : itemsOk l = true) (hK : big ≤ K) : i_putItem K l x = some (bif hasSeq l x.1 then l else Pl.insert l x, ()) := by
  have hb : big = 4000000 := rfl
  have hil := itemsOk_length h
  obtain ⟨_, hs⟩ := itemsOk_iff.1 h
  unfold i_putItem
  obtain ⟨p, s, h1, h2, h3, h4⟩ := i_putItem_l0_eq (K := K) x l [] K (by simp) (by omega) (by simp; omega)
  have h1 : p ++ s = l := h1
  rw [show i_putItem_l0 K K l (0:Int) x = _ from h4]
  simp only [Option.bind_some, Sum.elim_inr, List.nil_append]
  subst h1
  have hge : ∀ y, y ∈ s → x.1 ≤ y.1 := by
    cases s with
    | nil => intro y hy; cases hy
    | cons z s' =>
      intro y hy
      have := h3 z s' rfl
      rcases List.mem_cons.1 hy with e | hy
      · subst e; exact this
      · have := (List.pairwise_cons.1 (List.pairwise_append.1 hs).2.1).1 y hy
        omega
  have hins : slices_Insert_i_Item_i_Item K (p ++ s) (p.length : Int) [x] = some (p ++ (x :: s), ()) := by
    unfold slices_Insert_i_Item_i_Item insOf
    have e1 : inTo (p.length : Int) (p ++ s).length = true := by unfold inTo; rw [decide_eq_true (by omega : (0:Int) ≤ (p.length : Int)), decide_eq_true (by simp; omega)]; rfl
    have e2 : Nat.ble (((p ++ s).length + 1) * 40) 140737488355328 = true := Nat.ble_eq_true_of_le (by omega)
    rw [e1, e2, Int.toNat_natCast]
    simp
  have hp1 : p.filter (fun y => decide (y.1 < x.1)) = p := filter_all fun y hy => by simpa using h2 y hy
  have hp2 : p.filter (fun y => decide (y.1 > x.1)) = [] := filter_none fun y hy => by have := h2 y hy; simp; omega
  have hs1 : s.filter (fun y => decide (y.1 < x.1)) = [] := filter_none fun y hy => by have := hge y hy; simp; omega
  have hnp : ∀ y, y ∈ p → y.1 ≠ x.1 := fun y hy e => by have := h2 y hy; omega
  have ins : (∀ y, y ∈ s → y.1 ≠ x.1) → some (p ++ x :: s, ()) = some (bif hasSeq (p ++ s) x.1 then p ++ s else Pl.insert (p ++ s) x, ()) := by
    intro hne
    have e : hasSeq (p ++ s) x.1 = false := by
      cases c : hasSeq (p ++ s) x.1
      · rfl
      · obtain ⟨y, hy, e⟩ := hasSeq_iff.1 c
        rcases List.mem_append.1 hy with hy | hy
        · exact absurd e (hnp y hy)
        · exact absurd e (hne y hy)
    have hs2 : s.filter (fun y => decide (y.1 > x.1)) = s := filter_all fun y hy => by have := hge y hy; have := hne y hy; simp; omega
    rw [e]
    unfold Pl.insert
    rw [List.filter_append, List.filter_append, hp1, hp2, hs1, hs2]
    simp
  cases s with
  | nil =>
    have e1 : decide ((p.length : Int) < ((p ++ []).length : Int)) = false := by simp
    rw [e1, hins]
    exact ins (by simp)
  | cons z s' =>
    rw [lt_at, inB_at, xi_at (r := R_Item)]
    simp only [cond_true]
    cases c : z.1 == x.1
    · rw [hins]
      have hz : z.1 ≠ x.1 := fun e => by rw [e] at c; simp at c
      refine ins ?_
      intro y hy
      rcases List.mem_cons.1 hy with e | hy
      · subst e; exact hz
      · have h5 := (List.pairwise_cons.1 (List.pairwise_append.1 hs).2.1).1 y hy
        have h6 := hge z (by simp)
        omega
    · have e : hasSeq (p ++ z :: s') x.1 = true := hasSeq_iff.2 ⟨z, by simp, eq_of_beq c⟩
      rw [e]; rfl

end
end Go.Proofs.Ytphjhelolaoihaa.R

/- Plain laws, part u: lists of items that are the same. -/
namespace Go.Proofs.Ytphjhelolaoihaa.R
open Pl Rg Go

theorem item_eqB (x : PItem) : R_Item.eqB x x = true := by
  simp [Ty.eqB]

theorem l_sameItems_l0_self {K : Nat} : ∀ (t pre : List PItem) (n : Nat), t.length < n → (pre ++ t).length ≤ 1000000000000 → l_sameItems_l0 K n (pre ++ t) (pre ++ t) (pre.length : Int) = some (.inr ())
  | [], pre, n + 1, _, _ => by
    unfold l_sameItems_l0
    rw [lt_end]; rfl
  | y :: t, pre, n + 1, hn, hl => by
    have hp : pre.length ≤ 1000000000000 := by simp at hl; omega
    have ih := l_sameItems_l0_self (K := K) t (pre ++ [y]) n (by simpa using hn) (by simpa using hl)
    unfold l_sameItems_l0
    rw [lt_at, inB_at, xi_at (r := R_Item), next_at (x := y) hp, item_eqB, app_cons (pre := pre) (t := t)]
    exact ih

theorem l_sameItems_self {K : Nat} {l : List PItem} (h : l.length < K) (hK : l.length ≤ 1000000000000) : l_sameItems K l l = some (true, ()) := by
  unfold l_sameItems
  have e : ((l.length : Int) != (l.length : Int)) = false := by simp
  rw [e]
  have := l_sameItems_l0_self (K := K) l [] K h hK
  rw [show l_sameItems_l0 K K l l (0:Int) = _ from this]
  rfl

end Go.Proofs.Ytphjhelolaoihaa.R

/- Plain laws, part h: holding the token, as the spec has it. -/
namespace Go.Proofs.Ytphjhelolaoihaa.R
open Pl Rg Go

section
variable {K : Nat}

theorem getD_at {lv : List Int} {i : Nat} (h : i < lv.length) : lvOf (lv.drop i) = bif (xi (.int .i64) lv (i : Int)) == 2 then 2 else 1 := by
  rw [xi_nat (r := .int .i64) h, List.drop_eq_getElem_cons h]; rfl

theorem lvOf_none {lv : List Int} {i : Nat} (h : ¬ i < lv.length) : lvOf (lv.drop i) = 1 := by
  rw [List.drop_eq_nil_of_le (by omega)]; rfl

theorem missing_length {l : List PItem} {s : Int} : (missing l s).length ≤ 20 :=
  (pick_spec (p := fun n => !hasSeq l n) (hi := min s 60) 61 (aru l + 1) [] (by simp) (by simp) List.Pairwise.nil).1

/-! ### hold -/
end
end Go.Proofs.Ytphjhelolaoihaa.R

/- Plain laws, part i: holding the token. -/
namespace Go.Proofs.Ytphjhelolaoihaa.R
open Pl Rg Go

section
variable {K : Nat}

theorem fold_length : ∀ {xs l : List PItem}, (xs.foldl putItem l).length ≤ l.length + xs.length
  | [], l => by simp
  | x :: xs, l => by
    have := fold_length (xs := xs) (l := putItem l x)
    have := putItem_length (l := l) (x := x)
    simp only [List.foldl_cons, List.length_cons]; omega

theorem number_wants {t : PToken} {id : Int} {lv : List Int} {tx : List ByteArray} : (number t id lv tx).1.2.2.2.2.2.1 = t.2.2.2.2.2.1 := by
  unfold number
  cases tokenOk t && inR id 1 5
  · rfl
  · simp only [cond_true]
    cases (t.2.2.2.1 == t.2.2.1) && (t.2.2.2.2.1 == 0) <;> rfl

theorem mark_wants {t : PToken} {id a : Int} : (markT t id a).2.2.2.2.2.1 = t.2.2.2.2.2.1 := by
  unfold markT
  cases tokenOk t && inR id 1 5 && decide (0 ≤ a) <;> try rfl
  cases decide (a < t.2.2.2.1) <;> try rfl
  cases t.2.2.2.2.1 == id <;> try rfl
  cases decide (a > t.2.2.1) <;> try rfl
  cases a == t.2.2.1 <;> rfl

theorem inTo_drop {n l : Nat} (h : n ≤ l) : inTo (n : Int) l = true := by simp [inTo, h]

theorem lacks_wants {t : PToken} {l : List PItem} : (lacks t l).2.2.2.2.2.1.length ≤ 20 :=
  (pick_spec (p := fun n => (!hasSeq l n && t.2.2.2.2.2.1.contains n) || (missing l t.2.2.1).contains n) (hi := 60) 61 1 [] (by simp) (by simp) List.Pairwise.nil).1

theorem max_line {a b line : Int} : (bif decide (a < b) then bif decide (a > line) then a else line else bif decide (b > line) then b else line) = max line (min a b) := by
  by_cases h1 : a < b <;> by_cases h2 : a > line <;> by_cases h3 : b > line <;> simp [h1, h2, h3] <;> omega

theorem bif_app {α β : Type} (f : α → β) (c : Bool) (x y : α) : (bif c then f x else f y) = f (bif c then x else y) := by cases c <;> rfl

end
end Go.Proofs.Ytphjhelolaoihaa.R
