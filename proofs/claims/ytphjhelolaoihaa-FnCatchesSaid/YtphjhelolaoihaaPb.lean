/- Plain laws, part c: items, as the program has them. -/
import Derived.Test.YtphjhelolaoihaaPa
import Derived.Test.YtphjhelolaoihaaDf
set_option linter.all false
namespace Go.Proofs.Ytphjhelolaoihaa.R
open Pl Rg Go

theorem s_l01In_eq (K : Nat) (n a b : Int) : s_l01In K n a b = some (inR n a b, ()) := by
  unfold s_l01In inR
  show (bif decide (a ≤ n) then _ else _) = _
  cases decide (a ≤ n) <;> rfl

theorem i_inRange_eq (K : Nat) (n a b : Int) : i_inRange K n a b = some (inR n a b, ()) := by
  unfold i_inRange inR
  show (bif decide (a ≤ n) then _ else _) = _
  cases decide (a ≤ n) <;> rfl

theorem i_isDaemon_eq (K : Nat) (n : Int) : i_isDaemon K n = some (inR n 1 5, ()) := by
  unfold i_isDaemon; rw [i_inRange_eq]; rfl

theorem i_isLevel_eq (K : Nat) (n : Int) : i_isLevel K n = some (inR n 1 2, ()) := by
  unfold i_isLevel inR
  cases h1 : n == 1 <;> cases h2 : n == 2 <;> simp_all <;> omega

theorem s_ItemOk_eq (K : Nat) (x : PItem) : s_ItemOk K x = some (itemOk x, ()) := by
  unfold s_ItemOk itemOk
  simp only [s_l01In_eq, Option.bind_some]
  cases inR x.1 1 60 <;> cases inR x.2.1 1 5 <;> cases inR x.2.2.1 1 2 <;> rfl

theorem i_ItemOk_eq (K : Nat) (x : PItem) : i_ItemOk K x = some (itemOk x, ()) := by
  unfold i_ItemOk itemOk
  simp only [i_inRange_eq, i_isDaemon_eq, i_isLevel_eq, Option.bind_some]
  cases inR x.1 1 60 <;> cases inR x.2.1 1 5 <;> cases inR x.2.2.1 1 2 <;> rfl

section
variable {K : Nat}

/-- A loop's answer: yes, or no at once. -/
def yes (b : Bool) : (Bool × Unit) ⊕ Unit := bif b then .inr () else .inl (false, ())

theorem s_ItemsOk_l0_eq : ∀ (t pre : List PItem) (n : Nat), t.length < n → (pre ++ t).length ≤ 1000000000000 → s_ItemsOk_l0 K n (pre ++ t) (pre.length : Int) = some (yes (itemsFrom (lastOf pre) t))
  | [], pre, n + 1, _, _ => by
    unfold s_ItemsOk_l0
    rw [lt_end]; rfl
  | x :: t, pre, n + 1, hn, hl => by
    have hp : pre.length ≤ 1000000000000 := by simp at hl; omega
    have ih := s_ItemsOk_l0_eq t (pre ++ [x]) n (by simpa using hn) (by simpa using hl)
    unfold s_ItemsOk_l0
    rw [lt_at, inB_at, xi_at (r := R_Item), s_ItemOk_eq, next_at (x := x) hp, app_cons, ih, lastOf_append]
    simp only [cond_true, Option.bind_some, itemsFrom]
    cases hx : itemOk x
    · rfl
    · simp only [Bool.not_true, cond_false, Bool.true_and]
      rcases snoc pre with rfl | ⟨pre', y, rfl⟩
      · simp [lastOf]
      · have hg : decide ((((pre' ++ [y]).length : Nat) : Int) > (0:Int)) = true := by simp
        have hp' : pre'.length ≤ 1000000000000 := by simp at hp; omega
        rw [hg, prev_at hp', lastOf_append]
        have hb : inB (pre'.length : Int) ((pre' ++ [y]) ++ [x] ++ t).length = true := by
          rw [List.append_assoc, List.append_assoc]; exact inB_at
        have hxp : xi R_Item ((pre' ++ [y]) ++ [x] ++ t) (pre'.length : Int) = y := by
          rw [List.append_assoc]; exact xi_prev (r := R_Item)
        rw [hb, hxp]
        simp only [cond_true]
        have e : decide (y.1 ≥ x.1) = !decide (y.1 < x.1) := by
          by_cases h : y.1 < x.1 <;> simp [h] <;> omega
        rw [e]
        cases decide (y.1 < x.1) <;> simp [yes]

theorem s_ItemsOk_eq {l : List PItem} (h : l.length < K) (hK : l.length ≤ 1000000000000) : s_ItemsOk K l = some (itemsOk l, ()) := by
  unfold s_ItemsOk
  have := s_ItemsOk_l0_eq (K := K) l [] K h hK
  rw [show ((0 : Int)) = (([] : List PItem).length : Int) from rfl, show s_ItemsOk_l0 K K l (([] : List PItem).length : Int) = some (yes (itemsFrom none l)) from this]
  show _ = some (itemsFrom none l, ())
  cases itemsFrom none l <;> rfl

theorem i_ItemsOk_l0_eq : ∀ (t pre : List PItem) (n : Nat), t.length < n → (pre ++ t).length ≤ 1000000000000 → i_ItemsOk_l0 K n (pre ++ t) (pre ++ t) ((pre ++ t).length : Int) (pre.length : Int) = some (yes (itemsFrom (lastOf pre) t))
  | [], pre, n + 1, _, _ => by
    unfold i_ItemsOk_l0
    rw [lt_end]; rfl
  | x :: t, pre, n + 1, hn, hl => by
    have hp : pre.length ≤ 1000000000000 := by simp at hl; omega
    have ih := i_ItemsOk_l0_eq t (pre ++ [x]) n (by simpa using hn) (by simpa using hl)
    unfold i_ItemsOk_l0
    rw [lt_at, inB_at, xi_at (r := R_Item), i_ItemOk_eq, next_at (x := x) hp, app_cons, ih, lastOf_append]
    simp only [cond_true, Option.bind_some, itemsFrom]
    cases hx : itemOk x
    · rfl
    · simp only [Bool.not_true, cond_false, Bool.true_and]
      rcases snoc pre with rfl | ⟨pre', y, rfl⟩
      · simp [lastOf]
      · have hg : decide ((((pre' ++ [y]).length : Nat) : Int) > (0:Int)) = true := by simp
        have hp' : pre'.length ≤ 1000000000000 := by simp at hp; omega
        rw [hg, prev_at hp', lastOf_append]
        have hb : inB (pre'.length : Int) ((pre' ++ [y]) ++ [x] ++ t).length = true := by
          rw [List.append_assoc, List.append_assoc]; exact inB_at
        have hxp : xi R_Item ((pre' ++ [y]) ++ [x] ++ t) (pre'.length : Int) = y := by
          rw [List.append_assoc]; exact xi_prev (r := R_Item)
        rw [hb, hxp]
        simp only [cond_true]
        have e : decide (x.1 ≤ y.1) = !decide (y.1 < x.1) := by
          by_cases h : y.1 < x.1 <;> simp [h] <;> omega
        rw [e]
        cases decide (y.1 < x.1) <;> simp [yes]

theorem i_ItemsOk_eq {l : List PItem} (h : l.length < K) (hK : l.length ≤ 1000000000000) : i_ItemsOk K l = some (itemsOk l, ()) := by
  unfold i_ItemsOk
  have := i_ItemsOk_l0_eq (K := K) l [] K h hK
  rw [show i_ItemsOk_l0 K K l l (l.length : Int) (0 : Int) = some (yes (itemsFrom none l)) from this]
  show _ = some (itemsFrom none l, ())
  cases itemsFrom none l <;> rfl

/-! ### a number among numbers; an item of a number -/
theorem s_l05In_l0_eq (x : Int) : ∀ (t pre : List Int) (n : Nat), t.length < n → (pre ++ t).length ≤ 1000000000000 → s_l05In_l0 K n (pre ++ t) x (pre.length : Int) = some (bif t.contains x then .inl (true, ()) else .inr ())
  | [], pre, n + 1, _, _ => by
    unfold s_l05In_l0
    rw [lt_end]; rfl
  | y :: t, pre, n + 1, hn, hl => by
    have hp : pre.length ≤ 1000000000000 := by simp at hl; omega
    have ih := s_l05In_l0_eq x t (pre ++ [y]) n (by simpa using hn) (by simpa using hl)
    unfold s_l05In_l0
    rw [lt_at, inB_at, xi_at (r := .int .i64), next_at (x := y) hp, app_cons, ih]
    simp only [cond_true, List.contains_cons]
    have e : (y == x) = (x == y) := by rw [Bool.eq_iff_iff]; simp only [beq_iff_eq]; exact eq_comm
    rw [e]
    cases x == y <;> simp

theorem s_l05In_eq {l : List Int} {x : Int} (h : l.length < K) (hK : l.length ≤ 1000000000000) : s_l05In K l x = some (l.contains x, ()) := by
  unfold s_l05In
  have := s_l05In_l0_eq (K := K) x l [] K h hK
  rw [show s_l05In_l0 K K l x (0 : Int) = some (bif l.contains x then .inl (true, ()) else .inr ()) from this]
  cases l.contains x <;> rfl

theorem slices_Index_l0_eq (x : Int) : ∀ (t pre : List Int) (n : Nat), t.length < n → (pre ++ t).length ≤ 1000000000000 →
    ∃ i : Int, slices_Index_int_int_l0 K n (pre ++ t) x ((pre ++ t).length : Int) (pre.length : Int) = some (bif t.contains x then .inl (i, ()) else .inr ()) ∧ 0 ≤ i
  | [], pre, n + 1, _, _ => by
    unfold slices_Index_int_int_l0
    rw [lt_end]; exact ⟨0, rfl, Int.le_refl _⟩
  | y :: t, pre, n + 1, hn, hl => by
    have hp : pre.length ≤ 1000000000000 := by simp at hl; omega
    obtain ⟨i, ih, hi⟩ := slices_Index_l0_eq x t (pre ++ [y]) n (by simpa using hn) (by simpa using hl)
    unfold slices_Index_int_int_l0
    rw [lt_at, inB_at, xi_at (r := .int .i64), next_at (x := y) hp, app_cons, ih]
    simp only [cond_true, List.contains_cons]
    cases hxy : x == y
    · exact ⟨i, by simp, hi⟩
    · exact ⟨pre.length, by simp, by omega⟩

theorem slices_Contains_eq {l : List Int} {x : Int} (h : l.length < K) (hK : l.length ≤ 1000000000000) : slices_Contains_int_int K l x = some (l.contains x, ()) := by
  unfold slices_Contains_int_int slices_Index_int_int
  obtain ⟨i, h1, h2⟩ := slices_Index_l0_eq (K := K) x l [] K h hK
  rw [show slices_Index_int_int_l0 K K l x (l.length : Int) (0 : Int) = some (bif l.contains x then .inl (i, ()) else .inr ()) from h1]
  cases l.contains x
  · rfl
  · simp [h2]

theorem s_ItemAt_l0_eq (s : Int) (z : PItem) : ∀ (t pre : List PItem) (n : Nat), t.length < n → (pre ++ t).length ≤ 1000000000000 →
    s_ItemAt_l0 K n (pre ++ t) s (pre.length : Int) z = some (match t.find? fun x => x.1 == s with | some x => .inl (x, true, ()) | none => .inr ((), z, ()))
  | [], pre, n + 1, _, _ => by
    unfold s_ItemAt_l0
    rw [lt_end]; rfl
  | y :: t, pre, n + 1, hn, hl => by
    have hp : pre.length ≤ 1000000000000 := by simp at hl; omega
    have ih := s_ItemAt_l0_eq s z t (pre ++ [y]) n (by simpa using hn) (by simpa using hl)
    unfold s_ItemAt_l0
    rw [lt_at, inB_at, xi_at (r := R_Item), next_at (x := y) hp, app_cons, ih]
    simp only [cond_true, List.find?_cons]
    cases y.1 == s <;> simp

theorem s_ItemAt_eq {l : List PItem} {s : Int} (h : l.length < K) (hK : l.length ≤ 1000000000000) : s_ItemAt K l s = some ((itemAt l s).1, (itemAt l s).2, ()) := by
  unfold s_ItemAt
  have := s_ItemAt_l0_eq (K := K) s zItem l [] K h hK
  rw [show s_ItemAt_l0 K K l s (0 : Int) ((0:Int), ((0:Int), ((0:Int), ((⟨#[]⟩ : ByteArray), ())))) = _ from this]
  unfold itemAt
  cases l.find? fun x => x.1 == s <;> rfl

theorem i_ItemAt_l0_eq (s : Int) (z : PItem) : ∀ (t pre : List PItem) (n : Nat), t.length < n → (pre ++ t).length ≤ 1000000000000 →
    i_ItemAt_l0 K n s (pre ++ t) ((pre ++ t).length : Int) (pre.length : Int) z = some (match t.find? fun x => x.1 == s with | some x => .inl (x, true, ()) | none => .inr ((), z, ()))
  | [], pre, n + 1, _, _ => by
    unfold i_ItemAt_l0
    rw [lt_end]; rfl
  | y :: t, pre, n + 1, hn, hl => by
    have hp : pre.length ≤ 1000000000000 := by simp at hl; omega
    have ih := i_ItemAt_l0_eq s z t (pre ++ [y]) n (by simpa using hn) (by simpa using hl)
    unfold i_ItemAt_l0
    rw [lt_at, inB_at, xi_at (r := R_Item), next_at (x := y) hp, app_cons, ih]
    simp only [cond_true, List.find?_cons]
    cases y.1 == s <;> simp

theorem i_ItemAt_eq {l : List PItem} {s : Int} (h : l.length < K) (hK : l.length ≤ 1000000000000) : i_ItemAt K l s = some ((itemAt l s).1, (itemAt l s).2, ()) := by
  unfold i_ItemAt
  have := i_ItemAt_l0_eq (K := K) s zItem l [] K h hK
  rw [show i_ItemAt_l0 K K s l (l.length : Int) (0 : Int) ((0:Int), ((0:Int), ((0:Int), ((⟨#[]⟩ : ByteArray), ())))) = _ from this]
  unfold itemAt
  cases l.find? fun x => x.1 == s <;> rfl

/-! ### how far the numbers go -/
theorem i_AruOf_l0_eq {l : List PItem} (h : l.length < K) (hK : l.length ≤ 1000000000000) : ∀ (k n m : Nat), m + k = aru l → k < n → i_AruOf_l0 K n l (m : Int) = some (.inl ((aru l : Int), ()))
  | k, n + 1, m, hm, hk => by
    unfold i_AruOf_l0
    have hle := aru_le (l := l)
    rw [w64_id (by omega), i_ItemAt_eq h hK]
    simp only [Option.bind_some, itemAt_snd]
    cases k with
    | zero =>
      have : m = aru l := by omega
      subst this
      rw [aru_not]; rfl
    | succ k =>
      have h1 := aru_has (l := l) (j := m + 1) (by omega) (by omega)
      have e : ((m : Int) + 1) = ((m + 1 : Nat) : Int) := by omega
      rw [e, h1]
      exact i_AruOf_l0_eq h hK k n (m + 1) (by omega) (by omega)

theorem i_AruOf_eq {l : List PItem} (h : l.length < K) (hK : l.length ≤ 1000000000000) : i_AruOf K l = some ((aru l : Int), ()) := by
  unfold i_AruOf
  have hle := aru_le (l := l)
  have := i_AruOf_l0_eq (K := K) h hK (aru l) K 0 (by omega) (by omega)
  rw [show i_AruOf_l0 K K l (0 : Int) = _ from this]
  rfl

theorem s_AruOf_l0_eq {l : List PItem} (h : l.length < K) (hK : l.length ≤ 1000000000000) : ∀ (k n m : Nat), m + k = l.length → m ≤ aru l → k < n →
    ∃ r, s_AruOf_l0 K n l (m : Int) (m : Int) = some r ∧ (r = .inl ((aru l : Int), ()) ∨ r = .inr ((aru l : Int), ()))
  | k, n + 1, m, hm, ha, hk => by
    unfold s_AruOf_l0
    have hle := aru_le (l := l)
    rw [w64_id (by omega), s_ItemAt_eq h hK]
    simp only [Option.bind_some, itemAt_snd]
    cases k with
    | zero =>
      have e : decide ((m : Int) < (l.length : Int)) = false := by simp; omega
      rw [e]
      have : m = aru l := by omega
      subst this
      exact ⟨_, rfl, .inr rfl⟩
    | succ k =>
      have e : decide ((m : Int) < (l.length : Int)) = true := by simp; omega
      rw [e]
      simp only [cond_true]
      by_cases hma : m = aru l
      · subst hma
        rw [aru_not]; exact ⟨_, rfl, .inl rfl⟩
      · have h1 := aru_has (l := l) (j := m + 1) (by omega) (by omega)
        have e : ((m : Int) + 1) = ((m + 1 : Nat) : Int) := by omega
        rw [e, h1]
        exact s_AruOf_l0_eq h hK k n (m + 1) (by omega) (by omega) (by omega)

theorem s_AruOf_eq {l : List PItem} (h : l.length < K) (hK : l.length ≤ 1000000000000) : s_AruOf K l = some ((aru l : Int), ()) := by
  unfold s_AruOf
  obtain ⟨r, h1, h2⟩ := s_AruOf_l0_eq (K := K) h hK l.length K 0 (by omega) (by omega) h
  rw [show s_AruOf_l0 K K l (0 : Int) (0 : Int) = _ from h1]
  rcases h2 with rfl | rfl <;> rfl
end
end Go.Proofs.Ytphjhelolaoihaa.R

/- Plain laws, part e: rings, tokens, members, as the program has them. -/
namespace Go.Proofs.Ytphjhelolaoihaa.R
open Pl Rg Go

section
variable {K : Nat}

theorem s_RingOk_l0_eq (i : Int) (u : Unit) : ∀ (t pre : List Int) (n : Nat), t.length < n → (pre ++ t).length ≤ 1000000000000 → s_RingOk_l0 K n (pre.length : Int) (i, pre ++ t, u) = some (yes (intsFrom 1 5 (lastI pre) t))
  | [], pre, n + 1, _, _ => by
    unfold s_RingOk_l0
    rw [lt_end]; rfl
  | x :: t, pre, n + 1, hn, hl => by
    have hp : pre.length ≤ 1000000000000 := by simp at hl; omega
    have ih := s_RingOk_l0_eq i u t (pre ++ [x]) n (by simpa using hn) (by simpa using hl)
    unfold s_RingOk_l0
    rw [lt_at, inB_at, xi_at (r := .int .i64), s_l01In_eq, next_at (x := x) hp, app_cons, ih, lastI_append]
    simp only [cond_true, Option.bind_some, intsFrom]
    cases hx : inR x 1 5
    · rfl
    · simp only [Bool.not_true, cond_false, Bool.true_and]
      rcases snoc pre with rfl | ⟨pre', y, rfl⟩
      · simp [lastI]
      · have hg : decide ((((pre' ++ [y]).length : Nat) : Int) > (0:Int)) = true := by simp
        have hp' : pre'.length ≤ 1000000000000 := by simp at hp; omega
        rw [hg, prev_at hp', lastI_append]
        have hb : inB (pre'.length : Int) ((pre' ++ [y]) ++ [x] ++ t).length = true := by
          rw [List.append_assoc, List.append_assoc]; exact inB_at
        have hxp : xi (.int .i64) ((pre' ++ [y]) ++ [x] ++ t) (pre'.length : Int) = y := by
          rw [List.append_assoc]; exact xi_prev (r := .int .i64)
        rw [hb, hxp]
        simp only [cond_true]
        have e : decide (y ≥ x) = !decide (y < x) := by
          by_cases h : y < x <;> simp [h] <;> omega
        rw [e]
        cases decide (y < x) <;> simp [yes]

theorem i_RingOk_l0_eq (i : Int) (u : Unit) : ∀ (t pre : List Int) (n : Nat), t.length < n → (pre ++ t).length ≤ 1000000000000 → i_RingOk_l0 K n (pre ++ t) ((pre ++ t).length : Int) (pre.length : Int) (i, pre ++ t, u) = some (yes (intsFrom 1 5 (lastI pre) t))
  | [], pre, n + 1, _, _ => by
    unfold i_RingOk_l0
    rw [lt_end]; rfl
  | x :: t, pre, n + 1, hn, hl => by
    have hp : pre.length ≤ 1000000000000 := by simp at hl; omega
    have ih := i_RingOk_l0_eq i u t (pre ++ [x]) n (by simpa using hn) (by simpa using hl)
    unfold i_RingOk_l0
    rw [lt_at, inB_at, xi_at (r := .int .i64), i_isDaemon_eq, next_at (x := x) hp, app_cons, ih, lastI_append]
    simp only [cond_true, Option.bind_some, intsFrom]
    cases hx : inR x 1 5
    · rfl
    · simp only [Bool.not_true, cond_false, Bool.true_and]
      rcases snoc pre with rfl | ⟨pre', y, rfl⟩
      · simp [lastI]
      · have hg : decide ((((pre' ++ [y]).length : Nat) : Int) > (0:Int)) = true := by simp
        have hp' : pre'.length ≤ 1000000000000 := by simp at hp; omega
        rw [hg, prev_at hp', lastI_append]
        have hb : inB (pre'.length : Int) ((pre' ++ [y]) ++ [x] ++ t).length = true := by
          rw [List.append_assoc, List.append_assoc]; exact inB_at
        have hxp : xi (.int .i64) ((pre' ++ [y]) ++ [x] ++ t) (pre'.length : Int) = y := by
          rw [List.append_assoc]; exact xi_prev (r := .int .i64)
        rw [hb, hxp]
        simp only [cond_true]
        have e : decide (x ≤ y) = !decide (y < x) := by
          by_cases h : y < x <;> simp [h] <;> omega
        rw [e]
        cases decide (y < x) <;> simp [yes]

theorem s_TokenOk_l0_eq (c r q a b : Int) (u : Unit) : ∀ (t pre : List Int) (n : Nat), t.length < n → (pre ++ t).length ≤ 1000000000000 → s_TokenOk_l0 K n (pre.length : Int) (c, r, q, a, b, pre ++ t, u) = some (yes (intsFrom 1 q (lastI pre) t))
  | [], pre, n + 1, _, _ => by
    unfold s_TokenOk_l0
    rw [lt_end]; rfl
  | x :: t, pre, n + 1, hn, hl => by
    have hp : pre.length ≤ 1000000000000 := by simp at hl; omega
    have ih := s_TokenOk_l0_eq c r q a b u t (pre ++ [x]) n (by simpa using hn) (by simpa using hl)
    unfold s_TokenOk_l0
    rw [lt_at, inB_at, xi_at (r := .int .i64), s_l01In_eq, next_at (x := x) hp, app_cons, ih, lastI_append]
    simp only [cond_true, Option.bind_some, intsFrom]
    cases hx : inR x 1 q
    · rfl
    · simp only [Bool.not_true, cond_false, Bool.true_and]
      rcases snoc pre with rfl | ⟨pre', y, rfl⟩
      · simp [lastI]
      · have hg : decide ((((pre' ++ [y]).length : Nat) : Int) > (0:Int)) = true := by simp
        have hp' : pre'.length ≤ 1000000000000 := by simp at hp; omega
        rw [hg, prev_at hp', lastI_append]
        have hb : inB (pre'.length : Int) ((pre' ++ [y]) ++ [x] ++ t).length = true := by
          rw [List.append_assoc, List.append_assoc]; exact inB_at
        have hxp : xi (.int .i64) ((pre' ++ [y]) ++ [x] ++ t) (pre'.length : Int) = y := by
          rw [List.append_assoc]; exact xi_prev (r := .int .i64)
        rw [hb, hxp]
        simp only [cond_true]
        have e : decide (y ≥ x) = !decide (y < x) := by
          by_cases h : y < x <;> simp [h] <;> omega
        rw [e]
        cases decide (y < x) <;> simp [yes]

def yesT (tk : PToken) (b : Bool) : (Bool × Unit) ⊕ (Unit × PToken × Unit) := bif b then .inr ((), tk, ()) else .inl (false, ())

theorem i_TokenOk_l0_eq (c r q a b : Int) (u : Unit) : ∀ (t pre : List Int) (n : Nat), t.length < n → (pre ++ t).length ≤ 1000000000000 → i_TokenOk_l0 K n (pre ++ t) ((pre ++ t).length : Int) (pre.length : Int) (c, r, q, a, b, pre ++ t, u) = some (yesT (c, r, q, a, b, pre ++ t, u) (intsFrom 1 q (lastI pre) t))
  | [], pre, n + 1, _, _ => by
    unfold i_TokenOk_l0
    rw [lt_end]; rfl
  | x :: t, pre, n + 1, hn, hl => by
    have hp : pre.length ≤ 1000000000000 := by simp at hl; omega
    have ih := i_TokenOk_l0_eq c r q a b u t (pre ++ [x]) n (by simpa using hn) (by simpa using hl)
    unfold i_TokenOk_l0
    rw [lt_at, inB_at, xi_at (r := .int .i64), i_inRange_eq, next_at (x := x) hp, app_cons, ih, lastI_append]
    simp only [cond_true, Option.bind_some, intsFrom]
    cases hx : inR x 1 q
    · rfl
    · simp only [Bool.not_true, cond_false, Bool.true_and]
      rcases snoc pre with rfl | ⟨pre', y, rfl⟩
      · simp [lastI]
      · have hg : decide ((((pre' ++ [y]).length : Nat) : Int) > (0:Int)) = true := by simp
        have hp' : pre'.length ≤ 1000000000000 := by simp at hp; omega
        rw [hg, prev_at hp', lastI_append]
        have hb : inB (pre'.length : Int) ((pre' ++ [y]) ++ [x] ++ t).length = true := by
          rw [List.append_assoc, List.append_assoc]; exact inB_at
        have hxp : xi (.int .i64) ((pre' ++ [y]) ++ [x] ++ t) (pre'.length : Int) = y := by
          rw [List.append_assoc]; exact xi_prev (r := .int .i64)
        rw [hb, hxp]
        simp only [cond_true]
        have e : decide (x ≤ y) = !decide (y < x) := by
          by_cases h : y < x <;> simp [h] <;> omega
        rw [e]
        cases decide (y < x) <;> simp [yesT]

theorem s_RingOk_eq {r : PRing} (h : r.2.1.length < K) (hK : r.2.1.length ≤ 1000000000000) : s_RingOk K r = some (ringOk r, ()) := by
  unfold s_RingOk ringOk
  obtain ⟨i, l, u⟩ := r
  have := s_RingOk_l0_eq (K := K) i u l [] K h hK
  simp only at this ⊢
  rw [show s_RingOk_l0 K K (0 : Int) (i, l, u) = some (yes (intsFrom 1 5 none l)) from this]
  simp only [s_l01In_eq, Option.bind_some]
  cases inR i 1 9 <;> cases inR (l.length : Int) 1 5 <;> cases intsFrom 1 5 none l <;> rfl

theorem i_RingOk_eq {r : PRing} (h : r.2.1.length < K) (hK : r.2.1.length ≤ 1000000000000) : i_RingOk K r = some (ringOk r, ()) := by
  unfold i_RingOk ringOk
  obtain ⟨i, l, u⟩ := r
  have := i_RingOk_l0_eq (K := K) i u l [] K h hK
  simp only at this ⊢
  rw [show i_RingOk_l0 K K l (l.length : Int) (0 : Int) (i, l, u) = some (yes (intsFrom 1 5 none l)) from this]
  simp only [i_inRange_eq, Option.bind_some]
  cases inR i 1 9 <;> cases inR (l.length : Int) 1 5 <;> cases intsFrom 1 5 none l <;> rfl

theorem s_TokenOk_eq {t : PToken} (h : t.2.2.2.2.2.1.length < K) (hK : t.2.2.2.2.2.1.length ≤ 1000000000000) : s_TokenOk K t = some (tokenOk t, ()) := by
  unfold s_TokenOk tokenOk
  obtain ⟨c, r, q, a, b, l, u⟩ := t
  have := s_TokenOk_l0_eq (K := K) c r q a b u l [] K h hK
  simp only at this ⊢
  rw [show s_TokenOk_l0 K K (0 : Int) (c, r, q, a, b, l, u) = some (yes (intsFrom 1 q none l)) from this]
  simp only [s_l01In_eq, Option.bind_some]
  have e : decide ((l.length : Int) > (20:Int)) = !decide ((l.length : Int) ≤ 20) := by
    by_cases h : (l.length : Int) ≤ 20 <;> simp [h] <;> omega
  rw [e]
  cases inR c 1 9 <;> cases inR r 1 1000000000 <;> cases inR q 0 60 <;> cases inR a 0 q <;> cases inR b 0 5 <;> cases decide ((l.length : Int) ≤ 20) <;> cases intsFrom 1 q none l <;> rfl

theorem i_TokenOk_eq {t : PToken} (h : t.2.2.2.2.2.1.length < K) (hK : t.2.2.2.2.2.1.length ≤ 1000000000000) : i_TokenOk K t = some (tokenOk t, ()) := by
  unfold i_TokenOk tokenOk
  obtain ⟨c, r, q, a, b, l, u⟩ := t
  have := i_TokenOk_l0_eq (K := K) c r q a b u l [] K h hK
  simp only at this ⊢
  rw [show i_TokenOk_l0 K K l (l.length : Int) (0 : Int) (c, r, q, a, b, l, u) = some (yesT (c, r, q, a, b, l, u) (intsFrom 1 q none l)) from this]
  simp only [i_inRange_eq, Option.bind_some]
  cases inR c 1 9 <;> cases inR r 1 1000000000 <;> cases inR q 0 60 <;> cases intsFrom 1 q none l <;> simp [yesT, i_inRange_eq]
  cases inR a 0 q <;> cases inR b 0 5 <;> simp

/-! ### blankT tokens -/
theorem s_l05SameInts_nil (l : List Int) (h : 0 < K) : s_l05SameInts K l [] = some ((l.length : Int) == 0, ()) := by
  unfold s_l05SameInts
  cases l with
  | nil =>
    obtain ⟨k, rfl⟩ : ∃ k, K = k + 1 := ⟨K - 1, by omega⟩
    rfl
  | cons x l =>
    have e : (((x :: l).length : Int) != (([] : List Int).length : Int)) = true := by simp; omega
    rw [e]
    have e2 : (((x :: l).length : Int) == 0) = false := by simp; omega
    rw [e2]; rfl

theorem s_l10Blank_eq {t : PToken} (h : 0 < K) : s_l10Blank K t = some (blankT t, ()) := by
  unfold s_l10Blank s_l05SameToken blankT
  obtain ⟨c, r, q, a, b, l, u⟩ := t
  simp only [s_l05SameInts_nil l h, Option.bind_some]
  cases c == 0 <;> cases r == 0 <;> cases q == 0 <;> cases a == 0 <;> cases b == 0 <;> rfl

theorem i_Token_isZero_eq (t : PToken) : i_Token_isZero K t = some (blankT t, ()) := by
  unfold i_Token_isZero blankT
  obtain ⟨c, r, q, a, b, l, u⟩ := t
  simp only
  cases c == 0 <;> cases r == 0 <;> cases q == 0 <;> cases a == 0 <;> cases b == 0 <;> rfl

/-! ### words -/
theorem s_l10Texts_l0_eq : ∀ (tx : List ByteArray) (lv prl : List Int) (prt : List ByteArray) (n : Nat), prl.length = prt.length → tx.length < n → (prt ++ tx).length ≤ 1000000000000 →
    s_l10Texts_l0 K n (prl ++ lv) (prt ++ tx) (prt.length : Int) = some (bif (lv.zip tx).all (fun p => inR p.1 1 2 && shortTx p.2) then .inr (prl ++ lv, prt ++ tx, ()) else .inl (false, ()))
  | [], lv, prl, prt, n + 1, _, _, _ => by
    unfold s_l10Texts_l0
    rw [lt_end]; simp
  | x :: tx, [], prl, prt, n + 1, hp, _, _ => by
    unfold s_l10Texts_l0
    rw [lt_at, ← hp, lt_end]; simp
  | x :: tx, y :: lv, prl, prt, n + 1, hp, hn, hl => by
    have hp1 : prt.length ≤ 1000000000000 := by simp at hl; omega
    have ih := s_l10Texts_l0_eq tx lv (prl ++ [y]) (prt ++ [x]) n (by simp [hp]) (by simpa using hn) (by simpa using hl)
    unfold s_l10Texts_l0
    rw [lt_at, next_at (x := x) hp1, inB_at, xi_at (r := .str)]
    rw [← hp, lt_at, inB_at, xi_at (r := .int .i64), s_l01In_eq]
    simp only [cond_true, Option.bind_some, List.zip_cons_cons, List.all_cons]
    have e1 : prl ++ y :: lv = (prl ++ [y]) ++ lv := by simp
    have e2 : prt ++ x :: tx = (prt ++ [x]) ++ tx := by simp
    cases inR y 1 2
    · rfl
    · have e3 : decide ((x.size : Int) > (60:Int)) = !shortTx x := by
        unfold shortTx
        by_cases h : (x.size : Int) ≤ 60 <;> simp [h] <;> omega
      rw [e3, e1, e2, ih]
      cases shortTx x <;> rfl

theorem all_zip {lv : List Int} {tx : List ByteArray} (h : lv.length = tx.length) : (lv.zip tx).all (fun p => inR p.1 1 2 && shortTx p.2) = (lv.all (fun n => inR n 1 2) && tx.all shortTx) := by
  induction lv generalizing tx with
  | nil =>
    cases tx with
    | nil => rfl
    | cons _ _ => simp at h
  | cons y lv ih =>
    cases tx with
    | nil => simp at h
    | cons x tx =>
      simp only [List.zip_cons_cons, List.all_cons, ih (by simpa using h)]
      cases inR y 1 2 <;> cases shortTx x <;> simp

theorem s_l10Texts_eq {lv : List Int} {tx : List ByteArray} (h : tx.length < K) (hK : tx.length ≤ 1000000000000) : s_l10Texts K lv tx = some (wordsOk lv tx, ()) := by
  unfold s_l10Texts
  have := s_l10Texts_l0_eq (K := K) tx lv [] [] K rfl h hK
  rw [show s_l10Texts_l0 K K lv tx (0 : Int) = some (bif (lv.zip tx).all (fun p => inR p.1 1 2 && shortTx p.2) then .inr (lv, tx, ()) else .inl (false, ())) from this]
  unfold wordsOk
  by_cases he : lv.length = tx.length
  · rw [all_zip he]
    have e : ((lv.length : Int) == (tx.length : Int)) = true := by simp [he]
    rw [e]
    cases hh : (lv.all (fun n => inR n 1 2) && tx.all shortTx)
    · simp
    · simp only [cond_true, Option.bind_some, Sum.elim_inr, e]
      cases decide ((tx.length : Int) ≤ 20) <;> rfl
  · have e : ((lv.length : Int) == (tx.length : Int)) = false := by simp; omega
    rw [e]
    cases (lv.zip tx).all (fun p => inR p.1 1 2 && shortTx p.2)
    · simp
    · simp only [cond_true, Option.bind_some, Sum.elim_inr, e, Bool.and_false]
      cases decide ((tx.length : Int) ≤ 20) <;> rfl

theorem i_areShort_l0_eq : ∀ (t pre : List ByteArray) (n : Nat), t.length < n → (pre ++ t).length ≤ 1000000000000 → i_areShort_l0 K n (pre ++ t) ((pre ++ t).length : Int) (pre.length : Int) = some (yes (t.all shortTx))
  | [], pre, n + 1, _, _ => by
    unfold i_areShort_l0
    rw [lt_end]; rfl
  | x :: t, pre, n + 1, hn, hl => by
    have hp : pre.length ≤ 1000000000000 := by simp at hl; omega
    have ih := i_areShort_l0_eq t (pre ++ [x]) n (by simpa using hn) (by simpa using hl)
    unfold i_areShort_l0
    rw [lt_at, inB_at, xi_at (r := .str), next_at (x := x) hp, app_cons, ih]
    have e3 : decide ((x.size : Int) > (60:Int)) = !shortTx x := by
      unfold shortTx
      by_cases h : (x.size : Int) ≤ 60 <;> simp [h] <;> omega
    rw [e3]
    simp only [cond_true, List.all_cons]
    cases shortTx x <;> simp [yes]

theorem i_areShort_eq {l : List ByteArray} (h : l.length < K) (hK : l.length ≤ 1000000000000) : i_areShort K l = some (l.all shortTx, ()) := by
  unfold i_areShort
  have := i_areShort_l0_eq (K := K) l [] K h hK
  rw [show i_areShort_l0 K K l (l.length : Int) (0 : Int) = some (yes (l.all shortTx)) from this]
  cases l.all shortTx <;> rfl

def yesM (m : PMate) (b : Bool) : (Bool × Unit) ⊕ (Unit × PMate × Unit) := bif b then .inr ((), m, ()) else .inl (false, ())

theorem i_MateOk_l0_eq (m : PMate) : ∀ (t pre : List Int) (n : Nat), t.length < n → (pre ++ t).length ≤ 1000000000000 → i_MateOk_l0 K n (pre ++ t) ((pre ++ t).length : Int) (pre.length : Int) m = some (yesM m (t.all fun n => inR n 1 2))
  | [], pre, n + 1, _, _ => by
    unfold i_MateOk_l0
    rw [lt_end]; rfl
  | x :: t, pre, n + 1, hn, hl => by
    have hp : pre.length ≤ 1000000000000 := by simp at hl; omega
    have ih := i_MateOk_l0_eq m t (pre ++ [x]) n (by simpa using hn) (by simpa using hl)
    unfold i_MateOk_l0
    rw [lt_at, inB_at, xi_at (r := .int .i64), next_at (x := x) hp, app_cons, ih, i_isLevel_eq]
    simp only [cond_true, List.all_cons, Option.bind_some]
    cases inR x 1 2 <;> simp [yesM]

/-! ### members -/
theorem s_MateOk_eq {m : PMate} (h : MateSm m) (hK : big ≤ K) : s_MateOk K m = some (mateOk m, ()) := by
  have hb : big = 4000000 := rfl
  obtain ⟨h1, h2, h3, h4, h5⟩ := h
  unfold s_MateOk mateOk
  rw [s_RingOk_eq (by omega) (by omega), s_l05In_eq (by omega) (by omega), s_ItemsOk_eq (by omega) (by omega), s_l10Texts_eq (by omega) (by omega), s_AruOf_eq (by omega) (by omega), s_l10Blank_eq (by omega), s_TokenOk_eq (by omega) (by omega)]
  simp only [s_l01In_eq, Option.bind_some]
  cases ringOk m.2.1 <;> cases m.2.1.2.1.contains m.1 <;> cases itemsOk m.2.2.1 <;> cases wordsOk m.2.2.2.1 m.2.2.2.2.1 <;> try rfl
  cases inR m.2.2.2.2.2.1 0 1000000000 <;> cases inR m.2.2.2.2.2.2.1 0 60 <;> cases inR m.2.2.2.2.2.2.2.1 0 (aru m.2.2.1 : Int) <;> cases inR m.2.2.2.2.2.2.2.2.1 0 (aru m.2.2.1 : Int) <;> try rfl
  cases blankT m.2.2.2.2.2.2.2.2.2.1 <;> cases tokenOk m.2.2.2.2.2.2.2.2.2.1 <;> rfl

theorem i_MateOk_eq {m : PMate} (h : MateSm m) (hK : big ≤ K) : i_MateOk K m = some (mateOk m, ()) := by
  have hb : big = 4000000 := rfl
  obtain ⟨h1, h2, h3, h4, h5⟩ := h
  unfold i_MateOk mateOk
  have hl := i_MateOk_l0_eq (K := K) m m.2.2.2.1 [] K (by omega) (by simp; omega)
  rw [show i_MateOk_l0 K K m.2.2.2.1 (m.2.2.2.1.length : Int) (0 : Int) m = some (yesM m (m.2.2.2.1.all fun n => inR n 1 2)) from hl]
  rw [i_RingOk_eq (by omega) (by omega), slices_Contains_eq (by omega) (by omega), i_ItemsOk_eq (by omega) (by omega), i_areShort_eq (by omega) (by omega)]
  unfold wordsOk
  have e1 : decide ((m.2.2.2.2.1.length : Int) > (20:Int)) = !decide ((m.2.2.2.2.1.length : Int) ≤ 20) := by
    by_cases h : (m.2.2.2.2.1.length : Int) ≤ 20 <;> simp [h] <;> omega
  have e2 : ((m.2.2.2.1.length : Int) != (m.2.2.2.2.1.length : Int)) = !((m.2.2.2.1.length : Int) == (m.2.2.2.2.1.length : Int)) := rfl
  rw [e1, e2]
  simp only [Option.bind_some]
  cases ringOk m.2.1 <;> cases m.2.1.2.1.contains m.1 <;> cases itemsOk m.2.2.1 <;> cases m.2.2.2.1.all (fun n => inR n 1 2) <;> cases m.2.2.2.2.1.all shortTx <;> cases decide ((m.2.2.2.2.1.length : Int) ≤ 20) <;>
    cases ((m.2.2.2.1.length : Int) == (m.2.2.2.2.1.length : Int)) <;> try rfl
  simp only [Bool.not_true, cond_false, yesM, cond_true, Option.bind_some, Sum.elim_inr]
  rw [i_AruOf_eq (by omega) (by omega), i_Token_isZero_eq, i_TokenOk_eq (by omega) (by omega)]
  simp only [i_inRange_eq, Option.bind_some]
  cases inR m.2.2.2.2.2.1 0 1000000000 <;> cases inR m.2.2.2.2.2.2.1 0 60 <;> cases inR m.2.2.2.2.2.2.2.1 0 (aru m.2.2.1 : Int) <;> cases inR m.2.2.2.2.2.2.2.2.1 0 (aru m.2.2.1 : Int) <;> try rfl
  cases blankT m.2.2.2.2.2.2.2.2.2.1 <;> cases tokenOk m.2.2.2.2.2.2.2.2.2.1 <;> rfl

/-! ### copies -/
theorem s_l05CopyToken_eq {t : PToken} (h : t.2.2.2.2.2.1.length ≤ 3000000) : s_l05CopyToken K t = some (t, ()) := by
  unfold s_l05CopyToken
  rw [List.nil_append, fits_small (by omega) (by decide)]; rfl

theorem s_l10Copy_eq {m : PMate} (h : MateSm m) : s_l10Copy K m = some (m, ()) := by
  obtain ⟨h1, h2, h3, h4, h5⟩ := h
  unfold s_l10Copy
  simp only [List.nil_append]
  rw [fits_small (by omega) (by decide), fits_small (by omega) (by decide), fits_small (by omega) (by decide), fits_small (by omega) (by decide)]
  simp only [cond_true]
  rw [s_l05CopyToken_eq (by omega)]
  rfl

theorem i_copyToken_eq {t : PToken} (h : t.2.2.2.2.2.1.length ≤ 3000000) : i_copyToken K t = some (t, ()) := by
  unfold i_copyToken slices_Clone_int_int
  rw [fits_small (by omega) (by decide)]; rfl

theorem i_copyRing_eq {r : PRing} (h : r.2.1.length ≤ 3000000) : i_copyRing K r = some (r, ()) := by
  unfold i_copyRing slices_Clone_int_int
  rw [fits_small (by omega) (by decide)]; rfl

theorem i_copyMate_eq {m : PMate} (h : MateSm m) : i_copyMate K m = some (m, ()) := by
  obtain ⟨h1, h2, h3, h4, h5⟩ := h
  unfold i_copyMate slices_Clone_i_Item_i_Item slices_Clone_int_int slices_Clone_string_string
  rw [i_copyRing_eq (by omega), i_copyToken_eq (by omega), fits_small (by omega) (by decide), fits_small (by omega) (by decide), fits_small (by omega) (by decide)]
  rfl
end
end Go.Proofs.Ytphjhelolaoihaa.R

/- Plain laws, part g: what a member does, as the spec has it. -/
namespace Go.Proofs.Ytphjhelolaoihaa.R
open Pl Rg Go

section
variable {K : Nat}

theorem gt_not {a b : Int} : decide (a > b) = !decide (a ≤ b) := by
  by_cases h : a ≤ b <;> simp [h]; omega

theorem ge_not {a b : Int} : decide (a ≥ b) = !decide (a < b) := by
  by_cases h : a < b <;> simp [h]; omega

theorem s_Say_eq {m : PMate} {lv : Int} {tx : ByteArray} (h : MateSm m) (hK : big ≤ K) : s_Say K m lv tx = some ((say m lv tx).1, (say m lv tx).2, ()) := by
  unfold s_Say say sayOk
  rw [s_MateOk_eq h hK, s_l01In_eq, s_l10Copy_eq h]
  obtain ⟨h1, h2, h3, h4, h5⟩ := h
  have e1 : decide ((tx.size : Int) > (60:Int)) = !shortTx tx := gt_not
  have e2 : decide ((m.2.2.2.2.1.length : Int) ≥ (20:Int)) = !decide ((m.2.2.2.2.1.length : Int) < 20) := ge_not
  rw [e1, e2]
  simp only [Option.bind_some]
  rw [fits_small (by simp; omega) (by decide), fits_small (by simp; omega) (by decide)]
  cases mateOk m <;> cases inR lv 1 2 <;> cases shortTx tx <;> cases decide ((m.2.2.2.2.1.length : Int) < 20) <;> rfl

/-! ### hear -/
theorem s_Hear_l0_eq {m : PMate} (z : PMate) (h : MateSm m) (hK : big ≤ K) : ∀ (k n : Nat) (acc : List PItem) (hd : Int), 0 ≤ hd → hd + k = aru m.2.2.1 → k < n → acc.length + k ≤ 5000000 →
    ∃ r, s_Hear_l0 K n acc (aru m.2.2.1 : Int) m z (mSetHeard m hd) = some r ∧
      (r = .inl (mSetHeard m (hd + (hearGo m.2.2.1 m.2.2.2.2.2.2.2.1 k hd).length), acc ++ hearGo m.2.2.1 m.2.2.2.2.2.2.2.1 k hd, ()) ∨
       r = .inr ((), (), acc ++ hearGo m.2.2.1 m.2.2.2.2.2.2.2.1 k hd, z, mSetHeard m (hd + (hearGo m.2.2.1 m.2.2.2.2.2.2.2.1 k hd).length), ()))
  | 0, n + 1, acc, hd, h0, hk, hn, hacc => by
    unfold s_Hear_l0
    have e : decide (hd < (aru m.2.2.1 : Int)) = false := by simp; omega
    have e' : decide ((mSetHeard m hd).2.2.2.2.2.2.2.2.1 < (aru m.2.2.1 : Int)) = false := e
    rw [e']
    refine ⟨_, rfl, .inr ?_⟩
    simp [hearGo]
  | k + 1, n + 1, acc, hd, h0, hk, hn, hacc => by
    have ha := aru_le (l := m.2.2.1)
    have hb : big = 4000000 := rfl
    have hi := h.items
    unfold s_Hear_l0
    have e' : decide ((mSetHeard m hd).2.2.2.2.2.2.2.2.1 < (aru m.2.2.1 : Int)) = true := by show decide (hd < (aru m.2.2.1 : Int)) = true; simp; omega
    rw [e']
    have e2 : w64 ((mSetHeard m hd).2.2.2.2.2.2.2.2.1 + (1:Int)) = hd + 1 := by show w64 (hd + 1) = _; rw [w64_id (by omega)]
    rw [e2, s_ItemAt_eq (by omega) (by omega)]
    simp only [cond_true, Option.bind_some]
    have ih := s_Hear_l0_eq z h hK k n (acc ++ [(itemAt m.2.2.1 (hd + 1)).1]) (hd + 1) (by omega) (by push_cast at hk; omega) (by omega) (by simp; omega)
    rw [fits_small (by simp; omega) (by decide)]
    unfold hearGo
    cases c1 : (itemAt m.2.2.1 (hd + 1)).1.2.2.1 == (2:Int)
    · simp only [cond_false, cond_true, Bool.false_and]
      obtain ⟨r, hr, hc⟩ := ih
      refine ⟨r, hr, ?_⟩
      simp only [List.append_assoc, List.singleton_append] at hc
      have e3 : hd + (((itemAt m.2.2.1 (hd + 1)).1 :: hearGo m.2.2.1 m.2.2.2.2.2.2.2.1 k (hd + 1)).length : Int) = hd + 1 + (hearGo m.2.2.1 m.2.2.2.2.2.2.2.1 k (hd + 1)).length := by simp; omega
      rw [e3]; exact hc
    · cases c2 : decide ((itemAt m.2.2.1 (hd + 1)).1.1 > m.2.2.2.2.2.2.2.1)
      · simp only [cond_false, cond_true, Bool.and_false]
        obtain ⟨r, hr, hc⟩ := ih
        refine ⟨r, hr, ?_⟩
        simp only [List.append_assoc, List.singleton_append] at hc
        have e3 : hd + (((itemAt m.2.2.1 (hd + 1)).1 :: hearGo m.2.2.1 m.2.2.2.2.2.2.2.1 k (hd + 1)).length : Int) = hd + 1 + (hearGo m.2.2.1 m.2.2.2.2.2.2.2.1 k (hd + 1)).length := by simp; omega
        rw [e3]; exact hc
      · simp only [cond_true, Bool.and_self, List.length_nil, List.append_nil]
        refine ⟨_, rfl, .inl ?_⟩
        simp

theorem s_Hear_eq {m : PMate} (h : MateSm m) (hK : big ≤ K) : s_Hear K m = some ((hear m).1, (hear m).2, ()) := by
  have ha := aru_le (l := m.2.2.1)
  have hb : big = 4000000 := rfl
  have hi := h.items
  unfold s_Hear hear
  rw [s_l10Copy_eq h, s_MateOk_eq h hK, s_AruOf_eq (by omega) (by omega)]
  simp only [Option.bind_some]
  cases hm : mateOk m
  · rfl
  · have hm := mateOk_iff.1 hm
    have h1 := hm.heard
    obtain ⟨r, hr, hc⟩ := s_Hear_l0_eq (K := K) zMate h hK (aru m.2.2.1 - m.2.2.2.2.2.2.2.2.1.toNat) K [] m.2.2.2.2.2.2.2.2.1 (by omega) (by omega) (by omega) (by simp; omega)
    simp only [Bool.not_true, cond_false, cond_true]
    have hr' : s_Hear_l0 K K [] (aru m.2.2.1 : Int) m zMate m = some r := hr
    refine Eq.trans (congrArg (fun o => Option.bind o _) hr') ?_
    rcases hc with rfl | rfl <;> rfl

/-! ### an item among items -/
theorem s_PutItem_l0_eq (c : List PItem) (x : PItem) : ∀ (t pre acc : List PItem) (n : Nat), t.length < n → (pre ++ t).length ≤ 4000000 → acc.length + t.length ≤ 5000000 →
    s_PutItem_l0 K n (pre ++ t) c acc (pre.length : Int) x = some (bif hasSeq t x.1 then .inl (c, ()) else .inr (pre ++ t, (), acc ++ t.filter (fun y => decide (y.1 < x.1)), x, ()))
  | [], pre, acc, n + 1, _, _, _ => by
    unfold s_PutItem_l0
    rw [lt_end]; simp [hasSeq]
  | y :: t, pre, acc, n + 1, hn, hl, hacc => by
    have hp : pre.length ≤ 1000000000000 := by simp at hl; omega
    have ih := fun acc h => s_PutItem_l0_eq c x t (pre ++ [y]) acc n (by simpa using hn) (by simpa using hl) h
    unfold s_PutItem_l0
    rw [lt_at, inB_at, xi_at (r := R_Item), next_at (x := y) hp, app_cons (pre := pre), ih (acc ++ [y]) (by simp at hacc ⊢; omega), ih acc (by simp at hacc ⊢; omega)]
    rw [fits_small (by simp at hacc ⊢; omega) (by decide)]
    simp only [cond_true, hasSeq, List.any_cons, List.filter_cons]
    cases hy : y.1 == x.1
    · cases h2 : decide (y.1 < x.1)
      · simp
      · simp
    · simp

theorem s_PutItem_l1_eq (x : PItem) : ∀ (t pre acc : List PItem) (n : Nat), t.length < n → (pre ++ t).length ≤ 4000000 → acc.length + t.length ≤ 8000000 →
    s_PutItem_l1 K n (pre ++ t) acc (pre.length : Int) x = some (.inr (acc ++ t.filter (fun y => decide (y.1 > x.1)), ()))
  | [], pre, acc, n + 1, _, _, _ => by
    unfold s_PutItem_l1
    rw [lt_end]; simp
  | y :: t, pre, acc, n + 1, hn, hl, hacc => by
    have hp : pre.length ≤ 1000000000000 := by simp at hl; omega
    have ih := fun acc h => s_PutItem_l1_eq x t (pre ++ [y]) acc n (by simpa using hn) (by simpa using hl) h
    unfold s_PutItem_l1
    rw [lt_at, inB_at, xi_at (r := R_Item), next_at (x := y) hp, app_cons (pre := pre), ih (acc ++ [y]) (by simp at hacc ⊢; omega), ih acc (by simp at hacc ⊢; omega)]
    rw [fits_small (by simp at hacc ⊢; omega) (by decide)]
    simp only [cond_true, List.filter_cons]
    cases h2 : decide (y.1 > x.1)
    · simp
    · simp

theorem s_PutItem_eq {l : List PItem} {x : PItem} (h : l.length ≤ 3000000) (hK : big ≤ K) : s_PutItem K l x = some (putItem l x, ()) := by
  have hb : big = 4000000 := rfl
  unfold s_PutItem putItem
  rw [s_ItemsOk_eq (by omega) (by omega), s_ItemOk_eq, List.nil_append, fits_small (by omega) (by decide)]
  simp only [cond_true, Option.bind_some]
  have h0 := s_PutItem_l0_eq (K := K) l x l [] [] K (by omega) (by simp; omega) (by simp; omega)
  rw [show s_PutItem_l0 K K l l [] (0:Int) x = _ from h0]
  cases itemsOk l <;> cases itemOk x <;> cases hs : hasSeq l x.1 <;> try rfl
  simp only [cond_false, cond_true, List.nil_append, Option.bind_some, Sum.elim_inr, Bool.not_true, Bool.not_false, Bool.and_self]
  have hf := List.length_filter_le (fun y : PItem => decide (y.1 < x.1)) l
  rw [fits_small (by simp; omega) (by decide)]
  have h1 := s_PutItem_l1_eq (K := K) x l [] (l.filter (fun y => decide (y.1 < x.1)) ++ [x]) K (by omega) (by simp; omega) (by simp; omega)
  simp only [cond_true]
  rw [show s_PutItem_l1 K K l (l.filter (fun y => decide (y.1 < x.1)) ++ [x]) (0:Int) x = _ from h1]
  simp [Pl.insert]

theorem s_Catch_eq {m : PMate} {x : PItem} (h : MateSm m) (hK : big ≤ K) : s_Catch K m x = some (catchI m x, ()) := by
  unfold s_Catch catchI
  rw [s_l10Copy_eq h, s_MateOk_eq h hK]
  simp only [Option.bind_some]
  rw [s_PutItem_eq h.items hK]
  cases mateOk m <;> rfl

/-! ### what is given again -/
theorem s_Give_l0_eq (t : PToken) (hw : t.2.2.2.2.2.1.length < K) (hK : t.2.2.2.2.2.1.length ≤ 1000000000000) : ∀ (l pre acc : List PItem) (n : Nat), l.length < n → (pre ++ l).length ≤ 4000000 → acc.length + l.length ≤ 5000000 →
    s_Give_l0 K n (pre ++ l) acc (pre.length : Int) t = some (.inr (acc ++ give t l, ()))
  | [], pre, acc, n + 1, _, _, _ => by
    unfold s_Give_l0
    rw [lt_end]; simp [give]
  | y :: l, pre, acc, n + 1, hn, hl, hacc => by
    have hp : pre.length ≤ 1000000000000 := by simp at hl; omega
    have ih := fun acc h => s_Give_l0_eq t hw hK l (pre ++ [y]) acc n (by simpa using hn) (by simpa using hl) h
    unfold s_Give_l0
    rw [lt_at, inB_at, xi_at (r := R_Item), next_at (x := y) hp, app_cons (pre := pre), ih (acc ++ [y]) (by simp at hacc ⊢; omega), ih acc (by simp at hacc ⊢; omega)]
    rw [fits_small (by simp at hacc ⊢; omega) (by decide), s_l05In_eq hw hK]
    simp only [cond_true, Option.bind_some, give, List.filter_cons]
    cases List.contains t.2.2.2.2.2.1 y.1 <;> simp

theorem s_Give_eq {t : PToken} {l : List PItem} (hw : t.2.2.2.2.2.1.length ≤ 3000000) (h : l.length ≤ 3000000) (hK : big ≤ K) : s_Give K t l = some (give t l, ()) := by
  have hb : big = 4000000 := rfl
  unfold s_Give
  have h0 := s_Give_l0_eq (K := K) t (by omega) (by omega) l [] [] K (by omega) (by simp; omega) (by simp; omega)
  rw [show s_Give_l0 K K l [] (0:Int) t = _ from h0]
  rfl
end
end Go.Proofs.Ytphjhelolaoihaa.R

/- Plain laws, part h: holding the token, as the spec has it. -/
namespace Go.Proofs.Ytphjhelolaoihaa.R
open Pl Rg Go

section
variable {K : Nat}

theorem getD_at {lv : List Int} {i : Nat} (h : i < lv.length) : lvOf (lv.drop i) = bif (xi (.int .i64) lv (i : Int)) == 2 then 2 else 1 := by
  rw [xi_nat (r := .int .i64) h, List.drop_eq_getElem_cons h]; rfl

theorem lvOf_none {lv : List Int} {i : Nat} (h : ¬ i < lv.length) : lvOf (lv.drop i) = 1 := by
  rw [List.drop_eq_nil_of_le (by omega)]; rfl

/-- The loop of Number: at i, the rest of the texts tx; k of three to go. -/
theorem s_Number_l0_eq (id : Int) (lv : List Int) (u z : PToken) : ∀ (tx pre : List ByteArray) (k n : Nat) (acc : List PItem) (t : PToken), pre.length + k = 3 → k < n → (pre ++ tx).length ≤ 4000000 → lv.length ≤ 4000000 → acc.length + k ≤ 100 → -1000000000 ≤ t.2.2.1 →
    s_Number_l0 K n id lv (pre ++ tx) acc (pre.length : Int) u z t = some (.inr ((), (), (), acc ++ numGo id k (lv.drop pre.length) tx t.2.2.1, u, z, tSetSeq t (t.2.2.1 + (numGo id k (lv.drop pre.length) tx t.2.2.1).length), ()))
  | [], pre, k, n + 1, acc, t, h1, h2, h3, h4, h5, h6 => by
    unfold s_Number_l0
    rw [lt_end]
    cases k <;> simp [numGo, tSetSeq]
  | x :: tx, pre, 0, n + 1, acc, t, h1, h2, h3, h4, h5, h6 => by
    unfold s_Number_l0
    have e : decide ((pre.length : Int) < (3:Int)) = false := by simp; omega
    rw [lt_at, e]
    simp [numGo, tSetSeq]
  | x :: tx, pre, k + 1, n + 1, acc, t, h1, h2, h3, h4, h5, h6 => by
    have hp : pre.length ≤ 1000000000000 := by omega
    have ih := fun a => s_Number_l0_eq id lv u z tx (pre ++ [x]) k n (acc ++ [a]) (tSetSeq t (t.2.2.1 + 1)) (by simp; omega) (by omega) (by simpa using h3) h4 (by simp; omega) (by show -1000000000 ≤ t.2.2.1 + 1; omega)
    unfold s_Number_l0
    have e : decide ((pre.length : Int) < (3:Int)) = true := by simp; omega
    rw [lt_at, e, inB_at, xi_at (r := .str), next_at (x := x) hp]
    unfold numGo
    cases c1 : decide (t.2.2.1 < 60)
    · simp [tSetSeq]
    · have ec : decide ((x.size : Int) ≤ (60:Int)) = shortTx x := rfl
      rw [ec]
      simp only [decide_eq_true_eq] at c1
      cases c2 : shortTx x
      · simp [tSetSeq]
      · have e1 : w64 (t.2.2.1 + (1:Int)) = t.2.2.1 + 1 := w64_id (by omega)
        have e2 : ∀ a : PItem, appFits 40 (acc ++ [a]).length = true := fun a => fits_small (by simp; omega) (by decide)
        have key : ∀ a : PItem, a = (t.2.2.1 + 1, id, lvOf (lv.drop pre.length), x, ()) → s_Number_l0 K n id lv (pre ++ x :: tx) (acc ++ [a]) ((pre ++ [x]).length : Int) u z (t.1, t.2.1, t.2.2.1 + 1, t.2.2.2) =
            some (.inr ((), (), (), acc ++ a :: numGo id k (lv.drop pre.length).tail tx (t.2.2.1 + 1), u, z, tSetSeq t (t.2.2.1 + ((a :: numGo id k (lv.drop pre.length).tail tx (t.2.2.1 + 1)).length : Int)), ())) := by
          intro a ha
          have := ih a
          rw [app_cons (pre := pre)]
          refine Eq.trans this ?_
          have e3 : lv.drop (pre ++ [x]).length = (lv.drop pre.length).tail := by simp
          rw [e3]
          have e4 : (tSetSeq t (t.2.2.1 + 1)).2.2.1 = t.2.2.1 + 1 := rfl
          rw [e4]
          simp only [List.append_assoc, List.singleton_append]
          have e5 : (t.2.2.1 + ((a :: numGo id k (lv.drop pre.length).tail tx (t.2.2.1 + 1)).length : Int)) = t.2.2.1 + 1 + ((numGo id k (lv.drop pre.length).tail tx (t.2.2.1 + 1)).length : Int) := by simp; omega
          rw [e5]; rfl
        simp only [cond_true, e1, e2, Bool.and_self]
        cases c3 : decide ((pre.length : Int) < (lv.length : Int))
        · simp only [decide_eq_false_iff_not] at c3
          simp only [cond_false]
          have hl := lvOf_none (lv := lv) (i := pre.length) (by omega)
          rw [hl] at key ⊢
          exact key _ rfl
        · simp only [decide_eq_true_eq] at c3
          have hl := getD_at (lv := lv) (i := pre.length) (by omega)
          have hb : inB (pre.length : Int) lv.length = true := by rw [inB_nat]; simp; omega
          rw [hb]
          simp only [cond_true]
          cases c4 : (xi (.int .i64) lv (pre.length : Int)) == 2
          · rw [c4] at hl
            simp only [cond_false] at hl ⊢
            rw [hl] at key ⊢
            exact key _ rfl
          · rw [c4] at hl
            simp only [cond_true] at hl ⊢
            rw [hl] at key ⊢
            exact key _ rfl

theorem s_Number_eq {t : PToken} {id : Int} {lv : List Int} {tx : List ByteArray} (hw : t.2.2.2.2.2.1.length ≤ 3000000) (h1 : lv.length ≤ 4000000) (h2 : tx.length ≤ 4000000) (hK : big ≤ K) :
    s_Number K t id lv tx = some ((number t id lv tx).1, (number t id lv tx).2, ()) := by
  have hb : big = 4000000 := rfl
  unfold s_Number number
  rw [s_l05CopyToken_eq hw, s_TokenOk_eq (by omega) (by omega), s_l01In_eq]
  simp only [Option.bind_some]
  cases ht : tokenOk t
  · rfl
  · cases hi : inR id 1 5
    · rfl
    · have g := tokenOk_iff.1 ht
      have h0 := s_Number_l0_eq (K := K) id lv t zToken tx [] 3 K [] t (by simp) (by omega) (by simpa using h2) h1 (by simp) (by omega)
      simp only [Bool.not_true, cond_false, Bool.and_self, cond_true]
      rw [show s_Number_l0 K K id lv tx [] (0:Int) t ((0:Int), ((0:Int), ((0:Int), ((0:Int), ((0:Int), ([], ())))))) t = _ from h0]
      simp only [Option.bind_some, Sum.elim_inr, List.nil_append, List.length_nil, List.drop_zero]
      cases t.2.2.2.1 == t.2.2.1 <;> cases t.2.2.2.2.1 == (0:Int) <;> rfl

theorem s_Mark_eq {t : PToken} {id a : Int} (hw : t.2.2.2.2.2.1.length ≤ 3000000) (hK : big ≤ K) : s_Mark K t id a = some (markT t id a, ()) := by
  have hb : big = 4000000 := rfl
  unfold s_Mark markT
  rw [s_l05CopyToken_eq hw, s_TokenOk_eq (by omega) (by omega), s_l01In_eq]
  simp only [Option.bind_some]
  have e1 : decide (0 ≤ a) = !decide (a < (0:Int)) := by by_cases h : a < 0 <;> simp [h] <;> omega
  have e2 : (t.2.2.1 == t.2.2.1) = true := beq_self_eq_true _
  rw [e1, e2]
  cases tokenOk t <;> cases inR id 1 5 <;> cases decide (a < (0:Int)) <;> try rfl
  cases decide (a < t.2.2.2.1) <;> try rfl
  cases t.2.2.2.2.1 == id <;> try rfl
  cases decide (a > t.2.2.1) <;> try rfl
  cases a == t.2.2.1 <;> rfl

theorem s_Missing_l0_eq {l : List PItem} {hi : Int} (h : l.length ≤ 3000000) (hK : big ≤ K) (hh : hi ≤ 60) : ∀ (k n : Nat) (x : Int) (acc : List Int), k < n + 1 → 0 ≤ x → x ≤ 10000000 → hi - x < k → acc.length ≤ 20 →
    s_Missing_l0 K (n + 1) l hi acc x = some (.inr (pickGo (fun n => !hasSeq l n) hi k x acc, ()))
  | 0, n, x, acc, hn, h0, h1, h2, h3 => by
    unfold s_Missing_l0
    have e : decide (x ≤ hi) = false := by simp; omega
    rw [e]; rfl
  | k + 1, n, x, acc, hn, h0, h1, h2, h3 => by
    have hb : big = 4000000 := rfl
    unfold s_Missing_l0 pickGo
    cases c1 : decide (x ≤ hi)
    · rfl
    · cases c2 : decide ((acc.length : Int) < (20:Int))
      · rfl
      · simp only [decide_eq_true_eq] at c1 c2
        obtain ⟨n', rfl⟩ : ∃ n', n = n' + 1 := ⟨n - 1, by omega⟩
        have ih := fun acc h3 => s_Missing_l0_eq h hK hh k n' (x + 1) acc (by omega) (by omega) (by omega) (by push_cast at h2; omega) h3
        rw [s_ItemAt_eq (by omega) (by omega), w64_id (by omega), fits_small (by simp; omega) (by decide)]
        simp only [cond_true, Option.bind_some, itemAt_snd, Bool.and_self]
        cases hasSeq l x
        · exact ih (acc ++ [x]) (by simp; omega)
        · exact ih acc h3

theorem s_Missing_eq {l : List PItem} {s : Int} (h : l.length ≤ 3000000) (hK : big ≤ K) : s_Missing K l s = some (missing l s, ()) := by
  have hb : big = 4000000 := rfl
  have ha := aru_le (l := l)
  unfold s_Missing missing
  rw [s_AruOf_eq (by omega) (by omega)]
  simp only [Option.bind_some]
  rw [w64_id (by omega)]
  obtain ⟨k, rfl⟩ : ∃ k, K = k + 1 := ⟨K - 1, by omega⟩
  cases c : decide (s > (60:Int))
  · simp only [decide_eq_false_iff_not] at c
    have e : min s 60 = s := by omega
    rw [e, s_Missing_l0_eq (hi := s) h hK (by omega) 61 k ((aru l : Int) + 1) [] (by omega) (by omega) (by omega) (by omega) (by simp)]
    rfl
  · simp only [decide_eq_true_eq] at c
    have e : min s 60 = 60 := by omega
    rw [e, s_Missing_l0_eq (hi := 60) h hK (by omega) 61 k ((aru l : Int) + 1) [] (by omega) (by omega) (by omega) (by omega) (by simp)]
    rfl

theorem s_Lacks_l0_eq {l : List PItem} {t z : PToken} {ms : List Int} (h : l.length ≤ 3000000) (hw : t.2.2.2.2.2.1.length ≤ 3000000) (hm : ms.length ≤ 3000000) (hK : big ≤ K) : ∀ (k n : Nat) (x : Int) (acc : List Int) (c r q a b : Int), k < n + 1 → 0 ≤ x → 60 - x < k → acc.length ≤ 20 →
    s_Lacks_l0 K (n + 1) l ms x t z (c, r, q, a, b, acc, ()) = some (.inr ((), (), z, (c, r, q, a, b, pickGo (fun n => (!hasSeq l n && t.2.2.2.2.2.1.contains n) || ms.contains n) 60 k x acc, ()), ()))
  | 0, n, x, acc, c, r, q, a, b, hn, h0, h2, h3 => by
    unfold s_Lacks_l0
    have e : decide (x ≤ (60:Int)) = false := by simp; omega
    rw [e]; rfl
  | k + 1, n, x, acc, c, r, q, a, b, hn, h0, h2, h3 => by
    have hb : big = 4000000 := rfl
    unfold s_Lacks_l0 pickGo
    cases c1 : decide (x ≤ (60:Int))
    · rfl
    · cases c2 : decide ((acc.length : Int) < (20:Int))
      · simp [c2]
      · simp only [decide_eq_true_eq] at c1 c2
        have c2' : decide ((acc.length : Int) < (20:Int)) = true := by simp; omega
        obtain ⟨n', rfl⟩ : ∃ n', n = n' + 1 := ⟨n - 1, by omega⟩
        have ih := fun acc h3 => s_Lacks_l0_eq (z := z) h hw hm hK k n' (x + 1) acc c r q a b (by omega) (by omega) (by push_cast at h2; omega) h3
        rw [s_ItemAt_eq (by omega) (by omega), w64_id (by omega), s_l05In_eq (by omega) (by omega), s_l05In_eq (by omega) (by omega)]
        have e2 : appFits 8 (acc ++ [x]).length = true := fits_small (by simp; omega) (by decide)
        simp only [cond_true, Option.bind_some, itemAt_snd, Bool.and_self, c2', e2]
        cases hasSeq l x <;> cases t.2.2.2.2.2.1.contains x <;> cases ms.contains x <;>
          first
            | exact ih (acc ++ [x]) (by simp; omega)
            | exact ih acc h3

theorem missing_length {l : List PItem} {s : Int} : (missing l s).length ≤ 20 :=
  (pick_spec (p := fun n => !hasSeq l n) (hi := min s 60) 61 (aru l + 1) [] (by simp) (by simp) List.Pairwise.nil).1

theorem s_Lacks_eq {l : List PItem} {t : PToken} (h : l.length ≤ 3000000) (hw : t.2.2.2.2.2.1.length ≤ 3000000) (hK : big ≤ K) : s_Lacks K t l = some (lacks t l, ()) := by
  have hb : big = 4000000 := rfl
  have hm := missing_length (l := l) (s := t.2.2.1)
  unfold s_Lacks lacks
  rw [s_Missing_eq h hK]
  simp only [Option.bind_some]
  obtain ⟨k, rfl⟩ : ∃ k, K = k + 1 := ⟨K - 1, by omega⟩
  have := s_Lacks_l0_eq (z := zToken) h hw (ms := missing l t.2.2.1) (by omega) hK 61 k 1 [] t.1 t.2.1 t.2.2.1 t.2.2.2.1 t.2.2.2.2.1 (by omega) (by omega) (by omega) (by simp)
  refine Eq.trans (congrArg (fun o => Option.bind o _) this) ?_
  rfl

/-! ### hold -/
theorem s_Hold_l0_eq (o ns : List PItem) (hns : ns.length ≤ 4000000) (hK : big ≤ K) (m0 : PMate) (t0 : PToken) (zm : PMate) (zt tk : PToken) (t : List PItem) : ∀ (pre : List PItem) (n : Nat) (m : PMate), ns = pre ++ t → t.length < n → m.2.2.1.length + t.length ≤ 3000000 →
    s_Hold_l0 K n o ns (pre.length : Int) m0 t0 zm zt m tk = some (.inr ((), (), (), (), (), o, (), ns, m0, t0, zm, zt, mSetItems m (t.foldl putItem m.2.2.1), tk, ())) := by
  induction t with
  | nil =>
    intro pre n m he hn _
    obtain ⟨n, rfl⟩ : ∃ k, n = k + 1 := ⟨n - 1, by omega⟩
    unfold s_Hold_l0
    have e1 : decide ((pre.length : Int) < (ns.length : Int)) = false := by rw [he]; exact lt_end
    rw [e1]; rfl
  | cons y t ih =>
    intro pre n m he hn hl
    obtain ⟨n, rfl⟩ : ∃ k, n = k + 1 := ⟨n - 1, by omega⟩
    have hp : pre.length ≤ 1000000000000 := by rw [he] at hns; simp at hns; omega
    have hlen : (putItem m.2.2.1 y).length ≤ m.2.2.1.length + 1 := putItem_length
    have ih := ih (pre ++ [y]) n (mSetItems m (putItem m.2.2.1 y)) (by rw [he]; simp) (by simpa using hn) (by show (putItem m.2.2.1 y).length + t.length ≤ _; simp at hl; omega)
    have e1 : decide ((pre.length : Int) < (ns.length : Int)) = true := by rw [he]; exact lt_at
    have e2 : inB (pre.length : Int) ns.length = true := by rw [he]; exact inB_at
    have e3 : xi R_Item ns (pre.length : Int) = y := by rw [he]; exact xi_at (r := R_Item)
    unfold s_Hold_l0
    rw [e1, e2, e3, next_at (x := y) hp, s_PutItem_eq (by simp at hl; omega) hK]
    simp only [cond_true, Option.bind_some]
    exact ih
end
end Go.Proofs.Ytphjhelolaoihaa.R

/- Plain laws, part i: holding the token. -/
namespace Go.Proofs.Ytphjhelolaoihaa.R
open Pl Rg Go

section
variable {K : Nat}

theorem fold_length : ∀ {xs l : List PItem}, (xs.foldl putItem l).length ≤ l.length + xs.length
  | [], l => by simp
  | x :: xs, l => by
    have := fold_length (xs := xs) (l := putItem l x)
    have := putItem_length (l := l) (x := x)
    simp only [List.foldl_cons, List.length_cons]; omega

theorem number_wants {t : PToken} {id : Int} {lv : List Int} {tx : List ByteArray} : (number t id lv tx).1.2.2.2.2.2.1 = t.2.2.2.2.2.1 := by
  unfold number
  cases tokenOk t && inR id 1 5
  · rfl
  · simp only [cond_true]
    cases (t.2.2.2.1 == t.2.2.1) && (t.2.2.2.2.1 == 0) <;> rfl

theorem mark_wants {t : PToken} {id a : Int} : (markT t id a).2.2.2.2.2.1 = t.2.2.2.2.2.1 := by
  unfold markT
  cases tokenOk t && inR id 1 5 && decide (0 ≤ a) <;> try rfl
  cases decide (a < t.2.2.2.1) <;> try rfl
  cases t.2.2.2.2.1 == id <;> try rfl
  cases decide (a > t.2.2.1) <;> try rfl
  cases a == t.2.2.1 <;> rfl

theorem inTo_drop {n l : Nat} (h : n ≤ l) : inTo (n : Int) l = true := by simp [inTo, h]

theorem lacks_wants {t : PToken} {l : List PItem} : (lacks t l).2.2.2.2.2.1.length ≤ 20 :=
  (pick_spec (p := fun n => (!hasSeq l n && t.2.2.2.2.2.1.contains n) || (missing l t.2.2.1).contains n) (hi := 60) 61 1 [] (by simp) (by simp) List.Pairwise.nil).1

theorem max_line {a b line : Int} : (bif decide (a < b) then bif decide (a > line) then a else line else bif decide (b > line) then b else line) = max line (min a b) := by
  by_cases h1 : a < b <;> by_cases h2 : a > line <;> by_cases h3 : b > line <;> simp [h1, h2, h3] <;> omega

theorem bif_app {α β : Type} (f : α → β) (c : Bool) (x y : α) : (bif c then f x else f y) = f (bif c then x else y) := by cases c <;> rfl

theorem s_Hold_eq {m : PMate} {t : PToken} (h : MateSm m) (hw : t.2.2.2.2.2.1.length ≤ 3000000) (hK : big ≤ K) :
    s_Hold K m t = some ((hold m t).1, (hold m t).2.1, (hold m t).2.2.1, (hold m t).2.2.2, ()) := by
  have hb : big = 4000000 := rfl
  unfold s_Hold hold holdOk
  rw [s_l10Copy_eq h, s_MateOk_eq h hK, s_TokenOk_eq (by omega) (by omega)]
  simp only [Option.bind_some]
  have g1 : (t.1 != m.2.1.1) = !(t.1 == m.2.1.1) := rfl
  have g2 : decide (t.2.1 ≤ m.2.2.2.2.2.1) = !decide (m.2.2.2.2.2.1 < t.2.1) := by by_cases h : m.2.2.2.2.2.1 < t.2.1 <;> simp [h] <;> omega
  have g3 : decide (t.2.1 ≥ (1000000000:Int)) = !decide (t.2.1 < 1000000000) := ge_not
  rw [g1, g2, g3]
  cases hm : mateOk m
  · rfl
  cases ht : tokenOk t
  · rfl
  cases t.1 == m.2.1.1
  · rfl
  cases decide (m.2.2.2.2.2.1 < t.2.1)
  · rfl
  cases hr : decide (t.2.1 < 1000000000)
  · rfl
  have hm := mateOk_iff.1 hm
  obtain ⟨w1, w2, w3, w4⟩ := hm.words'
  have ht' := tokenOk_iff.1 ht
  simp only [decide_eq_true_eq] at hr
  have hil := itemsOk_length hm.items
  have hgl : (give t m.2.2.1).length ≤ m.2.2.1.length := List.length_filter_le _ _
  have hnl : (holdNew m t).length ≤ 3 := holdNew_length
  have hnt : (holdNew m t).length ≤ m.2.2.2.2.1.length := by
    unfold holdNew number
    cases tokenOk t && inR m.1 1 5
    · simp
    · exact numGo_length.2.1
  simp only [Bool.not_true, cond_false, Bool.and_self, cond_true]
  rw [s_Give_eq (by omega) (by omega) hK, s_Number_eq (by omega) (by omega) (by omega) hK]
  simp only [Option.bind_some, List.nil_append, List.take_length, Int.toNat_natCast]
  have e1 : (number t m.1 m.2.2.2.1 m.2.2.2.2.1).2 = holdNew m t := rfl
  rw [e1, inTo_drop (by omega), inTo_drop (by omega), fits_small (by omega) (by decide), fits_small (by simp; omega) (by decide), fits_small (by simp; omega) (by decide)]
  simp only [cond_true]
  obtain ⟨y, hy, hye⟩ : ∃ y, s_Hold_l0 K K (give t m.2.2.1) (holdNew m t) (0:Int) m t zMate zToken (m.1, m.2.1, m.2.2.1, m.2.2.2.1.drop (holdNew m t).length, m.2.2.2.2.1.drop (holdNew m t).length, m.2.2.2.2.2) (number t m.1 m.2.2.2.1 m.2.2.2.2.1).1 = some (.inr y) ∧ y = _ :=
    ⟨_, s_Hold_l0_eq (K := K) (give t m.2.2.1) (holdNew m t) (by omega) hK m t zMate zToken (number t m.1 m.2.2.2.1 m.2.2.2.2.1).1 (holdNew m t) [] K
    (m.1, m.2.1, m.2.2.1, m.2.2.2.1.drop (holdNew m t).length, m.2.2.2.2.1.drop (holdNew m t).length, m.2.2.2.2.2) rfl (by omega) (by show m.2.2.1.length + _ ≤ _; omega), rfl⟩
  refine Eq.trans (congrArg (fun o => Option.bind o _) hy) ?_
  simp only [Option.bind_some, Sum.elim_inr]
  have p1 : y.2.2.2.2.2.1 = give t m.2.2.1 := by rw [hye]
  have p2 : y.2.2.2.2.2.2.2.1 = holdNew m t := by rw [hye]
  have p3 : y.2.2.2.2.2.2.2.2.1 = m := by rw [hye]
  have p4 : y.2.2.2.2.2.2.2.2.2.1 = t := by rw [hye]
  have p5 : y.2.2.2.2.2.2.2.2.2.2.2.2.1 = (m.1, m.2.1, holdItems m t, m.2.2.2.1.drop (holdNew m t).length, m.2.2.2.2.1.drop (holdNew m t).length, m.2.2.2.2.2) := by rw [hye]; rfl
  have p6 : y.2.2.2.2.2.2.2.2.2.2.2.2.2.1 = (number t m.1 m.2.2.2.1 m.2.2.2.2.1).1 := by rw [hye]
  rw [p1, p2, p3, p4, p5, p6]
  clear hy hye p1 p2 p3 p4 p5 p6
  have hfl := fold_length (xs := holdNew m t) (l := m.2.2.1)
  have hal := aru_le (l := holdItems m t)
  have hil2 : (holdItems m t).length ≤ 63 := by show ((holdNew m t).foldl putItem m.2.2.1).length ≤ 63; omega
  rw [fits_small (by simp; omega) (by decide)]
  show (bif true then (s_AruOf K (holdItems m t)).bind _ else none) = _
  rw [s_AruOf_eq (by omega) (by omega)]
  have hnw : (number t m.1 m.2.2.2.1 m.2.2.2.2.1).1.2.2.2.2.2.1.length ≤ 20 := by rw [number_wants]; omega
  simp only [Option.bind_some, cond_true]
  rw [s_Mark_eq (by omega) hK]
  have hmw : (markT (number t m.1 m.2.2.2.1 m.2.2.2.2.1).1 m.1 (aru (holdItems m t))).2.2.2.2.2.1.length ≤ 20 := by rw [mark_wants]; exact hnw
  simp only [Option.bind_some]
  have elk := s_Lacks_eq (l := holdItems m t) (t := markT (number t m.1 m.2.2.2.1 m.2.2.2.2.1).1 m.1 (aru (holdItems m t))) (by omega) (by omega) hK
  have ew : w64 (t.2.1 + (1:Int)) = t.2.1 + 1 := w64_id (by omega)
  have hlw := lacks_wants (t := markT (number t m.1 m.2.2.2.1 m.2.2.2.2.1).1 m.1 (aru (holdItems m t))) (l := holdItems m t)
  have hT : holdTok m t = tSetRound (lacks (markT (number t m.1 m.2.2.2.1 m.2.2.2.2.1).1 m.1 (aru (holdItems m t))) (holdItems m t)) (t.2.1 + 1) := rfl
  have hM : ∀ L : Int, L = holdLine m t → holdMate m t = (m.1, m.2.1, holdItems m t, m.2.2.2.1.drop (holdNew m t).length, m.2.2.2.2.1.drop (holdNew m t).length, t.2.1, t.2.2.2.1, L, m.2.2.2.2.2.2.2.2.1, holdTok m t, ()) := by intro L hL; subst hL; rfl
  have hL : holdLine m t = max m.2.2.2.2.2.2.2.1 (min (min t.2.2.2.1 m.2.2.2.2.2.2.1) (aru (holdItems m t))) := rfl
  obtain ⟨LK, hLK⟩ : ∃ LK, LK = lacks (markT (number t m.1 m.2.2.2.1 m.2.2.2.2.1).1 m.1 (aru (holdItems m t))) (holdItems m t) := ⟨_, rfl⟩
  rw [← hLK] at elk hT hlw
  obtain ⟨tk, htk⟩ : ∃ tk, tk = markT (number t m.1 m.2.2.2.1 m.2.2.2.2.1).1 m.1 (aru (holdItems m t)) := ⟨_, rfl⟩
  rw [← htk] at elk
  obtain ⟨al, hal2⟩ : ∃ al : Int, al = (aru (holdItems m t) : Int) := ⟨_, rfl⟩
  have ecp := s_l05CopyToken_eq (K := K) (t := (LK.1, t.2.1 + 1, LK.2.2)) (by show LK.2.2.2.2.2.1.length ≤ 3000000; omega)
  have hT' : (LK.1, t.2.1 + 1, LK.2.2) = holdTok m t := by rw [hT]; rfl
  rw [hT'] at ecp
  rw [← hal2] at hL
  rw [← htk, ← hal2, elk]
  simp only [Option.bind_some, ew, hT', ecp]
  clear elk ecp hlw
  cases c1 : decide (t.2.2.2.1 < m.2.2.2.2.2.2.1)
  · simp only [decide_eq_false_iff_not] at c1
    simp only [cond_false]
    cases c2 : decide (m.2.2.2.2.2.2.1 > al) <;> simp only [decide_eq_true_eq, decide_eq_false_iff_not] at c2
    · simp only [cond_false]
      cases c3 : decide (m.2.2.2.2.2.2.1 > m.2.2.2.2.2.2.2.1) <;> simp only [decide_eq_true_eq, decide_eq_false_iff_not] at c3
      · rw [hM m.2.2.2.2.2.2.2.1 (by rw [hL]; omega)]; rfl
      · rw [hM m.2.2.2.2.2.2.1 (by rw [hL]; omega)]; rfl
    · simp only [cond_true]
      cases c3 : decide (al > m.2.2.2.2.2.2.2.1) <;> simp only [decide_eq_true_eq, decide_eq_false_iff_not] at c3
      · rw [hM m.2.2.2.2.2.2.2.1 (by rw [hL]; omega)]; rfl
      · rw [hM al (by rw [hL]; omega)]; rfl
  · simp only [decide_eq_true_eq] at c1
    simp only [cond_true]
    cases c2 : decide (t.2.2.2.1 > al) <;> simp only [decide_eq_true_eq, decide_eq_false_iff_not] at c2
    · simp only [cond_false]
      cases c3 : decide (t.2.2.2.1 > m.2.2.2.2.2.2.2.1) <;> simp only [decide_eq_true_eq, decide_eq_false_iff_not] at c3
      · rw [hM m.2.2.2.2.2.2.2.1 (by rw [hL]; omega)]; rfl
      · rw [hM t.2.2.2.1 (by rw [hL]; omega)]; rfl
    · simp only [cond_true]
      cases c3 : decide (al > m.2.2.2.2.2.2.2.1) <;> simp only [decide_eq_true_eq, decide_eq_false_iff_not] at c3
      · rw [hM m.2.2.2.2.2.2.2.1 (by rw [hL]; omega)]; rfl
      · rw [hM al (by rw [hL]; omega)]; rfl
end
end Go.Proofs.Ytphjhelolaoihaa.R

/- Plain laws, part r: an item put among items, as the program has it. -/
namespace Go.Proofs.Ytphjhelolaoihaa.R
open Pl Rg Go

section
variable {K : Nat}

theorem i_putItem_l0_eq (x : PItem) : ∀ (t pre : List PItem) (n : Nat), (∀ y, y ∈ pre → y.1 < x.1) → t.length < n → (pre ++ t).length ≤ 1000000000000 →
    ∃ p s : List PItem, p ++ s = pre ++ t ∧ (∀ y, y ∈ p → y.1 < x.1) ∧ (∀ y s', s = y :: s' → x.1 ≤ y.1) ∧ i_putItem_l0 K n (pre ++ t) (pre.length : Int) x = some (.inr (pre ++ t, (), (p.length : Int), x, ()))
  | [], pre, n + 1, h, _, _ => by
    unfold i_putItem_l0
    rw [lt_end]
    exact ⟨pre, [], rfl, h, fun y s' e => (by cases e), rfl⟩
  | y :: t, pre, n + 1, h, hn, hl => by
    have hp : pre.length ≤ 1000000000000 := by simp at hl; omega
    unfold i_putItem_l0
    rw [lt_at, inB_at, xi_at (r := R_Item), next_at (x := y) hp]
    cases c : decide (y.1 < x.1)
    · rw [decide_eq_false_iff_not] at c
      exact ⟨pre, y :: t, rfl, h, fun z s' e => by cases e; omega, rfl⟩
    · rw [decide_eq_true_eq] at c
      obtain ⟨p, s, h1, h2, h3, h4⟩ := i_putItem_l0_eq x t (pre ++ [y]) n (fun z hz => by
        rcases List.mem_append.1 hz with hz | hz
        · exact h z hz
        · rw [List.mem_singleton] at hz; subst hz; exact c) (by simpa using hn) (by simpa using hl)
      refine ⟨p, s, by rw [h1]; simp, h2, h3, ?_⟩
      rw [app_cons (pre := pre) (t := t)]
      exact h4

theorem filter_all {α : Type} {p : α → Bool} : ∀ {l : List α}, (∀ x, x ∈ l → p x = true) → l.filter p = l
  | [], _ => rfl
  | x :: l, h => by rw [List.filter_cons, h x (by simp)]; simp only [if_true]; rw [filter_all fun y hy => h y (by simp [hy])]

theorem filter_none {α : Type} {p : α → Bool} : ∀ {l : List α}, (∀ x, x ∈ l → p x = false) → l.filter p = []
  | [], _ => rfl
  | x :: l, h => by rw [List.filter_cons, h x (by simp)]; simp only [Bool.false_eq_true, if_false]; exact filter_none fun y hy => h y (by simp [hy])

theorem i_putItem_eq {l : List PItem} {x : PItem} (h : itemsOk l = true) (hK : big ≤ K) : i_putItem K l x = some (bif hasSeq l x.1 then l else Pl.insert l x, ()) := by
  have hb : big = 4000000 := rfl
  have hil := itemsOk_length h
  obtain ⟨_, hs⟩ := itemsOk_iff.1 h
  unfold i_putItem
  obtain ⟨p, s, h1, h2, h3, h4⟩ := i_putItem_l0_eq (K := K) x l [] K (by simp) (by omega) (by simp; omega)
  have h1 : p ++ s = l := h1
  rw [show i_putItem_l0 K K l (0:Int) x = _ from h4]
  simp only [Option.bind_some, Sum.elim_inr, List.nil_append]
  subst h1
  have hge : ∀ y, y ∈ s → x.1 ≤ y.1 := by
    cases s with
    | nil => intro y hy; cases hy
    | cons z s' =>
      intro y hy
      have := h3 z s' rfl
      rcases List.mem_cons.1 hy with e | hy
      · subst e; exact this
      · have := (List.pairwise_cons.1 (List.pairwise_append.1 hs).2.1).1 y hy
        omega
  have hins : slices_Insert_i_Item_i_Item K (p ++ s) (p.length : Int) [x] = some (p ++ (x :: s), ()) := by
    unfold slices_Insert_i_Item_i_Item insOf
    have e1 : inTo (p.length : Int) (p ++ s).length = true := by unfold inTo; rw [decide_eq_true (by omega : (0:Int) ≤ (p.length : Int)), decide_eq_true (by simp; omega)]; rfl
    have e2 : Nat.ble (((p ++ s).length + 1) * 40) 140737488355328 = true := Nat.ble_eq_true_of_le (by omega)
    rw [e1, e2, Int.toNat_natCast]
    simp
  have hp1 : p.filter (fun y => decide (y.1 < x.1)) = p := filter_all fun y hy => by simpa using h2 y hy
  have hp2 : p.filter (fun y => decide (y.1 > x.1)) = [] := filter_none fun y hy => by have := h2 y hy; simp; omega
  have hs1 : s.filter (fun y => decide (y.1 < x.1)) = [] := filter_none fun y hy => by have := hge y hy; simp; omega
  have hnp : ∀ y, y ∈ p → y.1 ≠ x.1 := fun y hy e => by have := h2 y hy; omega
  have ins : (∀ y, y ∈ s → y.1 ≠ x.1) → some (p ++ x :: s, ()) = some (bif hasSeq (p ++ s) x.1 then p ++ s else Pl.insert (p ++ s) x, ()) := by
    intro hne
    have e : hasSeq (p ++ s) x.1 = false := by
      cases c : hasSeq (p ++ s) x.1
      · rfl
      · obtain ⟨y, hy, e⟩ := hasSeq_iff.1 c
        rcases List.mem_append.1 hy with hy | hy
        · exact absurd e (hnp y hy)
        · exact absurd e (hne y hy)
    have hs2 : s.filter (fun y => decide (y.1 > x.1)) = s := filter_all fun y hy => by have := hge y hy; have := hne y hy; simp; omega
    rw [e]
    unfold Pl.insert
    rw [List.filter_append, List.filter_append, hp1, hp2, hs1, hs2]
    simp
  cases s with
  | nil =>
    have e1 : decide ((p.length : Int) < ((p ++ []).length : Int)) = false := by simp
    rw [e1, hins]
    exact ins (by simp)
  | cons z s' =>
    rw [lt_at, inB_at, xi_at (r := R_Item)]
    simp only [cond_true]
    cases c : z.1 == x.1
    · rw [hins]
      have hz : z.1 ≠ x.1 := fun e => by rw [e] at c; simp at c
      refine ins ?_
      intro y hy
      rcases List.mem_cons.1 hy with e | hy
      · subst e; exact hz
      · have h5 := (List.pairwise_cons.1 (List.pairwise_append.1 hs).2.1).1 y hy
        have h6 := hge z (by simp)
        omega
    · have e : hasSeq (p ++ z :: s') x.1 = true := hasSeq_iff.2 ⟨z, by simp, eq_of_beq c⟩
      rw [e]; rfl

theorem i_PutItem_eq {l : List PItem} {x : PItem} (h : l.length ≤ 3000000) (hK : big ≤ K) : i_PutItem K l x = some (putItem l x, ()) := by
  have hb : big = 4000000 := rfl
  unfold i_PutItem putItem slices_Clone_i_Item_i_Item
  rw [fits_small (by omega) (by decide), i_ItemOk_eq, i_ItemsOk_eq (by omega) (by omega)]
  simp only [cond_true, Option.bind_some]
  cases hx : itemOk x
  · cases itemsOk l <;> rfl
  · cases hl : itemsOk l
    · rfl
    · simp only [Bool.not_true, cond_false, Bool.true_and]
      rw [i_putItem_eq hl hK]
      cases hasSeq l x.1 <;> rfl

theorem i_Catch_eq {m : PMate} {x : PItem} (h : MateSm m) (hK : big ≤ K) : i_Catch K m x = some (catchI m x, ()) := by
  unfold i_Catch catchI
  rw [i_copyMate_eq h, i_MateOk_eq h hK]
  simp only [Option.bind_some]
  rw [i_PutItem_eq h.items hK]
  cases mateOk m <;> rfl
end
end Go.Proofs.Ytphjhelolaoihaa.R

/- Plain laws, part u: lists of items that are the same. -/
namespace Go.Proofs.Ytphjhelolaoihaa.R
open Pl Rg Go

theorem item_eqB (x : PItem) : R_Item.eqB x x = true := by
  simp [Ty.eqB]

theorem l_sameItems_l0_self {K : Nat} : ∀ (t pre : List PItem) (n : Nat), t.length < n → (pre ++ t).length ≤ 1000000000000 → l_sameItems_l0 K n (pre ++ t) (pre ++ t) (pre.length : Int) = some (.inr ())
  | [], pre, n + 1, _, _ => by
    unfold l_sameItems_l0
    rw [lt_end]; rfl
  | y :: t, pre, n + 1, hn, hl => by
    have hp : pre.length ≤ 1000000000000 := by simp at hl; omega
    have ih := l_sameItems_l0_self (K := K) t (pre ++ [y]) n (by simpa using hn) (by simpa using hl)
    unfold l_sameItems_l0
    rw [lt_at, inB_at, xi_at (r := R_Item), next_at (x := y) hp, item_eqB, app_cons (pre := pre) (t := t)]
    exact ih

theorem l_sameItems_self {K : Nat} {l : List PItem} (h : l.length < K) (hK : l.length ≤ 1000000000000) : l_sameItems K l l = some (true, ()) := by
  unfold l_sameItems
  have e : ((l.length : Int) != (l.length : Int)) = false := by simp
  rw [e]
  have := l_sameItems_l0_self (K := K) l [] K h hK
  rw [show l_sameItems_l0 K K l l (0:Int) = _ from this]
  rfl

end Go.Proofs.Ytphjhelolaoihaa.R
