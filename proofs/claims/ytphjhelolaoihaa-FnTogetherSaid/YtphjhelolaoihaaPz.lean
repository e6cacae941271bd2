/- FnTogether as a plain law: it answers true of all bytes. -/
import Derived.Test.YtphjhelolaoihaaMo
import Derived.Test.YtphjhelolaoihaaPc
set_option linter.all false
namespace Go.Proofs.Ytphjhelolaoihaa.R
open Pl Rg Go

section
variable {K : Nat}

theorem together_len {r : PRing} {l : List PBundle} {id : Int} (hrl : r.2.1.length ≤ 5) : (together r l id).length ≤ 5 := by
  unfold together
  cases firstB r.1 l id with
  | none => exact Nat.zero_le _
  | some own => exact Nat.le_trans (List.length_filter_le _ _) hrl

theorem rest_len {r : PRing} {l : List PBundle} {id h : Int} : (rest r l id h).length ≤ 60 := by
  unfold rest
  cases firstB r.1 l id with
  | none => exact Nat.zero_le _
  | some own =>
    simp only
    cases own.2.2.1 == 0
    · have hu := itemsOk_length (union_ok (ls := (together r l id).map fun d => itemsOf (firstB r.1 l d)))
      exact Nat.le_trans (List.length_filter_le _ _) (Nat.le_trans (List.length_filter_le _ _) hu)
    · exact Nat.zero_le _

theorem l1_eq {r : PRing} {l : List PBundle} {id : Int} (hs : BSm l) (hK : big ≤ K) (hr : r.2.1.Pairwise (· < ·)) (hrl : r.2.1.length ≤ 5) (i : Int) : ∀ (t pre : List Int) (n : Nat), together r l id = pre ++ t → t.length < n →
    l_FnTogether_l1 K n l i id (together r l id) (rest r l id 0) (pre.length : Int) r = some (.inr ((), l, i, id, together r l id, rest r l id 0, r, ())) := by
  have hb : big = 4000000 := rfl
  have htl := together_len (l := l) (id := id) hrl
  have hml := rest_len (r := r) (l := l) (id := id) (h := 0)
  intro t
  induction t with
  | nil =>
    intro pre n he hn
    obtain ⟨n, rfl⟩ : ∃ k, n = k + 1 := ⟨n - 1, by omega⟩
    have e : decide ((pre.length : Int) < ((together r l id).length : Int)) = false := by rw [he]; exact lt_end
    unfold l_FnTogether_l1
    rw [e]; rfl
  | cons y t ih =>
    intro pre n he hn
    obtain ⟨n, rfl⟩ : ∃ k, n = k + 1 := ⟨n - 1, by omega⟩
    have hp : pre.length ≤ 5 := by rw [he] at htl; simp at htl; omega
    have e1 : decide ((pre.length : Int) < ((together r l id).length : Int)) = true := by rw [he]; exact lt_at
    have e2 : inB (pre.length : Int) (together r l id).length = true := by rw [he]; exact inB_at
    have e3 : xi (.int .i64) (together r l id) (pre.length : Int) = y := by rw [he]; exact xi_at (r := .int .i64)
    have hy : y ∈ together r l id := by rw [he]; simp
    have ih := ih (pre ++ [y]) n (by rw [he]; simp) (by simpa using hn)
    unfold l_FnTogether_l1
    rw [e1, e2, e3, next_at (x := y) (by omega)]
    simp only [cond_true]
    cases c : y != id
    · exact ih
    · have hne : y ≠ id := by simpa using c
      obtain ⟨g1, g2⟩ := together_same hy hne
      rw [i_TogetherWith_eq hs hK hr hrl, g1]
      simp only [cond_true, Option.bind_some]
      rw [l_sameInts_self (by omega) hK]
      simp only [Option.bind_some, Bool.not_true, cond_false]
      rw [i_Rest_eq hs hK hr hrl, g2]
      simp only [Option.bind_some]
      rw [l_sameItems_self (by omega) (by omega)]
      exact ih

theorem l2_eq {r : PRing} {l : List PBundle} {id : Int} (hs : BSm l) (hK : big ≤ K) (hr : r.2.1.Pairwise (· < ·)) (hrl : r.2.1.length ≤ 5) (i : Int) : ∀ (k n h : Nat), h + k = (rest r l id 0).length + 1 → k < n →
    l_FnTogether_l2 K n l i id (together r l id) (rest r l id 0) (h : Int) r = some (.inr ((), l, i, together r l id, r, ())) := by
  have hb : big = 4000000 := rfl
  have hml := rest_len (r := r) (l := l) (id := id) (h := 0)
  intro k
  induction k with
  | zero =>
    intro n h h1 h2
    obtain ⟨n, rfl⟩ : ∃ k, n = k + 1 := ⟨n - 1, by omega⟩
    unfold l_FnTogether_l2
    have e : decide ((h : Int) ≤ ((rest r l id 0).length : Int)) = false := by rw [decide_eq_false_iff_not]; omega
    rw [e]; rfl
  | succ k ih =>
    intro n h h1 h2
    obtain ⟨n, rfl⟩ : ∃ k, n = k + 1 := ⟨n - 1, by omega⟩
    unfold l_FnTogether_l2
    have e : decide ((h : Int) ≤ ((rest r l id 0).length : Int)) = true := by rw [decide_eq_true_eq]; omega
    have e3 : w64 ((h : Int) + (1:Int)) = ((h + 1 : Nat) : Int) := by rw [w64_id (by omega)]; omega
    have e4 : inTo (h : Int) (rest r l id 0).length = true := by unfold inTo; rw [decide_eq_true (by omega : (0:Int) ≤ (h : Int)), decide_eq_true (by omega)]; rfl
    rw [e, e3, i_Rest_eq hs hK hr hrl, rest_drop h]
    simp only [cond_true, Option.bind_some]
    rw [e4, List.take_length, Int.toNat_natCast]
    simp only [cond_true]
    rw [l_sameItems_self (by simp; omega) (by simp; omega)]
    exact ih n (h + 1) (by omega) (by omega)

theorem l0_eq {r : PRing} {l : List PBundle} (hs : BSm l) (hK : big ≤ K) (hr : r.2.1.Pairwise (· < ·)) (hrl : r.2.1.length ≤ 5) : ∀ (t pre : List Int) (n : Nat), r.2.1 = pre ++ t → t.length < n →
    l_FnTogether_l0 K n l (pre.length : Int) r = some (.inr ((), l, r, ())) := by
  have hb : big = 4000000 := rfl
  intro t
  induction t with
  | nil =>
    intro pre n he hn
    obtain ⟨n, rfl⟩ : ∃ k, n = k + 1 := ⟨n - 1, by omega⟩
    have e : decide ((pre.length : Int) < (r.2.1.length : Int)) = false := by rw [he]; exact lt_end
    unfold l_FnTogether_l0
    rw [e]; rfl
  | cons y t ih =>
    intro pre n he hn
    obtain ⟨n, rfl⟩ : ∃ k, n = k + 1 := ⟨n - 1, by omega⟩
    have hp : pre.length ≤ 5 := by rw [he] at hrl; simp at hrl; omega
    have e1 : decide ((pre.length : Int) < (r.2.1.length : Int)) = true := by rw [he]; exact lt_at
    have e2 : inB (pre.length : Int) r.2.1.length = true := by rw [he]; exact inB_at
    have e3 : xi (.int .i64) r.2.1 (pre.length : Int) = y := by rw [he]; exact xi_at (r := .int .i64)
    have hy : y ∈ r.2.1 := by rw [he]; simp
    have htl := together_len (l := l) (id := y) hrl
    have hml := rest_len (r := r) (l := l) (id := y) (h := 0)
    have ih := ih (pre ++ [y]) n (by rw [he]; simp) (by simpa using hn)
    unfold l_FnTogether_l0
    rw [e1, e2, e3, i_TogetherWith_eq hs hK hr hrl, s_TogetherWith_eq hs hK hr hrl]
    simp only [cond_true, Option.bind_some]
    rw [l_sameInts_self (by omega) hK]
    simp only [Option.bind_some, Bool.not_true, cond_false]
    rw [l_rises_true (together_rises hr) (by omega) hK]
    simp only [Option.bind_some, Bool.not_true, cond_false]
    rw [i_Rest_eq hs hK hr hrl]
    simp only [Option.bind_some]
    refine Eq.trans (congrArg (fun o => Option.bind o _) (l1_eq hs hK hr hrl (pre.length : Int) (together r l y) [] K rfl (by omega))) ?_
    simp only [Option.bind_some, Sum.elim_inr]
    refine Eq.trans (congrArg (fun o => Option.bind o _) (l2_eq hs hK hr hrl (pre.length : Int) ((rest r l y 0).length + 1) K 0 (by omega) (by omega))) ?_
    simp only [Option.bind_some, Sum.elim_inr]
    rw [i_AllHere_eq hs hK hrl, next_at (x := y) (by omega)]
    simp only [Option.bind_some]
    cases ha : allHere r l
    · exact ih
    · have hm := together_self hy ha
      have hpos := List.length_pos_of_mem hm
      have e : (((together r l y).length : Int) == (0:Int)) = false := by
        cases e : ((together r l y).length : Int) == 0
        · rfl
        · have := eq_of_beq e; omega
      rw [e]
      exact ih
end

theorem fnTogether_true (l : List Int) (hl : l.length ≤ 140737488351232) : l_FnTogether big l = some (true, ()) := by
  have hb : big = 4000000 := rfl
  unfold l_FnTogether l_big
  simp only [Option.bind_some]
  cases decide ((l.length : Int) > (1048576:Int))
  · simp only [cond_false]
    obtain ⟨⟨r, bs, ⟨⟩⟩, hd, ⟨h1, h2⟩, h3⟩ := s_DrawTogether_ret hl (Nat.le_refl big)
    have h1 : r.2.1.length ≤ 5 := h1
    have h2 : r.2.1.Pairwise (· < ·) := h2
    have h3 : BSm bs := h3
    rw [hd]
    simp only [Option.bind_some]
    refine Eq.trans (congrArg (fun o => Option.bind o _) (l0_eq h3 (Nat.le_refl _) h2 h1 r.2.1 [] big rfl (by omega))) ?_
    simp only [Option.bind_some, Sum.elim_inr]
    rw [i_AllHere_eq h3 (Nat.le_refl _) h1, s_AllHere_eq h3 (Nat.le_refl _) h1]
    have h0 : BSm [] := ⟨Nat.zero_le _, fun b hb => by cases hb⟩
    simp only [Option.bind_some]
    rw [i_TogetherWith_eq h0 (Nat.le_refl _) h2 h1]
    have e : (allHere r bs == allHere r bs) = true := by simp
    rw [e]
    rfl
  · rfl

theorem pure (l : List Int) (hw : ∀ n, n ∈ l → (Lit.int .u8 n).wf = true) (hl : l.length ≤ 140737488351232) : ∃ K, (l_FnTogether_m K).fn (l, ()) = some (true, ()) :=
  ⟨big, fnTogether_true l hl⟩
end Go.Proofs.Ytphjhelolaoihaa.R
