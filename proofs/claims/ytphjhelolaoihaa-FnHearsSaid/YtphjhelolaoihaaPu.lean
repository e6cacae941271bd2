/- FnHears as a plain law: it answers true of all bytes. -/
import Derived.Test.YtphjhelolaoihaaMo
import Derived.Test.YtphjhelolaoihaaPc
import Derived.Test.YtphjhelolaoihaaPa
set_option linter.all false
namespace Go.Proofs.Ytphjhelolaoihaa.R
open Pl Rg Go

theorem item_eqB (x : PItem) : R_Item.eqB x x = true := by
  simp [Ty.eqB]

theorem l_sameItems_l0_self {K : Nat} : ∀ (t pre : List PItem) (n : Nat), t.length < n → (pre ++ t).length ≤ 1000000000000 → l_sameItems_l0 K n (pre ++ t) (pre ++ t) (pre.length : Int) = some (.inr ())
  | [], pre, n + 1, _, _ => by
    unfold l_sameItems_l0
    rw [lt_end]; rfl
  | y :: t, pre, n + 1, hn, hl => by
    have hp : pre.length ≤ 1000000000000 := by simp at hl; omega
    have ih := l_sameItems_l0_self (K := K) t (pre ++ [y]) n (by simpa using hn) (by simpa using hl)
    unfold l_sameItems_l0
    rw [lt_at, inB_at, xi_at (r := R_Item), next_at (x := y) hp, item_eqB, app_cons (pre := pre) (t := t)]
    exact ih

theorem l_sameItems_self {K : Nat} {l : List PItem} (h : l.length < K) (hK : l.length ≤ 1000000000000) : l_sameItems K l l = some (true, ()) := by
  unfold l_sameItems
  have e : ((l.length : Int) != (l.length : Int)) = false := by simp
  rw [e]
  have := l_sameItems_l0_self (K := K) l [] K h hK
  rw [show l_sameItems_l0 K K l l (0:Int) = _ from this]
  rfl

theorem l_FnHears_l0_eq {K : Nat} {m n' : PMate} (hm : MateOk m) : ∀ (t pre : List PItem) (n : Nat), hearList m = pre ++ t → t.length < n →
    l_FnHears_l0 K n (hearList m) (pre.length : Int) m n' = some (.inr ((), (), hearList m, m, n', ())) := by
  have hl := hearList_length hm
  have hh := hm.heard
  have hil := itemsOk_length hm.items
  have hal := aru_le (l := m.2.2.1)
  intro t
  induction t with
  | nil =>
    intro pre n he hn
    obtain ⟨n, rfl⟩ : ∃ k, n = k + 1 := ⟨n - 1, by omega⟩
    have e : decide ((pre.length : Int) < ((hearList m).length : Int)) = false := by rw [he]; exact lt_end
    unfold l_FnHears_l0
    rw [e]; rfl
  | cons y t ih =>
    intro pre n he hn
    obtain ⟨n, rfl⟩ : ∃ k, n = k + 1 := ⟨n - 1, by omega⟩
    have hi : pre.length < (hearList m).length := by rw [he]; simp
    have hp : pre.length ≤ 60 := by omega
    have e1 : decide ((pre.length : Int) < ((hearList m).length : Int)) = true := by rw [decide_eq_true_eq]; omega
    have e2 : inB (pre.length : Int) (hearList m).length = true := by rw [inB_nat]; exact decide_eq_true hi
    have e3 : xi R_Item (hearList m) (pre.length : Int) = y := by rw [he]; exact xi_at (r := R_Item)
    have e3' : (hearList m)[pre.length] = y := by rw [← e3]; exact (xi_nat (r := R_Item) hi).symm
    obtain ⟨g1, g2⟩ := hearList_at hm hi
    rw [e3'] at g1 g2
    have ew : w64 (w64 (m.2.2.2.2.2.2.2.2.1 + (pre.length : Int)) + (1:Int)) = m.2.2.2.2.2.2.2.2.1 + pre.length + 1 := by
      rw [w64_id (n := m.2.2.2.2.2.2.2.2.1 + (pre.length : Int)) (by omega), w64_id (by omega)]
    have e4 : (y.1 != w64 (w64 (m.2.2.2.2.2.2.2.2.1 + (pre.length : Int)) + (1:Int))) = false := by rw [ew, g1]; simp
    unfold l_FnHears_l0
    rw [e1, e2, e3, e4, next_at (x := y) (by omega)]
    simp only [cond_true, cond_false]
    have ih := ih (pre ++ [y]) n (by rw [he]; simp) (by simpa using hn)
    cases c : (y.2.2.1 == (2:Int))
    · exact ih
    · have hc : y.2.2.1 = 2 := eq_of_beq c
      have e5 : decide (y.1 > m.2.2.2.2.2.2.2.1) = false := by have := g2 hc; rw [decide_eq_false_iff_not]; omega
      rw [e5]
      exact ih

theorem fnHears_true (l : List Int) (hl : l.length ≤ 140737488351232) : l_FnHears big l = some (true, ()) := by
  have hb : big = 4000000 := rfl
  unfold l_FnHears l_big
  simp only [Option.bind_some]
  cases decide ((l.length : Int) > (1048576:Int))
  · simp only [cond_false]
    obtain ⟨⟨m, t, ⟨⟩⟩, hd, hm, ht⟩ := s_DrawMate_ret hl (Nat.le_refl big)
    have hm : MateOk m := hm
    rw [hd]
    simp only [Option.bind_some]
    rw [i_Hear_eq hm.sm (Nat.le_refl _)]
    simp only [Option.bind_some]
    have hn := hear_ok hm
    have hll := hearList_length hm
    have hh := hm.heard
    have hil := itemsOk_length hm.items
    have hal := aru_le (l := m.2.2.1)
    have e1 : (hear m).2 = hearList m := by rw [hear_of hm]
    rw [e1]
    have g := l_FnHears_l0_eq (K := big) (n' := (hear m).1) hm (hearList m) [] big rfl (by omega)
    refine Eq.trans (congrArg (fun o => Option.bind o _) g) ?_
    simp only [Option.bind_some, Sum.elim_inr]
    rw [i_Hear_eq hn.sm (Nat.le_refl _), s_Hear_eq hm.sm (Nat.le_refl _), i_MateOk_eq hn.sm (Nat.le_refl _), mateOk_iff.2 hn, hear_again hm, e1]
    simp only [Option.bind_some, cond_true]
    have e2 : (hear m).1.2.2.2.2.2.2.2.2.1 = m.2.2.2.2.2.2.2.2.1 + (hearList m).length := by rw [hear_of hm]; rfl
    have e3 : w64 (m.2.2.2.2.2.2.2.2.1 + ((hearList m).length : Int)) = m.2.2.2.2.2.2.2.2.1 + (hearList m).length := w64_id (by omega)
    rw [e2, e3, l_sameItems_self (by omega) (by omega)]
    have e4 : (m.2.2.2.2.2.2.2.2.1 + ((hearList m).length : Int) == m.2.2.2.2.2.2.2.2.1 + ((hearList m).length : Int)) = true := beq_self_eq_true _
    rw [e4]; rfl
  · rfl

theorem pure (l : List Int) (hw : ∀ n, n ∈ l → (Lit.int .u8 n).wf = true) (hl : l.length ≤ 140737488351232) : ∃ K, (l_FnHears_m K).fn (l, ()) = some (true, ()) :=
  ⟨big, fnHears_true l hl⟩
end Go.Proofs.Ytphjhelolaoihaa.R
