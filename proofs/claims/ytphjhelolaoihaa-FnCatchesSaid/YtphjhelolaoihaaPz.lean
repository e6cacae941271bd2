/- FnCatches as a plain law: it answers true of all bytes. -/
import Derived.Test.YtphjhelolaoihaaMo
import Derived.Test.YtphjhelolaoihaaPb
import Derived.Test.YtphjhelolaoihaaPc
set_option linter.all false
namespace Go.Proofs.Ytphjhelolaoihaa.R
open Pl Rg Go

theorem putItem_again {l : List PItem} {x : PItem} : putItem (putItem l x) x = putItem l x := by
  cases hc : itemsOk l && itemOk x && !hasSeq l x.1
  · have e : putItem l x = l := by unfold putItem; rw [hc]; rfl
    rw [e, e]
  · have e : putItem l x = Pl.insert l x := by unfold putItem; rw [hc]; rfl
    simp only [Bool.and_eq_true, Bool.not_eq_true'] at hc
    have h1 : hasSeq (Pl.insert l x) x.1 = true := hasSeq_iff.2 ⟨x, (insert_mem hc.2).2 (.inl rfl), rfl⟩
    rw [e]
    unfold putItem
    rw [h1]; simp

theorem fnCatches_true (l : List Int) (hl : l.length ≤ 140737488351232) : l_FnCatches big l = some (true, ()) := by
  have hb : big = 4000000 := rfl
  unfold l_FnCatches l_big
  simp only [Option.bind_some]
  cases decide ((l.length : Int) > (1048576:Int))
  · simp only [cond_false]
    obtain ⟨⟨m, x, ⟨⟩⟩, hd, hm⟩ := s_DrawCaught_ret hl (Nat.le_refl big)
    have hm : MateOk m := hm
    rw [hd]
    simp only [Option.bind_some]
    have hn := catch_ok (x := x) hm
    have hi := itemsOk_length hm.items
    have hni := itemsOk_length hn.items
    rw [i_Catch_eq hm.sm (Nat.le_refl _)]
    simp only [Option.bind_some]
    rw [i_Catch_eq hn.sm (Nat.le_refl _), s_ItemAt_eq (by omega) (by omega), s_ItemAt_eq (by omega) (by omega), s_ItemOk_eq]
    simp only [Option.bind_some]
    have en : catchI m x = mSetItems m (putItem m.2.2.1 x) := by unfold catchI; rw [mateOk_iff.2 hm]; rfl
    have ek : catchI (catchI m x) x = mSetItems (catchI m x) (putItem (catchI m x).2.2.1 x) := by
      conv => lhs; unfold catchI
      rw [show mateOk (bif mateOk m then mSetItems m (putItem m.2.2.1 x) else m) = true from mateOk_iff.2 hn]; rfl
    have eni : (catchI m x).2.2.1 = putItem m.2.2.1 x := by rw [en]; rfl
    have eki : (catchI (catchI m x) x).2.2.1 = (catchI m x).2.2.1 := by
      rw [ek]
      show putItem (catchI m x).2.2.1 x = (catchI m x).2.2.1
      rw [eni]; exact putItem_again
    have enh : (catchI m x).2.2.2.2.2.2.2.2.1 = m.2.2.2.2.2.2.2.2.1 := by rw [en]; rfl
    cases hx : itemOk x
    · have e : putItem m.2.2.1 x = m.2.2.1 := by unfold putItem; rw [hx]; simp
      simp only [Bool.not_false, cond_true]
      rw [eni, e, l_sameItems_self (by omega) (by omega)]
      rfl
    · simp only [Bool.not_true, cond_false]
      rw [i_MateOk_eq hn.sm (Nat.le_refl _), mateOk_iff.2 hn, eki, l_sameItems_self (by omega) (by omega), enh]
      have eh : (m.2.2.2.2.2.2.2.2.1 == m.2.2.2.2.2.2.2.2.1) = true := beq_self_eq_true _
      rw [eh]
      simp only [Option.bind_some, cond_true, itemAt_snd]
      rw [eni]
      cases hs : hasSeq m.2.2.1 x.1
      · have e : putItem m.2.2.1 x = Pl.insert m.2.2.1 x := by unfold putItem; rw [hm.items, hx, hs]; rfl
        have hp := insert_ok hm.items hx hs
        have hmem : x ∈ Pl.insert m.2.2.1 x := (insert_mem hs).2 (.inl rfl)
        have ea := itemAt_eq (itemsOk_iff.1 hp).2 hmem
        have h1 : hasSeq (Pl.insert m.2.2.1 x) x.1 = true := hasSeq_iff.2 ⟨x, hmem, rfl⟩
        rw [e, h1, ea]
        simp [item_eqB]
      · have e : putItem m.2.2.1 x = m.2.2.1 := by unfold putItem; rw [hs]; simp
        rw [e, hs]
        simp [item_eqB]
  · rfl

theorem pure (l : List Int) (hw : ∀ n, n ∈ l → (Lit.int .u8 n).wf = true) (hl : l.length ≤ 140737488351232) : ∃ K, (l_FnCatches_m K).fn (l, ()) = some (true, ()) :=
  ⟨big, fnCatches_true l hl⟩
end Go.Proofs.Ytphjhelolaoihaa.R
