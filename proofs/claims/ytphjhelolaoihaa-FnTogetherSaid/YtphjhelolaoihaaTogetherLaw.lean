/- For every input of bytes FnTogether returns true, and the bytes read as they did. No conditions. -/
import Derived.Test.YtphjhelolaoihaaRows
import Derived.Test.YtphjhelolaoihaaPz
import Derived.WalkKit
import Derived.ProofKit
import Derived.OpenShut
import Derived.ShutString
import Derived.ChangeOld
import Derived.Below
import Derived.SizedLaws
set_option linter.all false
namespace Go.Proofs.Ytphjhelolaoihaa.fnTogether
open Go.ChangeShapes Go.WideShapes Go.ChangeAt Go.RowKit
set_option linter.unusedVariables false

theorem own : ownKnob Try.prog.godebug = none := by kernel_rfl
theorem laidOut : laidOutB Try.prog = true := by kernel_rfl

theorem walk {w : World} {l : List Int} {v : Value} {S : Nat → Prop} (hv : Rg.ORep w S (.sl (.int .u8)) l [v] []) (hS : ∀ b, S b → b < w.heap.size) (hw : ∀ n, n ∈ l → (Lit.int .u8 n).wf = true) (hl : l.length ≤ 140737488351232) :
    Calls Try.prog 4 #[v] w fun e w' => e = .returned (.bool true) ∧ Below w.heap.size w w' := by
  obtain ⟨K, hK⟩ := R.pure l hw hl
  exact Rg.law_walk (R.l_FnTogether_all K).2.1 hK hv hS

set_option maxRecDepth 100000 in
theorem lifted (os : Os) (started : os.Started) (H : Type) (enc : TypeId × Value → H) :
    ReturnsInHanded {} Try.checked os 4 .any (Rows.fnTogetherSpec.pre6 enc Try.prog Try.f4 Rows.fnTogetherRow.domain false) (Rows.fnTogetherSpec.post enc Try.prog Try.f4 false true false false) := by
  refine returnsInHanded_of_change_sized (C := Try.checked) own started (by kernel_rfl) Try.func4
    (ChangeSpec.witness6 (enc := enc) (C := Try.checked) false ⟨#[], #[.slice none 0 0], []⟩ 8 (by kernel_rfl) (by kernel_rfl) (by kernel_rfl) (by kernel_rfl)) ?_
  intro W base args ds gs before hval0 hW hcnd hsz0 _
  have hsz : (DataW.weightsEach Try.prog (Try.f4.params.toList ++ Rows.fnTogetherSpec.plain.varTypes Try.prog) (ds ++ gs)).all (· ≤ reachBytes) = true := hsz0
  have hval : ∀ (j : Nat) t v, Try.f4.params[j]? = some t → args[j]? = some v → Value.okWide Try.prog W .any base t v := hval0
  have hW' := hW
  obtain ⟨p, q, hA0, hV, rfl, hfz, hnd⟩ := hW
  have hA : DataW.TrodAll enc Try.prog W 0 (fun _ => true) true Try.f4.params.toList args.toList ds p := hA0
  rw [Try.params4] at hA hval hsz
  obtain ⟨v0, vs0, d0, ds0, p0, q0, hargs, rfl, rfl, h0, r0⟩ := trodAll_cons hA
  obtain ⟨rfl, rfl, rfl⟩ := trodAll_nil r0
  obtain rfl : args = #[v0] := by cases args; simp_all
  obtain ⟨rfl, rfl⟩ := trodVars_none hV
  have k0 := h0
  have lt0 : ∀ x ∈ p0, x.block < W.heap.size := by obtain ⟨m, hm⟩ := k0; exact DataW.trod_lt m _ _ _ hm
  have hsh := Rg.okWide_block Try.underlying34 (hval 0 34 v0 rfl rfl)
  have main : ∃ (l : List Int) (S : Nat → Prop), Rg.ORep W S (.sl (.int .u8)) l [v0] [] ∧ (∀ b, S b → b < W.heap.size) ∧ (∀ n, n ∈ l → (Lit.int .u8 n).wf = true) ∧ l.length ≤ 140737488351232 := by
    rcases hsh with rfl | ⟨x, len, cap, arr, el, fz, rfl, hsp, hb⟩
    · exact ⟨[], fun _ => False, ⟨rfl, none, 0, rfl, Nat.le_refl _, .inl ⟨rfl, rfl⟩⟩, fun b h => h.elim, fun n h => by simp at h, Nat.zero_le _⟩
    · obtain ⟨fuel, hf⟩ := h0
      rcases open_ints Try.underlying34 Try.underlying5 (by kernel_rfl) hf with ⟨hcs, _⟩ | ⟨x', l', c', zs, hcs, _, hl, hm, hz, hx, hcell, hwz⟩
      · simp [Value.cells] at hcs
      · simp [Value.cells] at hcs
        obtain ⟨rfl, rfl, rfl⟩ := hcs
        have hz' : zs.length = cap := by simpa using hz
        obtain ⟨hd, _⟩ := Prod.mk.inj hx
        have y0 := sized_slice hsz (j := 0) (t := 34) rfl (show (d0 :: _ : List (DataW H))[0]? = some _ from congrArg some hd) Try.underlying34
        have b1 : Try.prog.bytesOf 5 = 1 := by kernel_rfl
        rw [b1] at y0
        have y1 : len ≤ 140737488351232 := by
          simp [lits, reachBytes] at y0
          omega
        refine ⟨zs.take len, fun b => b = x.block, Rg.bytes_rep hsp hb hl hz' hcell, fun b h => ?_, fun n hn => hwz n (List.mem_of_mem_take hn), by rw [List.length_take]; omega⟩
        have h : b = x.block := h
        subst h
        exact (Array.getElem?_eq_some_iff.1 hb).1
  clear hA0 hval0 hsz0 hsz
  obtain ⟨l, S, hv, hS, hw, hl⟩ := main
  refine (walk hv hS hw hl).mono fun e W' ⟨he, bel⟩ => ?_
  subst he
  exact ⟨_, rfl, _, _, _, [], _, [], hW', trodAll_mk1 (shut_bool Try.underlying4 _), (trodAll_cons_mk (Below.trod laidOut (by kernel_rfl) (of_decide_eq_true (by kernel_rfl)) k0 bel lt0) trodAll_mk0), rfl, bel.frame _, fun h => by cases h⟩

theorem over : Rows.fnTogetherRow.holds Try.pinned (OpenSpec.ofChange Rows.fnTogetherSpec) :=
  OpenClaim.holds_of_wide 4 Try.f4 rfl rfl rfl rfl rfl rfl rfl ⟨rfl, rfl, rfl, rfl, rfl⟩ rfl rfl rfl rfl rfl (by kernel_rfl) Try.func4 (by kernel_rfl)
    (of_decide_eq_true (by kernel_rfl)) (by unfold Func.isWrapper; first | (rw [if_pos (by decide +kernel)]; kernel_rfl) | (rw [if_neg (by decide +kernel)]; exact ⟨rfl, rfl⟩))
    (fun os started H enc _ => lifted os started H enc)

theorem proved : Rows.FnTogetherSaid := over
end Go.Proofs.Ytphjhelolaoihaa.fnTogether
namespace Go.Proofs.Ytphjhelolaoihaa
/-- The row, under a short name, for the claim. -/
theorem fnTogether_holds : Rows.FnTogetherSaid := fnTogether.proved
end Go.Proofs.Ytphjhelolaoihaa
