/- What the program says of its types. -/
import Derived.Test.YtphjhelolaoihaaProg
import Derived.KernelRfl
import Derived.Test.YtphjhelolaoihaaRgH
import Derived.Test.YtphjhelolaoihaaDf
set_option linter.all false
namespace Go.Proofs.Ytphjhelolaoihaa.R
open Rg Go
set_option linter.unusedVariables false
noncomputable def cmpTab : List Nat := [57, 58, 130]
noncomputable def tyTab : List (Nat × Ty) := [(2, .int .i64), (3, .int .i64), (4, .bool), (5, .int .u8), (9, .str), (12, .int .u64), (13, .cons .str (.cons (.int .u64) .nil)), (21, .int .i32), (22, .sl R_Item), (23, R_Bundle), (24, R_Bundle), (28, .sl R_Item), (29, R_Bundle), (30, R_Bundle), (34, .sl (.int .u8)), (36, .sl (.int .i64)), (37, R_Ring), (38, R_Ring), (39, .sl R_Bundle), (48, .sl .str), (49, R_Token), (50, R_Token), (51, R_Mate), (52, R_Mate), (57, R_Item), (58, R_Item), (98, .sl (.sl R_Item)), (102, .sl R_Mate), (103, .sl R_Fly), (104, R_Work), (105, R_Work), (107, R_Fly), (108, R_Fly), (130, R_Item), (132, .int .u32), (139, R_l01Cur), (140, R_l01Cur), (143, .sl R_Turn), (144, R_l11Drawn), (145, R_l11Drawn), (162, .int .u64), (171, R_Turn), (172, R_Turn), (202, .int .u64)]
def ebTab : List (Nat × Nat) := [(22, 40), (28, 40), (34, 1), (36, 8), (39, 48), (48, 16), (98, 24), (102, 208), (103, 120), (143, 48)]
noncomputable def env (l : List (Nat × Mdl)) (ov : List (Nat × Ty)) (kp : Bool) (n : Nat) : Env := ⟨lkp tyTab, lkpN ebTab, lkp l, fun _ => kp, lkp ov, n, fun t => memN t cmpTab⟩
theorem ty_2 (E : Env) (hb : E.eb = lkpN ebTab) : TyF Go.Proofs.Try.prog E 2 (.int .i64) := tyF_int (by kernel_rfl) Go.Proofs.Try.underlying2
theorem ty_3 (E : Env) (hb : E.eb = lkpN ebTab) : TyF Go.Proofs.Try.prog E 3 (.int .i64) := tyF_int (by kernel_rfl) Go.Proofs.Try.underlying3
theorem ty_4 (E : Env) (hb : E.eb = lkpN ebTab) : TyF Go.Proofs.Try.prog E 4 .bool := tyF_bool (by kernel_rfl) Go.Proofs.Try.underlying4
theorem ty_5 (E : Env) (hb : E.eb = lkpN ebTab) : TyF Go.Proofs.Try.prog E 5 (.int .u8) := tyF_int (by kernel_rfl) Go.Proofs.Try.underlying5
theorem ty_9 (E : Env) (hb : E.eb = lkpN ebTab) : TyF Go.Proofs.Try.prog E 9 .str := tyF_str (by kernel_rfl) Go.Proofs.Try.underlying9
theorem ty_12 (E : Env) (hb : E.eb = lkpN ebTab) : TyF Go.Proofs.Try.prog E 12 (.int .u64) := tyF_int (by kernel_rfl) Go.Proofs.Try.underlying12
theorem ty_13 (E : Env) (hb : E.eb = lkpN ebTab) : TyF Go.Proofs.Try.prog E 13 (.cons .str (.cons (.int .u64) .nil)) := tyF_agg rfl rfl (by kernel_rfl) (by kernel_rfl) rfl
theorem ty_21 (E : Env) (hb : E.eb = lkpN ebTab) : TyF Go.Proofs.Try.prog E 21 (.int .i32) := tyF_int (by kernel_rfl) Go.Proofs.Try.underlying21
theorem ty_22 (E : Env) (hb : E.eb = lkpN ebTab) : TyF Go.Proofs.Try.prog E 22 (.sl R_Item) := tyF_sl (eb := 40) rfl (by kernel_rfl) Go.Proofs.Try.underlying22 (by kernel_rfl) (by rw [hb]; rfl) rfl (fun h => by cases h)
theorem ty_23 (E : Env) (hb : E.eb = lkpN ebTab) : TyF Go.Proofs.Try.prog E 23 R_Bundle := tyF_agg rfl rfl (by kernel_rfl) (by kernel_rfl) rfl
theorem ty_24 (E : Env) (hb : E.eb = lkpN ebTab) : TyF Go.Proofs.Try.prog E 24 R_Bundle := tyF_agg rfl rfl (by kernel_rfl) (by kernel_rfl) rfl
theorem ty_28 (E : Env) (hb : E.eb = lkpN ebTab) : TyF Go.Proofs.Try.prog E 28 (.sl R_Item) := tyF_sl (eb := 40) rfl (by kernel_rfl) Go.Proofs.Try.underlying28 (by kernel_rfl) (by rw [hb]; rfl) rfl (fun h => by cases h)
theorem ty_29 (E : Env) (hb : E.eb = lkpN ebTab) : TyF Go.Proofs.Try.prog E 29 R_Bundle := tyF_agg rfl rfl (by kernel_rfl) (by kernel_rfl) rfl
theorem ty_30 (E : Env) (hb : E.eb = lkpN ebTab) : TyF Go.Proofs.Try.prog E 30 R_Bundle := tyF_agg rfl rfl (by kernel_rfl) (by kernel_rfl) rfl
theorem ty_34 (E : Env) (hb : E.eb = lkpN ebTab) : TyF Go.Proofs.Try.prog E 34 (.sl (.int .u8)) := tyF_sl (eb := 1) rfl (by kernel_rfl) Go.Proofs.Try.underlying34 (by kernel_rfl) (by rw [hb]; rfl) rfl (fun _ => by kernel_rfl)
theorem ty_36 (E : Env) (hb : E.eb = lkpN ebTab) : TyF Go.Proofs.Try.prog E 36 (.sl (.int .i64)) := tyF_sl (eb := 8) rfl (by kernel_rfl) Go.Proofs.Try.underlying36 (by kernel_rfl) (by rw [hb]; rfl) rfl (fun h => by cases h)
theorem ty_37 (E : Env) (hb : E.eb = lkpN ebTab) : TyF Go.Proofs.Try.prog E 37 R_Ring := tyF_agg rfl rfl (by kernel_rfl) (by kernel_rfl) rfl
theorem ty_38 (E : Env) (hb : E.eb = lkpN ebTab) : TyF Go.Proofs.Try.prog E 38 R_Ring := tyF_agg rfl rfl (by kernel_rfl) (by kernel_rfl) rfl
theorem ty_39 (E : Env) (hb : E.eb = lkpN ebTab) : TyF Go.Proofs.Try.prog E 39 (.sl R_Bundle) := tyF_sl (eb := 48) rfl (by kernel_rfl) Go.Proofs.Try.underlying39 (by kernel_rfl) (by rw [hb]; rfl) rfl (fun h => by cases h)
theorem ty_48 (E : Env) (hb : E.eb = lkpN ebTab) : TyF Go.Proofs.Try.prog E 48 (.sl .str) := tyF_sl (eb := 16) rfl (by kernel_rfl) Go.Proofs.Try.underlying48 (by kernel_rfl) (by rw [hb]; rfl) rfl (fun h => by cases h)
theorem ty_49 (E : Env) (hb : E.eb = lkpN ebTab) : TyF Go.Proofs.Try.prog E 49 R_Token := tyF_agg rfl rfl (by kernel_rfl) (by kernel_rfl) rfl
theorem ty_50 (E : Env) (hb : E.eb = lkpN ebTab) : TyF Go.Proofs.Try.prog E 50 R_Token := tyF_agg rfl rfl (by kernel_rfl) (by kernel_rfl) rfl
theorem ty_51 (E : Env) (hb : E.eb = lkpN ebTab) : TyF Go.Proofs.Try.prog E 51 R_Mate := tyF_agg rfl rfl (by kernel_rfl) (by kernel_rfl) rfl
theorem ty_52 (E : Env) (hb : E.eb = lkpN ebTab) : TyF Go.Proofs.Try.prog E 52 R_Mate := tyF_agg rfl rfl (by kernel_rfl) (by kernel_rfl) rfl
theorem ty_57 (E : Env) (hb : E.eb = lkpN ebTab) : TyF Go.Proofs.Try.prog E 57 R_Item := tyF_agg rfl rfl (by kernel_rfl) (by kernel_rfl) rfl
theorem ty_58 (E : Env) (hb : E.eb = lkpN ebTab) : TyF Go.Proofs.Try.prog E 58 R_Item := tyF_agg rfl rfl (by kernel_rfl) (by kernel_rfl) rfl
theorem ty_98 (E : Env) (hb : E.eb = lkpN ebTab) : TyF Go.Proofs.Try.prog E 98 (.sl (.sl R_Item)) := tyF_sl (eb := 24) rfl (by kernel_rfl) Go.Proofs.Try.underlying98 (by kernel_rfl) (by rw [hb]; rfl) rfl (fun h => by cases h)
theorem ty_102 (E : Env) (hb : E.eb = lkpN ebTab) : TyF Go.Proofs.Try.prog E 102 (.sl R_Mate) := tyF_sl (eb := 208) rfl (by kernel_rfl) Go.Proofs.Try.underlying102 (by kernel_rfl) (by rw [hb]; rfl) rfl (fun h => by cases h)
theorem ty_103 (E : Env) (hb : E.eb = lkpN ebTab) : TyF Go.Proofs.Try.prog E 103 (.sl R_Fly) := tyF_sl (eb := 120) rfl (by kernel_rfl) Go.Proofs.Try.underlying103 (by kernel_rfl) (by rw [hb]; rfl) rfl (fun h => by cases h)
theorem ty_104 (E : Env) (hb : E.eb = lkpN ebTab) : TyF Go.Proofs.Try.prog E 104 R_Work := tyF_agg rfl rfl (by kernel_rfl) (by kernel_rfl) rfl
theorem ty_105 (E : Env) (hb : E.eb = lkpN ebTab) : TyF Go.Proofs.Try.prog E 105 R_Work := tyF_agg rfl rfl (by kernel_rfl) (by kernel_rfl) rfl
theorem ty_107 (E : Env) (hb : E.eb = lkpN ebTab) : TyF Go.Proofs.Try.prog E 107 R_Fly := tyF_agg rfl rfl (by kernel_rfl) (by kernel_rfl) rfl
theorem ty_108 (E : Env) (hb : E.eb = lkpN ebTab) : TyF Go.Proofs.Try.prog E 108 R_Fly := tyF_agg rfl rfl (by kernel_rfl) (by kernel_rfl) rfl
theorem ty_130 (E : Env) (hb : E.eb = lkpN ebTab) : TyF Go.Proofs.Try.prog E 130 R_Item := tyF_agg rfl rfl (by kernel_rfl) (by kernel_rfl) rfl
theorem ty_132 (E : Env) (hb : E.eb = lkpN ebTab) : TyF Go.Proofs.Try.prog E 132 (.int .u32) := tyF_int (by kernel_rfl) Go.Proofs.Try.underlying132
theorem ty_139 (E : Env) (hb : E.eb = lkpN ebTab) : TyF Go.Proofs.Try.prog E 139 R_l01Cur := tyF_agg rfl rfl (by kernel_rfl) (by kernel_rfl) rfl
theorem ty_140 (E : Env) (hb : E.eb = lkpN ebTab) : TyF Go.Proofs.Try.prog E 140 R_l01Cur := tyF_agg rfl rfl (by kernel_rfl) (by kernel_rfl) rfl
theorem ty_143 (E : Env) (hb : E.eb = lkpN ebTab) : TyF Go.Proofs.Try.prog E 143 (.sl R_Turn) := tyF_sl (eb := 48) rfl (by kernel_rfl) Go.Proofs.Try.underlying143 (by kernel_rfl) (by rw [hb]; rfl) rfl (fun h => by cases h)
theorem ty_144 (E : Env) (hb : E.eb = lkpN ebTab) : TyF Go.Proofs.Try.prog E 144 R_l11Drawn := tyF_agg rfl rfl (by kernel_rfl) (by kernel_rfl) rfl
theorem ty_145 (E : Env) (hb : E.eb = lkpN ebTab) : TyF Go.Proofs.Try.prog E 145 R_l11Drawn := tyF_agg rfl rfl (by kernel_rfl) (by kernel_rfl) rfl
theorem ty_162 (E : Env) (hb : E.eb = lkpN ebTab) : TyF Go.Proofs.Try.prog E 162 (.int .u64) := tyF_int (by kernel_rfl) Go.Proofs.Try.underlying162
theorem ty_171 (E : Env) (hb : E.eb = lkpN ebTab) : TyF Go.Proofs.Try.prog E 171 R_Turn := tyF_agg rfl rfl (by kernel_rfl) (by kernel_rfl) rfl
theorem ty_172 (E : Env) (hb : E.eb = lkpN ebTab) : TyF Go.Proofs.Try.prog E 172 R_Turn := tyF_agg rfl rfl (by kernel_rfl) (by kernel_rfl) rfl
theorem ty_202 (E : Env) (hb : E.eb = lkpN ebTab) : TyF Go.Proofs.Try.prog E 202 (.int .u64) := tyF_int (by kernel_rfl) Go.Proofs.Try.underlying202
theorem tyAll (E : Env) (hb : E.eb = lkpN ebTab) : AllTy Go.Proofs.Try.prog E tyTab := ⟨ty_2 E hb, ty_3 E hb, ty_4 E hb, ty_5 E hb, ty_9 E hb, ty_12 E hb, ty_13 E hb, ty_21 E hb, ty_22 E hb, ty_23 E hb, ty_24 E hb, ty_28 E hb, ty_29 E hb, ty_30 E hb, ty_34 E hb, ty_36 E hb, ty_37 E hb, ty_38 E hb, ty_39 E hb, ty_48 E hb, ty_49 E hb, ty_50 E hb, ty_51 E hb, ty_52 E hb, ty_57 E hb, ty_58 E hb, ty_98 E hb, ty_102 E hb, ty_103 E hb, ty_104 E hb, ty_105 E hb, ty_107 E hb, ty_108 E hb, ty_130 E hb, ty_132 E hb, ty_139 E hb, ty_140 E hb, ty_143 E hb, ty_144 E hb, ty_145 E hb, ty_162 E hb, ty_171 E hb, ty_172 E hb, ty_202 E hb, trivial⟩
theorem cmp_57 : EqF Go.Proofs.Try.prog 57 itemT := eqF_item Go.Proofs.Try.underlying57 (by kernel_rfl) (by kernel_rfl) (by kernel_rfl) (by kernel_rfl) (by kernel_rfl) (by kernel_rfl) (by kernel_rfl) (by kernel_rfl)
theorem cmp_58 : EqF Go.Proofs.Try.prog 58 itemT := eqF_item Go.Proofs.Try.underlying58 (by kernel_rfl) (by kernel_rfl) (by kernel_rfl) (by kernel_rfl) (by kernel_rfl) (by kernel_rfl) (by kernel_rfl) (by kernel_rfl)
theorem cmp_130 : EqF Go.Proofs.Try.prog 130 itemT := eqF_item Go.Proofs.Try.underlying130 (by kernel_rfl) (by kernel_rfl) (by kernel_rfl) (by kernel_rfl) (by kernel_rfl) (by kernel_rfl) (by kernel_rfl) (by kernel_rfl)
theorem cmpAll : ∀ t, t ∈ cmpTab → ∀ r, lkp tyTab t = some r → EqF Go.Proofs.Try.prog t r := by
  intro t ht r hr
  simp only [cmpTab, List.mem_cons, List.not_mem_nil, or_false] at ht
  rcases ht with rfl | rfl | rfl
  · have e : lkp tyTab 57 = some itemT := rfl
    rw [e] at hr; cases hr
    exact cmp_57
  · have e : lkp tyTab 58 = some itemT := rfl
    rw [e] at hr; cases hr
    exact cmp_58
  · have e : lkp tyTab 130 = some itemT := rfl
    rw [e] at hr; cases hr
    exact cmp_130
theorem envTy (l : List (Nat × Mdl)) (ov : List (Nat × Ty)) (kp : Bool) (n : Nat) : EnvTy Go.Proofs.Try.prog (env l ov kp n) := envTyOf rfl (tyAll _ rfl) rfl cmpAll
end Go.Proofs.Ytphjhelolaoihaa.R
