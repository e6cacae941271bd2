/- The Go functions do what their data functions say. -/
import Derived.Test.YtphjhelolaoihaaTy
import Derived.Test.YtphjhelolaoihaaIns
set_option linter.all false
namespace Go.Proofs.Ytphjhelolaoihaa.R
open Rg Go
set_option linter.unusedVariables false
noncomputable def slices_Clone_i_Item_i_Item_m (K : Nat) : Mdl := ⟨[.val (.sl R_Item)], [.val (.ow R_Item)], fun x => slices_Clone_i_Item_i_Item K x.1⟩
theorem slices_Clone_i_Item_i_Item_all (K : Nat) : (slices_Clone_i_Item_i_Item_m K).ok = true ∧ Refines Go.Proofs.Try.prog 106 (slices_Clone_i_Item_i_Item_m K) ∧ Callable Go.Proofs.Try.prog 106 := ⟨rfl, clone_refines (E := env [] [] false 8) (r := R_Item) (t := 28) (envTy _ _ _ _) (fun _ => rfl) (by kernel_rfl) Go.Proofs.Try.func106 rfl rfl (by kernel_rfl) rfl rfl rfl rfl rfl rfl rfl rfl rfl (fun σ => by kernel_rfl) (fun x => by kernel_rfl) (fun x => by kernel_rfl) (fun y h => (Option.some.inj h).symm), ⟨_, _, Go.Proofs.Try.func106, rfl, by kernel_rfl⟩⟩
noncomputable def slices_Clone_int_int_m (K : Nat) : Mdl := ⟨[.val (.sl (.int .i64))], [.val (.ow (.int .i64))], fun x => slices_Clone_int_int K x.1⟩
theorem slices_Clone_int_int_all (K : Nat) : (slices_Clone_int_int_m K).ok = true ∧ Refines Go.Proofs.Try.prog 107 (slices_Clone_int_int_m K) ∧ Callable Go.Proofs.Try.prog 107 := ⟨rfl, clone_refines (E := env [] [] false 8) (r := .int .i64) (t := 36) (envTy _ _ _ _) (fun _ => rfl) (by kernel_rfl) Go.Proofs.Try.func107 rfl rfl (by kernel_rfl) rfl rfl rfl rfl rfl rfl rfl rfl rfl (fun σ => by kernel_rfl) (fun x => by kernel_rfl) (fun x => by kernel_rfl) (fun y h => (Option.some.inj h).symm), ⟨_, _, Go.Proofs.Try.func107, rfl, by kernel_rfl⟩⟩
noncomputable def slices_Clone_string_string_m (K : Nat) : Mdl := ⟨[.val (.sl .str)], [.val (.ow .str)], fun x => slices_Clone_string_string K x.1⟩
theorem slices_Clone_string_string_all (K : Nat) : (slices_Clone_string_string_m K).ok = true ∧ Refines Go.Proofs.Try.prog 108 (slices_Clone_string_string_m K) ∧ Callable Go.Proofs.Try.prog 108 := ⟨rfl, clone_refines (E := env [] [] false 8) (r := .str) (t := 48) (envTy _ _ _ _) (fun _ => rfl) (by kernel_rfl) Go.Proofs.Try.func108 rfl rfl (by kernel_rfl) rfl rfl rfl rfl rfl rfl rfl rfl rfl (fun σ => by kernel_rfl) (fun x => by kernel_rfl) (fun x => by kernel_rfl) (fun y h => (Option.some.inj h).symm), ⟨_, _, Go.Proofs.Try.func108, rfl, by kernel_rfl⟩⟩
noncomputable def slices_Insert_i_Item_i_Item_m (K : Nat) : Mdl := ⟨[.val (.ow R_Item), .val (.int .i64), .val (.ow R_Item)], [.val (.ow R_Item)], fun x => slices_Insert_i_Item_i_Item K x.1 x.2.1 x.2.2.1⟩
theorem slices_Insert_i_Item_i_Item_all (K : Nat) : (slices_Insert_i_Item_i_Item_m K).ok = true ∧ Refines Go.Proofs.Try.prog 128 (slices_Insert_i_Item_i_Item_m K) ∧ Callable Go.Proofs.Try.prog 128 := ⟨rfl, insert_refines insertW_128, ⟨_, _, Go.Proofs.Try.func128, rfl, by kernel_rfl⟩⟩
/-! loop.example/g00183/spec.l01In -/
noncomputable def s_l01In_ps : List PK := [.val (.int .i64), .val (.int .i64), .val (.int .i64)]
noncomputable def s_l01In_rs : List PK := [.val .bool]
noncomputable def s_l01In_fin : Fin := ⟨s_l01In_ps, s_l01In_rs, [.tmp 6]⟩
noncomputable def s_l01In_m (K : Nat) : Mdl := ⟨s_l01In_ps, s_l01In_rs, fun x => s_l01In K x.1 x.2.1 x.2.2.1⟩
theorem s_l01In_ok (K : Nat) (x : (rowOf s_l01In_ps).Den) : evalFn (env [] [] false 15) s_l01In_fin (bodyOf Go.Proofs.Try.f88) .leaf x = (s_l01In_m K).fn x := by kernel_rfl
theorem s_l01In_all (K : Nat) : (s_l01In_m K).ok = true ∧ Refines Go.Proofs.Try.prog 88 (s_l01In_m K) ∧ Callable Go.Proofs.Try.prog 88 := ⟨rfl, refines_of (E := (env [] [] false 15)) (envTy _ _ _ _) (fnsOf rfl trivial) (by kernel_rfl) Go.Proofs.Try.func88 rfl rfl s_l01In_fin rfl (by kernel_rfl) .leaf (anLeaf _ _) (s_l01In_ok K), ⟨_, _, Go.Proofs.Try.func88, rfl, by kernel_rfl⟩⟩
/-! loop.example/g00183/spec.ItemOk -/
noncomputable def s_ItemOk_ps : List PK := [.agg R_Item]
noncomputable def s_ItemOk_rs : List PK := [.val .bool]
noncomputable def s_ItemOk_fin : Fin := ⟨s_ItemOk_ps, s_ItemOk_rs, [.tmp 2]⟩
noncomputable def s_ItemOk_m (K : Nat) : Mdl := ⟨s_ItemOk_ps, s_ItemOk_rs, fun x => s_ItemOk K x.1⟩
theorem s_ItemOk_ok (K : Nat) (x : (rowOf s_ItemOk_ps).Den) : evalFn (env [(88, s_l01In_m K)] [] false 22) s_ItemOk_fin (bodyOf Go.Proofs.Try.f37) .leaf x = (s_ItemOk_m K).fn x := by kernel_rfl
theorem s_ItemOk_all (K : Nat) : (s_ItemOk_m K).ok = true ∧ Refines Go.Proofs.Try.prog 37 (s_ItemOk_m K) ∧ Callable Go.Proofs.Try.prog 37 := ⟨rfl, refines_of (E := (env [(88, s_l01In_m K)] [] false 22)) (envTy _ _ _ _) (fnsOf rfl ⟨s_l01In_all K, trivial⟩) (by kernel_rfl) Go.Proofs.Try.func37 rfl rfl s_ItemOk_fin rfl (by kernel_rfl) .leaf (anLeaf _ _) (s_ItemOk_ok K), ⟨_, _, Go.Proofs.Try.func37, rfl, by kernel_rfl⟩⟩
/-! loop.example/g00183/spec.ItemsOk -/
noncomputable def s_ItemsOk_ps : List PK := [.val (.sl R_Item)]
noncomputable def s_ItemsOk_rs : List PK := [.val .bool]
noncomputable def s_ItemsOk_fin : Fin := ⟨s_ItemsOk_ps, s_ItemsOk_rs, [.tmp 2]⟩
noncomputable def s_ItemsOk_l0_hd : Pat := [(0, .val (.sl R_Item)), (3, .val (.int .i64))]
noncomputable def s_ItemsOk_l0_xp : Pat := []
noncomputable def s_ItemsOk_l0_f (K n : Nat) (x : (Pat.ty s_ItemsOk_l0_hd).Den) : Option ((outOf s_ItemsOk_ps s_ItemsOk_rs).Den ⊕ (Pat.ty s_ItemsOk_l0_xp).Den) := s_ItemsOk_l0 K n x.1 x.2.1
noncomputable def s_ItemsOk_l0_an (K : Nat) : An (outOf s_ItemsOk_ps s_ItemsOk_rs) := .loop s_ItemsOk_l0_hd s_ItemsOk_l0_xp 0 (s_ItemsOk_l0_f K K) .leaf
noncomputable def s_ItemsOk_m (K : Nat) : Mdl := ⟨s_ItemsOk_ps, s_ItemsOk_rs, fun x => s_ItemsOk K x.1⟩
noncomputable def s_ItemsOk_l0_c : Code := loopAt [1, 0, 1, 0, 9] (bodyOf Go.Proofs.Try.f90)
theorem s_ItemsOk_l0_ok (K n : Nat) (x : (Pat.ty s_ItemsOk_l0_hd).Den) : s_ItemsOk_l0_f K (n + 1) x = round (env [(37, s_ItemOk_m K)] [] false 34) s_ItemsOk_fin s_ItemsOk_l0_hd s_ItemsOk_l0_xp 0 s_ItemsOk_l0_c .leaf (s_ItemsOk_l0_f K n) x := by kernel_rfl
theorem s_ItemsOk_ok (K : Nat) (x : (rowOf s_ItemsOk_ps).Den) : evalFn (env [(37, s_ItemOk_m K)] [] false 34) s_ItemsOk_fin (bodyOf Go.Proofs.Try.f90) (.seq .leaf (.seq (.seq .leaf (.block (s_ItemsOk_l0_an K))) .leaf)) x = (s_ItemsOk_m K).fn x := by kernel_rfl
theorem s_ItemsOk_all (K : Nat) : (s_ItemsOk_m K).ok = true ∧ Refines Go.Proofs.Try.prog 90 (s_ItemsOk_m K) ∧ Callable Go.Proofs.Try.prog 90 := ⟨rfl, refines_of (E := (env [(37, s_ItemOk_m K)] [] false 34)) (envTy _ _ _ _) (fnsOf rfl ⟨s_ItemOk_all K, trivial⟩) (by kernel_rfl) Go.Proofs.Try.func90 rfl rfl s_ItemsOk_fin rfl (by kernel_rfl) (.seq .leaf (.seq (.seq .leaf (.block (s_ItemsOk_l0_an K))) .leaf)) ⟨(anLeaf _ _), ⟨⟨(anLeaf _ _), ⟨⟨s_ItemsOk_l0_f K, K, rfl, fun _ => rfl, fun n x => s_ItemsOk_l0_ok K n x⟩, (anLeaf _ _)⟩⟩, (anLeaf _ _)⟩⟩ (s_ItemsOk_ok K), ⟨_, _, Go.Proofs.Try.func90, rfl, by kernel_rfl⟩⟩
/-! loop.example/g00183/impl.inRange -/
noncomputable def i_inRange_ps : List PK := [.val (.int .i64), .val (.int .i64), .val (.int .i64)]
noncomputable def i_inRange_rs : List PK := [.val .bool]
noncomputable def i_inRange_fin : Fin := ⟨i_inRange_ps, i_inRange_rs, [.tmp 6]⟩
noncomputable def i_inRange_m (K : Nat) : Mdl := ⟨i_inRange_ps, i_inRange_rs, fun x => i_inRange K x.1 x.2.1 x.2.2.1⟩
theorem i_inRange_ok (K : Nat) (x : (rowOf i_inRange_ps).Den) : evalFn (env [] [] false 15) i_inRange_fin (bodyOf Go.Proofs.Try.f79) .leaf x = (i_inRange_m K).fn x := by kernel_rfl
theorem i_inRange_all (K : Nat) : (i_inRange_m K).ok = true ∧ Refines Go.Proofs.Try.prog 79 (i_inRange_m K) ∧ Callable Go.Proofs.Try.prog 79 := ⟨rfl, refines_of (E := (env [] [] false 15)) (envTy _ _ _ _) (fnsOf rfl trivial) (by kernel_rfl) Go.Proofs.Try.func79 rfl rfl i_inRange_fin rfl (by kernel_rfl) .leaf (anLeaf _ _) (i_inRange_ok K), ⟨_, _, Go.Proofs.Try.func79, rfl, by kernel_rfl⟩⟩
/-! loop.example/g00183/impl.isDaemon -/
noncomputable def i_isDaemon_ps : List PK := [.val (.int .i64)]
noncomputable def i_isDaemon_rs : List PK := [.val .bool]
noncomputable def i_isDaemon_fin : Fin := ⟨i_isDaemon_ps, i_isDaemon_rs, [.tmp 2]⟩
noncomputable def i_isDaemon_m (K : Nat) : Mdl := ⟨i_isDaemon_ps, i_isDaemon_rs, fun x => i_isDaemon K x.1⟩
theorem i_isDaemon_ok (K : Nat) (x : (rowOf i_isDaemon_ps).Den) : evalFn (env [(79, i_inRange_m K)] [] false 5) i_isDaemon_fin (bodyOf Go.Proofs.Try.f94) .leaf x = (i_isDaemon_m K).fn x := by kernel_rfl
theorem i_isDaemon_all (K : Nat) : (i_isDaemon_m K).ok = true ∧ Refines Go.Proofs.Try.prog 94 (i_isDaemon_m K) ∧ Callable Go.Proofs.Try.prog 94 := ⟨rfl, refines_of (E := (env [(79, i_inRange_m K)] [] false 5)) (envTy _ _ _ _) (fnsOf rfl ⟨i_inRange_all K, trivial⟩) (by kernel_rfl) Go.Proofs.Try.func94 rfl rfl i_isDaemon_fin rfl (by kernel_rfl) .leaf (anLeaf _ _) (i_isDaemon_ok K), ⟨_, _, Go.Proofs.Try.func94, rfl, by kernel_rfl⟩⟩
/-! loop.example/g00183/impl.isLevel -/
noncomputable def i_isLevel_ps : List PK := [.val (.int .i64)]
noncomputable def i_isLevel_rs : List PK := [.val .bool]
noncomputable def i_isLevel_fin : Fin := ⟨i_isLevel_ps, i_isLevel_rs, [.tmp 2]⟩
noncomputable def i_isLevel_m (K : Nat) : Mdl := ⟨i_isLevel_ps, i_isLevel_rs, fun x => i_isLevel K x.1⟩
theorem i_isLevel_ok (K : Nat) (x : (rowOf i_isLevel_ps).Den) : evalFn (env [] [] false 9) i_isLevel_fin (bodyOf Go.Proofs.Try.f78) .leaf x = (i_isLevel_m K).fn x := by kernel_rfl
theorem i_isLevel_all (K : Nat) : (i_isLevel_m K).ok = true ∧ Refines Go.Proofs.Try.prog 78 (i_isLevel_m K) ∧ Callable Go.Proofs.Try.prog 78 := ⟨rfl, refines_of (E := (env [] [] false 9)) (envTy _ _ _ _) (fnsOf rfl trivial) (by kernel_rfl) Go.Proofs.Try.func78 rfl rfl i_isLevel_fin rfl (by kernel_rfl) .leaf (anLeaf _ _) (i_isLevel_ok K), ⟨_, _, Go.Proofs.Try.func78, rfl, by kernel_rfl⟩⟩
/-! loop.example/g00183/impl.ItemOk -/
noncomputable def i_ItemOk_ps : List PK := [.agg R_Item]
noncomputable def i_ItemOk_rs : List PK := [.val .bool]
noncomputable def i_ItemOk_fin : Fin := ⟨i_ItemOk_ps, i_ItemOk_rs, [.tmp 2]⟩
noncomputable def i_ItemOk_m (K : Nat) : Mdl := ⟨i_ItemOk_ps, i_ItemOk_rs, fun x => i_ItemOk K x.1⟩
theorem i_ItemOk_ok (K : Nat) (x : (rowOf i_ItemOk_ps).Den) : evalFn (env [(78, i_isLevel_m K), (79, i_inRange_m K), (94, i_isDaemon_m K)] [] false 22) i_ItemOk_fin (bodyOf Go.Proofs.Try.f115) .leaf x = (i_ItemOk_m K).fn x := by kernel_rfl
theorem i_ItemOk_all (K : Nat) : (i_ItemOk_m K).ok = true ∧ Refines Go.Proofs.Try.prog 115 (i_ItemOk_m K) ∧ Callable Go.Proofs.Try.prog 115 := ⟨rfl, refines_of (E := (env [(78, i_isLevel_m K), (79, i_inRange_m K), (94, i_isDaemon_m K)] [] false 22)) (envTy _ _ _ _) (fnsOf rfl ⟨i_isLevel_all K, i_inRange_all K, i_isDaemon_all K, trivial⟩) (by kernel_rfl) Go.Proofs.Try.func115 rfl rfl i_ItemOk_fin rfl (by kernel_rfl) .leaf (anLeaf _ _) (i_ItemOk_ok K), ⟨_, _, Go.Proofs.Try.func115, rfl, by kernel_rfl⟩⟩
/-! loop.example/g00183/impl.ItemsOk -/
noncomputable def i_ItemsOk_ps : List PK := [.val (.sl R_Item)]
noncomputable def i_ItemsOk_rs : List PK := [.val .bool]
noncomputable def i_ItemsOk_fin : Fin := ⟨i_ItemsOk_ps, i_ItemsOk_rs, [.tmp 2]⟩
noncomputable def i_ItemsOk_l0_hd : Pat := [(0, .val (.sl R_Item)), (5, .val (.sl R_Item)), (6, .val (.int .i64)), (7, .val (.int .i64))]
noncomputable def i_ItemsOk_l0_xp : Pat := []
noncomputable def i_ItemsOk_l0_f (K n : Nat) (x : (Pat.ty i_ItemsOk_l0_hd).Den) : Option ((outOf i_ItemsOk_ps i_ItemsOk_rs).Den ⊕ (Pat.ty i_ItemsOk_l0_xp).Den) := i_ItemsOk_l0 K n x.1 x.2.1 x.2.2.1 x.2.2.2.1
noncomputable def i_ItemsOk_l0_an (K : Nat) : An (outOf i_ItemsOk_ps i_ItemsOk_rs) := .loop i_ItemsOk_l0_hd i_ItemsOk_l0_xp 0 (i_ItemsOk_l0_f K K) .leaf
noncomputable def i_ItemsOk_m (K : Nat) : Mdl := ⟨i_ItemsOk_ps, i_ItemsOk_rs, fun x => i_ItemsOk K x.1⟩
noncomputable def i_ItemsOk_l0_c : Code := loopAt [1, 0, 1, 0, 9] (bodyOf Go.Proofs.Try.f76)
theorem i_ItemsOk_l0_ok (K n : Nat) (x : (Pat.ty i_ItemsOk_l0_hd).Den) : i_ItemsOk_l0_f K (n + 1) x = round (env [(115, i_ItemOk_m K)] [] false 31) i_ItemsOk_fin i_ItemsOk_l0_hd i_ItemsOk_l0_xp 0 i_ItemsOk_l0_c .leaf (i_ItemsOk_l0_f K n) x := by kernel_rfl
theorem i_ItemsOk_ok (K : Nat) (x : (rowOf i_ItemsOk_ps).Den) : evalFn (env [(115, i_ItemOk_m K)] [] false 31) i_ItemsOk_fin (bodyOf Go.Proofs.Try.f76) (.seq .leaf (.seq (.seq .leaf (.block (i_ItemsOk_l0_an K))) .leaf)) x = (i_ItemsOk_m K).fn x := by kernel_rfl
theorem i_ItemsOk_all (K : Nat) : (i_ItemsOk_m K).ok = true ∧ Refines Go.Proofs.Try.prog 76 (i_ItemsOk_m K) ∧ Callable Go.Proofs.Try.prog 76 := ⟨rfl, refines_of (E := (env [(115, i_ItemOk_m K)] [] false 31)) (envTy _ _ _ _) (fnsOf rfl ⟨i_ItemOk_all K, trivial⟩) (by kernel_rfl) Go.Proofs.Try.func76 rfl rfl i_ItemsOk_fin rfl (by kernel_rfl) (.seq .leaf (.seq (.seq .leaf (.block (i_ItemsOk_l0_an K))) .leaf)) ⟨(anLeaf _ _), ⟨⟨(anLeaf _ _), ⟨⟨i_ItemsOk_l0_f K, K, rfl, fun _ => rfl, fun n x => i_ItemsOk_l0_ok K n x⟩, (anLeaf _ _)⟩⟩, (anLeaf _ _)⟩⟩ (i_ItemsOk_ok K), ⟨_, _, Go.Proofs.Try.func76, rfl, by kernel_rfl⟩⟩
/-! loop.example/g00183/laws.big -/
noncomputable def l_big_ps : List PK := [.val (.sl (.int .u8))]
noncomputable def l_big_rs : List PK := [.val .bool]
noncomputable def l_big_fin : Fin := ⟨l_big_ps, l_big_rs, [.tmp 2]⟩
noncomputable def l_big_m (K : Nat) : Mdl := ⟨l_big_ps, l_big_rs, fun x => l_big K x.1⟩
theorem l_big_ok (K : Nat) (x : (rowOf l_big_ps).Den) : evalFn (env [] [] false 6) l_big_fin (bodyOf Go.Proofs.Try.f13) .leaf x = (l_big_m K).fn x := by kernel_rfl
theorem l_big_all (K : Nat) : (l_big_m K).ok = true ∧ Refines Go.Proofs.Try.prog 13 (l_big_m K) ∧ Callable Go.Proofs.Try.prog 13 := ⟨rfl, refines_of (E := (env [] [] false 6)) (envTy _ _ _ _) (fnsOf rfl trivial) (by kernel_rfl) Go.Proofs.Try.func13 rfl rfl l_big_fin rfl (by kernel_rfl) .leaf (anLeaf _ _) (l_big_ok K), ⟨_, _, Go.Proofs.Try.func13, rfl, by kernel_rfl⟩⟩
/-! loop.example/g00183/spec.l01New -/
noncomputable def s_l01New_ps : List PK := [.val (.sl (.int .u8))]
noncomputable def s_l01New_rs : List PK := [.ptr R_l01Cur]
noncomputable def s_l01New_fin : Fin := ⟨s_l01New_ps, s_l01New_rs, [.tmp 2]⟩
noncomputable def s_l01New_l0_hd : Pat := [(0, .val (.sl (.int .u8))), (3, .val (.int .i64)), (4, .val (.int .i64))]
noncomputable def s_l01New_l0_xp : Pat := [(0, .val (.sl (.int .u8))), (3, .val (.int .i64))]
noncomputable def s_l01New_l0_f (K n : Nat) (x : (Pat.ty s_l01New_l0_hd).Den) : Option ((outOf s_l01New_ps s_l01New_rs).Den ⊕ (Pat.ty s_l01New_l0_xp).Den) := s_l01New_l0 K n x.1 x.2.1 x.2.2.1
noncomputable def s_l01New_l0_an (K : Nat) : An (outOf s_l01New_ps s_l01New_rs) := .loop s_l01New_l0_hd s_l01New_l0_xp 0 (s_l01New_l0_f K K) .leaf
noncomputable def s_l01New_m (K : Nat) : Mdl := ⟨s_l01New_ps, s_l01New_rs, fun x => s_l01New K x.1⟩
noncomputable def s_l01New_l0_c : Code := loopAt [1, 1, 0, 1, 0, 9] (bodyOf Go.Proofs.Try.f56)
theorem s_l01New_l0_ok (K n : Nat) (x : (Pat.ty s_l01New_l0_hd).Den) : s_l01New_l0_f K (n + 1) x = round (env [] [] false 32) s_l01New_fin s_l01New_l0_hd s_l01New_l0_xp 0 s_l01New_l0_c .leaf (s_l01New_l0_f K n) x := by kernel_rfl
theorem s_l01New_ok (K : Nat) (x : (rowOf s_l01New_ps).Den) : evalFn (env [] [] false 32) s_l01New_fin (bodyOf Go.Proofs.Try.f56) (.seq .leaf (.seq .leaf (.seq (.seq .leaf (.block (s_l01New_l0_an K))) .leaf))) x = (s_l01New_m K).fn x := by kernel_rfl
theorem s_l01New_all (K : Nat) : (s_l01New_m K).ok = true ∧ Refines Go.Proofs.Try.prog 56 (s_l01New_m K) ∧ Callable Go.Proofs.Try.prog 56 := ⟨rfl, refines_of (E := (env [] [] false 32)) (envTy _ _ _ _) (fnsOf rfl trivial) (by kernel_rfl) Go.Proofs.Try.func56 rfl rfl s_l01New_fin rfl (by kernel_rfl) (.seq .leaf (.seq .leaf (.seq (.seq .leaf (.block (s_l01New_l0_an K))) .leaf))) ⟨(anLeaf _ _), ⟨(anLeaf _ _), ⟨⟨(anLeaf _ _), ⟨⟨s_l01New_l0_f K, K, rfl, fun _ => rfl, fun n x => s_l01New_l0_ok K n x⟩, (anLeaf _ _)⟩⟩, (anLeaf _ _)⟩⟩⟩ (s_l01New_ok K), ⟨_, _, Go.Proofs.Try.func56, rfl, by kernel_rfl⟩⟩
/-! loop.example/g00183/spec.l01Byte -/
noncomputable def s_l01Byte_ps : List PK := [.ptr R_l01Cur]
noncomputable def s_l01Byte_rs : List PK := [.val (.int .i64)]
noncomputable def s_l01Byte_fin : Fin := ⟨s_l01Byte_ps, s_l01Byte_rs, [.tmp 2]⟩
noncomputable def s_l01Byte_m (K : Nat) : Mdl := ⟨s_l01Byte_ps, s_l01Byte_rs, fun x => s_l01Byte K x.1⟩
theorem s_l01Byte_ok (K : Nat) (x : (rowOf s_l01Byte_ps).Den) : evalFn (env [] [] false 58) s_l01Byte_fin (bodyOf Go.Proofs.Try.f105) .leaf x = (s_l01Byte_m K).fn x := by kernel_rfl
theorem s_l01Byte_all (K : Nat) : (s_l01Byte_m K).ok = true ∧ Refines Go.Proofs.Try.prog 105 (s_l01Byte_m K) ∧ Callable Go.Proofs.Try.prog 105 := ⟨rfl, refines_of (E := (env [] [] false 58)) (envTy _ _ _ _) (fnsOf rfl trivial) (by kernel_rfl) Go.Proofs.Try.func105 rfl rfl s_l01Byte_fin rfl (by kernel_rfl) .leaf (anLeaf _ _) (s_l01Byte_ok K), ⟨_, _, Go.Proofs.Try.func105, rfl, by kernel_rfl⟩⟩
/-! loop.example/g00183/spec.l01Below -/
noncomputable def s_l01Below_ps : List PK := [.ptr R_l01Cur, .val (.int .i64)]
noncomputable def s_l01Below_rs : List PK := [.val (.int .i64)]
noncomputable def s_l01Below_fin : Fin := ⟨s_l01Below_ps, s_l01Below_rs, [.tmp 4]⟩
noncomputable def s_l01Below_m (K : Nat) : Mdl := ⟨s_l01Below_ps, s_l01Below_rs, fun x => s_l01Below K x.1 x.2.1⟩
theorem s_l01Below_ok (K : Nat) (x : (rowOf s_l01Below_ps).Den) : evalFn (env [(105, s_l01Byte_m K)] [] false 37) s_l01Below_fin (bodyOf Go.Proofs.Try.f68) .leaf x = (s_l01Below_m K).fn x := by kernel_rfl
theorem s_l01Below_all (K : Nat) : (s_l01Below_m K).ok = true ∧ Refines Go.Proofs.Try.prog 68 (s_l01Below_m K) ∧ Callable Go.Proofs.Try.prog 68 := ⟨rfl, refines_of (E := (env [(105, s_l01Byte_m K)] [] false 37)) (envTy _ _ _ _) (fnsOf rfl ⟨s_l01Byte_all K, trivial⟩) (by kernel_rfl) Go.Proofs.Try.func68 rfl rfl s_l01Below_fin rfl (by kernel_rfl) .leaf (anLeaf _ _) (s_l01Below_ok K), ⟨_, _, Go.Proofs.Try.func68, rfl, by kernel_rfl⟩⟩
/-! loop.example/g00183/spec.l01Once -/
noncomputable def s_l01Once_ps : List PK := [.ptr R_l01Cur, .val (.int .i64)]
noncomputable def s_l01Once_rs : List PK := [.val .bool]
noncomputable def s_l01Once_fin : Fin := ⟨s_l01Once_ps, s_l01Once_rs, [.tmp 4]⟩
noncomputable def s_l01Once_m (K : Nat) : Mdl := ⟨s_l01Once_ps, s_l01Once_rs, fun x => s_l01Once K x.1 x.2.1⟩
theorem s_l01Once_ok (K : Nat) (x : (rowOf s_l01Once_ps).Den) : evalFn (env [(68, s_l01Below_m K)] [] false 9) s_l01Once_fin (bodyOf Go.Proofs.Try.f67) .leaf x = (s_l01Once_m K).fn x := by kernel_rfl
theorem s_l01Once_all (K : Nat) : (s_l01Once_m K).ok = true ∧ Refines Go.Proofs.Try.prog 67 (s_l01Once_m K) ∧ Callable Go.Proofs.Try.prog 67 := ⟨rfl, refines_of (E := (env [(68, s_l01Below_m K)] [] false 9)) (envTy _ _ _ _) (fnsOf rfl ⟨s_l01Below_all K, trivial⟩) (by kernel_rfl) Go.Proofs.Try.func67 rfl rfl s_l01Once_fin rfl (by kernel_rfl) .leaf (anLeaf _ _) (s_l01Once_ok K), ⟨_, _, Go.Proofs.Try.func67, rfl, by kernel_rfl⟩⟩
/-! loop.example/g00183/spec.l09Ring -/
noncomputable def s_l09Ring_ps : List PK := [.ptr R_l01Cur]
noncomputable def s_l09Ring_rs : List PK := [.agg (.cons (.int .i64) (.cons (.ow (.int .i64)) .nil))]
noncomputable def s_l09Ring_fin : Fin := ⟨s_l09Ring_ps, s_l09Ring_rs, [.cell 2 38]⟩
noncomputable def s_l09Ring_l0_hd : Pat := [(0, .ptr 1000000000 0), (2, .ptr 2 0), (3, .ptr 3 0), (4, .val (.int .i64)), (2, .box (.cons (.int .i64) (.cons (.ow (.int .i64)) .nil))), (3, .box (.cons (.int .i64) (.cons (.ow (.int .i64)) .nil))), (1000000000, .box R_l01Cur)]
noncomputable def s_l09Ring_l0_xp : Pat := [(2, .ptr 2 0), (3, .ptr 3 0), (2, .box (.cons (.int .i64) (.cons (.ow (.int .i64)) .nil))), (3, .box (.cons (.int .i64) (.cons (.ow (.int .i64)) .nil))), (1000000000, .box R_l01Cur)]
noncomputable def s_l09Ring_l0_f (K n : Nat) (x : (Pat.ty s_l09Ring_l0_hd).Den) : Option ((outOf s_l09Ring_ps s_l09Ring_rs).Den ⊕ (Pat.ty s_l09Ring_l0_xp).Den) := s_l09Ring_l0 K n x.2.2.2.1 x.2.2.2.2.1 x.2.2.2.2.2.1 x.2.2.2.2.2.2.1
noncomputable def s_l09Ring_l0_an (K : Nat) : An (outOf s_l09Ring_ps s_l09Ring_rs) := .loop s_l09Ring_l0_hd s_l09Ring_l0_xp 0 (s_l09Ring_l0_f K K) .leaf
noncomputable def s_l09Ring_m (K : Nat) : Mdl := ⟨s_l09Ring_ps, s_l09Ring_rs, fun x => s_l09Ring K x.1⟩
noncomputable def s_l09Ring_l0_c : Code := loopAt [1, 1, 0, 1, 0, 9] (bodyOf Go.Proofs.Try.f82)
theorem s_l09Ring_l0_ok (K n : Nat) (x : (Pat.ty s_l09Ring_l0_hd).Den) : s_l09Ring_l0_f K (n + 1) x = round (env [(67, s_l01Once_m K), (68, s_l01Below_m K)] [] false 29) s_l09Ring_fin s_l09Ring_l0_hd s_l09Ring_l0_xp 0 s_l09Ring_l0_c .leaf (s_l09Ring_l0_f K n) x := by kernel_rfl
theorem s_l09Ring_ok (K : Nat) (x : (rowOf s_l09Ring_ps).Den) : evalFn (env [(67, s_l01Once_m K), (68, s_l01Below_m K)] [] false 29) s_l09Ring_fin (bodyOf Go.Proofs.Try.f82) (.seq .leaf (.seq .leaf (.seq (.seq .leaf (.block (s_l09Ring_l0_an K))) .leaf))) x = (s_l09Ring_m K).fn x := by kernel_rfl
theorem s_l09Ring_all (K : Nat) : (s_l09Ring_m K).ok = true ∧ Refines Go.Proofs.Try.prog 82 (s_l09Ring_m K) ∧ Callable Go.Proofs.Try.prog 82 := ⟨rfl, refines_of (E := (env [(67, s_l01Once_m K), (68, s_l01Below_m K)] [] false 29)) (envTy _ _ _ _) (fnsOf rfl ⟨s_l01Once_all K, s_l01Below_all K, trivial⟩) (by kernel_rfl) Go.Proofs.Try.func82 rfl rfl s_l09Ring_fin rfl (by kernel_rfl) (.seq .leaf (.seq .leaf (.seq (.seq .leaf (.block (s_l09Ring_l0_an K))) .leaf))) ⟨(anLeaf _ _), ⟨(anLeaf _ _), ⟨⟨(anLeaf _ _), ⟨⟨s_l09Ring_l0_f K, K, rfl, fun _ => rfl, fun n x => s_l09Ring_l0_ok K n x⟩, (anLeaf _ _)⟩⟩, (anLeaf _ _)⟩⟩⟩ (s_l09Ring_ok K), ⟨_, _, Go.Proofs.Try.func82, rfl, by kernel_rfl⟩⟩
/-! loop.example/g00183/spec.l01PickInt -/
noncomputable def s_l01PickInt_ps : List PK := [.ptr R_l01Cur, .val (.sl (.int .i64))]
noncomputable def s_l01PickInt_rs : List PK := [.val (.int .i64)]
noncomputable def s_l01PickInt_fin : Fin := ⟨s_l01PickInt_ps, s_l01PickInt_rs, [.tmp 4]⟩
noncomputable def s_l01PickInt_m (K : Nat) : Mdl := ⟨s_l01PickInt_ps, s_l01PickInt_rs, fun x => s_l01PickInt K x.1 x.2.1⟩
theorem s_l01PickInt_ok (K : Nat) (x : (rowOf s_l01PickInt_ps).Den) : evalFn (env [(68, s_l01Below_m K)] [] false 12) s_l01PickInt_fin (bodyOf Go.Proofs.Try.f121) .leaf x = (s_l01PickInt_m K).fn x := by kernel_rfl
theorem s_l01PickInt_all (K : Nat) : (s_l01PickInt_m K).ok = true ∧ Refines Go.Proofs.Try.prog 121 (s_l01PickInt_m K) ∧ Callable Go.Proofs.Try.prog 121 := ⟨rfl, refines_of (E := (env [(68, s_l01Below_m K)] [] false 12)) (envTy _ _ _ _) (fnsOf rfl ⟨s_l01Below_all K, trivial⟩) (by kernel_rfl) Go.Proofs.Try.func121 rfl rfl s_l01PickInt_fin rfl (by kernel_rfl) .leaf (anLeaf _ _) (s_l01PickInt_ok K), ⟨_, _, Go.Proofs.Try.func121, rfl, by kernel_rfl⟩⟩
/-! loop.example/g00183/spec.l01Pick -/
noncomputable def s_l01Pick_ps : List PK := [.ptr R_l01Cur, .val (.sl .str)]
noncomputable def s_l01Pick_rs : List PK := [.val .str]
noncomputable def s_l01Pick_fin : Fin := ⟨s_l01Pick_ps, s_l01Pick_rs, [.tmp 4]⟩
noncomputable def s_l01Pick_m (K : Nat) : Mdl := ⟨s_l01Pick_ps, s_l01Pick_rs, fun x => s_l01Pick K x.1 x.2.1⟩
theorem s_l01Pick_ok (K : Nat) (x : (rowOf s_l01Pick_ps).Den) : evalFn (env [(68, s_l01Below_m K)] [] false 12) s_l01Pick_fin (bodyOf Go.Proofs.Try.f139) .leaf x = (s_l01Pick_m K).fn x := by kernel_rfl
theorem s_l01Pick_all (K : Nat) : (s_l01Pick_m K).ok = true ∧ Refines Go.Proofs.Try.prog 139 (s_l01Pick_m K) ∧ Callable Go.Proofs.Try.prog 139 := ⟨rfl, refines_of (E := (env [(68, s_l01Below_m K)] [] false 12)) (envTy _ _ _ _) (fnsOf rfl ⟨s_l01Below_all K, trivial⟩) (by kernel_rfl) Go.Proofs.Try.func139 rfl rfl s_l01Pick_fin rfl (by kernel_rfl) .leaf (anLeaf _ _) (s_l01Pick_ok K), ⟨_, _, Go.Proofs.Try.func139, rfl, by kernel_rfl⟩⟩
/-! loop.example/g00183/spec.l05Of -/
noncomputable def s_l05Of_ps : List PK := [.ptr R_l01Cur, .val (.int .i64)]
noncomputable def s_l05Of_rs : List PK := [.agg R_Item]
noncomputable def s_l05Of_fin : Fin := ⟨s_l05Of_ps, s_l05Of_rs, [.cell 4 58]⟩
noncomputable def s_l05Of_m (K : Nat) : Mdl := ⟨s_l05Of_ps, s_l05Of_rs, fun x => s_l05Of K x.1 x.2.1⟩
theorem s_l05Of_ok (K : Nat) (x : (rowOf s_l05Of_ps).Den) : evalFn (env [(68, s_l01Below_m K), (139, s_l01Pick_m K)] [] false 16) s_l05Of_fin (bodyOf Go.Proofs.Try.f120) .leaf x = (s_l05Of_m K).fn x := by kernel_rfl
theorem s_l05Of_all (K : Nat) : (s_l05Of_m K).ok = true ∧ Refines Go.Proofs.Try.prog 120 (s_l05Of_m K) ∧ Callable Go.Proofs.Try.prog 120 := ⟨rfl, refines_of (E := (env [(68, s_l01Below_m K), (139, s_l01Pick_m K)] [] false 16)) (envTy _ _ _ _) (fnsOf rfl ⟨s_l01Below_all K, s_l01Pick_all K, trivial⟩) (by kernel_rfl) Go.Proofs.Try.func120 rfl rfl s_l05Of_fin rfl (by kernel_rfl) .leaf (anLeaf _ _) (s_l05Of_ok K), ⟨_, _, Go.Proofs.Try.func120, rfl, by kernel_rfl⟩⟩
/-! loop.example/g00183/spec.l01Long -/
noncomputable def s_l01Long_ps : List PK := [.val (.int .i64), .val (.int .u8)]
noncomputable def s_l01Long_rs : List PK := [.val .str]
noncomputable def s_l01Long_fin : Fin := ⟨s_l01Long_ps, s_l01Long_rs, [.tmp 4]⟩
noncomputable def s_l01Long_l0_hd : Pat := [(0, .val (.int .i64)), (1, .val (.int .u8)), (5, .val (.ow (.int .u8))), (6, .val (.int .i64))]
noncomputable def s_l01Long_l0_xp : Pat := [(5, .val (.ow (.int .u8)))]
noncomputable def s_l01Long_l0_f (K n : Nat) (x : (Pat.ty s_l01Long_l0_hd).Den) : Option ((outOf s_l01Long_ps s_l01Long_rs).Den ⊕ (Pat.ty s_l01Long_l0_xp).Den) := s_l01Long_l0 K n x.1 x.2.1 x.2.2.1 x.2.2.2.1
noncomputable def s_l01Long_l0_an (K : Nat) : An (outOf s_l01Long_ps s_l01Long_rs) := .loop s_l01Long_l0_hd s_l01Long_l0_xp 0 (s_l01Long_l0_f K K) .leaf
noncomputable def s_l01Long_m (K : Nat) : Mdl := ⟨s_l01Long_ps, s_l01Long_rs, fun x => s_l01Long K x.1 x.2.1⟩
noncomputable def s_l01Long_l0_c : Code := loopAt [1, 1, 0, 1, 0, 9] (bodyOf Go.Proofs.Try.f122)
theorem s_l01Long_l0_ok (K n : Nat) (x : (Pat.ty s_l01Long_l0_hd).Den) : s_l01Long_l0_f K (n + 1) x = round (env [] [] false 20) s_l01Long_fin s_l01Long_l0_hd s_l01Long_l0_xp 0 s_l01Long_l0_c .leaf (s_l01Long_l0_f K n) x := by kernel_rfl
theorem s_l01Long_ok (K : Nat) (x : (rowOf s_l01Long_ps).Den) : evalFn (env [] [] false 20) s_l01Long_fin (bodyOf Go.Proofs.Try.f122) (.seq .leaf (.seq .leaf (.seq (.seq .leaf (.block (s_l01Long_l0_an K))) .leaf))) x = (s_l01Long_m K).fn x := by kernel_rfl
theorem s_l01Long_all (K : Nat) : (s_l01Long_m K).ok = true ∧ Refines Go.Proofs.Try.prog 122 (s_l01Long_m K) ∧ Callable Go.Proofs.Try.prog 122 := ⟨rfl, refines_of (E := (env [] [] false 20)) (envTy _ _ _ _) (fnsOf rfl trivial) (by kernel_rfl) Go.Proofs.Try.func122 rfl rfl s_l01Long_fin rfl (by kernel_rfl) (.seq .leaf (.seq .leaf (.seq (.seq .leaf (.block (s_l01Long_l0_an K))) .leaf))) ⟨(anLeaf _ _), ⟨(anLeaf _ _), ⟨⟨(anLeaf _ _), ⟨⟨s_l01Long_l0_f K, K, rfl, fun _ => rfl, fun n x => s_l01Long_l0_ok K n x⟩, (anLeaf _ _)⟩⟩, (anLeaf _ _)⟩⟩⟩ (s_l01Long_ok K), ⟨_, _, Go.Proofs.Try.func122, rfl, by kernel_rfl⟩⟩
/-! loop.example/g00183/spec.l05AnyItem -/
noncomputable def s_l05AnyItem_ps : List PK := [.ptr R_l01Cur]
noncomputable def s_l05AnyItem_rs : List PK := [.agg R_Item]
noncomputable def s_l05AnyItem_fin : Fin := ⟨s_l05AnyItem_ps, s_l05AnyItem_rs, [.cell 2 58]⟩
noncomputable def s_l05AnyItem_m (K : Nat) : Mdl := ⟨s_l05AnyItem_ps, s_l05AnyItem_rs, fun x => s_l05AnyItem K x.1⟩
theorem s_l05AnyItem_ok (K : Nat) (x : (rowOf s_l05AnyItem_ps).Den) : evalFn (env [(68, s_l01Below_m K), (120, s_l05Of_m K), (121, s_l01PickInt_m K), (122, s_l01Long_m K)] [] false 37) s_l05AnyItem_fin (bodyOf Go.Proofs.Try.f86) .leaf x = (s_l05AnyItem_m K).fn x := by kernel_rfl
theorem s_l05AnyItem_all (K : Nat) : (s_l05AnyItem_m K).ok = true ∧ Refines Go.Proofs.Try.prog 86 (s_l05AnyItem_m K) ∧ Callable Go.Proofs.Try.prog 86 := ⟨rfl, refines_of (E := (env [(68, s_l01Below_m K), (120, s_l05Of_m K), (121, s_l01PickInt_m K), (122, s_l01Long_m K)] [] false 37)) (envTy _ _ _ _) (fnsOf rfl ⟨s_l01Below_all K, s_l05Of_all K, s_l01PickInt_all K, s_l01Long_all K, trivial⟩) (by kernel_rfl) Go.Proofs.Try.func86 rfl rfl s_l05AnyItem_fin rfl (by kernel_rfl) .leaf (anLeaf _ _) (s_l05AnyItem_ok K), ⟨_, _, Go.Proofs.Try.func86, rfl, by kernel_rfl⟩⟩
/-! slices.Index[[]int,int] -/
noncomputable def slices_Index_int_int_ps : List PK := [.val (.sl (.int .i64)), .val (.int .i64)]
noncomputable def slices_Index_int_int_rs : List PK := [.val (.int .i64)]
noncomputable def slices_Index_int_int_fin : Fin := ⟨slices_Index_int_int_ps, slices_Index_int_int_rs, [.tmp 4]⟩
noncomputable def slices_Index_int_int_l0_hd : Pat := [(0, .val (.sl (.int .i64))), (1, .val (.int .i64)), (7, .val (.int .i64)), (8, .val (.int .i64))]
noncomputable def slices_Index_int_int_l0_xp : Pat := []
noncomputable def slices_Index_int_int_l0_f (K n : Nat) (x : (Pat.ty slices_Index_int_int_l0_hd).Den) : Option ((outOf slices_Index_int_int_ps slices_Index_int_int_rs).Den ⊕ (Pat.ty slices_Index_int_int_l0_xp).Den) := slices_Index_int_int_l0 K n x.1 x.2.1 x.2.2.1 x.2.2.2.1
noncomputable def slices_Index_int_int_l0_an (K : Nat) : An (outOf slices_Index_int_int_ps slices_Index_int_int_rs) := .loop slices_Index_int_int_l0_hd slices_Index_int_int_l0_xp 0 (slices_Index_int_int_l0_f K K) .leaf
noncomputable def slices_Index_int_int_m (K : Nat) : Mdl := ⟨slices_Index_int_int_ps, slices_Index_int_int_rs, fun x => slices_Index_int_int K x.1 x.2.1⟩
noncomputable def slices_Index_int_int_l0_c : Code := loopAt [1, 0, 1, 0, 9] (bodyOf Go.Proofs.Try.f100)
theorem slices_Index_int_int_l0_ok (K n : Nat) (x : (Pat.ty slices_Index_int_int_l0_hd).Den) : slices_Index_int_int_l0_f K (n + 1) x = round (env [] [] false 19) slices_Index_int_int_fin slices_Index_int_int_l0_hd slices_Index_int_int_l0_xp 0 slices_Index_int_int_l0_c .leaf (slices_Index_int_int_l0_f K n) x := by kernel_rfl
theorem slices_Index_int_int_ok (K : Nat) (x : (rowOf slices_Index_int_int_ps).Den) : evalFn (env [] [] false 19) slices_Index_int_int_fin (bodyOf Go.Proofs.Try.f100) (.seq .leaf (.seq (.seq .leaf (.block (slices_Index_int_int_l0_an K))) .leaf)) x = (slices_Index_int_int_m K).fn x := by kernel_rfl
theorem slices_Index_int_int_all (K : Nat) : (slices_Index_int_int_m K).ok = true ∧ Refines Go.Proofs.Try.prog 100 (slices_Index_int_int_m K) ∧ Callable Go.Proofs.Try.prog 100 := ⟨rfl, refines_of (E := (env [] [] false 19)) (envTy _ _ _ _) (fnsOf rfl trivial) (by kernel_rfl) Go.Proofs.Try.func100 rfl rfl slices_Index_int_int_fin rfl (by kernel_rfl) (.seq .leaf (.seq (.seq .leaf (.block (slices_Index_int_int_l0_an K))) .leaf)) ⟨(anLeaf _ _), ⟨⟨(anLeaf _ _), ⟨⟨slices_Index_int_int_l0_f K, K, rfl, fun _ => rfl, fun n x => slices_Index_int_int_l0_ok K n x⟩, (anLeaf _ _)⟩⟩, (anLeaf _ _)⟩⟩ (slices_Index_int_int_ok K), ⟨_, _, Go.Proofs.Try.func100, rfl, by kernel_rfl⟩⟩
/-! slices.Contains[[]int,int] -/
noncomputable def slices_Contains_int_int_ps : List PK := [.val (.sl (.int .i64)), .val (.int .i64)]
noncomputable def slices_Contains_int_int_rs : List PK := [.val .bool]
noncomputable def slices_Contains_int_int_fin : Fin := ⟨slices_Contains_int_int_ps, slices_Contains_int_int_rs, [.tmp 4]⟩
noncomputable def slices_Contains_int_int_m (K : Nat) : Mdl := ⟨slices_Contains_int_int_ps, slices_Contains_int_int_rs, fun x => slices_Contains_int_int K x.1 x.2.1⟩
theorem slices_Contains_int_int_ok (K : Nat) (x : (rowOf slices_Contains_int_int_ps).Den) : evalFn (env [(100, slices_Index_int_int_m K)] [] false 9) slices_Contains_int_int_fin (bodyOf Go.Proofs.Try.f58) .leaf x = (slices_Contains_int_int_m K).fn x := by kernel_rfl
theorem slices_Contains_int_int_all (K : Nat) : (slices_Contains_int_int_m K).ok = true ∧ Refines Go.Proofs.Try.prog 58 (slices_Contains_int_int_m K) ∧ Callable Go.Proofs.Try.prog 58 := ⟨rfl, refines_of (E := (env [(100, slices_Index_int_int_m K)] [] false 9)) (envTy _ _ _ _) (fnsOf rfl ⟨slices_Index_int_int_all K, trivial⟩) (by kernel_rfl) Go.Proofs.Try.func58 rfl rfl slices_Contains_int_int_fin rfl (by kernel_rfl) .leaf (anLeaf _ _) (slices_Contains_int_int_ok K), ⟨_, _, Go.Proofs.Try.func58, rfl, by kernel_rfl⟩⟩
/-! loop.example/g00183/spec.l05In -/
noncomputable def s_l05In_ps : List PK := [.val (.sl (.int .i64)), .val (.int .i64)]
noncomputable def s_l05In_rs : List PK := [.val .bool]
noncomputable def s_l05In_fin : Fin := ⟨s_l05In_ps, s_l05In_rs, [.tmp 4]⟩
noncomputable def s_l05In_l0_hd : Pat := [(0, .val (.sl (.int .i64))), (1, .val (.int .i64)), (5, .val (.int .i64))]
noncomputable def s_l05In_l0_xp : Pat := []
noncomputable def s_l05In_l0_f (K n : Nat) (x : (Pat.ty s_l05In_l0_hd).Den) : Option ((outOf s_l05In_ps s_l05In_rs).Den ⊕ (Pat.ty s_l05In_l0_xp).Den) := s_l05In_l0 K n x.1 x.2.1 x.2.2.1
noncomputable def s_l05In_l0_an (K : Nat) : An (outOf s_l05In_ps s_l05In_rs) := .loop s_l05In_l0_hd s_l05In_l0_xp 0 (s_l05In_l0_f K K) .leaf
noncomputable def s_l05In_m (K : Nat) : Mdl := ⟨s_l05In_ps, s_l05In_rs, fun x => s_l05In K x.1 x.2.1⟩
noncomputable def s_l05In_l0_c : Code := loopAt [1, 0, 1, 0, 9] (bodyOf Go.Proofs.Try.f60)
theorem s_l05In_l0_ok (K n : Nat) (x : (Pat.ty s_l05In_l0_hd).Den) : s_l05In_l0_f K (n + 1) x = round (env [] [] false 18) s_l05In_fin s_l05In_l0_hd s_l05In_l0_xp 0 s_l05In_l0_c .leaf (s_l05In_l0_f K n) x := by kernel_rfl
theorem s_l05In_ok (K : Nat) (x : (rowOf s_l05In_ps).Den) : evalFn (env [] [] false 18) s_l05In_fin (bodyOf Go.Proofs.Try.f60) (.seq .leaf (.seq (.seq .leaf (.block (s_l05In_l0_an K))) .leaf)) x = (s_l05In_m K).fn x := by kernel_rfl
theorem s_l05In_all (K : Nat) : (s_l05In_m K).ok = true ∧ Refines Go.Proofs.Try.prog 60 (s_l05In_m K) ∧ Callable Go.Proofs.Try.prog 60 := ⟨rfl, refines_of (E := (env [] [] false 18)) (envTy _ _ _ _) (fnsOf rfl trivial) (by kernel_rfl) Go.Proofs.Try.func60 rfl rfl s_l05In_fin rfl (by kernel_rfl) (.seq .leaf (.seq (.seq .leaf (.block (s_l05In_l0_an K))) .leaf)) ⟨(anLeaf _ _), ⟨⟨(anLeaf _ _), ⟨⟨s_l05In_l0_f K, K, rfl, fun _ => rfl, fun n x => s_l05In_l0_ok K n x⟩, (anLeaf _ _)⟩⟩, (anLeaf _ _)⟩⟩ (s_l05In_ok K), ⟨_, _, Go.Proofs.Try.func60, rfl, by kernel_rfl⟩⟩
/-! loop.example/g00183/impl.putItem -/
noncomputable def i_putItem_ps : List PK := [.val (.ow R_Item), .agg R_Item]
noncomputable def i_putItem_rs : List PK := [.val (.ow R_Item)]
noncomputable def i_putItem_fin : Fin := ⟨i_putItem_ps, i_putItem_rs, [.tmp 4]⟩
noncomputable def i_putItem_l0_hd : Pat := [(0, .val (.ow R_Item)), (3, .ptr 3 0), (5, .val (.int .i64)), (3, .box R_Item)]
noncomputable def i_putItem_l0_xp : Pat := [(0, .val (.ow R_Item)), (3, .ptr 3 0), (5, .val (.int .i64)), (3, .box R_Item)]
noncomputable def i_putItem_l0_f (K n : Nat) (x : (Pat.ty i_putItem_l0_hd).Den) : Option ((outOf i_putItem_ps i_putItem_rs).Den ⊕ (Pat.ty i_putItem_l0_xp).Den) := i_putItem_l0 K n x.1 x.2.2.1 x.2.2.2.1
noncomputable def i_putItem_l0_an (K : Nat) : An (outOf i_putItem_ps i_putItem_rs) := .loop i_putItem_l0_hd i_putItem_l0_xp 0 (i_putItem_l0_f K K) .leaf
noncomputable def i_putItem_m (K : Nat) : Mdl := ⟨i_putItem_ps, i_putItem_rs, fun x => i_putItem K x.1 x.2.1⟩
noncomputable def i_putItem_l0_c : Code := loopAt [1, 1, 0, 0, 9] (bodyOf Go.Proofs.Try.f101)
theorem i_putItem_l0_ok (K n : Nat) (x : (Pat.ty i_putItem_l0_hd).Den) : i_putItem_l0_f K (n + 1) x = round (env [(128, slices_Insert_i_Item_i_Item_m K)] [] false 42) i_putItem_fin i_putItem_l0_hd i_putItem_l0_xp 0 i_putItem_l0_c .leaf (i_putItem_l0_f K n) x := by kernel_rfl
theorem i_putItem_ok (K : Nat) (x : (rowOf i_putItem_ps).Den) : evalFn (env [(128, slices_Insert_i_Item_i_Item_m K)] [] false 42) i_putItem_fin (bodyOf Go.Proofs.Try.f101) (.seq .leaf (.seq .leaf (.seq (.block (i_putItem_l0_an K)) .leaf))) x = (i_putItem_m K).fn x := by kernel_rfl
theorem i_putItem_all (K : Nat) : (i_putItem_m K).ok = true ∧ Refines Go.Proofs.Try.prog 101 (i_putItem_m K) ∧ Callable Go.Proofs.Try.prog 101 := ⟨rfl, refines_of (E := (env [(128, slices_Insert_i_Item_i_Item_m K)] [] false 42)) (envTy _ _ _ _) (fnsOf rfl ⟨slices_Insert_i_Item_i_Item_all K, trivial⟩) (by kernel_rfl) Go.Proofs.Try.func101 rfl rfl i_putItem_fin rfl (by kernel_rfl) (.seq .leaf (.seq .leaf (.seq (.block (i_putItem_l0_an K)) .leaf))) ⟨(anLeaf _ _), ⟨(anLeaf _ _), ⟨⟨⟨i_putItem_l0_f K, K, rfl, fun _ => rfl, fun n x => i_putItem_l0_ok K n x⟩, (anLeaf _ _)⟩, (anLeaf _ _)⟩⟩⟩ (i_putItem_ok K), ⟨_, _, Go.Proofs.Try.func101, rfl, by kernel_rfl⟩⟩
/-! loop.example/g00183/impl.ItemAt -/
noncomputable def i_ItemAt_ps : List PK := [.val (.sl R_Item), .val (.int .i64)]
noncomputable def i_ItemAt_rs : List PK := [.agg R_Item, .val .bool]
noncomputable def i_ItemAt_fin : Fin := ⟨i_ItemAt_ps, i_ItemAt_rs, [.cell 4 58, .tmp 5]⟩
noncomputable def i_ItemAt_l0_hd : Pat := [(1, .val (.int .i64)), (4, .ptr 4 0), (8, .val (.sl R_Item)), (9, .val (.int .i64)), (10, .val (.int .i64)), (4, .box R_Item)]
noncomputable def i_ItemAt_l0_xp : Pat := [(4, .ptr 4 0), (4, .box R_Item)]
noncomputable def i_ItemAt_l0_f (K n : Nat) (x : (Pat.ty i_ItemAt_l0_hd).Den) : Option ((outOf i_ItemAt_ps i_ItemAt_rs).Den ⊕ (Pat.ty i_ItemAt_l0_xp).Den) := i_ItemAt_l0 K n x.1 x.2.2.1 x.2.2.2.1 x.2.2.2.2.1 x.2.2.2.2.2.1
noncomputable def i_ItemAt_l0_an (K : Nat) : An (outOf i_ItemAt_ps i_ItemAt_rs) := .loop i_ItemAt_l0_hd i_ItemAt_l0_xp 0 (i_ItemAt_l0_f K K) .leaf
noncomputable def i_ItemAt_m (K : Nat) : Mdl := ⟨i_ItemAt_ps, i_ItemAt_rs, fun x => i_ItemAt K x.1 x.2.1⟩
noncomputable def i_ItemAt_l0_c : Code := loopAt [1, 0, 1, 0, 9] (bodyOf Go.Proofs.Try.f71)
theorem i_ItemAt_l0_ok (K n : Nat) (x : (Pat.ty i_ItemAt_l0_hd).Den) : i_ItemAt_l0_f K (n + 1) x = round (env [] [] false 21) i_ItemAt_fin i_ItemAt_l0_hd i_ItemAt_l0_xp 0 i_ItemAt_l0_c .leaf (i_ItemAt_l0_f K n) x := by kernel_rfl
theorem i_ItemAt_ok (K : Nat) (x : (rowOf i_ItemAt_ps).Den) : evalFn (env [] [] false 21) i_ItemAt_fin (bodyOf Go.Proofs.Try.f71) (.seq .leaf (.seq (.seq .leaf (.block (i_ItemAt_l0_an K))) .leaf)) x = (i_ItemAt_m K).fn x := by kernel_rfl
theorem i_ItemAt_all (K : Nat) : (i_ItemAt_m K).ok = true ∧ Refines Go.Proofs.Try.prog 71 (i_ItemAt_m K) ∧ Callable Go.Proofs.Try.prog 71 := ⟨rfl, refines_of (E := (env [] [] false 21)) (envTy _ _ _ _) (fnsOf rfl trivial) (by kernel_rfl) Go.Proofs.Try.func71 rfl rfl i_ItemAt_fin rfl (by kernel_rfl) (.seq .leaf (.seq (.seq .leaf (.block (i_ItemAt_l0_an K))) .leaf)) ⟨(anLeaf _ _), ⟨⟨(anLeaf _ _), ⟨⟨i_ItemAt_l0_f K, K, rfl, fun _ => rfl, fun n x => i_ItemAt_l0_ok K n x⟩, (anLeaf _ _)⟩⟩, (anLeaf _ _)⟩⟩ (i_ItemAt_ok K), ⟨_, _, Go.Proofs.Try.func71, rfl, by kernel_rfl⟩⟩
/-! loop.example/g00183/impl.AruOf -/
noncomputable def i_AruOf_ps : List PK := [.val (.sl R_Item)]
noncomputable def i_AruOf_rs : List PK := [.val (.int .i64)]
noncomputable def i_AruOf_fin : Fin := ⟨i_AruOf_ps, i_AruOf_rs, [.tmp 2]⟩
noncomputable def i_AruOf_l0_hd : Pat := [(0, .val (.sl R_Item)), (3, .val (.int .i64))]
noncomputable def i_AruOf_l0_xp : Pat := []
noncomputable def i_AruOf_l0_f (K n : Nat) (x : (Pat.ty i_AruOf_l0_hd).Den) : Option ((outOf i_AruOf_ps i_AruOf_rs).Den ⊕ (Pat.ty i_AruOf_l0_xp).Den) := i_AruOf_l0 K n x.1 x.2.1
noncomputable def i_AruOf_l0_an (K : Nat) : An (outOf i_AruOf_ps i_AruOf_rs) := .loop i_AruOf_l0_hd i_AruOf_l0_xp 0 (i_AruOf_l0_f K K) .leaf
noncomputable def i_AruOf_m (K : Nat) : Mdl := ⟨i_AruOf_ps, i_AruOf_rs, fun x => i_AruOf K x.1⟩
noncomputable def i_AruOf_l0_c : Code := loopAt [1, 1, 0, 9] (bodyOf Go.Proofs.Try.f70)
theorem i_AruOf_l0_ok (K n : Nat) (x : (Pat.ty i_AruOf_l0_hd).Den) : i_AruOf_l0_f K (n + 1) x = round (env [(71, i_ItemAt_m K)] [] false 18) i_AruOf_fin i_AruOf_l0_hd i_AruOf_l0_xp 0 i_AruOf_l0_c .leaf (i_AruOf_l0_f K n) x := by kernel_rfl
theorem i_AruOf_ok (K : Nat) (x : (rowOf i_AruOf_ps).Den) : evalFn (env [(71, i_ItemAt_m K)] [] false 18) i_AruOf_fin (bodyOf Go.Proofs.Try.f70) (.seq .leaf (.seq .leaf (.block (i_AruOf_l0_an K)))) x = (i_AruOf_m K).fn x := by kernel_rfl
theorem i_AruOf_all (K : Nat) : (i_AruOf_m K).ok = true ∧ Refines Go.Proofs.Try.prog 70 (i_AruOf_m K) ∧ Callable Go.Proofs.Try.prog 70 := ⟨rfl, refines_of (E := (env [(71, i_ItemAt_m K)] [] false 18)) (envTy _ _ _ _) (fnsOf rfl ⟨i_ItemAt_all K, trivial⟩) (by kernel_rfl) Go.Proofs.Try.func70 rfl rfl i_AruOf_fin rfl (by kernel_rfl) (.seq .leaf (.seq .leaf (.block (i_AruOf_l0_an K)))) ⟨(anLeaf _ _), ⟨(anLeaf _ _), ⟨⟨i_AruOf_l0_f K, K, rfl, fun _ => rfl, fun n x => i_AruOf_l0_ok K n x⟩, (anLeaf _ _)⟩⟩⟩ (i_AruOf_ok K), ⟨_, _, Go.Proofs.Try.func70, rfl, by kernel_rfl⟩⟩
/-! loop.example/g00183/laws.sameItems -/
noncomputable def l_sameItems_ps : List PK := [.val (.sl R_Item), .val (.sl R_Item)]
noncomputable def l_sameItems_rs : List PK := [.val .bool]
noncomputable def l_sameItems_fin : Fin := ⟨l_sameItems_ps, l_sameItems_rs, [.tmp 4]⟩
noncomputable def l_sameItems_l0_hd : Pat := [(0, .val (.sl R_Item)), (1, .val (.sl R_Item)), (5, .val (.int .i64))]
noncomputable def l_sameItems_l0_xp : Pat := []
noncomputable def l_sameItems_l0_f (K n : Nat) (x : (Pat.ty l_sameItems_l0_hd).Den) : Option ((outOf l_sameItems_ps l_sameItems_rs).Den ⊕ (Pat.ty l_sameItems_l0_xp).Den) := l_sameItems_l0 K n x.1 x.2.1 x.2.2.1
noncomputable def l_sameItems_l0_an (K : Nat) : An (outOf l_sameItems_ps l_sameItems_rs) := .loop l_sameItems_l0_hd l_sameItems_l0_xp 0 (l_sameItems_l0_f K K) .leaf
noncomputable def l_sameItems_m (K : Nat) : Mdl := ⟨l_sameItems_ps, l_sameItems_rs, fun x => l_sameItems K x.1 x.2.1⟩
noncomputable def l_sameItems_l0_c : Code := loopAt [1, 1, 0, 1, 0, 9] (bodyOf Go.Proofs.Try.f20)
theorem l_sameItems_l0_ok (K n : Nat) (x : (Pat.ty l_sameItems_l0_hd).Den) : l_sameItems_l0_f K (n + 1) x = round (env [] [] false 26) l_sameItems_fin l_sameItems_l0_hd l_sameItems_l0_xp 0 l_sameItems_l0_c .leaf (l_sameItems_l0_f K n) x := by kernel_rfl
theorem l_sameItems_ok (K : Nat) (x : (rowOf l_sameItems_ps).Den) : evalFn (env [] [] false 26) l_sameItems_fin (bodyOf Go.Proofs.Try.f20) (.seq .leaf (.seq .leaf (.seq (.seq .leaf (.block (l_sameItems_l0_an K))) .leaf))) x = (l_sameItems_m K).fn x := by kernel_rfl
theorem l_sameItems_all (K : Nat) : (l_sameItems_m K).ok = true ∧ Refines Go.Proofs.Try.prog 20 (l_sameItems_m K) ∧ Callable Go.Proofs.Try.prog 20 := ⟨rfl, refines_of (E := (env [] [] false 26)) (envTy _ _ _ _) (fnsOf rfl trivial) (by kernel_rfl) Go.Proofs.Try.func20 rfl rfl l_sameItems_fin rfl (by kernel_rfl) (.seq .leaf (.seq .leaf (.seq (.seq .leaf (.block (l_sameItems_l0_an K))) .leaf))) ⟨(anLeaf _ _), ⟨(anLeaf _ _), ⟨⟨(anLeaf _ _), ⟨⟨l_sameItems_l0_f K, K, rfl, fun _ => rfl, fun n x => l_sameItems_l0_ok K n x⟩, (anLeaf _ _)⟩⟩, (anLeaf _ _)⟩⟩⟩ (l_sameItems_ok K), ⟨_, _, Go.Proofs.Try.func20, rfl, by kernel_rfl⟩⟩
/-! loop.example/g00183/spec.RingOk -/
noncomputable def s_RingOk_ps : List PK := [.agg R_Ring]
noncomputable def s_RingOk_rs : List PK := [.val .bool]
noncomputable def s_RingOk_fin : Fin := ⟨s_RingOk_ps, s_RingOk_rs, [.tmp 2]⟩
noncomputable def s_RingOk_l0_hd : Pat := [(1, .ptr 1 0), (3, .val (.int .i64)), (1, .box R_Ring)]
noncomputable def s_RingOk_l0_xp : Pat := []
noncomputable def s_RingOk_l0_f (K n : Nat) (x : (Pat.ty s_RingOk_l0_hd).Den) : Option ((outOf s_RingOk_ps s_RingOk_rs).Den ⊕ (Pat.ty s_RingOk_l0_xp).Den) := s_RingOk_l0 K n x.2.1 x.2.2.1
noncomputable def s_RingOk_l0_an (K : Nat) : An (outOf s_RingOk_ps s_RingOk_rs) := .loop s_RingOk_l0_hd s_RingOk_l0_xp 0 (s_RingOk_l0_f K K) .leaf
noncomputable def s_RingOk_m (K : Nat) : Mdl := ⟨s_RingOk_ps, s_RingOk_rs, fun x => s_RingOk K x.1⟩
noncomputable def s_RingOk_l0_c : Code := loopAt [1, 1, 0, 1, 0, 9] (bodyOf Go.Proofs.Try.f111)
theorem s_RingOk_l0_ok (K n : Nat) (x : (Pat.ty s_RingOk_l0_hd).Den) : s_RingOk_l0_f K (n + 1) x = round (env [(88, s_l01In_m K)] [] false 47) s_RingOk_fin s_RingOk_l0_hd s_RingOk_l0_xp 0 s_RingOk_l0_c .leaf (s_RingOk_l0_f K n) x := by kernel_rfl
theorem s_RingOk_ok (K : Nat) (x : (rowOf s_RingOk_ps).Den) : evalFn (env [(88, s_l01In_m K)] [] false 47) s_RingOk_fin (bodyOf Go.Proofs.Try.f111) (.seq .leaf (.seq .leaf (.seq (.seq .leaf (.block (s_RingOk_l0_an K))) .leaf))) x = (s_RingOk_m K).fn x := by kernel_rfl
theorem s_RingOk_all (K : Nat) : (s_RingOk_m K).ok = true ∧ Refines Go.Proofs.Try.prog 111 (s_RingOk_m K) ∧ Callable Go.Proofs.Try.prog 111 := ⟨rfl, refines_of (E := (env [(88, s_l01In_m K)] [] false 47)) (envTy _ _ _ _) (fnsOf rfl ⟨s_l01In_all K, trivial⟩) (by kernel_rfl) Go.Proofs.Try.func111 rfl rfl s_RingOk_fin rfl (by kernel_rfl) (.seq .leaf (.seq .leaf (.seq (.seq .leaf (.block (s_RingOk_l0_an K))) .leaf))) ⟨(anLeaf _ _), ⟨(anLeaf _ _), ⟨⟨(anLeaf _ _), ⟨⟨s_RingOk_l0_f K, K, rfl, fun _ => rfl, fun n x => s_RingOk_l0_ok K n x⟩, (anLeaf _ _)⟩⟩, (anLeaf _ _)⟩⟩⟩ (s_RingOk_ok K), ⟨_, _, Go.Proofs.Try.func111, rfl, by kernel_rfl⟩⟩
/-! loop.example/g00183/spec.MateNew -/
noncomputable def s_MateNew_ps : List PK := [.val (.int .i64), .agg R_Ring]
noncomputable def s_MateNew_rs : List PK := [.agg (.cons (.int .i64) (.cons (.cons (.int .i64) (.cons (.ow (.int .i64)) .nil)) (.cons (.ow R_Item) (.cons (.ow (.int .i64)) (.cons (.ow .str) (.cons (.int .i64) (.cons (.int .i64) (.cons (.int .i64) (.cons (.int .i64) (.cons (.cons (.int .i64) (.cons (.int .i64) (.cons (.int .i64) (.cons (.int .i64) (.cons (.int .i64) (.cons (.ow (.int .i64)) .nil)))))) .nil)))))))))), .val .bool]
noncomputable def s_MateNew_fin : Fin := ⟨s_MateNew_ps, s_MateNew_rs, [.cell 4 52, .tmp 5]⟩
noncomputable def s_MateNew_m (K : Nat) : Mdl := ⟨s_MateNew_ps, s_MateNew_rs, fun x => s_MateNew K x.1 x.2.1⟩
theorem s_MateNew_ok (K : Nat) (x : (rowOf s_MateNew_ps).Den) : evalFn (env [(60, s_l05In_m K), (111, s_RingOk_m K)] [] false 26) s_MateNew_fin (bodyOf Go.Proofs.Try.f145) .leaf x = (s_MateNew_m K).fn x := by kernel_rfl
theorem s_MateNew_all (K : Nat) : (s_MateNew_m K).ok = true ∧ Refines Go.Proofs.Try.prog 145 (s_MateNew_m K) ∧ Callable Go.Proofs.Try.prog 145 := ⟨rfl, refines_of (E := (env [(60, s_l05In_m K), (111, s_RingOk_m K)] [] false 26)) (envTy _ _ _ _) (fnsOf rfl ⟨s_l05In_all K, s_RingOk_all K, trivial⟩) (by kernel_rfl) Go.Proofs.Try.func145 rfl rfl s_MateNew_fin rfl (by kernel_rfl) .leaf (anLeaf _ _) (s_MateNew_ok K), ⟨_, _, Go.Proofs.Try.func145, rfl, by kernel_rfl⟩⟩
/-! loop.example/g00183/spec.FirstToken -/
noncomputable def s_FirstToken_ps : List PK := [.agg R_Ring]
noncomputable def s_FirstToken_rs : List PK := [.agg (.cons (.int .i64) (.cons (.int .i64) (.cons (.int .i64) (.cons (.int .i64) (.cons (.int .i64) (.cons (.ow (.int .i64)) .nil))))))]
noncomputable def s_FirstToken_fin : Fin := ⟨s_FirstToken_ps, s_FirstToken_rs, [.cell 2 50]⟩
noncomputable def s_FirstToken_m (K : Nat) : Mdl := ⟨s_FirstToken_ps, s_FirstToken_rs, fun x => s_FirstToken K x.1⟩
theorem s_FirstToken_ok (K : Nat) (x : (rowOf s_FirstToken_ps).Den) : evalFn (env [(111, s_RingOk_m K)] [] false 10) s_FirstToken_fin (bodyOf Go.Proofs.Try.f146) .leaf x = (s_FirstToken_m K).fn x := by kernel_rfl
theorem s_FirstToken_all (K : Nat) : (s_FirstToken_m K).ok = true ∧ Refines Go.Proofs.Try.prog 146 (s_FirstToken_m K) ∧ Callable Go.Proofs.Try.prog 146 := ⟨rfl, refines_of (E := (env [(111, s_RingOk_m K)] [] false 10)) (envTy _ _ _ _) (fnsOf rfl ⟨s_RingOk_all K, trivial⟩) (by kernel_rfl) Go.Proofs.Try.func146 rfl rfl s_FirstToken_fin rfl (by kernel_rfl) .leaf (anLeaf _ _) (s_FirstToken_ok K), ⟨_, _, Go.Proofs.Try.func146, rfl, by kernel_rfl⟩⟩
/-! loop.example/g00183/spec.WorkNew -/
noncomputable def s_WorkNew_ps : List PK := [.agg R_Ring]
noncomputable def s_WorkNew_rs : List PK := [.agg (.cons (.cons (.int .i64) (.cons (.ow (.int .i64)) .nil)) (.cons (.ow R_Mate) (.cons (.ow R_Fly) (.cons (.ow (.sl R_Item)) (.cons (.ow R_Item) .nil))))), .val .bool]
noncomputable def s_WorkNew_fin : Fin := ⟨s_WorkNew_ps, s_WorkNew_rs, [.cell 2 105, .tmp 3]⟩
noncomputable def s_WorkNew_l0_hd : Pat := [(1, .ptr 1 0), (2, .ptr 2 0), (4, .ptr 4 0), (5, .val (.int .i64)), (1, .box R_Ring), (2, .box (.cons (.cons (.int .i64) (.cons (.ow (.int .i64)) .nil)) (.cons (.ow R_Mate) (.cons (.ow R_Fly) (.cons (.ow (.sl R_Item)) (.cons (.ow R_Item) .nil)))))), (4, .box (.cons (.cons (.int .i64) (.cons (.ow (.int .i64)) .nil)) (.cons (.ow R_Mate) (.cons (.ow R_Fly) (.cons (.ow (.sl R_Item)) (.cons (.ow R_Item) .nil))))))]
noncomputable def s_WorkNew_l0_xp : Pat := [(1, .ptr 1 0), (2, .ptr 2 0), (4, .ptr 4 0), (1, .box R_Ring), (2, .box (.cons (.cons (.int .i64) (.cons (.ow (.int .i64)) .nil)) (.cons (.ow R_Mate) (.cons (.ow R_Fly) (.cons (.ow (.sl R_Item)) (.cons (.ow R_Item) .nil)))))), (4, .box (.cons (.cons (.int .i64) (.cons (.ow (.int .i64)) .nil)) (.cons (.ow R_Mate) (.cons (.ow R_Fly) (.cons (.ow (.sl R_Item)) (.cons (.ow R_Item) .nil))))))]
noncomputable def s_WorkNew_l0_f (K n : Nat) (x : (Pat.ty s_WorkNew_l0_hd).Den) : Option ((outOf s_WorkNew_ps s_WorkNew_rs).Den ⊕ (Pat.ty s_WorkNew_l0_xp).Den) := s_WorkNew_l0 K n x.2.2.2.1 x.2.2.2.2.1 x.2.2.2.2.2.1 x.2.2.2.2.2.2.1
noncomputable def s_WorkNew_l0_an (K : Nat) : An (outOf s_WorkNew_ps s_WorkNew_rs) := .loop s_WorkNew_l0_hd s_WorkNew_l0_xp 0 (s_WorkNew_l0_f K K) .leaf
noncomputable def s_WorkNew_m (K : Nat) : Mdl := ⟨s_WorkNew_ps, s_WorkNew_rs, fun x => s_WorkNew K x.1⟩
noncomputable def s_WorkNew_l0_c : Code := loopAt [1, 1, 1, 0, 1, 0, 9] (bodyOf Go.Proofs.Try.f129)
theorem s_WorkNew_l0_ok (K n : Nat) (x : (Pat.ty s_WorkNew_l0_hd).Den) : s_WorkNew_l0_f K (n + 1) x = round (env [(111, s_RingOk_m K), (145, s_MateNew_m K), (146, s_FirstToken_m K)] [] false 59) s_WorkNew_fin s_WorkNew_l0_hd s_WorkNew_l0_xp 0 s_WorkNew_l0_c .leaf (s_WorkNew_l0_f K n) x := by kernel_rfl
theorem s_WorkNew_ok (K : Nat) (x : (rowOf s_WorkNew_ps).Den) : evalFn (env [(111, s_RingOk_m K), (145, s_MateNew_m K), (146, s_FirstToken_m K)] [] false 59) s_WorkNew_fin (bodyOf Go.Proofs.Try.f129) (.seq .leaf (.seq .leaf (.seq .leaf (.seq (.seq .leaf (.block (s_WorkNew_l0_an K))) .leaf)))) x = (s_WorkNew_m K).fn x := by kernel_rfl
theorem s_WorkNew_all (K : Nat) : (s_WorkNew_m K).ok = true ∧ Refines Go.Proofs.Try.prog 129 (s_WorkNew_m K) ∧ Callable Go.Proofs.Try.prog 129 := ⟨rfl, refines_of (E := (env [(111, s_RingOk_m K), (145, s_MateNew_m K), (146, s_FirstToken_m K)] [] false 59)) (envTy _ _ _ _) (fnsOf rfl ⟨s_RingOk_all K, s_MateNew_all K, s_FirstToken_all K, trivial⟩) (by kernel_rfl) Go.Proofs.Try.func129 rfl rfl s_WorkNew_fin rfl (by kernel_rfl) (.seq .leaf (.seq .leaf (.seq .leaf (.seq (.seq .leaf (.block (s_WorkNew_l0_an K))) .leaf)))) ⟨(anLeaf _ _), ⟨(anLeaf _ _), ⟨(anLeaf _ _), ⟨⟨(anLeaf _ _), ⟨⟨s_WorkNew_l0_f K, K, rfl, fun _ => rfl, fun n x => s_WorkNew_l0_ok K n x⟩, (anLeaf _ _)⟩⟩, (anLeaf _ _)⟩⟩⟩⟩ (s_WorkNew_ok K), ⟨_, _, Go.Proofs.Try.func129, rfl, by kernel_rfl⟩⟩
/-! loop.example/g00183/spec.l11Size -/
noncomputable def s_l11Size_ps : List PK := [.val (.sl (.int .u8))]
noncomputable def s_l11Size_rs : List PK := [.val (.int .i64)]
noncomputable def s_l11Size_fin : Fin := ⟨s_l11Size_ps, s_l11Size_rs, [.tmp 2]⟩
noncomputable def s_l11Size_m (K : Nat) : Mdl := ⟨s_l11Size_ps, s_l11Size_rs, fun x => s_l11Size K x.1⟩
theorem s_l11Size_ok (K : Nat) (x : (rowOf s_l11Size_ps).Den) : evalFn (env [] [] false 11) s_l11Size_fin (bodyOf Go.Proofs.Try.f130) .leaf x = (s_l11Size_m K).fn x := by kernel_rfl
theorem s_l11Size_all (K : Nat) : (s_l11Size_m K).ok = true ∧ Refines Go.Proofs.Try.prog 130 (s_l11Size_m K) ∧ Callable Go.Proofs.Try.prog 130 := ⟨rfl, refines_of (E := (env [] [] false 11)) (envTy _ _ _ _) (fnsOf rfl trivial) (by kernel_rfl) Go.Proofs.Try.func130 rfl rfl s_l11Size_fin rfl (by kernel_rfl) .leaf (anLeaf _ _) (s_l11Size_ok K), ⟨_, _, Go.Proofs.Try.func130, rfl, by kernel_rfl⟩⟩
/-! loop.example/g00183/spec.l03Name -/
noncomputable def s_l03Name_ps : List PK := [.ptr R_l01Cur]
noncomputable def s_l03Name_rs : List PK := [.val .str]
noncomputable def s_l03Name_fin : Fin := ⟨s_l03Name_ps, s_l03Name_rs, [.tmp 2]⟩
noncomputable def s_l03Name_m (K : Nat) : Mdl := ⟨s_l03Name_ps, s_l03Name_rs, fun x => s_l03Name K x.1⟩
theorem s_l03Name_ok (K : Nat) (x : (rowOf s_l03Name_ps).Den) : evalFn (env [(139, s_l01Pick_m K)] [] false 6) s_l03Name_fin (bodyOf Go.Proofs.Try.f147) .leaf x = (s_l03Name_m K).fn x := by kernel_rfl
theorem s_l03Name_all (K : Nat) : (s_l03Name_m K).ok = true ∧ Refines Go.Proofs.Try.prog 147 (s_l03Name_m K) ∧ Callable Go.Proofs.Try.prog 147 := ⟨rfl, refines_of (E := (env [(139, s_l01Pick_m K)] [] false 6)) (envTy _ _ _ _) (fnsOf rfl ⟨s_l01Pick_all K, trivial⟩) (by kernel_rfl) Go.Proofs.Try.func147 rfl rfl s_l03Name_fin rfl (by kernel_rfl) .leaf (anLeaf _ _) (s_l03Name_ok K), ⟨_, _, Go.Proofs.Try.func147, rfl, by kernel_rfl⟩⟩
/-! loop.example/g00183/spec.l11Next -/
noncomputable def s_l11Next_ps : List PK := [.ptr R_l01Cur, .ptr R_Work]
noncomputable def s_l11Next_rs : List PK := [.agg R_Turn]
noncomputable def s_l11Next_fin : Fin := ⟨s_l11Next_ps, s_l11Next_rs, [.cell 4 172]⟩
noncomputable def s_l11Next_l0_hd : Pat := [(0, .ptr 1000000000 0), (1, .ptr 1000000100 0), (4, .ptr 4 0), (5, .ptr 5 0), (6, .val (.int .i64)), (4, .box R_Turn), (5, .box R_Turn), (1000000000, .box R_l01Cur), (1000000100, .box R_Work)]
noncomputable def s_l11Next_l0_xp : Pat := [(0, .ptr 1000000000 0), (4, .ptr 4 0), (5, .ptr 5 0), (4, .box R_Turn), (5, .box R_Turn), (1000000000, .box R_l01Cur), (1000000100, .box R_Work)]
noncomputable def s_l11Next_l0_f (K n : Nat) (x : (Pat.ty s_l11Next_l0_hd).Den) : Option ((outOf s_l11Next_ps s_l11Next_rs).Den ⊕ (Pat.ty s_l11Next_l0_xp).Den) := s_l11Next_l0 K n x.2.2.2.2.1 x.2.2.2.2.2.1 x.2.2.2.2.2.2.1 x.2.2.2.2.2.2.2.1 x.2.2.2.2.2.2.2.2.1
noncomputable def s_l11Next_l0_an (K : Nat) : An (outOf s_l11Next_ps s_l11Next_rs) := .loop s_l11Next_l0_hd s_l11Next_l0_xp 0 (s_l11Next_l0_f K K) .leaf
noncomputable def s_l11Next_m (K : Nat) : Mdl := ⟨s_l11Next_ps, s_l11Next_rs, fun x => s_l11Next K x.1 x.2.1⟩
noncomputable def s_l11Next_l0_c : Code := loopAt [1, 1, 0, 1, 0, 1, 0, 9] (bodyOf Go.Proofs.Try.f131)
theorem s_l11Next_l0_ok (K n : Nat) (x : (Pat.ty s_l11Next_l0_hd).Den) : s_l11Next_l0_f K (n + 1) x = round (env [(67, s_l01Once_m K), (68, s_l01Below_m K), (121, s_l01PickInt_m K), (147, s_l03Name_m K)] [] false 66) s_l11Next_fin s_l11Next_l0_hd s_l11Next_l0_xp 0 s_l11Next_l0_c .leaf (s_l11Next_l0_f K n) x := by kernel_rfl
theorem s_l11Next_ok (K : Nat) (x : (rowOf s_l11Next_ps).Den) : evalFn (env [(67, s_l01Once_m K), (68, s_l01Below_m K), (121, s_l01PickInt_m K), (147, s_l03Name_m K)] [] false 66) s_l11Next_fin (bodyOf Go.Proofs.Try.f131) (.seq .leaf (.seq .leaf (.seq (.seq .leaf (.cond (.seq .leaf (.block (s_l11Next_l0_an K))) .leaf)) .leaf))) x = (s_l11Next_m K).fn x := by kernel_rfl
theorem s_l11Next_all (K : Nat) : (s_l11Next_m K).ok = true ∧ Refines Go.Proofs.Try.prog 131 (s_l11Next_m K) ∧ Callable Go.Proofs.Try.prog 131 := ⟨rfl, refines_of (E := (env [(67, s_l01Once_m K), (68, s_l01Below_m K), (121, s_l01PickInt_m K), (147, s_l03Name_m K)] [] false 66)) (envTy _ _ _ _) (fnsOf rfl ⟨s_l01Once_all K, s_l01Below_all K, s_l01PickInt_all K, s_l03Name_all K, trivial⟩) (by kernel_rfl) Go.Proofs.Try.func131 rfl rfl s_l11Next_fin rfl (by kernel_rfl) (.seq .leaf (.seq .leaf (.seq (.seq .leaf (.cond (.seq .leaf (.block (s_l11Next_l0_an K))) .leaf)) .leaf))) ⟨(anLeaf _ _), ⟨(anLeaf _ _), ⟨⟨(anLeaf _ _), ⟨⟨(anLeaf _ _), ⟨⟨s_l11Next_l0_f K, K, rfl, fun _ => rfl, fun n x => s_l11Next_l0_ok K n x⟩, (anLeaf _ _)⟩⟩, (anLeaf _ _)⟩⟩, (anLeaf _ _)⟩⟩⟩ (s_l11Next_ok K), ⟨_, _, Go.Proofs.Try.func131, rfl, by kernel_rfl⟩⟩
/-! loop.example/g00183/spec.l11At -/
noncomputable def s_l11At_ps : List PK := [.ptr R_Work, .val (.int .i64)]
noncomputable def s_l11At_rs : List PK := [.val (.int .i64)]
noncomputable def s_l11At_fin : Fin := ⟨s_l11At_ps, s_l11At_rs, [.tmp 4]⟩
noncomputable def s_l11At_l0_hd : Pat := [(0, .ptr 1000000000 0), (1, .val (.int .i64)), (5, .val (.int .i64)), (1000000000, .box R_Work)]
noncomputable def s_l11At_l0_xp : Pat := [(1000000000, .box R_Work)]
noncomputable def s_l11At_l0_f (K n : Nat) (x : (Pat.ty s_l11At_l0_hd).Den) : Option ((outOf s_l11At_ps s_l11At_rs).Den ⊕ (Pat.ty s_l11At_l0_xp).Den) := s_l11At_l0 K n x.2.1 x.2.2.1 x.2.2.2.1
noncomputable def s_l11At_l0_an (K : Nat) : An (outOf s_l11At_ps s_l11At_rs) := .loop s_l11At_l0_hd s_l11At_l0_xp 0 (s_l11At_l0_f K K) .leaf
noncomputable def s_l11At_m (K : Nat) : Mdl := ⟨s_l11At_ps, s_l11At_rs, fun x => s_l11At K x.1 x.2.1⟩
noncomputable def s_l11At_l0_c : Code := loopAt [1, 0, 1, 0, 9] (bodyOf Go.Proofs.Try.f66)
theorem s_l11At_l0_ok (K n : Nat) (x : (Pat.ty s_l11At_l0_hd).Den) : s_l11At_l0_f K (n + 1) x = round (env [] [] false 26) s_l11At_fin s_l11At_l0_hd s_l11At_l0_xp 0 s_l11At_l0_c .leaf (s_l11At_l0_f K n) x := by kernel_rfl
theorem s_l11At_ok (K : Nat) (x : (rowOf s_l11At_ps).Den) : evalFn (env [] [] false 26) s_l11At_fin (bodyOf Go.Proofs.Try.f66) (.seq .leaf (.seq (.seq .leaf (.block (s_l11At_l0_an K))) .leaf)) x = (s_l11At_m K).fn x := by kernel_rfl
theorem s_l11At_all (K : Nat) : (s_l11At_m K).ok = true ∧ Refines Go.Proofs.Try.prog 66 (s_l11At_m K) ∧ Callable Go.Proofs.Try.prog 66 := ⟨rfl, refines_of (E := (env [] [] false 26)) (envTy _ _ _ _) (fnsOf rfl trivial) (by kernel_rfl) Go.Proofs.Try.func66 rfl rfl s_l11At_fin rfl (by kernel_rfl) (.seq .leaf (.seq (.seq .leaf (.block (s_l11At_l0_an K))) .leaf)) ⟨(anLeaf _ _), ⟨⟨(anLeaf _ _), ⟨⟨s_l11At_l0_f K, K, rfl, fun _ => rfl, fun n x => s_l11At_l0_ok K n x⟩, (anLeaf _ _)⟩⟩, (anLeaf _ _)⟩⟩ (s_l11At_ok K), ⟨_, _, Go.Proofs.Try.func66, rfl, by kernel_rfl⟩⟩
/-! loop.example/g00183/spec.l10Texts -/
noncomputable def s_l10Texts_ps : List PK := [.val (.sl (.int .i64)), .val (.sl .str)]
noncomputable def s_l10Texts_rs : List PK := [.val .bool]
noncomputable def s_l10Texts_fin : Fin := ⟨s_l10Texts_ps, s_l10Texts_rs, [.tmp 4]⟩
noncomputable def s_l10Texts_l0_hd : Pat := [(0, .val (.sl (.int .i64))), (1, .val (.sl .str)), (5, .val (.int .i64))]
noncomputable def s_l10Texts_l0_xp : Pat := [(0, .val (.sl (.int .i64))), (1, .val (.sl .str))]
noncomputable def s_l10Texts_l0_f (K n : Nat) (x : (Pat.ty s_l10Texts_l0_hd).Den) : Option ((outOf s_l10Texts_ps s_l10Texts_rs).Den ⊕ (Pat.ty s_l10Texts_l0_xp).Den) := s_l10Texts_l0 K n x.1 x.2.1 x.2.2.1
noncomputable def s_l10Texts_l0_an (K : Nat) : An (outOf s_l10Texts_ps s_l10Texts_rs) := .loop s_l10Texts_l0_hd s_l10Texts_l0_xp 0 (s_l10Texts_l0_f K K) .leaf
noncomputable def s_l10Texts_m (K : Nat) : Mdl := ⟨s_l10Texts_ps, s_l10Texts_rs, fun x => s_l10Texts K x.1 x.2.1⟩
noncomputable def s_l10Texts_l0_c : Code := loopAt [1, 0, 1, 0, 9] (bodyOf Go.Proofs.Try.f112)
theorem s_l10Texts_l0_ok (K n : Nat) (x : (Pat.ty s_l10Texts_l0_hd).Den) : s_l10Texts_l0_f K (n + 1) x = round (env [(88, s_l01In_m K)] [] false 42) s_l10Texts_fin s_l10Texts_l0_hd s_l10Texts_l0_xp 0 s_l10Texts_l0_c .leaf (s_l10Texts_l0_f K n) x := by kernel_rfl
theorem s_l10Texts_ok (K : Nat) (x : (rowOf s_l10Texts_ps).Den) : evalFn (env [(88, s_l01In_m K)] [] false 42) s_l10Texts_fin (bodyOf Go.Proofs.Try.f112) (.seq .leaf (.seq (.seq .leaf (.block (s_l10Texts_l0_an K))) .leaf)) x = (s_l10Texts_m K).fn x := by kernel_rfl
theorem s_l10Texts_all (K : Nat) : (s_l10Texts_m K).ok = true ∧ Refines Go.Proofs.Try.prog 112 (s_l10Texts_m K) ∧ Callable Go.Proofs.Try.prog 112 := ⟨rfl, refines_of (E := (env [(88, s_l01In_m K)] [] false 42)) (envTy _ _ _ _) (fnsOf rfl ⟨s_l01In_all K, trivial⟩) (by kernel_rfl) Go.Proofs.Try.func112 rfl rfl s_l10Texts_fin rfl (by kernel_rfl) (.seq .leaf (.seq (.seq .leaf (.block (s_l10Texts_l0_an K))) .leaf)) ⟨(anLeaf _ _), ⟨⟨(anLeaf _ _), ⟨⟨s_l10Texts_l0_f K, K, rfl, fun _ => rfl, fun n x => s_l10Texts_l0_ok K n x⟩, (anLeaf _ _)⟩⟩, (anLeaf _ _)⟩⟩ (s_l10Texts_ok K), ⟨_, _, Go.Proofs.Try.func112, rfl, by kernel_rfl⟩⟩
/-! loop.example/g00183/spec.ItemAt -/
noncomputable def s_ItemAt_ps : List PK := [.val (.sl R_Item), .val (.int .i64)]
noncomputable def s_ItemAt_rs : List PK := [.agg R_Item, .val .bool]
noncomputable def s_ItemAt_fin : Fin := ⟨s_ItemAt_ps, s_ItemAt_rs, [.cell 4 58, .tmp 5]⟩
noncomputable def s_ItemAt_l0_hd : Pat := [(0, .val (.sl R_Item)), (1, .val (.int .i64)), (4, .ptr 4 0), (6, .val (.int .i64)), (4, .box R_Item)]
noncomputable def s_ItemAt_l0_xp : Pat := [(4, .ptr 4 0), (4, .box R_Item)]
noncomputable def s_ItemAt_l0_f (K n : Nat) (x : (Pat.ty s_ItemAt_l0_hd).Den) : Option ((outOf s_ItemAt_ps s_ItemAt_rs).Den ⊕ (Pat.ty s_ItemAt_l0_xp).Den) := s_ItemAt_l0 K n x.1 x.2.1 x.2.2.2.1 x.2.2.2.2.1
noncomputable def s_ItemAt_l0_an (K : Nat) : An (outOf s_ItemAt_ps s_ItemAt_rs) := .loop s_ItemAt_l0_hd s_ItemAt_l0_xp 0 (s_ItemAt_l0_f K K) .leaf
noncomputable def s_ItemAt_m (K : Nat) : Mdl := ⟨s_ItemAt_ps, s_ItemAt_rs, fun x => s_ItemAt K x.1 x.2.1⟩
noncomputable def s_ItemAt_l0_c : Code := loopAt [1, 0, 1, 0, 9] (bodyOf Go.Proofs.Try.f36)
theorem s_ItemAt_l0_ok (K n : Nat) (x : (Pat.ty s_ItemAt_l0_hd).Den) : s_ItemAt_l0_f K (n + 1) x = round (env [] [] false 25) s_ItemAt_fin s_ItemAt_l0_hd s_ItemAt_l0_xp 0 s_ItemAt_l0_c .leaf (s_ItemAt_l0_f K n) x := by kernel_rfl
theorem s_ItemAt_ok (K : Nat) (x : (rowOf s_ItemAt_ps).Den) : evalFn (env [] [] false 25) s_ItemAt_fin (bodyOf Go.Proofs.Try.f36) (.seq .leaf (.seq (.seq .leaf (.block (s_ItemAt_l0_an K))) .leaf)) x = (s_ItemAt_m K).fn x := by kernel_rfl
theorem s_ItemAt_all (K : Nat) : (s_ItemAt_m K).ok = true ∧ Refines Go.Proofs.Try.prog 36 (s_ItemAt_m K) ∧ Callable Go.Proofs.Try.prog 36 := ⟨rfl, refines_of (E := (env [] [] false 25)) (envTy _ _ _ _) (fnsOf rfl trivial) (by kernel_rfl) Go.Proofs.Try.func36 rfl rfl s_ItemAt_fin rfl (by kernel_rfl) (.seq .leaf (.seq (.seq .leaf (.block (s_ItemAt_l0_an K))) .leaf)) ⟨(anLeaf _ _), ⟨⟨(anLeaf _ _), ⟨⟨s_ItemAt_l0_f K, K, rfl, fun _ => rfl, fun n x => s_ItemAt_l0_ok K n x⟩, (anLeaf _ _)⟩⟩, (anLeaf _ _)⟩⟩ (s_ItemAt_ok K), ⟨_, _, Go.Proofs.Try.func36, rfl, by kernel_rfl⟩⟩
/-! loop.example/g00183/spec.AruOf -/
noncomputable def s_AruOf_ps : List PK := [.val (.sl R_Item)]
noncomputable def s_AruOf_rs : List PK := [.val (.int .i64)]
noncomputable def s_AruOf_fin : Fin := ⟨s_AruOf_ps, s_AruOf_rs, [.tmp 2]⟩
noncomputable def s_AruOf_l0_hd : Pat := [(0, .val (.sl R_Item)), (3, .val (.int .i64)), (4, .val (.int .i64))]
noncomputable def s_AruOf_l0_xp : Pat := [(3, .val (.int .i64))]
noncomputable def s_AruOf_l0_f (K n : Nat) (x : (Pat.ty s_AruOf_l0_hd).Den) : Option ((outOf s_AruOf_ps s_AruOf_rs).Den ⊕ (Pat.ty s_AruOf_l0_xp).Den) := s_AruOf_l0 K n x.1 x.2.1 x.2.2.1
noncomputable def s_AruOf_l0_an (K : Nat) : An (outOf s_AruOf_ps s_AruOf_rs) := .loop s_AruOf_l0_hd s_AruOf_l0_xp 0 (s_AruOf_l0_f K K) .leaf
noncomputable def s_AruOf_m (K : Nat) : Mdl := ⟨s_AruOf_ps, s_AruOf_rs, fun x => s_AruOf K x.1⟩
noncomputable def s_AruOf_l0_c : Code := loopAt [1, 1, 0, 1, 0, 9] (bodyOf Go.Proofs.Try.f74)
theorem s_AruOf_l0_ok (K n : Nat) (x : (Pat.ty s_AruOf_l0_hd).Den) : s_AruOf_l0_f K (n + 1) x = round (env [(36, s_ItemAt_m K)] [] false 26) s_AruOf_fin s_AruOf_l0_hd s_AruOf_l0_xp 0 s_AruOf_l0_c .leaf (s_AruOf_l0_f K n) x := by kernel_rfl
theorem s_AruOf_ok (K : Nat) (x : (rowOf s_AruOf_ps).Den) : evalFn (env [(36, s_ItemAt_m K)] [] false 26) s_AruOf_fin (bodyOf Go.Proofs.Try.f74) (.seq .leaf (.seq .leaf (.seq (.seq .leaf (.block (s_AruOf_l0_an K))) .leaf))) x = (s_AruOf_m K).fn x := by kernel_rfl
theorem s_AruOf_all (K : Nat) : (s_AruOf_m K).ok = true ∧ Refines Go.Proofs.Try.prog 74 (s_AruOf_m K) ∧ Callable Go.Proofs.Try.prog 74 := ⟨rfl, refines_of (E := (env [(36, s_ItemAt_m K)] [] false 26)) (envTy _ _ _ _) (fnsOf rfl ⟨s_ItemAt_all K, trivial⟩) (by kernel_rfl) Go.Proofs.Try.func74 rfl rfl s_AruOf_fin rfl (by kernel_rfl) (.seq .leaf (.seq .leaf (.seq (.seq .leaf (.block (s_AruOf_l0_an K))) .leaf))) ⟨(anLeaf _ _), ⟨(anLeaf _ _), ⟨⟨(anLeaf _ _), ⟨⟨s_AruOf_l0_f K, K, rfl, fun _ => rfl, fun n x => s_AruOf_l0_ok K n x⟩, (anLeaf _ _)⟩⟩, (anLeaf _ _)⟩⟩⟩ (s_AruOf_ok K), ⟨_, _, Go.Proofs.Try.func74, rfl, by kernel_rfl⟩⟩
/-! loop.example/g00183/spec.l05SameInts -/
noncomputable def s_l05SameInts_ps : List PK := [.val (.sl (.int .i64)), .val (.sl (.int .i64))]
noncomputable def s_l05SameInts_rs : List PK := [.val .bool]
noncomputable def s_l05SameInts_fin : Fin := ⟨s_l05SameInts_ps, s_l05SameInts_rs, [.tmp 4]⟩
noncomputable def s_l05SameInts_l0_hd : Pat := [(0, .val (.sl (.int .i64))), (1, .val (.sl (.int .i64))), (5, .val (.int .i64))]
noncomputable def s_l05SameInts_l0_xp : Pat := []
noncomputable def s_l05SameInts_l0_f (K n : Nat) (x : (Pat.ty s_l05SameInts_l0_hd).Den) : Option ((outOf s_l05SameInts_ps s_l05SameInts_rs).Den ⊕ (Pat.ty s_l05SameInts_l0_xp).Den) := s_l05SameInts_l0 K n x.1 x.2.1 x.2.2.1
noncomputable def s_l05SameInts_l0_an (K : Nat) : An (outOf s_l05SameInts_ps s_l05SameInts_rs) := .loop s_l05SameInts_l0_hd s_l05SameInts_l0_xp 0 (s_l05SameInts_l0_f K K) .leaf
noncomputable def s_l05SameInts_m (K : Nat) : Mdl := ⟨s_l05SameInts_ps, s_l05SameInts_rs, fun x => s_l05SameInts K x.1 x.2.1⟩
noncomputable def s_l05SameInts_l0_c : Code := loopAt [1, 1, 0, 1, 0, 9] (bodyOf Go.Proofs.Try.f153)
theorem s_l05SameInts_l0_ok (K n : Nat) (x : (Pat.ty s_l05SameInts_l0_hd).Den) : s_l05SameInts_l0_f K (n + 1) x = round (env [] [] false 26) s_l05SameInts_fin s_l05SameInts_l0_hd s_l05SameInts_l0_xp 0 s_l05SameInts_l0_c .leaf (s_l05SameInts_l0_f K n) x := by kernel_rfl
theorem s_l05SameInts_ok (K : Nat) (x : (rowOf s_l05SameInts_ps).Den) : evalFn (env [] [] false 26) s_l05SameInts_fin (bodyOf Go.Proofs.Try.f153) (.seq .leaf (.seq .leaf (.seq (.seq .leaf (.block (s_l05SameInts_l0_an K))) .leaf))) x = (s_l05SameInts_m K).fn x := by kernel_rfl
theorem s_l05SameInts_all (K : Nat) : (s_l05SameInts_m K).ok = true ∧ Refines Go.Proofs.Try.prog 153 (s_l05SameInts_m K) ∧ Callable Go.Proofs.Try.prog 153 := ⟨rfl, refines_of (E := (env [] [] false 26)) (envTy _ _ _ _) (fnsOf rfl trivial) (by kernel_rfl) Go.Proofs.Try.func153 rfl rfl s_l05SameInts_fin rfl (by kernel_rfl) (.seq .leaf (.seq .leaf (.seq (.seq .leaf (.block (s_l05SameInts_l0_an K))) .leaf))) ⟨(anLeaf _ _), ⟨(anLeaf _ _), ⟨⟨(anLeaf _ _), ⟨⟨s_l05SameInts_l0_f K, K, rfl, fun _ => rfl, fun n x => s_l05SameInts_l0_ok K n x⟩, (anLeaf _ _)⟩⟩, (anLeaf _ _)⟩⟩⟩ (s_l05SameInts_ok K), ⟨_, _, Go.Proofs.Try.func153, rfl, by kernel_rfl⟩⟩
/-! loop.example/g00183/spec.l05SameToken -/
noncomputable def s_l05SameToken_ps : List PK := [.agg R_Token, .agg R_Token]
noncomputable def s_l05SameToken_rs : List PK := [.val .bool]
noncomputable def s_l05SameToken_fin : Fin := ⟨s_l05SameToken_ps, s_l05SameToken_rs, [.tmp 4]⟩
noncomputable def s_l05SameToken_m (K : Nat) : Mdl := ⟨s_l05SameToken_ps, s_l05SameToken_rs, fun x => s_l05SameToken K x.1 x.2.1⟩
theorem s_l05SameToken_ok (K : Nat) (x : (rowOf s_l05SameToken_ps).Den) : evalFn (env [(153, s_l05SameInts_m K)] [] false 45) s_l05SameToken_fin (bodyOf Go.Proofs.Try.f135) .leaf x = (s_l05SameToken_m K).fn x := by kernel_rfl
theorem s_l05SameToken_all (K : Nat) : (s_l05SameToken_m K).ok = true ∧ Refines Go.Proofs.Try.prog 135 (s_l05SameToken_m K) ∧ Callable Go.Proofs.Try.prog 135 := ⟨rfl, refines_of (E := (env [(153, s_l05SameInts_m K)] [] false 45)) (envTy _ _ _ _) (fnsOf rfl ⟨s_l05SameInts_all K, trivial⟩) (by kernel_rfl) Go.Proofs.Try.func135 rfl rfl s_l05SameToken_fin rfl (by kernel_rfl) .leaf (anLeaf _ _) (s_l05SameToken_ok K), ⟨_, _, Go.Proofs.Try.func135, rfl, by kernel_rfl⟩⟩
/-! loop.example/g00183/spec.l10Blank -/
noncomputable def s_l10Blank_ps : List PK := [.agg R_Token]
noncomputable def s_l10Blank_rs : List PK := [.val .bool]
noncomputable def s_l10Blank_fin : Fin := ⟨s_l10Blank_ps, s_l10Blank_rs, [.tmp 2]⟩
noncomputable def s_l10Blank_m (K : Nat) : Mdl := ⟨s_l10Blank_ps, s_l10Blank_rs, fun x => s_l10Blank K x.1⟩
theorem s_l10Blank_ok (K : Nat) (x : (rowOf s_l10Blank_ps).Den) : evalFn (env [(135, s_l05SameToken_m K)] [] false 6) s_l10Blank_fin (bodyOf Go.Proofs.Try.f113) .leaf x = (s_l10Blank_m K).fn x := by kernel_rfl
theorem s_l10Blank_all (K : Nat) : (s_l10Blank_m K).ok = true ∧ Refines Go.Proofs.Try.prog 113 (s_l10Blank_m K) ∧ Callable Go.Proofs.Try.prog 113 := ⟨rfl, refines_of (E := (env [(135, s_l05SameToken_m K)] [] false 6)) (envTy _ _ _ _) (fnsOf rfl ⟨s_l05SameToken_all K, trivial⟩) (by kernel_rfl) Go.Proofs.Try.func113 rfl rfl s_l10Blank_fin rfl (by kernel_rfl) .leaf (anLeaf _ _) (s_l10Blank_ok K), ⟨_, _, Go.Proofs.Try.func113, rfl, by kernel_rfl⟩⟩
/-! loop.example/g00183/spec.TokenOk -/
noncomputable def s_TokenOk_ps : List PK := [.agg R_Token]
noncomputable def s_TokenOk_rs : List PK := [.val .bool]
noncomputable def s_TokenOk_fin : Fin := ⟨s_TokenOk_ps, s_TokenOk_rs, [.tmp 2]⟩
noncomputable def s_TokenOk_l0_hd : Pat := [(1, .ptr 1 0), (3, .val (.int .i64)), (1, .box R_Token)]
noncomputable def s_TokenOk_l0_xp : Pat := []
noncomputable def s_TokenOk_l0_f (K n : Nat) (x : (Pat.ty s_TokenOk_l0_hd).Den) : Option ((outOf s_TokenOk_ps s_TokenOk_rs).Den ⊕ (Pat.ty s_TokenOk_l0_xp).Den) := s_TokenOk_l0 K n x.2.1 x.2.2.1
noncomputable def s_TokenOk_l0_an (K : Nat) : An (outOf s_TokenOk_ps s_TokenOk_rs) := .loop s_TokenOk_l0_hd s_TokenOk_l0_xp 0 (s_TokenOk_l0_f K K) .leaf
noncomputable def s_TokenOk_m (K : Nat) : Mdl := ⟨s_TokenOk_ps, s_TokenOk_rs, fun x => s_TokenOk K x.1⟩
noncomputable def s_TokenOk_l0_c : Code := loopAt [1, 1, 0, 1, 0, 9] (bodyOf Go.Proofs.Try.f114)
theorem s_TokenOk_l0_ok (K n : Nat) (x : (Pat.ty s_TokenOk_l0_hd).Den) : s_TokenOk_l0_f K (n + 1) x = round (env [(88, s_l01In_m K)] [] false 74) s_TokenOk_fin s_TokenOk_l0_hd s_TokenOk_l0_xp 0 s_TokenOk_l0_c .leaf (s_TokenOk_l0_f K n) x := by kernel_rfl
theorem s_TokenOk_ok (K : Nat) (x : (rowOf s_TokenOk_ps).Den) : evalFn (env [(88, s_l01In_m K)] [] false 74) s_TokenOk_fin (bodyOf Go.Proofs.Try.f114) (.seq .leaf (.seq .leaf (.seq (.seq .leaf (.block (s_TokenOk_l0_an K))) .leaf))) x = (s_TokenOk_m K).fn x := by kernel_rfl
theorem s_TokenOk_all (K : Nat) : (s_TokenOk_m K).ok = true ∧ Refines Go.Proofs.Try.prog 114 (s_TokenOk_m K) ∧ Callable Go.Proofs.Try.prog 114 := ⟨rfl, refines_of (E := (env [(88, s_l01In_m K)] [] false 74)) (envTy _ _ _ _) (fnsOf rfl ⟨s_l01In_all K, trivial⟩) (by kernel_rfl) Go.Proofs.Try.func114 rfl rfl s_TokenOk_fin rfl (by kernel_rfl) (.seq .leaf (.seq .leaf (.seq (.seq .leaf (.block (s_TokenOk_l0_an K))) .leaf))) ⟨(anLeaf _ _), ⟨(anLeaf _ _), ⟨⟨(anLeaf _ _), ⟨⟨s_TokenOk_l0_f K, K, rfl, fun _ => rfl, fun n x => s_TokenOk_l0_ok K n x⟩, (anLeaf _ _)⟩⟩, (anLeaf _ _)⟩⟩⟩ (s_TokenOk_ok K), ⟨_, _, Go.Proofs.Try.func114, rfl, by kernel_rfl⟩⟩
/-! loop.example/g00183/spec.MateOk -/
noncomputable def s_MateOk_ps : List PK := [.agg R_Mate]
noncomputable def s_MateOk_rs : List PK := [.val .bool]
noncomputable def s_MateOk_fin : Fin := ⟨s_MateOk_ps, s_MateOk_rs, [.tmp 2]⟩
noncomputable def s_MateOk_m (K : Nat) : Mdl := ⟨s_MateOk_ps, s_MateOk_rs, fun x => s_MateOk K x.1⟩
theorem s_MateOk_ok (K : Nat) (x : (rowOf s_MateOk_ps).Den) : evalFn (env [(60, s_l05In_m K), (74, s_AruOf_m K), (88, s_l01In_m K), (90, s_ItemsOk_m K), (111, s_RingOk_m K), (112, s_l10Texts_m K), (113, s_l10Blank_m K), (114, s_TokenOk_m K)] [] false 66) s_MateOk_fin (bodyOf Go.Proofs.Try.f73) .leaf x = (s_MateOk_m K).fn x := by kernel_rfl
theorem s_MateOk_all (K : Nat) : (s_MateOk_m K).ok = true ∧ Refines Go.Proofs.Try.prog 73 (s_MateOk_m K) ∧ Callable Go.Proofs.Try.prog 73 := ⟨rfl, refines_of (E := (env [(60, s_l05In_m K), (74, s_AruOf_m K), (88, s_l01In_m K), (90, s_ItemsOk_m K), (111, s_RingOk_m K), (112, s_l10Texts_m K), (113, s_l10Blank_m K), (114, s_TokenOk_m K)] [] false 66)) (envTy _ _ _ _) (fnsOf rfl ⟨s_l05In_all K, s_AruOf_all K, s_l01In_all K, s_ItemsOk_all K, s_RingOk_all K, s_l10Texts_all K, s_l10Blank_all K, s_TokenOk_all K, trivial⟩) (by kernel_rfl) Go.Proofs.Try.func73 rfl rfl s_MateOk_fin rfl (by kernel_rfl) .leaf (anLeaf _ _) (s_MateOk_ok K), ⟨_, _, Go.Proofs.Try.func73, rfl, by kernel_rfl⟩⟩
/-! loop.example/g00183/spec.l05CopyToken -/
noncomputable def s_l05CopyToken_ps : List PK := [.agg R_Token]
noncomputable def s_l05CopyToken_rs : List PK := [.agg (.cons (.int .i64) (.cons (.int .i64) (.cons (.int .i64) (.cons (.int .i64) (.cons (.int .i64) (.cons (.ow (.int .i64)) .nil))))))]
noncomputable def s_l05CopyToken_fin : Fin := ⟨s_l05CopyToken_ps, s_l05CopyToken_rs, [.cell 2 50]⟩
noncomputable def s_l05CopyToken_m (K : Nat) : Mdl := ⟨s_l05CopyToken_ps, s_l05CopyToken_rs, fun x => s_l05CopyToken K x.1⟩
theorem s_l05CopyToken_ok (K : Nat) (x : (rowOf s_l05CopyToken_ps).Den) : evalFn (env [] [] false 9) s_l05CopyToken_fin (bodyOf Go.Proofs.Try.f110) .leaf x = (s_l05CopyToken_m K).fn x := by kernel_rfl
theorem s_l05CopyToken_all (K : Nat) : (s_l05CopyToken_m K).ok = true ∧ Refines Go.Proofs.Try.prog 110 (s_l05CopyToken_m K) ∧ Callable Go.Proofs.Try.prog 110 := ⟨rfl, refines_of (E := (env [] [] false 9)) (envTy _ _ _ _) (fnsOf rfl trivial) (by kernel_rfl) Go.Proofs.Try.func110 rfl rfl s_l05CopyToken_fin rfl (by kernel_rfl) .leaf (anLeaf _ _) (s_l05CopyToken_ok K), ⟨_, _, Go.Proofs.Try.func110, rfl, by kernel_rfl⟩⟩
/-! loop.example/g00183/spec.l10Copy -/
noncomputable def s_l10Copy_ps : List PK := [.agg R_Mate]
noncomputable def s_l10Copy_rs : List PK := [.agg (.cons (.int .i64) (.cons (.cons (.int .i64) (.cons (.ow (.int .i64)) .nil)) (.cons (.ow R_Item) (.cons (.ow (.int .i64)) (.cons (.ow .str) (.cons (.int .i64) (.cons (.int .i64) (.cons (.int .i64) (.cons (.int .i64) (.cons (.cons (.int .i64) (.cons (.int .i64) (.cons (.int .i64) (.cons (.int .i64) (.cons (.int .i64) (.cons (.ow (.int .i64)) .nil)))))) .nil))))))))))]
noncomputable def s_l10Copy_fin : Fin := ⟨s_l10Copy_ps, s_l10Copy_rs, [.cell 2 52]⟩
noncomputable def s_l10Copy_m (K : Nat) : Mdl := ⟨s_l10Copy_ps, s_l10Copy_rs, fun x => s_l10Copy K x.1⟩
theorem s_l10Copy_ok (K : Nat) (x : (rowOf s_l10Copy_ps).Den) : evalFn (env [(110, s_l05CopyToken_m K)] [] false 30) s_l10Copy_fin (bodyOf Go.Proofs.Try.f72) .leaf x = (s_l10Copy_m K).fn x := by kernel_rfl
theorem s_l10Copy_all (K : Nat) : (s_l10Copy_m K).ok = true ∧ Refines Go.Proofs.Try.prog 72 (s_l10Copy_m K) ∧ Callable Go.Proofs.Try.prog 72 := ⟨rfl, refines_of (E := (env [(110, s_l05CopyToken_m K)] [] false 30)) (envTy _ _ _ _) (fnsOf rfl ⟨s_l05CopyToken_all K, trivial⟩) (by kernel_rfl) Go.Proofs.Try.func72 rfl rfl s_l10Copy_fin rfl (by kernel_rfl) .leaf (anLeaf _ _) (s_l10Copy_ok K), ⟨_, _, Go.Proofs.Try.func72, rfl, by kernel_rfl⟩⟩
/-! loop.example/g00183/spec.Say -/
noncomputable def s_Say_ps : List PK := [.agg R_Mate, .val (.int .i64), .val .str]
noncomputable def s_Say_rs : List PK := [.agg (.cons (.int .i64) (.cons (.cons (.int .i64) (.cons (.ow (.int .i64)) .nil)) (.cons (.ow R_Item) (.cons (.ow (.int .i64)) (.cons (.ow .str) (.cons (.int .i64) (.cons (.int .i64) (.cons (.int .i64) (.cons (.int .i64) (.cons (.cons (.int .i64) (.cons (.int .i64) (.cons (.int .i64) (.cons (.int .i64) (.cons (.int .i64) (.cons (.ow (.int .i64)) .nil)))))) .nil)))))))))), .val .bool]
noncomputable def s_Say_fin : Fin := ⟨s_Say_ps, s_Say_rs, [.cell 6 52, .tmp 7]⟩
noncomputable def s_Say_m (K : Nat) : Mdl := ⟨s_Say_ps, s_Say_rs, fun x => s_Say K x.1 x.2.1 x.2.2.1⟩
theorem s_Say_ok (K : Nat) (x : (rowOf s_Say_ps).Den) : evalFn (env [(72, s_l10Copy_m K), (73, s_MateOk_m K), (88, s_l01In_m K)] [] false 44) s_Say_fin (bodyOf Go.Proofs.Try.f148) .leaf x = (s_Say_m K).fn x := by kernel_rfl
theorem s_Say_all (K : Nat) : (s_Say_m K).ok = true ∧ Refines Go.Proofs.Try.prog 148 (s_Say_m K) ∧ Callable Go.Proofs.Try.prog 148 := ⟨rfl, refines_of (E := (env [(72, s_l10Copy_m K), (73, s_MateOk_m K), (88, s_l01In_m K)] [] false 44)) (envTy _ _ _ _) (fnsOf rfl ⟨s_l10Copy_all K, s_MateOk_all K, s_l01In_all K, trivial⟩) (by kernel_rfl) Go.Proofs.Try.func148 rfl rfl s_Say_fin rfl (by kernel_rfl) .leaf (anLeaf _ _) (s_Say_ok K), ⟨_, _, Go.Proofs.Try.func148, rfl, by kernel_rfl⟩⟩
/-! loop.example/g00183/spec.l11Mate -/
noncomputable def s_l11Mate_ps : List PK := [.ptr R_Work, .val (.int .i64), .agg R_Mate]
noncomputable def s_l11Mate_rs : List PK := []
noncomputable def s_l11Mate_fin : Fin := ⟨s_l11Mate_ps, s_l11Mate_rs, []⟩
noncomputable def s_l11Mate_m (K : Nat) : Mdl := ⟨s_l11Mate_ps, s_l11Mate_rs, fun x => s_l11Mate K x.1 x.2.1 x.2.2.1⟩
theorem s_l11Mate_ok (K : Nat) (x : (rowOf s_l11Mate_ps).Den) : evalFn (env [] [] false 21) s_l11Mate_fin (bodyOf Go.Proofs.Try.f149) .leaf x = (s_l11Mate_m K).fn x := by kernel_rfl
theorem s_l11Mate_all (K : Nat) : (s_l11Mate_m K).ok = true ∧ Refines Go.Proofs.Try.prog 149 (s_l11Mate_m K) ∧ Callable Go.Proofs.Try.prog 149 := ⟨rfl, refines_of (E := (env [] [] false 21)) (envTy _ _ _ _) (fnsOf rfl trivial) (by kernel_rfl) Go.Proofs.Try.func149 rfl rfl s_l11Mate_fin rfl (by kernel_rfl) .leaf (anLeaf _ _) (s_l11Mate_ok K), ⟨_, _, Go.Proofs.Try.func149, rfl, by kernel_rfl⟩⟩
/-! loop.example/g00183/spec.Hear -/
noncomputable def s_Hear_ps : List PK := [.agg R_Mate]
noncomputable def s_Hear_rs : List PK := [.agg (.cons (.int .i64) (.cons (.cons (.int .i64) (.cons (.ow (.int .i64)) .nil)) (.cons (.ow R_Item) (.cons (.ow (.int .i64)) (.cons (.ow .str) (.cons (.int .i64) (.cons (.int .i64) (.cons (.int .i64) (.cons (.int .i64) (.cons (.cons (.int .i64) (.cons (.int .i64) (.cons (.int .i64) (.cons (.int .i64) (.cons (.int .i64) (.cons (.ow (.int .i64)) .nil)))))) .nil)))))))))), .val (.ow R_Item)]
noncomputable def s_Hear_fin : Fin := ⟨s_Hear_ps, s_Hear_rs, [.cell 2 52, .tmp 3]⟩
noncomputable def s_Hear_l0_hd : Pat := [(1, .ptr 1 0), (2, .ptr 2 0), (4, .ptr 4 0), (5, .val (.ow R_Item)), (6, .val (.int .i64)), (1, .box R_Mate), (2, .box (.cons (.int .i64) (.cons (.cons (.int .i64) (.cons (.ow (.int .i64)) .nil)) (.cons (.ow R_Item) (.cons (.ow (.int .i64)) (.cons (.ow .str) (.cons (.int .i64) (.cons (.int .i64) (.cons (.int .i64) (.cons (.int .i64) (.cons (.cons (.int .i64) (.cons (.int .i64) (.cons (.int .i64) (.cons (.int .i64) (.cons (.int .i64) (.cons (.ow (.int .i64)) .nil)))))) .nil))))))))))), (4, .box (.cons (.int .i64) (.cons (.cons (.int .i64) (.cons (.ow (.int .i64)) .nil)) (.cons (.ow R_Item) (.cons (.ow (.int .i64)) (.cons (.ow .str) (.cons (.int .i64) (.cons (.int .i64) (.cons (.int .i64) (.cons (.int .i64) (.cons (.cons (.int .i64) (.cons (.int .i64) (.cons (.int .i64) (.cons (.int .i64) (.cons (.int .i64) (.cons (.ow (.int .i64)) .nil)))))) .nil)))))))))))]
noncomputable def s_Hear_l0_xp : Pat := [(2, .ptr 2 0), (4, .ptr 4 0), (5, .val (.ow R_Item)), (2, .box (.cons (.int .i64) (.cons (.cons (.int .i64) (.cons (.ow (.int .i64)) .nil)) (.cons (.ow R_Item) (.cons (.ow (.int .i64)) (.cons (.ow .str) (.cons (.int .i64) (.cons (.int .i64) (.cons (.int .i64) (.cons (.int .i64) (.cons (.cons (.int .i64) (.cons (.int .i64) (.cons (.int .i64) (.cons (.int .i64) (.cons (.int .i64) (.cons (.ow (.int .i64)) .nil)))))) .nil))))))))))), (4, .box (.cons (.int .i64) (.cons (.cons (.int .i64) (.cons (.ow (.int .i64)) .nil)) (.cons (.ow R_Item) (.cons (.ow (.int .i64)) (.cons (.ow .str) (.cons (.int .i64) (.cons (.int .i64) (.cons (.int .i64) (.cons (.int .i64) (.cons (.cons (.int .i64) (.cons (.int .i64) (.cons (.int .i64) (.cons (.int .i64) (.cons (.int .i64) (.cons (.ow (.int .i64)) .nil)))))) .nil)))))))))))]
noncomputable def s_Hear_l0_f (K n : Nat) (x : (Pat.ty s_Hear_l0_hd).Den) : Option ((outOf s_Hear_ps s_Hear_rs).Den ⊕ (Pat.ty s_Hear_l0_xp).Den) := s_Hear_l0 K n x.2.2.2.1 x.2.2.2.2.1 x.2.2.2.2.2.1 x.2.2.2.2.2.2.1 x.2.2.2.2.2.2.2.1
noncomputable def s_Hear_l0_an (K : Nat) : An (outOf s_Hear_ps s_Hear_rs) := .loop s_Hear_l0_hd s_Hear_l0_xp 0 (s_Hear_l0_f K K) .leaf
noncomputable def s_Hear_m (K : Nat) : Mdl := ⟨s_Hear_ps, s_Hear_rs, fun x => s_Hear K x.1⟩
noncomputable def s_Hear_l0_c : Code := loopAt [1, 1, 1, 1, 1, 0, 0, 9] (bodyOf Go.Proofs.Try.f25)
theorem s_Hear_l0_ok (K n : Nat) (x : (Pat.ty s_Hear_l0_hd).Den) : s_Hear_l0_f K (n + 1) x = round (env [(36, s_ItemAt_m K), (72, s_l10Copy_m K), (73, s_MateOk_m K), (74, s_AruOf_m K)] [] false 55) s_Hear_fin s_Hear_l0_hd s_Hear_l0_xp 0 s_Hear_l0_c .leaf (s_Hear_l0_f K n) x := by kernel_rfl
theorem s_Hear_ok (K : Nat) (x : (rowOf s_Hear_ps).Den) : evalFn (env [(36, s_ItemAt_m K), (72, s_l10Copy_m K), (73, s_MateOk_m K), (74, s_AruOf_m K)] [] false 55) s_Hear_fin (bodyOf Go.Proofs.Try.f25) (.seq .leaf (.seq .leaf (.seq .leaf (.seq .leaf (.seq .leaf (.seq (.block (s_Hear_l0_an K)) .leaf)))))) x = (s_Hear_m K).fn x := by kernel_rfl
theorem s_Hear_all (K : Nat) : (s_Hear_m K).ok = true ∧ Refines Go.Proofs.Try.prog 25 (s_Hear_m K) ∧ Callable Go.Proofs.Try.prog 25 := ⟨rfl, refines_of (E := (env [(36, s_ItemAt_m K), (72, s_l10Copy_m K), (73, s_MateOk_m K), (74, s_AruOf_m K)] [] false 55)) (envTy _ _ _ _) (fnsOf rfl ⟨s_ItemAt_all K, s_l10Copy_all K, s_MateOk_all K, s_AruOf_all K, trivial⟩) (by kernel_rfl) Go.Proofs.Try.func25 rfl rfl s_Hear_fin rfl (by kernel_rfl) (.seq .leaf (.seq .leaf (.seq .leaf (.seq .leaf (.seq .leaf (.seq (.block (s_Hear_l0_an K)) .leaf)))))) ⟨(anLeaf _ _), ⟨(anLeaf _ _), ⟨(anLeaf _ _), ⟨(anLeaf _ _), ⟨(anLeaf _ _), ⟨⟨⟨s_Hear_l0_f K, K, rfl, fun _ => rfl, fun n x => s_Hear_l0_ok K n x⟩, (anLeaf _ _)⟩, (anLeaf _ _)⟩⟩⟩⟩⟩⟩ (s_Hear_ok K), ⟨_, _, Go.Proofs.Try.func25, rfl, by kernel_rfl⟩⟩
/-! loop.example/g00183/spec.l11Hear -/
noncomputable def s_l11Hear_ps : List PK := [.ptr R_Work, .val (.int .i64)]
noncomputable def s_l11Hear_rs : List PK := []
noncomputable def s_l11Hear_fin : Fin := ⟨s_l11Hear_ps, s_l11Hear_rs, []⟩
noncomputable def s_l11Hear_m (K : Nat) : Mdl := ⟨s_l11Hear_ps, s_l11Hear_rs, fun x => s_l11Hear K x.1 x.2.1⟩
theorem s_l11Hear_ok (K : Nat) (x : (rowOf s_l11Hear_ps).Den) : evalFn (env [(25, s_Hear_m K), (149, s_l11Mate_m K)] [] false 43) s_l11Hear_fin (bodyOf Go.Proofs.Try.f150) .leaf x = (s_l11Hear_m K).fn x := by kernel_rfl
theorem s_l11Hear_all (K : Nat) : (s_l11Hear_m K).ok = true ∧ Refines Go.Proofs.Try.prog 150 (s_l11Hear_m K) ∧ Callable Go.Proofs.Try.prog 150 := ⟨rfl, refines_of (E := (env [(25, s_Hear_m K), (149, s_l11Mate_m K)] [] false 43)) (envTy _ _ _ _) (fnsOf rfl ⟨s_Hear_all K, s_l11Mate_all K, trivial⟩) (by kernel_rfl) Go.Proofs.Try.func150 rfl rfl s_l11Hear_fin rfl (by kernel_rfl) .leaf (anLeaf _ _) (s_l11Hear_ok K), ⟨_, _, Go.Proofs.Try.func150, rfl, by kernel_rfl⟩⟩
/-! loop.example/g00183/spec.NextOf -/
noncomputable def s_NextOf_ps : List PK := [.agg R_Ring, .val (.int .i64)]
noncomputable def s_NextOf_rs : List PK := [.val (.int .i64)]
noncomputable def s_NextOf_fin : Fin := ⟨s_NextOf_ps, s_NextOf_rs, [.tmp 4]⟩
noncomputable def s_NextOf_l0_hd : Pat := [(1, .val (.int .i64)), (2, .ptr 2 0), (5, .val (.int .i64)), (2, .box R_Ring)]
noncomputable def s_NextOf_l0_xp : Pat := []
noncomputable def s_NextOf_l0_f (K n : Nat) (x : (Pat.ty s_NextOf_l0_hd).Den) : Option ((outOf s_NextOf_ps s_NextOf_rs).Den ⊕ (Pat.ty s_NextOf_l0_xp).Den) := s_NextOf_l0 K n x.1 x.2.2.1 x.2.2.2.1
noncomputable def s_NextOf_l0_an (K : Nat) : An (outOf s_NextOf_ps s_NextOf_rs) := .loop s_NextOf_l0_hd s_NextOf_l0_xp 0 (s_NextOf_l0_f K K) .leaf
noncomputable def s_NextOf_m (K : Nat) : Mdl := ⟨s_NextOf_ps, s_NextOf_rs, fun x => s_NextOf K x.1 x.2.1⟩
noncomputable def s_NextOf_l0_c : Code := loopAt [1, 1, 0, 1, 0, 9] (bodyOf Go.Proofs.Try.f173)
theorem s_NextOf_l0_ok (K n : Nat) (x : (Pat.ty s_NextOf_l0_hd).Den) : s_NextOf_l0_f K (n + 1) x = round (env [(111, s_RingOk_m K)] [] false 33) s_NextOf_fin s_NextOf_l0_hd s_NextOf_l0_xp 0 s_NextOf_l0_c .leaf (s_NextOf_l0_f K n) x := by kernel_rfl
theorem s_NextOf_ok (K : Nat) (x : (rowOf s_NextOf_ps).Den) : evalFn (env [(111, s_RingOk_m K)] [] false 33) s_NextOf_fin (bodyOf Go.Proofs.Try.f173) (.seq .leaf (.seq .leaf (.seq (.seq .leaf (.block (s_NextOf_l0_an K))) .leaf))) x = (s_NextOf_m K).fn x := by kernel_rfl
theorem s_NextOf_all (K : Nat) : (s_NextOf_m K).ok = true ∧ Refines Go.Proofs.Try.prog 173 (s_NextOf_m K) ∧ Callable Go.Proofs.Try.prog 173 := ⟨rfl, refines_of (E := (env [(111, s_RingOk_m K)] [] false 33)) (envTy _ _ _ _) (fnsOf rfl ⟨s_RingOk_all K, trivial⟩) (by kernel_rfl) Go.Proofs.Try.func173 rfl rfl s_NextOf_fin rfl (by kernel_rfl) (.seq .leaf (.seq .leaf (.seq (.seq .leaf (.block (s_NextOf_l0_an K))) .leaf))) ⟨(anLeaf _ _), ⟨(anLeaf _ _), ⟨⟨(anLeaf _ _), ⟨⟨s_NextOf_l0_f K, K, rfl, fun _ => rfl, fun n x => s_NextOf_l0_ok K n x⟩, (anLeaf _ _)⟩⟩, (anLeaf _ _)⟩⟩⟩ (s_NextOf_ok K), ⟨_, _, Go.Proofs.Try.func173, rfl, by kernel_rfl⟩⟩
/-! loop.example/g00183/spec.l11Token -/
noncomputable def s_l11Token_ps : List PK := [.ptr R_Work, .val (.int .i64), .agg R_Token]
noncomputable def s_l11Token_rs : List PK := []
noncomputable def s_l11Token_fin : Fin := ⟨s_l11Token_ps, s_l11Token_rs, []⟩
noncomputable def s_l11Token_m (K : Nat) : Mdl := ⟨s_l11Token_ps, s_l11Token_rs, fun x => s_l11Token K x.1 x.2.1 x.2.2.1⟩
theorem s_l11Token_ok (K : Nat) (x : (rowOf s_l11Token_ps).Den) : evalFn (env [(110, s_l05CopyToken_m K), (173, s_NextOf_m K)] [] false 26) s_l11Token_fin (bodyOf Go.Proofs.Try.f157) .leaf x = (s_l11Token_m K).fn x := by kernel_rfl
theorem s_l11Token_all (K : Nat) : (s_l11Token_m K).ok = true ∧ Refines Go.Proofs.Try.prog 157 (s_l11Token_m K) ∧ Callable Go.Proofs.Try.prog 157 := ⟨rfl, refines_of (E := (env [(110, s_l05CopyToken_m K), (173, s_NextOf_m K)] [] false 26)) (envTy _ _ _ _) (fnsOf rfl ⟨s_l05CopyToken_all K, s_NextOf_all K, trivial⟩) (by kernel_rfl) Go.Proofs.Try.func157 rfl rfl s_l11Token_fin rfl (by kernel_rfl) .leaf (anLeaf _ _) (s_l11Token_ok K), ⟨_, _, Go.Proofs.Try.func157, rfl, by kernel_rfl⟩⟩
/-! loop.example/g00183/spec.l11Tell -/
noncomputable def s_l11Tell_ps : List PK := [.ptr R_Work, .val (.int .i64), .val (.sl R_Item)]
noncomputable def s_l11Tell_rs : List PK := []
noncomputable def s_l11Tell_fin : Fin := ⟨s_l11Tell_ps, s_l11Tell_rs, []⟩
noncomputable def s_l11Tell_l1_hd : Pat := [(0, .ptr 1000000000 0), (1, .val (.int .i64)), (2, .val (.sl R_Item)), (6, .val (.ow R_Fly)), (7, .val (.int .i64)), (8, .val (.int .i64)), (1000000000, .box R_Work)]
noncomputable def s_l11Tell_l1_xp : Pat := [(0, .ptr 1000000000 0), (1, .val (.int .i64)), (2, .val (.sl R_Item)), (6, .val (.ow R_Fly)), (7, .val (.int .i64)), (1000000000, .box R_Work)]
noncomputable def s_l11Tell_l1_f (K n : Nat) (x : (Pat.ty s_l11Tell_l1_hd).Den) : Option ((outOf s_l11Tell_ps s_l11Tell_rs).Den ⊕ (Pat.ty s_l11Tell_l1_xp).Den) := s_l11Tell_l1 K n x.2.1 x.2.2.1 x.2.2.2.1 x.2.2.2.2.1 x.2.2.2.2.2.1 x.2.2.2.2.2.2.1
noncomputable def s_l11Tell_l1_an (K : Nat) : An (outOf s_l11Tell_ps s_l11Tell_rs) := .loop s_l11Tell_l1_hd s_l11Tell_l1_xp 2 (s_l11Tell_l1_f K K) .leaf
noncomputable def s_l11Tell_l0_hd : Pat := [(0, .ptr 1000000000 0), (1, .val (.int .i64)), (2, .val (.sl R_Item)), (6, .val (.ow R_Fly)), (7, .val (.int .i64)), (1000000000, .box R_Work)]
noncomputable def s_l11Tell_l0_xp : Pat := [(0, .ptr 1000000000 0), (6, .val (.ow R_Fly)), (1000000000, .box R_Work)]
noncomputable def s_l11Tell_l0_f (K n : Nat) (x : (Pat.ty s_l11Tell_l0_hd).Den) : Option ((outOf s_l11Tell_ps s_l11Tell_rs).Den ⊕ (Pat.ty s_l11Tell_l0_xp).Den) := s_l11Tell_l0 K n x.2.1 x.2.2.1 x.2.2.2.1 x.2.2.2.2.1 x.2.2.2.2.2.1
noncomputable def s_l11Tell_l0_an (K : Nat) : An (outOf s_l11Tell_ps s_l11Tell_rs) := .loop s_l11Tell_l0_hd s_l11Tell_l0_xp 0 (s_l11Tell_l0_f K K) (.seq .leaf (.seq (.block (.seq .leaf (.block (s_l11Tell_l1_an K)))) .leaf))
noncomputable def s_l11Tell_m (K : Nat) : Mdl := ⟨s_l11Tell_ps, s_l11Tell_rs, fun x => s_l11Tell K x.1 x.2.1 x.2.2.1⟩
noncomputable def s_l11Tell_l1_c : Code := loopAt [1, 0, 1, 0, 0, 1, 0, 0, 1, 0, 9] (bodyOf Go.Proofs.Try.f158)
theorem s_l11Tell_l1_ok (K n : Nat) (x : (Pat.ty s_l11Tell_l1_hd).Den) : s_l11Tell_l1_f K (n + 1) x = round (env [] [] false 60) s_l11Tell_fin s_l11Tell_l1_hd s_l11Tell_l1_xp 2 s_l11Tell_l1_c .leaf (s_l11Tell_l1_f K n) x := by kernel_rfl
noncomputable def s_l11Tell_l0_c : Code := loopAt [1, 0, 1, 0, 9] (bodyOf Go.Proofs.Try.f158)
theorem s_l11Tell_l0_ok (K n : Nat) (x : (Pat.ty s_l11Tell_l0_hd).Den) : s_l11Tell_l0_f K (n + 1) x = round (env [] [] false 60) s_l11Tell_fin s_l11Tell_l0_hd s_l11Tell_l0_xp 0 s_l11Tell_l0_c (.seq .leaf (.seq (.block (.seq .leaf (.block (s_l11Tell_l1_an K)))) .leaf)) (s_l11Tell_l0_f K n) x := by kernel_rfl
theorem s_l11Tell_ok (K : Nat) (x : (rowOf s_l11Tell_ps).Den) : evalFn (env [] [] false 60) s_l11Tell_fin (bodyOf Go.Proofs.Try.f158) (.seq .leaf (.seq (.seq .leaf (.block (s_l11Tell_l0_an K))) .leaf)) x = (s_l11Tell_m K).fn x := by kernel_rfl
theorem s_l11Tell_all (K : Nat) : (s_l11Tell_m K).ok = true ∧ Refines Go.Proofs.Try.prog 158 (s_l11Tell_m K) ∧ Callable Go.Proofs.Try.prog 158 := ⟨rfl, refines_of (E := (env [] [] false 60)) (envTy _ _ _ _) (fnsOf rfl trivial) (by kernel_rfl) Go.Proofs.Try.func158 rfl rfl s_l11Tell_fin rfl (by kernel_rfl) (.seq .leaf (.seq (.seq .leaf (.block (s_l11Tell_l0_an K))) .leaf)) ⟨(anLeaf _ _), ⟨⟨(anLeaf _ _), ⟨⟨s_l11Tell_l0_f K, K, rfl, fun _ => rfl, fun n x => s_l11Tell_l0_ok K n x⟩, ⟨(anLeaf _ _), ⟨⟨(anLeaf _ _), ⟨⟨s_l11Tell_l1_f K, K, rfl, fun _ => rfl, fun n x => s_l11Tell_l1_ok K n x⟩, (anLeaf _ _)⟩⟩, (anLeaf _ _)⟩⟩⟩⟩, (anLeaf _ _)⟩⟩ (s_l11Tell_ok K), ⟨_, _, Go.Proofs.Try.func158, rfl, by kernel_rfl⟩⟩
/-! loop.example/g00183/spec.l11Again -/
noncomputable def s_l11Again_ps : List PK := [.ptr R_Work, .val (.int .i64)]
noncomputable def s_l11Again_rs : List PK := [.val (.int .i64)]
noncomputable def s_l11Again_fin : Fin := ⟨s_l11Again_ps, s_l11Again_rs, [.tmp 4]⟩
noncomputable def s_l11Again_l0_hd : Pat := [(0, .ptr 1000000000 0), (5, .ptr 5 0), (6, .val (.ow R_Item)), (7, .val (.int .i64)), (5, .box R_Mate), (1000000000, .box R_Work)]
noncomputable def s_l11Again_l0_xp : Pat := [(0, .ptr 1000000000 0), (5, .ptr 5 0), (6, .val (.ow R_Item)), (5, .box R_Mate), (1000000000, .box R_Work)]
noncomputable def s_l11Again_l0_f (K n : Nat) (x : (Pat.ty s_l11Again_l0_hd).Den) : Option ((outOf s_l11Again_ps s_l11Again_rs).Den ⊕ (Pat.ty s_l11Again_l0_xp).Den) := s_l11Again_l0 K n x.2.2.1 x.2.2.2.1 x.2.2.2.2.1 x.2.2.2.2.2.1
noncomputable def s_l11Again_l0_an (K : Nat) : An (outOf s_l11Again_ps s_l11Again_rs) := .loop s_l11Again_l0_hd s_l11Again_l0_xp 0 (s_l11Again_l0_f K K) .leaf
noncomputable def s_l11Again_m (K : Nat) : Mdl := ⟨s_l11Again_ps, s_l11Again_rs, fun x => s_l11Again K x.1 x.2.1⟩
noncomputable def s_l11Again_l0_c : Code := loopAt [1, 1, 1, 1, 0, 1, 0, 9] (bodyOf Go.Proofs.Try.f151)
theorem s_l11Again_l0_ok (K n : Nat) (x : (Pat.ty s_l11Again_l0_hd).Den) : s_l11Again_l0_f K (n + 1) x = round (env [(113, s_l10Blank_m K), (157, s_l11Token_m K), (158, s_l11Tell_m K)] [] false 54) s_l11Again_fin s_l11Again_l0_hd s_l11Again_l0_xp 0 s_l11Again_l0_c .leaf (s_l11Again_l0_f K n) x := by kernel_rfl
theorem s_l11Again_ok (K : Nat) (x : (rowOf s_l11Again_ps).Den) : evalFn (env [(113, s_l10Blank_m K), (157, s_l11Token_m K), (158, s_l11Tell_m K)] [] false 54) s_l11Again_fin (bodyOf Go.Proofs.Try.f151) (.seq .leaf (.seq .leaf (.seq .leaf (.seq .leaf (.seq (.seq .leaf (.block (s_l11Again_l0_an K))) .leaf))))) x = (s_l11Again_m K).fn x := by kernel_rfl
theorem s_l11Again_all (K : Nat) : (s_l11Again_m K).ok = true ∧ Refines Go.Proofs.Try.prog 151 (s_l11Again_m K) ∧ Callable Go.Proofs.Try.prog 151 := ⟨rfl, refines_of (E := (env [(113, s_l10Blank_m K), (157, s_l11Token_m K), (158, s_l11Tell_m K)] [] false 54)) (envTy _ _ _ _) (fnsOf rfl ⟨s_l10Blank_all K, s_l11Token_all K, s_l11Tell_all K, trivial⟩) (by kernel_rfl) Go.Proofs.Try.func151 rfl rfl s_l11Again_fin rfl (by kernel_rfl) (.seq .leaf (.seq .leaf (.seq .leaf (.seq .leaf (.seq (.seq .leaf (.block (s_l11Again_l0_an K))) .leaf))))) ⟨(anLeaf _ _), ⟨(anLeaf _ _), ⟨(anLeaf _ _), ⟨(anLeaf _ _), ⟨⟨(anLeaf _ _), ⟨⟨s_l11Again_l0_f K, K, rfl, fun _ => rfl, fun n x => s_l11Again_l0_ok K n x⟩, (anLeaf _ _)⟩⟩, (anLeaf _ _)⟩⟩⟩⟩⟩ (s_l11Again_ok K), ⟨_, _, Go.Proofs.Try.func151, rfl, by kernel_rfl⟩⟩
/-! loop.example/g00183/spec.PutItem -/
noncomputable def s_PutItem_ps : List PK := [.val (.sl R_Item), .agg R_Item]
noncomputable def s_PutItem_rs : List PK := [.val (.ow R_Item)]
noncomputable def s_PutItem_fin : Fin := ⟨s_PutItem_ps, s_PutItem_rs, [.tmp 4]⟩
noncomputable def s_PutItem_l0_hd : Pat := [(0, .val (.sl R_Item)), (3, .ptr 3 0), (5, .val (.ow R_Item)), (6, .val (.ow R_Item)), (7, .val (.int .i64)), (3, .box R_Item)]
noncomputable def s_PutItem_l0_xp : Pat := [(0, .val (.sl R_Item)), (3, .ptr 3 0), (6, .val (.ow R_Item)), (3, .box R_Item)]
noncomputable def s_PutItem_l0_f (K n : Nat) (x : (Pat.ty s_PutItem_l0_hd).Den) : Option ((outOf s_PutItem_ps s_PutItem_rs).Den ⊕ (Pat.ty s_PutItem_l0_xp).Den) := s_PutItem_l0 K n x.1 x.2.2.1 x.2.2.2.1 x.2.2.2.2.1 x.2.2.2.2.2.1
noncomputable def s_PutItem_l0_an (K : Nat) : An (outOf s_PutItem_ps s_PutItem_rs) := .loop s_PutItem_l0_hd s_PutItem_l0_xp 0 (s_PutItem_l0_f K K) .leaf
noncomputable def s_PutItem_l1_hd : Pat := [(0, .val (.sl R_Item)), (3, .ptr 3 0), (6, .val (.ow R_Item)), (8, .val (.int .i64)), (3, .box R_Item)]
noncomputable def s_PutItem_l1_xp : Pat := [(6, .val (.ow R_Item))]
noncomputable def s_PutItem_l1_f (K n : Nat) (x : (Pat.ty s_PutItem_l1_hd).Den) : Option ((outOf s_PutItem_ps s_PutItem_rs).Den ⊕ (Pat.ty s_PutItem_l1_xp).Den) := s_PutItem_l1 K n x.1 x.2.2.1 x.2.2.2.1 x.2.2.2.2.1
noncomputable def s_PutItem_l1_an (K : Nat) : An (outOf s_PutItem_ps s_PutItem_rs) := .loop s_PutItem_l1_hd s_PutItem_l1_xp 2 (s_PutItem_l1_f K K) .leaf
noncomputable def s_PutItem_m (K : Nat) : Mdl := ⟨s_PutItem_ps, s_PutItem_rs, fun x => s_PutItem K x.1 x.2.1⟩
noncomputable def s_PutItem_l0_c : Code := loopAt [1, 1, 1, 1, 0, 1, 0, 9] (bodyOf Go.Proofs.Try.f174)
theorem s_PutItem_l0_ok (K n : Nat) (x : (Pat.ty s_PutItem_l0_hd).Den) : s_PutItem_l0_f K (n + 1) x = round (env [(37, s_ItemOk_m K), (90, s_ItemsOk_m K)] [] false 78) s_PutItem_fin s_PutItem_l0_hd s_PutItem_l0_xp 0 s_PutItem_l0_c .leaf (s_PutItem_l0_f K n) x := by kernel_rfl
noncomputable def s_PutItem_l1_c : Code := loopAt [1, 1, 1, 1, 1, 1, 0, 1, 0, 9] (bodyOf Go.Proofs.Try.f174)
theorem s_PutItem_l1_ok (K n : Nat) (x : (Pat.ty s_PutItem_l1_hd).Den) : s_PutItem_l1_f K (n + 1) x = round (env [(37, s_ItemOk_m K), (90, s_ItemsOk_m K)] [] false 78) s_PutItem_fin s_PutItem_l1_hd s_PutItem_l1_xp 2 s_PutItem_l1_c .leaf (s_PutItem_l1_f K n) x := by kernel_rfl
theorem s_PutItem_ok (K : Nat) (x : (rowOf s_PutItem_ps).Den) : evalFn (env [(37, s_ItemOk_m K), (90, s_ItemsOk_m K)] [] false 78) s_PutItem_fin (bodyOf Go.Proofs.Try.f174) (.seq .leaf (.seq .leaf (.seq .leaf (.seq .leaf (.seq (.seq .leaf (.block (s_PutItem_l0_an K))) (.seq .leaf (.seq (.seq .leaf (.block (s_PutItem_l1_an K))) .leaf))))))) x = (s_PutItem_m K).fn x := by kernel_rfl
theorem s_PutItem_all (K : Nat) : (s_PutItem_m K).ok = true ∧ Refines Go.Proofs.Try.prog 174 (s_PutItem_m K) ∧ Callable Go.Proofs.Try.prog 174 := ⟨rfl, refines_of (E := (env [(37, s_ItemOk_m K), (90, s_ItemsOk_m K)] [] false 78)) (envTy _ _ _ _) (fnsOf rfl ⟨s_ItemOk_all K, s_ItemsOk_all K, trivial⟩) (by kernel_rfl) Go.Proofs.Try.func174 rfl rfl s_PutItem_fin rfl (by kernel_rfl) (.seq .leaf (.seq .leaf (.seq .leaf (.seq .leaf (.seq (.seq .leaf (.block (s_PutItem_l0_an K))) (.seq .leaf (.seq (.seq .leaf (.block (s_PutItem_l1_an K))) .leaf))))))) ⟨(anLeaf _ _), ⟨(anLeaf _ _), ⟨(anLeaf _ _), ⟨(anLeaf _ _), ⟨⟨(anLeaf _ _), ⟨⟨s_PutItem_l0_f K, K, rfl, fun _ => rfl, fun n x => s_PutItem_l0_ok K n x⟩, (anLeaf _ _)⟩⟩, ⟨(anLeaf _ _), ⟨⟨(anLeaf _ _), ⟨⟨s_PutItem_l1_f K, K, rfl, fun _ => rfl, fun n x => s_PutItem_l1_ok K n x⟩, (anLeaf _ _)⟩⟩, (anLeaf _ _)⟩⟩⟩⟩⟩⟩⟩ (s_PutItem_ok K), ⟨_, _, Go.Proofs.Try.func174, rfl, by kernel_rfl⟩⟩
/-! loop.example/g00183/spec.Catch -/
noncomputable def s_Catch_ps : List PK := [.agg R_Mate, .agg R_Item]
noncomputable def s_Catch_rs : List PK := [.agg (.cons (.int .i64) (.cons (.cons (.int .i64) (.cons (.ow (.int .i64)) .nil)) (.cons (.ow R_Item) (.cons (.ow (.int .i64)) (.cons (.ow .str) (.cons (.int .i64) (.cons (.int .i64) (.cons (.int .i64) (.cons (.int .i64) (.cons (.cons (.int .i64) (.cons (.int .i64) (.cons (.int .i64) (.cons (.int .i64) (.cons (.int .i64) (.cons (.ow (.int .i64)) .nil)))))) .nil))))))))))]
noncomputable def s_Catch_fin : Fin := ⟨s_Catch_ps, s_Catch_rs, [.cell 4 52]⟩
noncomputable def s_Catch_m (K : Nat) : Mdl := ⟨s_Catch_ps, s_Catch_rs, fun x => s_Catch K x.1 x.2.1⟩
theorem s_Catch_ok (K : Nat) (x : (rowOf s_Catch_ps).Den) : evalFn (env [(72, s_l10Copy_m K), (73, s_MateOk_m K), (174, s_PutItem_m K)] [] false 16) s_Catch_fin (bodyOf Go.Proofs.Try.f159) .leaf x = (s_Catch_m K).fn x := by kernel_rfl
theorem s_Catch_all (K : Nat) : (s_Catch_m K).ok = true ∧ Refines Go.Proofs.Try.prog 159 (s_Catch_m K) ∧ Callable Go.Proofs.Try.prog 159 := ⟨rfl, refines_of (E := (env [(72, s_l10Copy_m K), (73, s_MateOk_m K), (174, s_PutItem_m K)] [] false 16)) (envTy _ _ _ _) (fnsOf rfl ⟨s_l10Copy_all K, s_MateOk_all K, s_PutItem_all K, trivial⟩) (by kernel_rfl) Go.Proofs.Try.func159 rfl rfl s_Catch_fin rfl (by kernel_rfl) .leaf (anLeaf _ _) (s_Catch_ok K), ⟨_, _, Go.Proofs.Try.func159, rfl, by kernel_rfl⟩⟩
/-! loop.example/g00183/spec.Give -/
noncomputable def s_Give_ps : List PK := [.agg R_Token, .val (.sl R_Item)]
noncomputable def s_Give_rs : List PK := [.val (.ow R_Item)]
noncomputable def s_Give_fin : Fin := ⟨s_Give_ps, s_Give_rs, [.tmp 4]⟩
noncomputable def s_Give_l0_hd : Pat := [(1, .val (.sl R_Item)), (2, .ptr 2 0), (5, .val (.ow R_Item)), (6, .val (.int .i64)), (2, .box R_Token)]
noncomputable def s_Give_l0_xp : Pat := [(5, .val (.ow R_Item))]
noncomputable def s_Give_l0_f (K n : Nat) (x : (Pat.ty s_Give_l0_hd).Den) : Option ((outOf s_Give_ps s_Give_rs).Den ⊕ (Pat.ty s_Give_l0_xp).Den) := s_Give_l0 K n x.1 x.2.2.1 x.2.2.2.1 x.2.2.2.2.1
noncomputable def s_Give_l0_an (K : Nat) : An (outOf s_Give_ps s_Give_rs) := .loop s_Give_l0_hd s_Give_l0_xp 0 (s_Give_l0_f K K) .leaf
noncomputable def s_Give_m (K : Nat) : Mdl := ⟨s_Give_ps, s_Give_rs, fun x => s_Give K x.1 x.2.1⟩
noncomputable def s_Give_l0_c : Code := loopAt [1, 1, 0, 1, 0, 9] (bodyOf Go.Proofs.Try.f175)
theorem s_Give_l0_ok (K n : Nat) (x : (Pat.ty s_Give_l0_hd).Den) : s_Give_l0_f K (n + 1) x = round (env [(60, s_l05In_m K)] [] false 30) s_Give_fin s_Give_l0_hd s_Give_l0_xp 0 s_Give_l0_c .leaf (s_Give_l0_f K n) x := by kernel_rfl
theorem s_Give_ok (K : Nat) (x : (rowOf s_Give_ps).Den) : evalFn (env [(60, s_l05In_m K)] [] false 30) s_Give_fin (bodyOf Go.Proofs.Try.f175) (.seq .leaf (.seq .leaf (.seq (.seq .leaf (.block (s_Give_l0_an K))) .leaf))) x = (s_Give_m K).fn x := by kernel_rfl
theorem s_Give_all (K : Nat) : (s_Give_m K).ok = true ∧ Refines Go.Proofs.Try.prog 175 (s_Give_m K) ∧ Callable Go.Proofs.Try.prog 175 := ⟨rfl, refines_of (E := (env [(60, s_l05In_m K)] [] false 30)) (envTy _ _ _ _) (fnsOf rfl ⟨s_l05In_all K, trivial⟩) (by kernel_rfl) Go.Proofs.Try.func175 rfl rfl s_Give_fin rfl (by kernel_rfl) (.seq .leaf (.seq .leaf (.seq (.seq .leaf (.block (s_Give_l0_an K))) .leaf))) ⟨(anLeaf _ _), ⟨(anLeaf _ _), ⟨⟨(anLeaf _ _), ⟨⟨s_Give_l0_f K, K, rfl, fun _ => rfl, fun n x => s_Give_l0_ok K n x⟩, (anLeaf _ _)⟩⟩, (anLeaf _ _)⟩⟩⟩ (s_Give_ok K), ⟨_, _, Go.Proofs.Try.func175, rfl, by kernel_rfl⟩⟩
/-! loop.example/g00183/spec.Number -/
noncomputable def s_Number_ps : List PK := [.agg R_Token, .val (.int .i64), .val (.sl (.int .i64)), .val (.sl .str)]
noncomputable def s_Number_rs : List PK := [.agg (.cons (.int .i64) (.cons (.int .i64) (.cons (.int .i64) (.cons (.int .i64) (.cons (.int .i64) (.cons (.ow (.int .i64)) .nil)))))), .val (.ow R_Item)]
noncomputable def s_Number_fin : Fin := ⟨s_Number_ps, s_Number_rs, [.cell 8 50, .tmp 9]⟩
noncomputable def s_Number_l0_hd : Pat := [(1, .val (.int .i64)), (2, .val (.sl (.int .i64))), (3, .val (.sl .str)), (4, .ptr 4 0), (8, .ptr 8 0), (10, .ptr 10 0), (11, .val (.ow R_Item)), (12, .val (.int .i64)), (4, .box R_Token), (8, .box (.cons (.int .i64) (.cons (.int .i64) (.cons (.int .i64) (.cons (.int .i64) (.cons (.int .i64) (.cons (.ow (.int .i64)) .nil))))))), (10, .box (.cons (.int .i64) (.cons (.int .i64) (.cons (.int .i64) (.cons (.int .i64) (.cons (.int .i64) (.cons (.ow (.int .i64)) .nil)))))))]
noncomputable def s_Number_l0_xp : Pat := [(4, .ptr 4 0), (8, .ptr 8 0), (10, .ptr 10 0), (11, .val (.ow R_Item)), (4, .box R_Token), (8, .box (.cons (.int .i64) (.cons (.int .i64) (.cons (.int .i64) (.cons (.int .i64) (.cons (.int .i64) (.cons (.ow (.int .i64)) .nil))))))), (10, .box (.cons (.int .i64) (.cons (.int .i64) (.cons (.int .i64) (.cons (.int .i64) (.cons (.int .i64) (.cons (.ow (.int .i64)) .nil)))))))]
noncomputable def s_Number_l0_f (K n : Nat) (x : (Pat.ty s_Number_l0_hd).Den) : Option ((outOf s_Number_ps s_Number_rs).Den ⊕ (Pat.ty s_Number_l0_xp).Den) := s_Number_l0 K n x.1 x.2.1 x.2.2.1 x.2.2.2.2.2.2.1 x.2.2.2.2.2.2.2.1 x.2.2.2.2.2.2.2.2.1 x.2.2.2.2.2.2.2.2.2.1 x.2.2.2.2.2.2.2.2.2.2.1
noncomputable def s_Number_l0_an (K : Nat) : An (outOf s_Number_ps s_Number_rs) := .loop s_Number_l0_hd s_Number_l0_xp 0 (s_Number_l0_f K K) .leaf
noncomputable def s_Number_m (K : Nat) : Mdl := ⟨s_Number_ps, s_Number_rs, fun x => s_Number K x.1 x.2.1 x.2.2.1 x.2.2.2.1⟩
noncomputable def s_Number_l0_c : Code := loopAt [1, 1, 1, 1, 0, 1, 0, 9] (bodyOf Go.Proofs.Try.f176)
theorem s_Number_l0_ok (K n : Nat) (x : (Pat.ty s_Number_l0_hd).Den) : s_Number_l0_f K (n + 1) x = round (env [(88, s_l01In_m K), (110, s_l05CopyToken_m K), (114, s_TokenOk_m K)] [] false 93) s_Number_fin s_Number_l0_hd s_Number_l0_xp 0 s_Number_l0_c .leaf (s_Number_l0_f K n) x := by kernel_rfl
theorem s_Number_ok (K : Nat) (x : (rowOf s_Number_ps).Den) : evalFn (env [(88, s_l01In_m K), (110, s_l05CopyToken_m K), (114, s_TokenOk_m K)] [] false 93) s_Number_fin (bodyOf Go.Proofs.Try.f176) (.seq .leaf (.seq .leaf (.seq .leaf (.seq .leaf (.seq (.seq .leaf (.block (s_Number_l0_an K))) .leaf))))) x = (s_Number_m K).fn x := by kernel_rfl
theorem s_Number_all (K : Nat) : (s_Number_m K).ok = true ∧ Refines Go.Proofs.Try.prog 176 (s_Number_m K) ∧ Callable Go.Proofs.Try.prog 176 := ⟨rfl, refines_of (E := (env [(88, s_l01In_m K), (110, s_l05CopyToken_m K), (114, s_TokenOk_m K)] [] false 93)) (envTy _ _ _ _) (fnsOf rfl ⟨s_l01In_all K, s_l05CopyToken_all K, s_TokenOk_all K, trivial⟩) (by kernel_rfl) Go.Proofs.Try.func176 rfl rfl s_Number_fin rfl (by kernel_rfl) (.seq .leaf (.seq .leaf (.seq .leaf (.seq .leaf (.seq (.seq .leaf (.block (s_Number_l0_an K))) .leaf))))) ⟨(anLeaf _ _), ⟨(anLeaf _ _), ⟨(anLeaf _ _), ⟨(anLeaf _ _), ⟨⟨(anLeaf _ _), ⟨⟨s_Number_l0_f K, K, rfl, fun _ => rfl, fun n x => s_Number_l0_ok K n x⟩, (anLeaf _ _)⟩⟩, (anLeaf _ _)⟩⟩⟩⟩⟩ (s_Number_ok K), ⟨_, _, Go.Proofs.Try.func176, rfl, by kernel_rfl⟩⟩
/-! loop.example/g00183/spec.Mark -/
noncomputable def s_Mark_ps : List PK := [.agg R_Token, .val (.int .i64), .val (.int .i64)]
noncomputable def s_Mark_rs : List PK := [.agg (.cons (.int .i64) (.cons (.int .i64) (.cons (.int .i64) (.cons (.int .i64) (.cons (.int .i64) (.cons (.ow (.int .i64)) .nil))))))]
noncomputable def s_Mark_fin : Fin := ⟨s_Mark_ps, s_Mark_rs, [.cell 6 50]⟩
noncomputable def s_Mark_m (K : Nat) : Mdl := ⟨s_Mark_ps, s_Mark_rs, fun x => s_Mark K x.1 x.2.1 x.2.2.1⟩
theorem s_Mark_ok (K : Nat) (x : (rowOf s_Mark_ps).Den) : evalFn (env [(88, s_l01In_m K), (110, s_l05CopyToken_m K), (114, s_TokenOk_m K)] [] false 53) s_Mark_fin (bodyOf Go.Proofs.Try.f177) .leaf x = (s_Mark_m K).fn x := by kernel_rfl
theorem s_Mark_all (K : Nat) : (s_Mark_m K).ok = true ∧ Refines Go.Proofs.Try.prog 177 (s_Mark_m K) ∧ Callable Go.Proofs.Try.prog 177 := ⟨rfl, refines_of (E := (env [(88, s_l01In_m K), (110, s_l05CopyToken_m K), (114, s_TokenOk_m K)] [] false 53)) (envTy _ _ _ _) (fnsOf rfl ⟨s_l01In_all K, s_l05CopyToken_all K, s_TokenOk_all K, trivial⟩) (by kernel_rfl) Go.Proofs.Try.func177 rfl rfl s_Mark_fin rfl (by kernel_rfl) .leaf (anLeaf _ _) (s_Mark_ok K), ⟨_, _, Go.Proofs.Try.func177, rfl, by kernel_rfl⟩⟩
/-! loop.example/g00183/spec.Missing -/
noncomputable def s_Missing_ps : List PK := [.val (.sl R_Item), .val (.int .i64)]
noncomputable def s_Missing_rs : List PK := [.val (.ow (.int .i64))]
noncomputable def s_Missing_fin : Fin := ⟨s_Missing_ps, s_Missing_rs, [.tmp 4]⟩
noncomputable def s_Missing_l0_hd : Pat := [(0, .val (.sl R_Item)), (1, .val (.int .i64)), (5, .val (.ow (.int .i64))), (6, .val (.int .i64))]
noncomputable def s_Missing_l0_xp : Pat := [(5, .val (.ow (.int .i64)))]
noncomputable def s_Missing_l0_f (K n : Nat) (x : (Pat.ty s_Missing_l0_hd).Den) : Option ((outOf s_Missing_ps s_Missing_rs).Den ⊕ (Pat.ty s_Missing_l0_xp).Den) := s_Missing_l0 K n x.1 x.2.1 x.2.2.1 x.2.2.2.1
noncomputable def s_Missing_l0_an (K : Nat) : An (outOf s_Missing_ps s_Missing_rs) := .loop s_Missing_l0_hd s_Missing_l0_xp 0 (s_Missing_l0_f K K) .leaf
noncomputable def s_Missing_m (K : Nat) : Mdl := ⟨s_Missing_ps, s_Missing_rs, fun x => s_Missing K x.1 x.2.1⟩
noncomputable def s_Missing_l0_c : Code := loopAt [1, 1, 1, 0, 1, 0, 9] (bodyOf Go.Proofs.Try.f185)
theorem s_Missing_l0_ok (K n : Nat) (x : (Pat.ty s_Missing_l0_hd).Den) : s_Missing_l0_f K (n + 1) x = round (env [(36, s_ItemAt_m K), (74, s_AruOf_m K)] [] false 38) s_Missing_fin s_Missing_l0_hd s_Missing_l0_xp 0 s_Missing_l0_c .leaf (s_Missing_l0_f K n) x := by kernel_rfl
theorem s_Missing_ok (K : Nat) (x : (rowOf s_Missing_ps).Den) : evalFn (env [(36, s_ItemAt_m K), (74, s_AruOf_m K)] [] false 38) s_Missing_fin (bodyOf Go.Proofs.Try.f185) (.seq .leaf (.seq .leaf (.seq .leaf (.seq (.seq .leaf (.block (s_Missing_l0_an K))) .leaf)))) x = (s_Missing_m K).fn x := by kernel_rfl
theorem s_Missing_all (K : Nat) : (s_Missing_m K).ok = true ∧ Refines Go.Proofs.Try.prog 185 (s_Missing_m K) ∧ Callable Go.Proofs.Try.prog 185 := ⟨rfl, refines_of (E := (env [(36, s_ItemAt_m K), (74, s_AruOf_m K)] [] false 38)) (envTy _ _ _ _) (fnsOf rfl ⟨s_ItemAt_all K, s_AruOf_all K, trivial⟩) (by kernel_rfl) Go.Proofs.Try.func185 rfl rfl s_Missing_fin rfl (by kernel_rfl) (.seq .leaf (.seq .leaf (.seq .leaf (.seq (.seq .leaf (.block (s_Missing_l0_an K))) .leaf)))) ⟨(anLeaf _ _), ⟨(anLeaf _ _), ⟨(anLeaf _ _), ⟨⟨(anLeaf _ _), ⟨⟨s_Missing_l0_f K, K, rfl, fun _ => rfl, fun n x => s_Missing_l0_ok K n x⟩, (anLeaf _ _)⟩⟩, (anLeaf _ _)⟩⟩⟩⟩ (s_Missing_ok K), ⟨_, _, Go.Proofs.Try.func185, rfl, by kernel_rfl⟩⟩
/-! loop.example/g00183/spec.Lacks -/
noncomputable def s_Lacks_ps : List PK := [.agg R_Token, .val (.sl R_Item)]
noncomputable def s_Lacks_rs : List PK := [.agg (.cons (.int .i64) (.cons (.int .i64) (.cons (.int .i64) (.cons (.int .i64) (.cons (.int .i64) (.cons (.ow (.int .i64)) .nil))))))]
noncomputable def s_Lacks_fin : Fin := ⟨s_Lacks_ps, s_Lacks_rs, [.cell 4 50]⟩
noncomputable def s_Lacks_l0_hd : Pat := [(1, .val (.sl R_Item)), (2, .ptr 2 0), (4, .ptr 4 0), (5, .ptr 5 0), (6, .val (.ow (.int .i64))), (7, .val (.int .i64)), (2, .box R_Token), (4, .box (.cons (.int .i64) (.cons (.int .i64) (.cons (.int .i64) (.cons (.int .i64) (.cons (.int .i64) (.cons (.ow (.int .i64)) .nil))))))), (5, .box (.cons (.int .i64) (.cons (.int .i64) (.cons (.int .i64) (.cons (.int .i64) (.cons (.int .i64) (.cons (.ow (.int .i64)) .nil)))))))]
noncomputable def s_Lacks_l0_xp : Pat := [(4, .ptr 4 0), (5, .ptr 5 0), (4, .box (.cons (.int .i64) (.cons (.int .i64) (.cons (.int .i64) (.cons (.int .i64) (.cons (.int .i64) (.cons (.ow (.int .i64)) .nil))))))), (5, .box (.cons (.int .i64) (.cons (.int .i64) (.cons (.int .i64) (.cons (.int .i64) (.cons (.int .i64) (.cons (.ow (.int .i64)) .nil)))))))]
noncomputable def s_Lacks_l0_f (K n : Nat) (x : (Pat.ty s_Lacks_l0_hd).Den) : Option ((outOf s_Lacks_ps s_Lacks_rs).Den ⊕ (Pat.ty s_Lacks_l0_xp).Den) := s_Lacks_l0 K n x.1 x.2.2.2.2.1 x.2.2.2.2.2.1 x.2.2.2.2.2.2.1 x.2.2.2.2.2.2.2.1 x.2.2.2.2.2.2.2.2.1
noncomputable def s_Lacks_l0_an (K : Nat) : An (outOf s_Lacks_ps s_Lacks_rs) := .loop s_Lacks_l0_hd s_Lacks_l0_xp 0 (s_Lacks_l0_f K K) .leaf
noncomputable def s_Lacks_m (K : Nat) : Mdl := ⟨s_Lacks_ps, s_Lacks_rs, fun x => s_Lacks K x.1 x.2.1⟩
noncomputable def s_Lacks_l0_c : Code := loopAt [1, 1, 1, 0, 1, 0, 9] (bodyOf Go.Proofs.Try.f178)
theorem s_Lacks_l0_ok (K n : Nat) (x : (Pat.ty s_Lacks_l0_hd).Den) : s_Lacks_l0_f K (n + 1) x = round (env [(36, s_ItemAt_m K), (60, s_l05In_m K), (185, s_Missing_m K)] [] false 61) s_Lacks_fin s_Lacks_l0_hd s_Lacks_l0_xp 0 s_Lacks_l0_c .leaf (s_Lacks_l0_f K n) x := by kernel_rfl
theorem s_Lacks_ok (K : Nat) (x : (rowOf s_Lacks_ps).Den) : evalFn (env [(36, s_ItemAt_m K), (60, s_l05In_m K), (185, s_Missing_m K)] [] false 61) s_Lacks_fin (bodyOf Go.Proofs.Try.f178) (.seq .leaf (.seq .leaf (.seq .leaf (.seq (.seq .leaf (.block (s_Lacks_l0_an K))) .leaf)))) x = (s_Lacks_m K).fn x := by kernel_rfl
theorem s_Lacks_all (K : Nat) : (s_Lacks_m K).ok = true ∧ Refines Go.Proofs.Try.prog 178 (s_Lacks_m K) ∧ Callable Go.Proofs.Try.prog 178 := ⟨rfl, refines_of (E := (env [(36, s_ItemAt_m K), (60, s_l05In_m K), (185, s_Missing_m K)] [] false 61)) (envTy _ _ _ _) (fnsOf rfl ⟨s_ItemAt_all K, s_l05In_all K, s_Missing_all K, trivial⟩) (by kernel_rfl) Go.Proofs.Try.func178 rfl rfl s_Lacks_fin rfl (by kernel_rfl) (.seq .leaf (.seq .leaf (.seq .leaf (.seq (.seq .leaf (.block (s_Lacks_l0_an K))) .leaf)))) ⟨(anLeaf _ _), ⟨(anLeaf _ _), ⟨(anLeaf _ _), ⟨⟨(anLeaf _ _), ⟨⟨s_Lacks_l0_f K, K, rfl, fun _ => rfl, fun n x => s_Lacks_l0_ok K n x⟩, (anLeaf _ _)⟩⟩, (anLeaf _ _)⟩⟩⟩⟩ (s_Lacks_ok K), ⟨_, _, Go.Proofs.Try.func178, rfl, by kernel_rfl⟩⟩
/-! loop.example/g00183/spec.Hold -/
noncomputable def s_Hold_ps : List PK := [.agg R_Mate, .agg R_Token]
noncomputable def s_Hold_rs : List PK := [.agg (.cons (.int .i64) (.cons (.cons (.int .i64) (.cons (.ow (.int .i64)) .nil)) (.cons (.ow R_Item) (.cons (.ow (.int .i64)) (.cons (.ow .str) (.cons (.int .i64) (.cons (.int .i64) (.cons (.int .i64) (.cons (.int .i64) (.cons (.cons (.int .i64) (.cons (.int .i64) (.cons (.int .i64) (.cons (.int .i64) (.cons (.int .i64) (.cons (.ow (.int .i64)) .nil)))))) .nil)))))))))), .val (.ow R_Item), .agg (.cons (.int .i64) (.cons (.int .i64) (.cons (.int .i64) (.cons (.int .i64) (.cons (.int .i64) (.cons (.ow (.int .i64)) .nil)))))), .val .bool]
noncomputable def s_Hold_fin : Fin := ⟨s_Hold_ps, s_Hold_rs, [.cell 4 52, .tmp 5, .cell 6 50, .tmp 7]⟩
noncomputable def s_Hold_l0_hd : Pat := [(2, .ptr 2 0), (3, .ptr 3 0), (4, .ptr 4 0), (6, .ptr 6 0), (8, .ptr 8 0), (9, .val (.ow R_Item)), (10, .ptr 10 0), (11, .val (.ow R_Item)), (12, .val (.int .i64)), (2, .box R_Mate), (3, .box R_Token), (4, .box (.cons (.int .i64) (.cons (.cons (.int .i64) (.cons (.ow (.int .i64)) .nil)) (.cons (.ow R_Item) (.cons (.ow (.int .i64)) (.cons (.ow .str) (.cons (.int .i64) (.cons (.int .i64) (.cons (.int .i64) (.cons (.int .i64) (.cons (.cons (.int .i64) (.cons (.int .i64) (.cons (.int .i64) (.cons (.int .i64) (.cons (.int .i64) (.cons (.ow (.int .i64)) .nil)))))) .nil))))))))))), (6, .box (.cons (.int .i64) (.cons (.int .i64) (.cons (.int .i64) (.cons (.int .i64) (.cons (.int .i64) (.cons (.ow (.int .i64)) .nil))))))), (8, .box (.cons (.int .i64) (.cons (.cons (.int .i64) (.cons (.ow (.int .i64)) .nil)) (.cons (.ow R_Item) (.cons (.ow (.int .i64)) (.cons (.ow .str) (.cons (.int .i64) (.cons (.int .i64) (.cons (.int .i64) (.cons (.int .i64) (.cons (.cons (.int .i64) (.cons (.int .i64) (.cons (.int .i64) (.cons (.int .i64) (.cons (.int .i64) (.cons (.ow (.int .i64)) .nil)))))) .nil))))))))))), (10, .box (.cons (.int .i64) (.cons (.int .i64) (.cons (.int .i64) (.cons (.int .i64) (.cons (.int .i64) (.cons (.ow (.int .i64)) .nil)))))))]
noncomputable def s_Hold_l0_xp : Pat := [(2, .ptr 2 0), (3, .ptr 3 0), (4, .ptr 4 0), (6, .ptr 6 0), (8, .ptr 8 0), (9, .val (.ow R_Item)), (10, .ptr 10 0), (11, .val (.ow R_Item)), (2, .box R_Mate), (3, .box R_Token), (4, .box (.cons (.int .i64) (.cons (.cons (.int .i64) (.cons (.ow (.int .i64)) .nil)) (.cons (.ow R_Item) (.cons (.ow (.int .i64)) (.cons (.ow .str) (.cons (.int .i64) (.cons (.int .i64) (.cons (.int .i64) (.cons (.int .i64) (.cons (.cons (.int .i64) (.cons (.int .i64) (.cons (.int .i64) (.cons (.int .i64) (.cons (.int .i64) (.cons (.ow (.int .i64)) .nil)))))) .nil))))))))))), (6, .box (.cons (.int .i64) (.cons (.int .i64) (.cons (.int .i64) (.cons (.int .i64) (.cons (.int .i64) (.cons (.ow (.int .i64)) .nil))))))), (8, .box (.cons (.int .i64) (.cons (.cons (.int .i64) (.cons (.ow (.int .i64)) .nil)) (.cons (.ow R_Item) (.cons (.ow (.int .i64)) (.cons (.ow .str) (.cons (.int .i64) (.cons (.int .i64) (.cons (.int .i64) (.cons (.int .i64) (.cons (.cons (.int .i64) (.cons (.int .i64) (.cons (.int .i64) (.cons (.int .i64) (.cons (.int .i64) (.cons (.ow (.int .i64)) .nil)))))) .nil))))))))))), (10, .box (.cons (.int .i64) (.cons (.int .i64) (.cons (.int .i64) (.cons (.int .i64) (.cons (.int .i64) (.cons (.ow (.int .i64)) .nil)))))))]
noncomputable def s_Hold_l0_f (K n : Nat) (x : (Pat.ty s_Hold_l0_hd).Den) : Option ((outOf s_Hold_ps s_Hold_rs).Den ⊕ (Pat.ty s_Hold_l0_xp).Den) := s_Hold_l0 K n x.2.2.2.2.2.1 x.2.2.2.2.2.2.2.1 x.2.2.2.2.2.2.2.2.1 x.2.2.2.2.2.2.2.2.2.1 x.2.2.2.2.2.2.2.2.2.2.1 x.2.2.2.2.2.2.2.2.2.2.2.1 x.2.2.2.2.2.2.2.2.2.2.2.2.1 x.2.2.2.2.2.2.2.2.2.2.2.2.2.1 x.2.2.2.2.2.2.2.2.2.2.2.2.2.2.1
noncomputable def s_Hold_l0_an (K : Nat) : An (outOf s_Hold_ps s_Hold_rs) := .loop s_Hold_l0_hd s_Hold_l0_xp 0 (s_Hold_l0_f K K) .leaf
noncomputable def s_Hold_m (K : Nat) : Mdl := ⟨s_Hold_ps, s_Hold_rs, fun x => s_Hold K x.1 x.2.1⟩
noncomputable def s_Hold_l0_c : Code := loopAt [1, 1, 1, 1, 1, 1, 1, 1, 0, 1, 0, 9] (bodyOf Go.Proofs.Try.f160)
theorem s_Hold_l0_ok (K n : Nat) (x : (Pat.ty s_Hold_l0_hd).Den) : s_Hold_l0_f K (n + 1) x = round (env [(72, s_l10Copy_m K), (73, s_MateOk_m K), (74, s_AruOf_m K), (110, s_l05CopyToken_m K), (114, s_TokenOk_m K), (174, s_PutItem_m K), (175, s_Give_m K), (176, s_Number_m K), (177, s_Mark_m K), (178, s_Lacks_m K)] [] false 145) s_Hold_fin s_Hold_l0_hd s_Hold_l0_xp 0 s_Hold_l0_c .leaf (s_Hold_l0_f K n) x := by kernel_rfl
theorem s_Hold_ok (K : Nat) (x : (rowOf s_Hold_ps).Den) : evalFn (env [(72, s_l10Copy_m K), (73, s_MateOk_m K), (74, s_AruOf_m K), (110, s_l05CopyToken_m K), (114, s_TokenOk_m K), (174, s_PutItem_m K), (175, s_Give_m K), (176, s_Number_m K), (177, s_Mark_m K), (178, s_Lacks_m K)] [] false 145) s_Hold_fin (bodyOf Go.Proofs.Try.f160) (.seq .leaf (.seq .leaf (.seq .leaf (.seq .leaf (.seq .leaf (.seq .leaf (.seq .leaf (.seq .leaf (.seq (.seq .leaf (.block (s_Hold_l0_an K))) .leaf))))))))) x = (s_Hold_m K).fn x := by kernel_rfl
theorem s_Hold_all (K : Nat) : (s_Hold_m K).ok = true ∧ Refines Go.Proofs.Try.prog 160 (s_Hold_m K) ∧ Callable Go.Proofs.Try.prog 160 := ⟨rfl, refines_of (E := (env [(72, s_l10Copy_m K), (73, s_MateOk_m K), (74, s_AruOf_m K), (110, s_l05CopyToken_m K), (114, s_TokenOk_m K), (174, s_PutItem_m K), (175, s_Give_m K), (176, s_Number_m K), (177, s_Mark_m K), (178, s_Lacks_m K)] [] false 145)) (envTy _ _ _ _) (fnsOf rfl ⟨s_l10Copy_all K, s_MateOk_all K, s_AruOf_all K, s_l05CopyToken_all K, s_TokenOk_all K, s_PutItem_all K, s_Give_all K, s_Number_all K, s_Mark_all K, s_Lacks_all K, trivial⟩) (by kernel_rfl) Go.Proofs.Try.func160 rfl rfl s_Hold_fin rfl (by kernel_rfl) (.seq .leaf (.seq .leaf (.seq .leaf (.seq .leaf (.seq .leaf (.seq .leaf (.seq .leaf (.seq .leaf (.seq (.seq .leaf (.block (s_Hold_l0_an K))) .leaf))))))))) ⟨(anLeaf _ _), ⟨(anLeaf _ _), ⟨(anLeaf _ _), ⟨(anLeaf _ _), ⟨(anLeaf _ _), ⟨(anLeaf _ _), ⟨(anLeaf _ _), ⟨(anLeaf _ _), ⟨⟨(anLeaf _ _), ⟨⟨s_Hold_l0_f K, K, rfl, fun _ => rfl, fun n x => s_Hold_l0_ok K n x⟩, (anLeaf _ _)⟩⟩, (anLeaf _ _)⟩⟩⟩⟩⟩⟩⟩⟩⟩ (s_Hold_ok K), ⟨_, _, Go.Proofs.Try.func160, rfl, by kernel_rfl⟩⟩
/-! loop.example/g00183/spec.l11Come -/
noncomputable def s_l11Come_ps : List PK := [.ptr R_Work, .agg R_Fly]
noncomputable def s_l11Come_rs : List PK := [.val (.int .i64)]
noncomputable def s_l11Come_fin : Fin := ⟨s_l11Come_ps, s_l11Come_rs, [.tmp 4]⟩
noncomputable def s_l11Come_l0_hd : Pat := [(0, .ptr 1000000000 0), (3, .ptr 3 0), (7, .val (.ow R_Item)), (8, .ptr 8 0), (10, .val (.int .i64)), (3, .box R_Fly), (8, .box (.cons (.int .i64) (.cons (.int .i64) (.cons (.int .i64) (.cons (.int .i64) (.cons (.int .i64) (.cons (.ow (.int .i64)) .nil))))))), (1000000000, .box R_Work)]
noncomputable def s_l11Come_l0_xp : Pat := [(0, .ptr 1000000000 0), (3, .ptr 3 0), (7, .val (.ow R_Item)), (8, .ptr 8 0), (3, .box R_Fly), (8, .box (.cons (.int .i64) (.cons (.int .i64) (.cons (.int .i64) (.cons (.int .i64) (.cons (.int .i64) (.cons (.ow (.int .i64)) .nil))))))), (1000000000, .box R_Work)]
noncomputable def s_l11Come_l0_f (K n : Nat) (x : (Pat.ty s_l11Come_l0_hd).Den) : Option ((outOf s_l11Come_ps s_l11Come_rs).Den ⊕ (Pat.ty s_l11Come_l0_xp).Den) := s_l11Come_l0 K n x.2.2.1 x.2.2.2.2.1 x.2.2.2.2.2.1 x.2.2.2.2.2.2.1 x.2.2.2.2.2.2.2.1
noncomputable def s_l11Come_l0_an (K : Nat) : An (outOf s_l11Come_ps s_l11Come_rs) := .loop s_l11Come_l0_hd s_l11Come_l0_xp 0 (s_l11Come_l0_f K K) .leaf
noncomputable def s_l11Come_m (K : Nat) : Mdl := ⟨s_l11Come_ps, s_l11Come_rs, fun x => s_l11Come K x.1 x.2.1⟩
noncomputable def s_l11Come_l0_c : Code := loopAt [1, 1, 1, 1, 1, 1, 1, 0, 1, 0, 9] (bodyOf Go.Proofs.Try.f152)
theorem s_l11Come_l0_ok (K n : Nat) (x : (Pat.ty s_l11Come_l0_hd).Den) : s_l11Come_l0_f K (n + 1) x = round (env [(66, s_l11At_m K), (149, s_l11Mate_m K), (157, s_l11Token_m K), (158, s_l11Tell_m K), (159, s_Catch_m K), (160, s_Hold_m K)] [] false 94) s_l11Come_fin s_l11Come_l0_hd s_l11Come_l0_xp 0 s_l11Come_l0_c .leaf (s_l11Come_l0_f K n) x := by kernel_rfl
theorem s_l11Come_ok (K : Nat) (x : (rowOf s_l11Come_ps).Den) : evalFn (env [(66, s_l11At_m K), (149, s_l11Mate_m K), (157, s_l11Token_m K), (158, s_l11Tell_m K), (159, s_Catch_m K), (160, s_Hold_m K)] [] false 94) s_l11Come_fin (bodyOf Go.Proofs.Try.f152) (.seq .leaf (.seq .leaf (.seq .leaf (.seq .leaf (.seq .leaf (.seq .leaf (.seq .leaf (.seq (.seq .leaf (.block (s_l11Come_l0_an K))) .leaf)))))))) x = (s_l11Come_m K).fn x := by kernel_rfl
theorem s_l11Come_all (K : Nat) : (s_l11Come_m K).ok = true ∧ Refines Go.Proofs.Try.prog 152 (s_l11Come_m K) ∧ Callable Go.Proofs.Try.prog 152 := ⟨rfl, refines_of (E := (env [(66, s_l11At_m K), (149, s_l11Mate_m K), (157, s_l11Token_m K), (158, s_l11Tell_m K), (159, s_Catch_m K), (160, s_Hold_m K)] [] false 94)) (envTy _ _ _ _) (fnsOf rfl ⟨s_l11At_all K, s_l11Mate_all K, s_l11Token_all K, s_l11Tell_all K, s_Catch_all K, s_Hold_all K, trivial⟩) (by kernel_rfl) Go.Proofs.Try.func152 rfl rfl s_l11Come_fin rfl (by kernel_rfl) (.seq .leaf (.seq .leaf (.seq .leaf (.seq .leaf (.seq .leaf (.seq .leaf (.seq .leaf (.seq (.seq .leaf (.block (s_l11Come_l0_an K))) .leaf)))))))) ⟨(anLeaf _ _), ⟨(anLeaf _ _), ⟨(anLeaf _ _), ⟨(anLeaf _ _), ⟨(anLeaf _ _), ⟨(anLeaf _ _), ⟨(anLeaf _ _), ⟨⟨(anLeaf _ _), ⟨⟨s_l11Come_l0_f K, K, rfl, fun _ => rfl, fun n x => s_l11Come_l0_ok K n x⟩, (anLeaf _ _)⟩⟩, (anLeaf _ _)⟩⟩⟩⟩⟩⟩⟩⟩ (s_l11Come_ok K), ⟨_, _, Go.Proofs.Try.func152, rfl, by kernel_rfl⟩⟩
/-! loop.example/g00183/spec.l11Do -/
noncomputable def s_l11Do_ps : List PK := [.ptr R_Work, .agg R_Turn]
noncomputable def s_l11Do_rs : List PK := [.val (.int .i64)]
noncomputable def s_l11Do_fin : Fin := ⟨s_l11Do_ps, s_l11Do_rs, [.tmp 4]⟩
noncomputable def s_l11Do_m (K : Nat) : Mdl := ⟨s_l11Do_ps, s_l11Do_rs, fun x => s_l11Do K x.1 x.2.1⟩
theorem s_l11Do_ok (K : Nat) (x : (rowOf s_l11Do_ps).Den) : evalFn (env [(66, s_l11At_m K), (148, s_Say_m K), (149, s_l11Mate_m K), (150, s_l11Hear_m K), (151, s_l11Again_m K), (152, s_l11Come_m K)] [] false 110) s_l11Do_fin (bodyOf Go.Proofs.Try.f132) .leaf x = (s_l11Do_m K).fn x := by kernel_rfl
theorem s_l11Do_all (K : Nat) : (s_l11Do_m K).ok = true ∧ Refines Go.Proofs.Try.prog 132 (s_l11Do_m K) ∧ Callable Go.Proofs.Try.prog 132 := ⟨rfl, refines_of (E := (env [(66, s_l11At_m K), (148, s_Say_m K), (149, s_l11Mate_m K), (150, s_l11Hear_m K), (151, s_l11Again_m K), (152, s_l11Come_m K)] [] false 110)) (envTy _ _ _ _) (fnsOf rfl ⟨s_l11At_all K, s_Say_all K, s_l11Mate_all K, s_l11Hear_all K, s_l11Again_all K, s_l11Come_all K, trivial⟩) (by kernel_rfl) Go.Proofs.Try.func132 rfl rfl s_l11Do_fin rfl (by kernel_rfl) .leaf (anLeaf _ _) (s_l11Do_ok K), ⟨_, _, Go.Proofs.Try.func132, rfl, by kernel_rfl⟩⟩
/-! loop.example/g00183/spec.l11Draw -/
noncomputable def s_l11Draw_ps : List PK := [.ptr R_l01Cur, .val (.sl (.int .u8))]
noncomputable def s_l11Draw_rs : List PK := [.agg (.cons R_Ring (.cons (.ow R_Turn) .nil))]
noncomputable def s_l11Draw_fin : Fin := ⟨s_l11Draw_ps, s_l11Draw_rs, [.cell 4 145]⟩
noncomputable def s_l11Draw_l0_hd : Pat := [(0, .ptr 1000000000 0), (1, .val (.sl (.int .u8))), (4, .ptr 4 0), (5, .ptr 5 0), (6, .ptr 6 0), (8, .val (.int .i64)), (4, .box (.cons (.cons (.int .i64) (.cons (.ow (.int .i64)) .nil)) (.cons (.ow R_Turn) .nil))), (5, .box (.cons R_Ring (.cons (.ow R_Turn) .nil))), (6, .box R_Work), (1000000000, .box R_l01Cur)]
noncomputable def s_l11Draw_l0_xp : Pat := [(4, .ptr 4 0), (5, .ptr 5 0), (4, .box (.cons (.cons (.int .i64) (.cons (.ow (.int .i64)) .nil)) (.cons (.ow R_Turn) .nil))), (5, .box (.cons R_Ring (.cons (.ow R_Turn) .nil))), (1000000000, .box R_l01Cur)]
noncomputable def s_l11Draw_l0_f (K n : Nat) (x : (Pat.ty s_l11Draw_l0_hd).Den) : Option ((outOf s_l11Draw_ps s_l11Draw_rs).Den ⊕ (Pat.ty s_l11Draw_l0_xp).Den) := s_l11Draw_l0 K n x.2.1 x.2.2.2.2.2.1 x.2.2.2.2.2.2.1 x.2.2.2.2.2.2.2.1 x.2.2.2.2.2.2.2.2.1 x.2.2.2.2.2.2.2.2.2.1
noncomputable def s_l11Draw_l0_an (K : Nat) : An (outOf s_l11Draw_ps s_l11Draw_rs) := .loop s_l11Draw_l0_hd s_l11Draw_l0_xp 0 (s_l11Draw_l0_f K K) .leaf
noncomputable def s_l11Draw_m (K : Nat) : Mdl := ⟨s_l11Draw_ps, s_l11Draw_rs, fun x => s_l11Draw K x.1 x.2.1⟩
noncomputable def s_l11Draw_l0_c : Code := loopAt [1, 1, 1, 0, 1, 0, 9] (bodyOf Go.Proofs.Try.f103)
theorem s_l11Draw_l0_ok (K n : Nat) (x : (Pat.ty s_l11Draw_l0_hd).Den) : s_l11Draw_l0_f K (n + 1) x = round (env [(82, s_l09Ring_m K), (129, s_WorkNew_m K), (130, s_l11Size_m K), (131, s_l11Next_m K), (132, s_l11Do_m K)] [] false 36) s_l11Draw_fin s_l11Draw_l0_hd s_l11Draw_l0_xp 0 s_l11Draw_l0_c .leaf (s_l11Draw_l0_f K n) x := by kernel_rfl
theorem s_l11Draw_ok (K : Nat) (x : (rowOf s_l11Draw_ps).Den) : evalFn (env [(82, s_l09Ring_m K), (129, s_WorkNew_m K), (130, s_l11Size_m K), (131, s_l11Next_m K), (132, s_l11Do_m K)] [] false 36) s_l11Draw_fin (bodyOf Go.Proofs.Try.f103) (.seq .leaf (.seq .leaf (.seq .leaf (.seq (.seq .leaf (.block (s_l11Draw_l0_an K))) .leaf)))) x = (s_l11Draw_m K).fn x := by kernel_rfl
theorem s_l11Draw_all (K : Nat) : (s_l11Draw_m K).ok = true ∧ Refines Go.Proofs.Try.prog 103 (s_l11Draw_m K) ∧ Callable Go.Proofs.Try.prog 103 := ⟨rfl, refines_of (E := (env [(82, s_l09Ring_m K), (129, s_WorkNew_m K), (130, s_l11Size_m K), (131, s_l11Next_m K), (132, s_l11Do_m K)] [] false 36)) (envTy _ _ _ _) (fnsOf rfl ⟨s_l09Ring_all K, s_WorkNew_all K, s_l11Size_all K, s_l11Next_all K, s_l11Do_all K, trivial⟩) (by kernel_rfl) Go.Proofs.Try.func103 rfl rfl s_l11Draw_fin rfl (by kernel_rfl) (.seq .leaf (.seq .leaf (.seq .leaf (.seq (.seq .leaf (.block (s_l11Draw_l0_an K))) .leaf)))) ⟨(anLeaf _ _), ⟨(anLeaf _ _), ⟨(anLeaf _ _), ⟨⟨(anLeaf _ _), ⟨⟨s_l11Draw_l0_f K, K, rfl, fun _ => rfl, fun n x => s_l11Draw_l0_ok K n x⟩, (anLeaf _ _)⟩⟩, (anLeaf _ _)⟩⟩⟩⟩ (s_l11Draw_ok K), ⟨_, _, Go.Proofs.Try.func103, rfl, by kernel_rfl⟩⟩
/-! loop.example/g00183/spec.TurnOk -/
noncomputable def s_TurnOk_ps : List PK := [.agg R_Ring, .agg R_Turn]
noncomputable def s_TurnOk_rs : List PK := [.val .bool]
noncomputable def s_TurnOk_fin : Fin := ⟨s_TurnOk_ps, s_TurnOk_rs, [.tmp 4]⟩
noncomputable def s_TurnOk_m (K : Nat) : Mdl := ⟨s_TurnOk_ps, s_TurnOk_rs, fun x => s_TurnOk K x.1 x.2.1⟩
theorem s_TurnOk_ok (K : Nat) (x : (rowOf s_TurnOk_ps).Den) : evalFn (env [(60, s_l05In_m K), (88, s_l01In_m K), (111, s_RingOk_m K)] [] false 47) s_TurnOk_fin (bodyOf Go.Proofs.Try.f133) .leaf x = (s_TurnOk_m K).fn x := by kernel_rfl
theorem s_TurnOk_all (K : Nat) : (s_TurnOk_m K).ok = true ∧ Refines Go.Proofs.Try.prog 133 (s_TurnOk_m K) ∧ Callable Go.Proofs.Try.prog 133 := ⟨rfl, refines_of (E := (env [(60, s_l05In_m K), (88, s_l01In_m K), (111, s_RingOk_m K)] [] false 47)) (envTy _ _ _ _) (fnsOf rfl ⟨s_l05In_all K, s_l01In_all K, s_RingOk_all K, trivial⟩) (by kernel_rfl) Go.Proofs.Try.func133 rfl rfl s_TurnOk_fin rfl (by kernel_rfl) .leaf (anLeaf _ _) (s_TurnOk_ok K), ⟨_, _, Go.Proofs.Try.func133, rfl, by kernel_rfl⟩⟩
/-! loop.example/g00183/spec.l11Copy -/
noncomputable def s_l11Copy_ps : List PK := [.agg R_Work]
noncomputable def s_l11Copy_rs : List PK := [.agg (.cons (.cons (.int .i64) (.cons (.ow (.int .i64)) .nil)) (.cons (.ow R_Mate) (.cons (.ow R_Fly) (.cons (.ow (.sl R_Item)) (.cons (.ow R_Item) .nil)))))]
noncomputable def s_l11Copy_fin : Fin := ⟨s_l11Copy_ps, s_l11Copy_rs, [.cell 2 105]⟩
noncomputable def s_l11Copy_l0_hd : Pat := [(1, .ptr 1 0), (2, .ptr 2 0), (3, .ptr 3 0), (4, .val (.int .i64)), (1, .box R_Work), (2, .box (.cons (.cons (.int .i64) (.cons (.ow (.int .i64)) .nil)) (.cons (.ow R_Mate) (.cons (.ow R_Fly) (.cons (.ow (.sl R_Item)) (.cons (.ow R_Item) .nil)))))), (3, .box (.cons (.cons (.int .i64) (.cons (.ow (.int .i64)) .nil)) (.cons (.ow R_Mate) (.cons (.ow R_Fly) (.cons (.ow (.sl R_Item)) (.cons (.ow R_Item) .nil))))))]
noncomputable def s_l11Copy_l0_xp : Pat := [(1, .ptr 1 0), (2, .ptr 2 0), (3, .ptr 3 0), (1, .box R_Work), (2, .box (.cons (.cons (.int .i64) (.cons (.ow (.int .i64)) .nil)) (.cons (.ow R_Mate) (.cons (.ow R_Fly) (.cons (.ow (.sl R_Item)) (.cons (.ow R_Item) .nil)))))), (3, .box (.cons (.cons (.int .i64) (.cons (.ow (.int .i64)) .nil)) (.cons (.ow R_Mate) (.cons (.ow R_Fly) (.cons (.ow (.sl R_Item)) (.cons (.ow R_Item) .nil))))))]
noncomputable def s_l11Copy_l0_f (K n : Nat) (x : (Pat.ty s_l11Copy_l0_hd).Den) : Option ((outOf s_l11Copy_ps s_l11Copy_rs).Den ⊕ (Pat.ty s_l11Copy_l0_xp).Den) := s_l11Copy_l0 K n x.2.2.2.1 x.2.2.2.2.1 x.2.2.2.2.2.1 x.2.2.2.2.2.2.1
noncomputable def s_l11Copy_l0_an (K : Nat) : An (outOf s_l11Copy_ps s_l11Copy_rs) := .loop s_l11Copy_l0_hd s_l11Copy_l0_xp 0 (s_l11Copy_l0_f K K) .leaf
noncomputable def s_l11Copy_l1_hd : Pat := [(1, .ptr 1 0), (2, .ptr 2 0), (3, .ptr 3 0), (5, .val (.int .i64)), (1, .box R_Work), (2, .box (.cons (.cons (.int .i64) (.cons (.ow (.int .i64)) .nil)) (.cons (.ow R_Mate) (.cons (.ow R_Fly) (.cons (.ow (.sl R_Item)) (.cons (.ow R_Item) .nil)))))), (3, .box (.cons (.cons (.int .i64) (.cons (.ow (.int .i64)) .nil)) (.cons (.ow R_Mate) (.cons (.ow R_Fly) (.cons (.ow (.sl R_Item)) (.cons (.ow R_Item) .nil))))))]
noncomputable def s_l11Copy_l1_xp : Pat := [(1, .ptr 1 0), (2, .ptr 2 0), (3, .ptr 3 0), (1, .box R_Work), (2, .box (.cons (.cons (.int .i64) (.cons (.ow (.int .i64)) .nil)) (.cons (.ow R_Mate) (.cons (.ow R_Fly) (.cons (.ow (.sl R_Item)) (.cons (.ow R_Item) .nil)))))), (3, .box (.cons (.cons (.int .i64) (.cons (.ow (.int .i64)) .nil)) (.cons (.ow R_Mate) (.cons (.ow R_Fly) (.cons (.ow (.sl R_Item)) (.cons (.ow R_Item) .nil))))))]
noncomputable def s_l11Copy_l1_f (K n : Nat) (x : (Pat.ty s_l11Copy_l1_hd).Den) : Option ((outOf s_l11Copy_ps s_l11Copy_rs).Den ⊕ (Pat.ty s_l11Copy_l1_xp).Den) := s_l11Copy_l1 K n x.2.2.2.1 x.2.2.2.2.1 x.2.2.2.2.2.1 x.2.2.2.2.2.2.1
noncomputable def s_l11Copy_l1_an (K : Nat) : An (outOf s_l11Copy_ps s_l11Copy_rs) := .loop s_l11Copy_l1_hd s_l11Copy_l1_xp 2 (s_l11Copy_l1_f K K) .leaf
noncomputable def s_l11Copy_l2_hd : Pat := [(1, .ptr 1 0), (2, .ptr 2 0), (3, .ptr 3 0), (7, .val (.int .i64)), (1, .box R_Work), (2, .box (.cons (.cons (.int .i64) (.cons (.ow (.int .i64)) .nil)) (.cons (.ow R_Mate) (.cons (.ow R_Fly) (.cons (.ow (.sl R_Item)) (.cons (.ow R_Item) .nil)))))), (3, .box (.cons (.cons (.int .i64) (.cons (.ow (.int .i64)) .nil)) (.cons (.ow R_Mate) (.cons (.ow R_Fly) (.cons (.ow (.sl R_Item)) (.cons (.ow R_Item) .nil))))))]
noncomputable def s_l11Copy_l2_xp : Pat := [(2, .ptr 2 0), (3, .ptr 3 0), (2, .box (.cons (.cons (.int .i64) (.cons (.ow (.int .i64)) .nil)) (.cons (.ow R_Mate) (.cons (.ow R_Fly) (.cons (.ow (.sl R_Item)) (.cons (.ow R_Item) .nil)))))), (3, .box (.cons (.cons (.int .i64) (.cons (.ow (.int .i64)) .nil)) (.cons (.ow R_Mate) (.cons (.ow R_Fly) (.cons (.ow (.sl R_Item)) (.cons (.ow R_Item) .nil))))))]
noncomputable def s_l11Copy_l2_f (K n : Nat) (x : (Pat.ty s_l11Copy_l2_hd).Den) : Option ((outOf s_l11Copy_ps s_l11Copy_rs).Den ⊕ (Pat.ty s_l11Copy_l2_xp).Den) := s_l11Copy_l2 K n x.2.2.2.1 x.2.2.2.2.1 x.2.2.2.2.2.1 x.2.2.2.2.2.2.1
noncomputable def s_l11Copy_l2_an (K : Nat) : An (outOf s_l11Copy_ps s_l11Copy_rs) := .loop s_l11Copy_l2_hd s_l11Copy_l2_xp 4 (s_l11Copy_l2_f K K) .leaf
noncomputable def s_l11Copy_m (K : Nat) : Mdl := ⟨s_l11Copy_ps, s_l11Copy_rs, fun x => s_l11Copy K x.1⟩
noncomputable def s_l11Copy_l0_c : Code := loopAt [1, 1, 0, 1, 0, 9] (bodyOf Go.Proofs.Try.f134)
theorem s_l11Copy_l0_ok (K n : Nat) (x : (Pat.ty s_l11Copy_l0_hd).Den) : s_l11Copy_l0_f K (n + 1) x = round (env [(72, s_l10Copy_m K), (110, s_l05CopyToken_m K)] [] false 82) s_l11Copy_fin s_l11Copy_l0_hd s_l11Copy_l0_xp 0 s_l11Copy_l0_c .leaf (s_l11Copy_l0_f K n) x := by kernel_rfl
noncomputable def s_l11Copy_l1_c : Code := loopAt [1, 1, 1, 0, 1, 0, 9] (bodyOf Go.Proofs.Try.f134)
theorem s_l11Copy_l1_ok (K n : Nat) (x : (Pat.ty s_l11Copy_l1_hd).Den) : s_l11Copy_l1_f K (n + 1) x = round (env [(72, s_l10Copy_m K), (110, s_l05CopyToken_m K)] [] false 82) s_l11Copy_fin s_l11Copy_l1_hd s_l11Copy_l1_xp 2 s_l11Copy_l1_c .leaf (s_l11Copy_l1_f K n) x := by kernel_rfl
noncomputable def s_l11Copy_l2_c : Code := loopAt [1, 1, 1, 1, 0, 1, 0, 9] (bodyOf Go.Proofs.Try.f134)
theorem s_l11Copy_l2_ok (K n : Nat) (x : (Pat.ty s_l11Copy_l2_hd).Den) : s_l11Copy_l2_f K (n + 1) x = round (env [(72, s_l10Copy_m K), (110, s_l05CopyToken_m K)] [] false 82) s_l11Copy_fin s_l11Copy_l2_hd s_l11Copy_l2_xp 4 s_l11Copy_l2_c .leaf (s_l11Copy_l2_f K n) x := by kernel_rfl
theorem s_l11Copy_ok (K : Nat) (x : (rowOf s_l11Copy_ps).Den) : evalFn (env [(72, s_l10Copy_m K), (110, s_l05CopyToken_m K)] [] false 82) s_l11Copy_fin (bodyOf Go.Proofs.Try.f134) (.seq .leaf (.seq .leaf (.seq (.seq .leaf (.block (s_l11Copy_l0_an K))) (.seq (.seq .leaf (.block (s_l11Copy_l1_an K))) (.seq (.seq .leaf (.block (s_l11Copy_l2_an K))) .leaf))))) x = (s_l11Copy_m K).fn x := by kernel_rfl
theorem s_l11Copy_all (K : Nat) : (s_l11Copy_m K).ok = true ∧ Refines Go.Proofs.Try.prog 134 (s_l11Copy_m K) ∧ Callable Go.Proofs.Try.prog 134 := ⟨rfl, refines_of (E := (env [(72, s_l10Copy_m K), (110, s_l05CopyToken_m K)] [] false 82)) (envTy _ _ _ _) (fnsOf rfl ⟨s_l10Copy_all K, s_l05CopyToken_all K, trivial⟩) (by kernel_rfl) Go.Proofs.Try.func134 rfl rfl s_l11Copy_fin rfl (by kernel_rfl) (.seq .leaf (.seq .leaf (.seq (.seq .leaf (.block (s_l11Copy_l0_an K))) (.seq (.seq .leaf (.block (s_l11Copy_l1_an K))) (.seq (.seq .leaf (.block (s_l11Copy_l2_an K))) .leaf))))) ⟨(anLeaf _ _), ⟨(anLeaf _ _), ⟨⟨(anLeaf _ _), ⟨⟨s_l11Copy_l0_f K, K, rfl, fun _ => rfl, fun n x => s_l11Copy_l0_ok K n x⟩, (anLeaf _ _)⟩⟩, ⟨⟨(anLeaf _ _), ⟨⟨s_l11Copy_l1_f K, K, rfl, fun _ => rfl, fun n x => s_l11Copy_l1_ok K n x⟩, (anLeaf _ _)⟩⟩, ⟨⟨(anLeaf _ _), ⟨⟨s_l11Copy_l2_f K, K, rfl, fun _ => rfl, fun n x => s_l11Copy_l2_ok K n x⟩, (anLeaf _ _)⟩⟩, (anLeaf _ _)⟩⟩⟩⟩⟩ (s_l11Copy_ok K), ⟨_, _, Go.Proofs.Try.func134, rfl, by kernel_rfl⟩⟩
/-! loop.example/g00183/spec.RunWork -/
noncomputable def s_RunWork_ps : List PK := [.agg R_Ring, .val (.sl R_Turn)]
noncomputable def s_RunWork_rs : List PK := [.agg (.cons (.cons (.int .i64) (.cons (.ow (.int .i64)) .nil)) (.cons (.ow R_Mate) (.cons (.ow R_Fly) (.cons (.ow (.sl R_Item)) (.cons (.ow R_Item) .nil))))), .val (.ow (.int .i64)), .val .bool]
noncomputable def s_RunWork_fin : Fin := ⟨s_RunWork_ps, s_RunWork_rs, [.cell 4 105, .tmp 5, .tmp 6]⟩
noncomputable def s_RunWork_l0_hd : Pat := [(1, .val (.sl R_Turn)), (2, .ptr 2 0), (4, .ptr 4 0), (7, .ptr 7 0), (8, .val .bool), (9, .val (.int .i64)), (2, .box R_Ring), (4, .box (.cons (.cons (.int .i64) (.cons (.ow (.int .i64)) .nil)) (.cons (.ow R_Mate) (.cons (.ow R_Fly) (.cons (.ow (.sl R_Item)) (.cons (.ow R_Item) .nil)))))), (7, .box (.cons (.cons (.int .i64) (.cons (.ow (.int .i64)) .nil)) (.cons (.ow R_Mate) (.cons (.ow R_Fly) (.cons (.ow (.sl R_Item)) (.cons (.ow R_Item) .nil))))))]
noncomputable def s_RunWork_l0_xp : Pat := [(1, .val (.sl R_Turn)), (4, .ptr 4 0), (7, .ptr 7 0), (8, .val .bool), (4, .box (.cons (.cons (.int .i64) (.cons (.ow (.int .i64)) .nil)) (.cons (.ow R_Mate) (.cons (.ow R_Fly) (.cons (.ow (.sl R_Item)) (.cons (.ow R_Item) .nil)))))), (7, .box (.cons (.cons (.int .i64) (.cons (.ow (.int .i64)) .nil)) (.cons (.ow R_Mate) (.cons (.ow R_Fly) (.cons (.ow (.sl R_Item)) (.cons (.ow R_Item) .nil))))))]
noncomputable def s_RunWork_l0_f (K n : Nat) (x : (Pat.ty s_RunWork_l0_hd).Den) : Option ((outOf s_RunWork_ps s_RunWork_rs).Den ⊕ (Pat.ty s_RunWork_l0_xp).Den) := s_RunWork_l0 K n x.1 x.2.2.2.2.1 x.2.2.2.2.2.1 x.2.2.2.2.2.2.1 x.2.2.2.2.2.2.2.1 x.2.2.2.2.2.2.2.2.1
noncomputable def s_RunWork_l0_an (K : Nat) : An (outOf s_RunWork_ps s_RunWork_rs) := .loop s_RunWork_l0_hd s_RunWork_l0_xp 0 (s_RunWork_l0_f K K) .leaf
noncomputable def s_RunWork_l1_hd : Pat := [(1, .val (.sl R_Turn)), (4, .ptr 4 0), (7, .ptr 7 0), (10, .val (.ow (.int .i64))), (11, .val (.int .i64)), (4, .box (.cons (.cons (.int .i64) (.cons (.ow (.int .i64)) .nil)) (.cons (.ow R_Mate) (.cons (.ow R_Fly) (.cons (.ow (.sl R_Item)) (.cons (.ow R_Item) .nil)))))), (7, .box R_Work)]
noncomputable def s_RunWork_l1_xp : Pat := [(4, .ptr 4 0), (7, .ptr 7 0), (10, .val (.ow (.int .i64))), (4, .box (.cons (.cons (.int .i64) (.cons (.ow (.int .i64)) .nil)) (.cons (.ow R_Mate) (.cons (.ow R_Fly) (.cons (.ow (.sl R_Item)) (.cons (.ow R_Item) .nil)))))), (7, .box R_Work)]
noncomputable def s_RunWork_l1_f (K n : Nat) (x : (Pat.ty s_RunWork_l1_hd).Den) : Option ((outOf s_RunWork_ps s_RunWork_rs).Den ⊕ (Pat.ty s_RunWork_l1_xp).Den) := s_RunWork_l1 K n x.1 x.2.2.2.1 x.2.2.2.2.1 x.2.2.2.2.2.1 x.2.2.2.2.2.2.1
noncomputable def s_RunWork_l1_an (K : Nat) : An (outOf s_RunWork_ps s_RunWork_rs) := .loop s_RunWork_l1_hd s_RunWork_l1_xp 2 (s_RunWork_l1_f K K) .leaf
noncomputable def s_RunWork_m (K : Nat) : Mdl := ⟨s_RunWork_ps, s_RunWork_rs, fun x => s_RunWork K x.1 x.2.1⟩
noncomputable def s_RunWork_l0_c : Code := loopAt [1, 1, 0, 1, 0, 9] (bodyOf Go.Proofs.Try.f104)
theorem s_RunWork_l0_ok (K n : Nat) (x : (Pat.ty s_RunWork_l0_hd).Den) : s_RunWork_l0_f K (n + 1) x = round (env [(129, s_WorkNew_m K), (132, s_l11Do_m K), (133, s_TurnOk_m K), (134, s_l11Copy_m K)] [] false 59) s_RunWork_fin s_RunWork_l0_hd s_RunWork_l0_xp 0 s_RunWork_l0_c .leaf (s_RunWork_l0_f K n) x := by kernel_rfl
noncomputable def s_RunWork_l1_c : Code := loopAt [1, 1, 1, 1, 1, 0, 1, 0, 9] (bodyOf Go.Proofs.Try.f104)
theorem s_RunWork_l1_ok (K n : Nat) (x : (Pat.ty s_RunWork_l1_hd).Den) : s_RunWork_l1_f K (n + 1) x = round (env [(129, s_WorkNew_m K), (132, s_l11Do_m K), (133, s_TurnOk_m K), (134, s_l11Copy_m K)] [] false 59) s_RunWork_fin s_RunWork_l1_hd s_RunWork_l1_xp 2 s_RunWork_l1_c .leaf (s_RunWork_l1_f K n) x := by kernel_rfl
theorem s_RunWork_ok (K : Nat) (x : (rowOf s_RunWork_ps).Den) : evalFn (env [(129, s_WorkNew_m K), (132, s_l11Do_m K), (133, s_TurnOk_m K), (134, s_l11Copy_m K)] [] false 59) s_RunWork_fin (bodyOf Go.Proofs.Try.f104) (.seq .leaf (.seq .leaf (.seq (.seq .leaf (.block (s_RunWork_l0_an K))) (.seq .leaf (.seq .leaf (.seq (.seq .leaf (.block (s_RunWork_l1_an K))) .leaf)))))) x = (s_RunWork_m K).fn x := by kernel_rfl
theorem s_RunWork_all (K : Nat) : (s_RunWork_m K).ok = true ∧ Refines Go.Proofs.Try.prog 104 (s_RunWork_m K) ∧ Callable Go.Proofs.Try.prog 104 := ⟨rfl, refines_of (E := (env [(129, s_WorkNew_m K), (132, s_l11Do_m K), (133, s_TurnOk_m K), (134, s_l11Copy_m K)] [] false 59)) (envTy _ _ _ _) (fnsOf rfl ⟨s_WorkNew_all K, s_l11Do_all K, s_TurnOk_all K, s_l11Copy_all K, trivial⟩) (by kernel_rfl) Go.Proofs.Try.func104 rfl rfl s_RunWork_fin rfl (by kernel_rfl) (.seq .leaf (.seq .leaf (.seq (.seq .leaf (.block (s_RunWork_l0_an K))) (.seq .leaf (.seq .leaf (.seq (.seq .leaf (.block (s_RunWork_l1_an K))) .leaf)))))) ⟨(anLeaf _ _), ⟨(anLeaf _ _), ⟨⟨(anLeaf _ _), ⟨⟨s_RunWork_l0_f K, K, rfl, fun _ => rfl, fun n x => s_RunWork_l0_ok K n x⟩, (anLeaf _ _)⟩⟩, ⟨(anLeaf _ _), ⟨(anLeaf _ _), ⟨⟨(anLeaf _ _), ⟨⟨s_RunWork_l1_f K, K, rfl, fun _ => rfl, fun n x => s_RunWork_l1_ok K n x⟩, (anLeaf _ _)⟩⟩, (anLeaf _ _)⟩⟩⟩⟩⟩⟩ (s_RunWork_ok K), ⟨_, _, Go.Proofs.Try.func104, rfl, by kernel_rfl⟩⟩
/-! loop.example/g00183/spec.l11World -/
noncomputable def s_l11World_ps : List PK := [.ptr R_l01Cur, .val (.sl (.int .u8))]
noncomputable def s_l11World_rs : List PK := [.agg (.cons (.cons (.int .i64) (.cons (.ow (.int .i64)) .nil)) (.cons (.ow R_Mate) (.cons (.ow R_Fly) (.cons (.ow (.sl R_Item)) (.cons (.ow R_Item) .nil)))))]
noncomputable def s_l11World_fin : Fin := ⟨s_l11World_ps, s_l11World_rs, [.cell 4 105]⟩
noncomputable def s_l11World_m (K : Nat) : Mdl := ⟨s_l11World_ps, s_l11World_rs, fun x => s_l11World K x.1 x.2.1⟩
theorem s_l11World_ok (K : Nat) (x : (rowOf s_l11World_ps).Den) : evalFn (env [(103, s_l11Draw_m K), (104, s_RunWork_m K)] [] false 22) s_l11World_fin (bodyOf Go.Proofs.Try.f65) .leaf x = (s_l11World_m K).fn x := by kernel_rfl
theorem s_l11World_all (K : Nat) : (s_l11World_m K).ok = true ∧ Refines Go.Proofs.Try.prog 65 (s_l11World_m K) ∧ Callable Go.Proofs.Try.prog 65 := ⟨rfl, refines_of (E := (env [(103, s_l11Draw_m K), (104, s_RunWork_m K)] [] false 22)) (envTy _ _ _ _) (fnsOf rfl ⟨s_l11Draw_all K, s_RunWork_all K, trivial⟩) (by kernel_rfl) Go.Proofs.Try.func65 rfl rfl s_l11World_fin rfl (by kernel_rfl) .leaf (anLeaf _ _) (s_l11World_ok K), ⟨_, _, Go.Proofs.Try.func65, rfl, by kernel_rfl⟩⟩
/-! loop.example/g00183/impl.copyRing -/
noncomputable def i_copyRing_ps : List PK := [.agg R_Ring]
noncomputable def i_copyRing_rs : List PK := [.agg (.cons (.int .i64) (.cons (.ow (.int .i64)) .nil))]
noncomputable def i_copyRing_fin : Fin := ⟨i_copyRing_ps, i_copyRing_rs, [.cell 2 38]⟩
noncomputable def i_copyRing_m (K : Nat) : Mdl := ⟨i_copyRing_ps, i_copyRing_rs, fun x => i_copyRing K x.1⟩
theorem i_copyRing_ok (K : Nat) (x : (rowOf i_copyRing_ps).Den) : evalFn (env [(107, slices_Clone_int_int_m K)] [] false 9) i_copyRing_fin (bodyOf Go.Proofs.Try.f84) .leaf x = (i_copyRing_m K).fn x := by kernel_rfl
theorem i_copyRing_all (K : Nat) : (i_copyRing_m K).ok = true ∧ Refines Go.Proofs.Try.prog 84 (i_copyRing_m K) ∧ Callable Go.Proofs.Try.prog 84 := ⟨rfl, refines_of (E := (env [(107, slices_Clone_int_int_m K)] [] false 9)) (envTy _ _ _ _) (fnsOf rfl ⟨slices_Clone_int_int_all K, trivial⟩) (by kernel_rfl) Go.Proofs.Try.func84 rfl rfl i_copyRing_fin rfl (by kernel_rfl) .leaf (anLeaf _ _) (i_copyRing_ok K), ⟨_, _, Go.Proofs.Try.func84, rfl, by kernel_rfl⟩⟩
/-! loop.example/g00183/impl.copyToken -/
noncomputable def i_copyToken_ps : List PK := [.agg R_Token]
noncomputable def i_copyToken_rs : List PK := [.agg (.cons (.int .i64) (.cons (.int .i64) (.cons (.int .i64) (.cons (.int .i64) (.cons (.int .i64) (.cons (.ow (.int .i64)) .nil))))))]
noncomputable def i_copyToken_fin : Fin := ⟨i_copyToken_ps, i_copyToken_rs, [.cell 2 50]⟩
noncomputable def i_copyToken_m (K : Nat) : Mdl := ⟨i_copyToken_ps, i_copyToken_rs, fun x => i_copyToken K x.1⟩
theorem i_copyToken_ok (K : Nat) (x : (rowOf i_copyToken_ps).Den) : evalFn (env [(107, slices_Clone_int_int_m K)] [] false 8) i_copyToken_fin (bodyOf Go.Proofs.Try.f109) .leaf x = (i_copyToken_m K).fn x := by kernel_rfl
theorem i_copyToken_all (K : Nat) : (i_copyToken_m K).ok = true ∧ Refines Go.Proofs.Try.prog 109 (i_copyToken_m K) ∧ Callable Go.Proofs.Try.prog 109 := ⟨rfl, refines_of (E := (env [(107, slices_Clone_int_int_m K)] [] false 8)) (envTy _ _ _ _) (fnsOf rfl ⟨slices_Clone_int_int_all K, trivial⟩) (by kernel_rfl) Go.Proofs.Try.func109 rfl rfl i_copyToken_fin rfl (by kernel_rfl) .leaf (anLeaf _ _) (i_copyToken_ok K), ⟨_, _, Go.Proofs.Try.func109, rfl, by kernel_rfl⟩⟩
/-! loop.example/g00183/impl.copyMate -/
noncomputable def i_copyMate_ps : List PK := [.agg R_Mate]
noncomputable def i_copyMate_rs : List PK := [.agg (.cons (.int .i64) (.cons (.cons (.int .i64) (.cons (.ow (.int .i64)) .nil)) (.cons (.ow R_Item) (.cons (.ow (.int .i64)) (.cons (.ow .str) (.cons (.int .i64) (.cons (.int .i64) (.cons (.int .i64) (.cons (.int .i64) (.cons (.cons (.int .i64) (.cons (.int .i64) (.cons (.int .i64) (.cons (.int .i64) (.cons (.int .i64) (.cons (.ow (.int .i64)) .nil)))))) .nil))))))))))]
noncomputable def i_copyMate_fin : Fin := ⟨i_copyMate_ps, i_copyMate_rs, [.cell 2 52]⟩
noncomputable def i_copyMate_m (K : Nat) : Mdl := ⟨i_copyMate_ps, i_copyMate_rs, fun x => i_copyMate K x.1⟩
theorem i_copyMate_ok (K : Nat) (x : (rowOf i_copyMate_ps).Den) : evalFn (env [(84, i_copyRing_m K), (106, slices_Clone_i_Item_i_Item_m K), (107, slices_Clone_int_int_m K), (108, slices_Clone_string_string_m K), (109, i_copyToken_m K)] [] false 24) i_copyMate_fin (bodyOf Go.Proofs.Try.f69) .leaf x = (i_copyMate_m K).fn x := by kernel_rfl
theorem i_copyMate_all (K : Nat) : (i_copyMate_m K).ok = true ∧ Refines Go.Proofs.Try.prog 69 (i_copyMate_m K) ∧ Callable Go.Proofs.Try.prog 69 := ⟨rfl, refines_of (E := (env [(84, i_copyRing_m K), (106, slices_Clone_i_Item_i_Item_m K), (107, slices_Clone_int_int_m K), (108, slices_Clone_string_string_m K), (109, i_copyToken_m K)] [] false 24)) (envTy _ _ _ _) (fnsOf rfl ⟨i_copyRing_all K, slices_Clone_i_Item_i_Item_all K, slices_Clone_int_int_all K, slices_Clone_string_string_all K, i_copyToken_all K, trivial⟩) (by kernel_rfl) Go.Proofs.Try.func69 rfl rfl i_copyMate_fin rfl (by kernel_rfl) .leaf (anLeaf _ _) (i_copyMate_ok K), ⟨_, _, Go.Proofs.Try.func69, rfl, by kernel_rfl⟩⟩
/-! loop.example/g00183/impl.RingOk -/
noncomputable def i_RingOk_ps : List PK := [.agg R_Ring]
noncomputable def i_RingOk_rs : List PK := [.val .bool]
noncomputable def i_RingOk_fin : Fin := ⟨i_RingOk_ps, i_RingOk_rs, [.tmp 2]⟩
noncomputable def i_RingOk_l0_hd : Pat := [(1, .ptr 1 0), (17, .val (.sl (.int .i64))), (18, .val (.int .i64)), (19, .val (.int .i64)), (1, .box R_Ring)]
noncomputable def i_RingOk_l0_xp : Pat := []
noncomputable def i_RingOk_l0_f (K n : Nat) (x : (Pat.ty i_RingOk_l0_hd).Den) : Option ((outOf i_RingOk_ps i_RingOk_rs).Den ⊕ (Pat.ty i_RingOk_l0_xp).Den) := i_RingOk_l0 K n x.2.1 x.2.2.1 x.2.2.2.1 x.2.2.2.2.1
noncomputable def i_RingOk_l0_an (K : Nat) : An (outOf i_RingOk_ps i_RingOk_rs) := .loop i_RingOk_l0_hd i_RingOk_l0_xp 0 (i_RingOk_l0_f K K) .leaf
noncomputable def i_RingOk_m (K : Nat) : Mdl := ⟨i_RingOk_ps, i_RingOk_rs, fun x => i_RingOk K x.1⟩
noncomputable def i_RingOk_l0_c : Code := loopAt [1, 1, 0, 1, 0, 9] (bodyOf Go.Proofs.Try.f75)
theorem i_RingOk_l0_ok (K n : Nat) (x : (Pat.ty i_RingOk_l0_hd).Den) : i_RingOk_l0_f K (n + 1) x = round (env [(79, i_inRange_m K), (94, i_isDaemon_m K)] [] false 42) i_RingOk_fin i_RingOk_l0_hd i_RingOk_l0_xp 0 i_RingOk_l0_c .leaf (i_RingOk_l0_f K n) x := by kernel_rfl
theorem i_RingOk_ok (K : Nat) (x : (rowOf i_RingOk_ps).Den) : evalFn (env [(79, i_inRange_m K), (94, i_isDaemon_m K)] [] false 42) i_RingOk_fin (bodyOf Go.Proofs.Try.f75) (.seq .leaf (.seq .leaf (.seq (.seq .leaf (.block (i_RingOk_l0_an K))) .leaf))) x = (i_RingOk_m K).fn x := by kernel_rfl
theorem i_RingOk_all (K : Nat) : (i_RingOk_m K).ok = true ∧ Refines Go.Proofs.Try.prog 75 (i_RingOk_m K) ∧ Callable Go.Proofs.Try.prog 75 := ⟨rfl, refines_of (E := (env [(79, i_inRange_m K), (94, i_isDaemon_m K)] [] false 42)) (envTy _ _ _ _) (fnsOf rfl ⟨i_inRange_all K, i_isDaemon_all K, trivial⟩) (by kernel_rfl) Go.Proofs.Try.func75 rfl rfl i_RingOk_fin rfl (by kernel_rfl) (.seq .leaf (.seq .leaf (.seq (.seq .leaf (.block (i_RingOk_l0_an K))) .leaf))) ⟨(anLeaf _ _), ⟨(anLeaf _ _), ⟨⟨(anLeaf _ _), ⟨⟨i_RingOk_l0_f K, K, rfl, fun _ => rfl, fun n x => i_RingOk_l0_ok K n x⟩, (anLeaf _ _)⟩⟩, (anLeaf _ _)⟩⟩⟩ (i_RingOk_ok K), ⟨_, _, Go.Proofs.Try.func75, rfl, by kernel_rfl⟩⟩
/-! loop.example/g00183/impl.areShort -/
noncomputable def i_areShort_ps : List PK := [.val (.sl .str)]
noncomputable def i_areShort_rs : List PK := [.val .bool]
noncomputable def i_areShort_fin : Fin := ⟨i_areShort_ps, i_areShort_rs, [.tmp 2]⟩
noncomputable def i_areShort_l0_hd : Pat := [(5, .val (.sl .str)), (6, .val (.int .i64)), (7, .val (.int .i64))]
noncomputable def i_areShort_l0_xp : Pat := []
noncomputable def i_areShort_l0_f (K n : Nat) (x : (Pat.ty i_areShort_l0_hd).Den) : Option ((outOf i_areShort_ps i_areShort_rs).Den ⊕ (Pat.ty i_areShort_l0_xp).Den) := i_areShort_l0 K n x.1 x.2.1 x.2.2.1
noncomputable def i_areShort_l0_an (K : Nat) : An (outOf i_areShort_ps i_areShort_rs) := .loop i_areShort_l0_hd i_areShort_l0_xp 0 (i_areShort_l0_f K K) .leaf
noncomputable def i_areShort_m (K : Nat) : Mdl := ⟨i_areShort_ps, i_areShort_rs, fun x => i_areShort K x.1⟩
noncomputable def i_areShort_l0_c : Code := loopAt [1, 0, 1, 0, 9] (bodyOf Go.Proofs.Try.f77)
theorem i_areShort_l0_ok (K n : Nat) (x : (Pat.ty i_areShort_l0_hd).Den) : i_areShort_l0_f K (n + 1) x = round (env [] [] false 15) i_areShort_fin i_areShort_l0_hd i_areShort_l0_xp 0 i_areShort_l0_c .leaf (i_areShort_l0_f K n) x := by kernel_rfl
theorem i_areShort_ok (K : Nat) (x : (rowOf i_areShort_ps).Den) : evalFn (env [] [] false 15) i_areShort_fin (bodyOf Go.Proofs.Try.f77) (.seq .leaf (.seq (.seq .leaf (.block (i_areShort_l0_an K))) .leaf)) x = (i_areShort_m K).fn x := by kernel_rfl
theorem i_areShort_all (K : Nat) : (i_areShort_m K).ok = true ∧ Refines Go.Proofs.Try.prog 77 (i_areShort_m K) ∧ Callable Go.Proofs.Try.prog 77 := ⟨rfl, refines_of (E := (env [] [] false 15)) (envTy _ _ _ _) (fnsOf rfl trivial) (by kernel_rfl) Go.Proofs.Try.func77 rfl rfl i_areShort_fin rfl (by kernel_rfl) (.seq .leaf (.seq (.seq .leaf (.block (i_areShort_l0_an K))) .leaf)) ⟨(anLeaf _ _), ⟨⟨(anLeaf _ _), ⟨⟨i_areShort_l0_f K, K, rfl, fun _ => rfl, fun n x => i_areShort_l0_ok K n x⟩, (anLeaf _ _)⟩⟩, (anLeaf _ _)⟩⟩ (i_areShort_ok K), ⟨_, _, Go.Proofs.Try.func77, rfl, by kernel_rfl⟩⟩
/-! (loop.example/g00183/impl.Token).isZero -/
noncomputable def i_Token_isZero_ps : List PK := [.agg R_Token]
noncomputable def i_Token_isZero_rs : List PK := [.val .bool]
noncomputable def i_Token_isZero_fin : Fin := ⟨i_Token_isZero_ps, i_Token_isZero_rs, [.tmp 2]⟩
noncomputable def i_Token_isZero_m (K : Nat) : Mdl := ⟨i_Token_isZero_ps, i_Token_isZero_rs, fun x => i_Token_isZero K x.1⟩
theorem i_Token_isZero_ok (K : Nat) (x : (rowOf i_Token_isZero_ps).Den) : evalFn (env [] [] false 32) i_Token_isZero_fin (bodyOf Go.Proofs.Try.f80) .leaf x = (i_Token_isZero_m K).fn x := by kernel_rfl
theorem i_Token_isZero_all (K : Nat) : (i_Token_isZero_m K).ok = true ∧ Refines Go.Proofs.Try.prog 80 (i_Token_isZero_m K) ∧ Callable Go.Proofs.Try.prog 80 := ⟨rfl, refines_of (E := (env [] [] false 32)) (envTy _ _ _ _) (fnsOf rfl trivial) (by kernel_rfl) Go.Proofs.Try.func80 rfl rfl i_Token_isZero_fin rfl (by kernel_rfl) .leaf (anLeaf _ _) (i_Token_isZero_ok K), ⟨_, _, Go.Proofs.Try.func80, rfl, by kernel_rfl⟩⟩
/-! loop.example/g00183/impl.TokenOk -/
noncomputable def i_TokenOk_ps : List PK := [.agg R_Token]
noncomputable def i_TokenOk_rs : List PK := [.val .bool]
noncomputable def i_TokenOk_fin : Fin := ⟨i_TokenOk_ps, i_TokenOk_rs, [.tmp 2]⟩
noncomputable def i_TokenOk_l0_hd : Pat := [(1, .ptr 1 0), (22, .val (.sl (.int .i64))), (23, .val (.int .i64)), (24, .val (.int .i64)), (1, .box R_Token)]
noncomputable def i_TokenOk_l0_xp : Pat := [(1, .ptr 1 0), (1, .box R_Token)]
noncomputable def i_TokenOk_l0_f (K n : Nat) (x : (Pat.ty i_TokenOk_l0_hd).Den) : Option ((outOf i_TokenOk_ps i_TokenOk_rs).Den ⊕ (Pat.ty i_TokenOk_l0_xp).Den) := i_TokenOk_l0 K n x.2.1 x.2.2.1 x.2.2.2.1 x.2.2.2.2.1
noncomputable def i_TokenOk_l0_an (K : Nat) : An (outOf i_TokenOk_ps i_TokenOk_rs) := .loop i_TokenOk_l0_hd i_TokenOk_l0_xp 0 (i_TokenOk_l0_f K K) .leaf
noncomputable def i_TokenOk_m (K : Nat) : Mdl := ⟨i_TokenOk_ps, i_TokenOk_rs, fun x => i_TokenOk K x.1⟩
noncomputable def i_TokenOk_l0_c : Code := loopAt [1, 1, 0, 1, 0, 9] (bodyOf Go.Proofs.Try.f81)
theorem i_TokenOk_l0_ok (K n : Nat) (x : (Pat.ty i_TokenOk_l0_hd).Den) : i_TokenOk_l0_f K (n + 1) x = round (env [(79, i_inRange_m K)] [] false 65) i_TokenOk_fin i_TokenOk_l0_hd i_TokenOk_l0_xp 0 i_TokenOk_l0_c .leaf (i_TokenOk_l0_f K n) x := by kernel_rfl
theorem i_TokenOk_ok (K : Nat) (x : (rowOf i_TokenOk_ps).Den) : evalFn (env [(79, i_inRange_m K)] [] false 65) i_TokenOk_fin (bodyOf Go.Proofs.Try.f81) (.seq .leaf (.seq .leaf (.seq (.seq .leaf (.block (i_TokenOk_l0_an K))) .leaf))) x = (i_TokenOk_m K).fn x := by kernel_rfl
theorem i_TokenOk_all (K : Nat) : (i_TokenOk_m K).ok = true ∧ Refines Go.Proofs.Try.prog 81 (i_TokenOk_m K) ∧ Callable Go.Proofs.Try.prog 81 := ⟨rfl, refines_of (E := (env [(79, i_inRange_m K)] [] false 65)) (envTy _ _ _ _) (fnsOf rfl ⟨i_inRange_all K, trivial⟩) (by kernel_rfl) Go.Proofs.Try.func81 rfl rfl i_TokenOk_fin rfl (by kernel_rfl) (.seq .leaf (.seq .leaf (.seq (.seq .leaf (.block (i_TokenOk_l0_an K))) .leaf))) ⟨(anLeaf _ _), ⟨(anLeaf _ _), ⟨⟨(anLeaf _ _), ⟨⟨i_TokenOk_l0_f K, K, rfl, fun _ => rfl, fun n x => i_TokenOk_l0_ok K n x⟩, (anLeaf _ _)⟩⟩, (anLeaf _ _)⟩⟩⟩ (i_TokenOk_ok K), ⟨_, _, Go.Proofs.Try.func81, rfl, by kernel_rfl⟩⟩
/-! loop.example/g00183/impl.MateOk -/
noncomputable def i_MateOk_ps : List PK := [.agg R_Mate]
noncomputable def i_MateOk_rs : List PK := [.val .bool]
noncomputable def i_MateOk_fin : Fin := ⟨i_MateOk_ps, i_MateOk_rs, [.tmp 2]⟩
noncomputable def i_MateOk_l0_hd : Pat := [(1, .ptr 1 0), (45, .val (.sl (.int .i64))), (46, .val (.int .i64)), (47, .val (.int .i64)), (1, .box R_Mate)]
noncomputable def i_MateOk_l0_xp : Pat := [(1, .ptr 1 0), (1, .box R_Mate)]
noncomputable def i_MateOk_l0_f (K n : Nat) (x : (Pat.ty i_MateOk_l0_hd).Den) : Option ((outOf i_MateOk_ps i_MateOk_rs).Den ⊕ (Pat.ty i_MateOk_l0_xp).Den) := i_MateOk_l0 K n x.2.1 x.2.2.1 x.2.2.2.1 x.2.2.2.2.1
noncomputable def i_MateOk_l0_an (K : Nat) : An (outOf i_MateOk_ps i_MateOk_rs) := .loop i_MateOk_l0_hd i_MateOk_l0_xp 0 (i_MateOk_l0_f K K) .leaf
noncomputable def i_MateOk_m (K : Nat) : Mdl := ⟨i_MateOk_ps, i_MateOk_rs, fun x => i_MateOk K x.1⟩
noncomputable def i_MateOk_l0_c : Code := loopAt [1, 1, 1, 0, 1, 0, 9] (bodyOf Go.Proofs.Try.f26)
theorem i_MateOk_l0_ok (K n : Nat) (x : (Pat.ty i_MateOk_l0_hd).Den) : i_MateOk_l0_f K (n + 1) x = round (env [(58, slices_Contains_int_int_m K), (70, i_AruOf_m K), (75, i_RingOk_m K), (76, i_ItemsOk_m K), (77, i_areShort_m K), (78, i_isLevel_m K), (79, i_inRange_m K), (80, i_Token_isZero_m K), (81, i_TokenOk_m K)] [] false 90) i_MateOk_fin i_MateOk_l0_hd i_MateOk_l0_xp 0 i_MateOk_l0_c .leaf (i_MateOk_l0_f K n) x := by kernel_rfl
theorem i_MateOk_ok (K : Nat) (x : (rowOf i_MateOk_ps).Den) : evalFn (env [(58, slices_Contains_int_int_m K), (70, i_AruOf_m K), (75, i_RingOk_m K), (76, i_ItemsOk_m K), (77, i_areShort_m K), (78, i_isLevel_m K), (79, i_inRange_m K), (80, i_Token_isZero_m K), (81, i_TokenOk_m K)] [] false 90) i_MateOk_fin (bodyOf Go.Proofs.Try.f26) (.seq .leaf (.seq .leaf (.seq .leaf (.seq (.seq .leaf (.block (i_MateOk_l0_an K))) .leaf)))) x = (i_MateOk_m K).fn x := by kernel_rfl
theorem i_MateOk_all (K : Nat) : (i_MateOk_m K).ok = true ∧ Refines Go.Proofs.Try.prog 26 (i_MateOk_m K) ∧ Callable Go.Proofs.Try.prog 26 := ⟨rfl, refines_of (E := (env [(58, slices_Contains_int_int_m K), (70, i_AruOf_m K), (75, i_RingOk_m K), (76, i_ItemsOk_m K), (77, i_areShort_m K), (78, i_isLevel_m K), (79, i_inRange_m K), (80, i_Token_isZero_m K), (81, i_TokenOk_m K)] [] false 90)) (envTy _ _ _ _) (fnsOf rfl ⟨slices_Contains_int_int_all K, i_AruOf_all K, i_RingOk_all K, i_ItemsOk_all K, i_areShort_all K, i_isLevel_all K, i_inRange_all K, i_Token_isZero_all K, i_TokenOk_all K, trivial⟩) (by kernel_rfl) Go.Proofs.Try.func26 rfl rfl i_MateOk_fin rfl (by kernel_rfl) (.seq .leaf (.seq .leaf (.seq .leaf (.seq (.seq .leaf (.block (i_MateOk_l0_an K))) .leaf)))) ⟨(anLeaf _ _), ⟨(anLeaf _ _), ⟨(anLeaf _ _), ⟨⟨(anLeaf _ _), ⟨⟨i_MateOk_l0_f K, K, rfl, fun _ => rfl, fun n x => i_MateOk_l0_ok K n x⟩, (anLeaf _ _)⟩⟩, (anLeaf _ _)⟩⟩⟩⟩ (i_MateOk_ok K), ⟨_, _, Go.Proofs.Try.func26, rfl, by kernel_rfl⟩⟩
/-! loop.example/g00183/spec.DrawCaught -/
noncomputable def s_DrawCaught_ps : List PK := [.val (.sl (.int .u8))]
noncomputable def s_DrawCaught_rs : List PK := [.agg R_Mate, .agg R_Item]
noncomputable def s_DrawCaught_fin : Fin := ⟨s_DrawCaught_ps, s_DrawCaught_rs, [.cell 2 52, .cell 3 58]⟩
noncomputable def s_DrawCaught_m (K : Nat) : Mdl := ⟨s_DrawCaught_ps, s_DrawCaught_rs, fun x => s_DrawCaught K x.1⟩
theorem s_DrawCaught_ok (K : Nat) (x : (rowOf s_DrawCaught_ps).Den) : evalFn (env [(56, s_l01New_m K), (65, s_l11World_m K), (67, s_l01Once_m K), (68, s_l01Below_m K), (86, s_l05AnyItem_m K)] [] false 43) s_DrawCaught_fin (bodyOf Go.Proofs.Try.f34) .leaf x = (s_DrawCaught_m K).fn x := by kernel_rfl
theorem s_DrawCaught_all (K : Nat) : (s_DrawCaught_m K).ok = true ∧ Refines Go.Proofs.Try.prog 34 (s_DrawCaught_m K) ∧ Callable Go.Proofs.Try.prog 34 := ⟨rfl, refines_of (E := (env [(56, s_l01New_m K), (65, s_l11World_m K), (67, s_l01Once_m K), (68, s_l01Below_m K), (86, s_l05AnyItem_m K)] [] false 43)) (envTy _ _ _ _) (fnsOf rfl ⟨s_l01New_all K, s_l11World_all K, s_l01Once_all K, s_l01Below_all K, s_l05AnyItem_all K, trivial⟩) (by kernel_rfl) Go.Proofs.Try.func34 rfl rfl s_DrawCaught_fin rfl (by kernel_rfl) .leaf (anLeaf _ _) (s_DrawCaught_ok K), ⟨_, _, Go.Proofs.Try.func34, rfl, by kernel_rfl⟩⟩
/-! loop.example/g00183/impl.PutItem -/
noncomputable def i_PutItem_ps : List PK := [.val (.sl R_Item), .agg R_Item]
noncomputable def i_PutItem_rs : List PK := [.val (.ow R_Item)]
noncomputable def i_PutItem_fin : Fin := ⟨i_PutItem_ps, i_PutItem_rs, [.tmp 4]⟩
noncomputable def i_PutItem_m (K : Nat) : Mdl := ⟨i_PutItem_ps, i_PutItem_rs, fun x => i_PutItem K x.1 x.2.1⟩
theorem i_PutItem_ok (K : Nat) (x : (rowOf i_PutItem_ps).Den) : evalFn (env [(76, i_ItemsOk_m K), (101, i_putItem_m K), (106, slices_Clone_i_Item_i_Item_m K), (115, i_ItemOk_m K)] [] false 20) i_PutItem_fin (bodyOf Go.Proofs.Try.f87) .leaf x = (i_PutItem_m K).fn x := by kernel_rfl
theorem i_PutItem_all (K : Nat) : (i_PutItem_m K).ok = true ∧ Refines Go.Proofs.Try.prog 87 (i_PutItem_m K) ∧ Callable Go.Proofs.Try.prog 87 := ⟨rfl, refines_of (E := (env [(76, i_ItemsOk_m K), (101, i_putItem_m K), (106, slices_Clone_i_Item_i_Item_m K), (115, i_ItemOk_m K)] [] false 20)) (envTy _ _ _ _) (fnsOf rfl ⟨i_ItemsOk_all K, i_putItem_all K, slices_Clone_i_Item_i_Item_all K, i_ItemOk_all K, trivial⟩) (by kernel_rfl) Go.Proofs.Try.func87 rfl rfl i_PutItem_fin rfl (by kernel_rfl) .leaf (anLeaf _ _) (i_PutItem_ok K), ⟨_, _, Go.Proofs.Try.func87, rfl, by kernel_rfl⟩⟩
/-! loop.example/g00183/impl.Catch -/
noncomputable def i_Catch_ps : List PK := [.agg R_Mate, .agg R_Item]
noncomputable def i_Catch_rs : List PK := [.agg (.cons (.int .i64) (.cons (.cons (.int .i64) (.cons (.ow (.int .i64)) .nil)) (.cons (.ow R_Item) (.cons (.ow (.int .i64)) (.cons (.ow .str) (.cons (.int .i64) (.cons (.int .i64) (.cons (.int .i64) (.cons (.int .i64) (.cons (.cons (.int .i64) (.cons (.int .i64) (.cons (.int .i64) (.cons (.int .i64) (.cons (.int .i64) (.cons (.ow (.int .i64)) .nil)))))) .nil))))))))))]
noncomputable def i_Catch_fin : Fin := ⟨i_Catch_ps, i_Catch_rs, [.cell 4 52]⟩
noncomputable def i_Catch_m (K : Nat) : Mdl := ⟨i_Catch_ps, i_Catch_rs, fun x => i_Catch K x.1 x.2.1⟩
theorem i_Catch_ok (K : Nat) (x : (rowOf i_Catch_ps).Den) : evalFn (env [(26, i_MateOk_m K), (69, i_copyMate_m K), (87, i_PutItem_m K)] [] false 16) i_Catch_fin (bodyOf Go.Proofs.Try.f35) .leaf x = (i_Catch_m K).fn x := by kernel_rfl
theorem i_Catch_all (K : Nat) : (i_Catch_m K).ok = true ∧ Refines Go.Proofs.Try.prog 35 (i_Catch_m K) ∧ Callable Go.Proofs.Try.prog 35 := ⟨rfl, refines_of (E := (env [(26, i_MateOk_m K), (69, i_copyMate_m K), (87, i_PutItem_m K)] [] false 16)) (envTy _ _ _ _) (fnsOf rfl ⟨i_MateOk_all K, i_copyMate_all K, i_PutItem_all K, trivial⟩) (by kernel_rfl) Go.Proofs.Try.func35 rfl rfl i_Catch_fin rfl (by kernel_rfl) .leaf (anLeaf _ _) (i_Catch_ok K), ⟨_, _, Go.Proofs.Try.func35, rfl, by kernel_rfl⟩⟩
/-! loop.example/g00183/laws.FnCatches -/
noncomputable def l_FnCatches_ps : List PK := [.val (.sl (.int .u8))]
noncomputable def l_FnCatches_rs : List PK := [.val .bool]
noncomputable def l_FnCatches_fin : Fin := ⟨l_FnCatches_ps, l_FnCatches_rs, [.tmp 2]⟩
noncomputable def l_FnCatches_m (K : Nat) : Mdl := ⟨l_FnCatches_ps, l_FnCatches_rs, fun x => l_FnCatches K x.1⟩
theorem l_FnCatches_ok (K : Nat) (x : (rowOf l_FnCatches_ps).Den) : evalFn (env [(13, l_big_m K), (20, l_sameItems_m K), (26, i_MateOk_m K), (34, s_DrawCaught_m K), (35, i_Catch_m K), (36, s_ItemAt_m K), (37, s_ItemOk_m K)] [] false 84) l_FnCatches_fin (bodyOf Go.Proofs.Try.f7) .leaf x = (l_FnCatches_m K).fn x := by kernel_rfl
theorem l_FnCatches_all (K : Nat) : (l_FnCatches_m K).ok = true ∧ Refines Go.Proofs.Try.prog 7 (l_FnCatches_m K) ∧ Callable Go.Proofs.Try.prog 7 := ⟨rfl, refines_of (E := (env [(13, l_big_m K), (20, l_sameItems_m K), (26, i_MateOk_m K), (34, s_DrawCaught_m K), (35, i_Catch_m K), (36, s_ItemAt_m K), (37, s_ItemOk_m K)] [] false 84)) (envTy _ _ _ _) (fnsOf rfl ⟨l_big_all K, l_sameItems_all K, i_MateOk_all K, s_DrawCaught_all K, i_Catch_all K, s_ItemAt_all K, s_ItemOk_all K, trivial⟩) (by kernel_rfl) Go.Proofs.Try.func7 rfl rfl l_FnCatches_fin rfl (by kernel_rfl) .leaf (anLeaf _ _) (l_FnCatches_ok K), ⟨_, _, Go.Proofs.Try.func7, rfl, by kernel_rfl⟩⟩
end Go.Proofs.Ytphjhelolaoihaa.R
