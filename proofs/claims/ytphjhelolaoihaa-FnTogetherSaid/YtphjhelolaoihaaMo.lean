/- The Go functions do what their data functions say. -/
import Derived.Test.YtphjhelolaoihaaTy
import Derived.Test.YtphjhelolaoihaaIns
set_option linter.all false
namespace Go.Proofs.Ytphjhelolaoihaa.R
open Rg Go
set_option linter.unusedVariables false
noncomputable def slices_Insert_i_Item_i_Item_m (K : Nat) : Mdl := ⟨[.val (.ow R_Item), .val (.int .i64), .val (.ow R_Item)], [.val (.ow R_Item)], fun x => slices_Insert_i_Item_i_Item K x.1 x.2.1 x.2.2.1⟩
theorem slices_Insert_i_Item_i_Item_all (K : Nat) : (slices_Insert_i_Item_i_Item_m K).ok = true ∧ Refines Go.Proofs.Try.prog 128 (slices_Insert_i_Item_i_Item_m K) ∧ Callable Go.Proofs.Try.prog 128 := ⟨rfl, insert_refines insertW_128, ⟨_, _, Go.Proofs.Try.func128, rfl, by kernel_rfl⟩⟩
/-! loop.example/g00183/spec.l01In -/
noncomputable def s_l01In_ps : List PK := [.val (.int .i64), .val (.int .i64), .val (.int .i64)]
noncomputable def s_l01In_rs : List PK := [.val .bool]
noncomputable def s_l01In_fin : Fin := ⟨s_l01In_ps, s_l01In_rs, [.tmp 6]⟩
noncomputable def s_l01In_m (K : Nat) : Mdl := ⟨s_l01In_ps, s_l01In_rs, fun x => s_l01In K x.1 x.2.1 x.2.2.1⟩
theorem s_l01In_ok (K : Nat) (x : (rowOf s_l01In_ps).Den) : evalFn (env [] [] false 15) s_l01In_fin (bodyOf Go.Proofs.Try.f88) .leaf x = (s_l01In_m K).fn x := by kernel_rfl
theorem s_l01In_all (K : Nat) : (s_l01In_m K).ok = true ∧ Refines Go.Proofs.Try.prog 88 (s_l01In_m K) ∧ Callable Go.Proofs.Try.prog 88 := ⟨rfl, refines_of (E := (env [] [] false 15)) (envTy _ _ _ _) (fnsOf rfl trivial) (by kernel_rfl) Go.Proofs.Try.func88 rfl rfl s_l01In_fin rfl (by kernel_rfl) .leaf (anLeaf _ _) (s_l01In_ok K), ⟨_, _, Go.Proofs.Try.func88, rfl, by kernel_rfl⟩⟩
/-! loop.example/g00183/spec.ItemOk -/
noncomputable def s_ItemOk_ps : List PK := [.agg R_Item]
noncomputable def s_ItemOk_rs : List PK := [.val .bool]
noncomputable def s_ItemOk_fin : Fin := ⟨s_ItemOk_ps, s_ItemOk_rs, [.tmp 2]⟩
noncomputable def s_ItemOk_m (K : Nat) : Mdl := ⟨s_ItemOk_ps, s_ItemOk_rs, fun x => s_ItemOk K x.1⟩
theorem s_ItemOk_ok (K : Nat) (x : (rowOf s_ItemOk_ps).Den) : evalFn (env [(88, s_l01In_m K)] [] false 22) s_ItemOk_fin (bodyOf Go.Proofs.Try.f37) .leaf x = (s_ItemOk_m K).fn x := by kernel_rfl
theorem s_ItemOk_all (K : Nat) : (s_ItemOk_m K).ok = true ∧ Refines Go.Proofs.Try.prog 37 (s_ItemOk_m K) ∧ Callable Go.Proofs.Try.prog 37 := ⟨rfl, refines_of (E := (env [(88, s_l01In_m K)] [] false 22)) (envTy _ _ _ _) (fnsOf rfl ⟨s_l01In_all K, trivial⟩) (by kernel_rfl) Go.Proofs.Try.func37 rfl rfl s_ItemOk_fin rfl (by kernel_rfl) .leaf (anLeaf _ _) (s_ItemOk_ok K), ⟨_, _, Go.Proofs.Try.func37, rfl, by kernel_rfl⟩⟩
/-! loop.example/g00183/spec.ItemsOk -/
noncomputable def s_ItemsOk_ps : List PK := [.val (.sl R_Item)]
noncomputable def s_ItemsOk_rs : List PK := [.val .bool]
noncomputable def s_ItemsOk_fin : Fin := ⟨s_ItemsOk_ps, s_ItemsOk_rs, [.tmp 2]⟩
noncomputable def s_ItemsOk_l0_hd : Pat := [(0, .val (.sl R_Item)), (3, .val (.int .i64))]
noncomputable def s_ItemsOk_l0_xp : Pat := []
noncomputable def s_ItemsOk_l0_f (K n : Nat) (x : (Pat.ty s_ItemsOk_l0_hd).Den) : Option ((outOf s_ItemsOk_ps s_ItemsOk_rs).Den ⊕ (Pat.ty s_ItemsOk_l0_xp).Den) := s_ItemsOk_l0 K n x.1 x.2.1
noncomputable def s_ItemsOk_l0_an (K : Nat) : An (outOf s_ItemsOk_ps s_ItemsOk_rs) := .loop s_ItemsOk_l0_hd s_ItemsOk_l0_xp 0 (s_ItemsOk_l0_f K K) .leaf
noncomputable def s_ItemsOk_m (K : Nat) : Mdl := ⟨s_ItemsOk_ps, s_ItemsOk_rs, fun x => s_ItemsOk K x.1⟩
noncomputable def s_ItemsOk_l0_c : Code := loopAt [1, 0, 1, 0, 9] (bodyOf Go.Proofs.Try.f90)
theorem s_ItemsOk_l0_ok (K n : Nat) (x : (Pat.ty s_ItemsOk_l0_hd).Den) : s_ItemsOk_l0_f K (n + 1) x = round (env [(37, s_ItemOk_m K)] [] false 34) s_ItemsOk_fin s_ItemsOk_l0_hd s_ItemsOk_l0_xp 0 s_ItemsOk_l0_c .leaf (s_ItemsOk_l0_f K n) x := by kernel_rfl
theorem s_ItemsOk_ok (K : Nat) (x : (rowOf s_ItemsOk_ps).Den) : evalFn (env [(37, s_ItemOk_m K)] [] false 34) s_ItemsOk_fin (bodyOf Go.Proofs.Try.f90) (.seq .leaf (.seq (.seq .leaf (.block (s_ItemsOk_l0_an K))) .leaf)) x = (s_ItemsOk_m K).fn x := by kernel_rfl
theorem s_ItemsOk_all (K : Nat) : (s_ItemsOk_m K).ok = true ∧ Refines Go.Proofs.Try.prog 90 (s_ItemsOk_m K) ∧ Callable Go.Proofs.Try.prog 90 := ⟨rfl, refines_of (E := (env [(37, s_ItemOk_m K)] [] false 34)) (envTy _ _ _ _) (fnsOf rfl ⟨s_ItemOk_all K, trivial⟩) (by kernel_rfl) Go.Proofs.Try.func90 rfl rfl s_ItemsOk_fin rfl (by kernel_rfl) (.seq .leaf (.seq (.seq .leaf (.block (s_ItemsOk_l0_an K))) .leaf)) ⟨(anLeaf _ _), ⟨⟨(anLeaf _ _), ⟨⟨s_ItemsOk_l0_f K, K, rfl, fun _ => rfl, fun n x => s_ItemsOk_l0_ok K n x⟩, (anLeaf _ _)⟩⟩, (anLeaf _ _)⟩⟩ (s_ItemsOk_ok K), ⟨_, _, Go.Proofs.Try.func90, rfl, by kernel_rfl⟩⟩
/-! loop.example/g00183/spec.BundleOk -/
noncomputable def s_BundleOk_ps : List PK := [.agg R_Bundle]
noncomputable def s_BundleOk_rs : List PK := [.val .bool]
noncomputable def s_BundleOk_fin : Fin := ⟨s_BundleOk_ps, s_BundleOk_rs, [.tmp 2]⟩
noncomputable def s_BundleOk_m (K : Nat) : Mdl := ⟨s_BundleOk_ps, s_BundleOk_rs, fun x => s_BundleOk K x.1⟩
theorem s_BundleOk_ok (K : Nat) (x : (rowOf s_BundleOk_ps).Den) : evalFn (env [(88, s_l01In_m K), (90, s_ItemsOk_m K)] [] false 35) s_BundleOk_fin (bodyOf Go.Proofs.Try.f39) .leaf x = (s_BundleOk_m K).fn x := by kernel_rfl
theorem s_BundleOk_all (K : Nat) : (s_BundleOk_m K).ok = true ∧ Refines Go.Proofs.Try.prog 39 (s_BundleOk_m K) ∧ Callable Go.Proofs.Try.prog 39 := ⟨rfl, refines_of (E := (env [(88, s_l01In_m K), (90, s_ItemsOk_m K)] [] false 35)) (envTy _ _ _ _) (fnsOf rfl ⟨s_l01In_all K, s_ItemsOk_all K, trivial⟩) (by kernel_rfl) Go.Proofs.Try.func39 rfl rfl s_BundleOk_fin rfl (by kernel_rfl) .leaf (anLeaf _ _) (s_BundleOk_ok K), ⟨_, _, Go.Proofs.Try.func39, rfl, by kernel_rfl⟩⟩
/-! loop.example/g00183/impl.inRange -/
noncomputable def i_inRange_ps : List PK := [.val (.int .i64), .val (.int .i64), .val (.int .i64)]
noncomputable def i_inRange_rs : List PK := [.val .bool]
noncomputable def i_inRange_fin : Fin := ⟨i_inRange_ps, i_inRange_rs, [.tmp 6]⟩
noncomputable def i_inRange_m (K : Nat) : Mdl := ⟨i_inRange_ps, i_inRange_rs, fun x => i_inRange K x.1 x.2.1 x.2.2.1⟩
theorem i_inRange_ok (K : Nat) (x : (rowOf i_inRange_ps).Den) : evalFn (env [] [] false 15) i_inRange_fin (bodyOf Go.Proofs.Try.f79) .leaf x = (i_inRange_m K).fn x := by kernel_rfl
theorem i_inRange_all (K : Nat) : (i_inRange_m K).ok = true ∧ Refines Go.Proofs.Try.prog 79 (i_inRange_m K) ∧ Callable Go.Proofs.Try.prog 79 := ⟨rfl, refines_of (E := (env [] [] false 15)) (envTy _ _ _ _) (fnsOf rfl trivial) (by kernel_rfl) Go.Proofs.Try.func79 rfl rfl i_inRange_fin rfl (by kernel_rfl) .leaf (anLeaf _ _) (i_inRange_ok K), ⟨_, _, Go.Proofs.Try.func79, rfl, by kernel_rfl⟩⟩
/-! loop.example/g00183/impl.isDaemon -/
noncomputable def i_isDaemon_ps : List PK := [.val (.int .i64)]
noncomputable def i_isDaemon_rs : List PK := [.val .bool]
noncomputable def i_isDaemon_fin : Fin := ⟨i_isDaemon_ps, i_isDaemon_rs, [.tmp 2]⟩
noncomputable def i_isDaemon_m (K : Nat) : Mdl := ⟨i_isDaemon_ps, i_isDaemon_rs, fun x => i_isDaemon K x.1⟩
theorem i_isDaemon_ok (K : Nat) (x : (rowOf i_isDaemon_ps).Den) : evalFn (env [(79, i_inRange_m K)] [] false 5) i_isDaemon_fin (bodyOf Go.Proofs.Try.f94) .leaf x = (i_isDaemon_m K).fn x := by kernel_rfl
theorem i_isDaemon_all (K : Nat) : (i_isDaemon_m K).ok = true ∧ Refines Go.Proofs.Try.prog 94 (i_isDaemon_m K) ∧ Callable Go.Proofs.Try.prog 94 := ⟨rfl, refines_of (E := (env [(79, i_inRange_m K)] [] false 5)) (envTy _ _ _ _) (fnsOf rfl ⟨i_inRange_all K, trivial⟩) (by kernel_rfl) Go.Proofs.Try.func94 rfl rfl i_isDaemon_fin rfl (by kernel_rfl) .leaf (anLeaf _ _) (i_isDaemon_ok K), ⟨_, _, Go.Proofs.Try.func94, rfl, by kernel_rfl⟩⟩
/-! loop.example/g00183/impl.isLevel -/
noncomputable def i_isLevel_ps : List PK := [.val (.int .i64)]
noncomputable def i_isLevel_rs : List PK := [.val .bool]
noncomputable def i_isLevel_fin : Fin := ⟨i_isLevel_ps, i_isLevel_rs, [.tmp 2]⟩
noncomputable def i_isLevel_m (K : Nat) : Mdl := ⟨i_isLevel_ps, i_isLevel_rs, fun x => i_isLevel K x.1⟩
theorem i_isLevel_ok (K : Nat) (x : (rowOf i_isLevel_ps).Den) : evalFn (env [] [] false 9) i_isLevel_fin (bodyOf Go.Proofs.Try.f78) .leaf x = (i_isLevel_m K).fn x := by kernel_rfl
theorem i_isLevel_all (K : Nat) : (i_isLevel_m K).ok = true ∧ Refines Go.Proofs.Try.prog 78 (i_isLevel_m K) ∧ Callable Go.Proofs.Try.prog 78 := ⟨rfl, refines_of (E := (env [] [] false 9)) (envTy _ _ _ _) (fnsOf rfl trivial) (by kernel_rfl) Go.Proofs.Try.func78 rfl rfl i_isLevel_fin rfl (by kernel_rfl) .leaf (anLeaf _ _) (i_isLevel_ok K), ⟨_, _, Go.Proofs.Try.func78, rfl, by kernel_rfl⟩⟩
/-! loop.example/g00183/impl.ItemOk -/
noncomputable def i_ItemOk_ps : List PK := [.agg R_Item]
noncomputable def i_ItemOk_rs : List PK := [.val .bool]
noncomputable def i_ItemOk_fin : Fin := ⟨i_ItemOk_ps, i_ItemOk_rs, [.tmp 2]⟩
noncomputable def i_ItemOk_m (K : Nat) : Mdl := ⟨i_ItemOk_ps, i_ItemOk_rs, fun x => i_ItemOk K x.1⟩
theorem i_ItemOk_ok (K : Nat) (x : (rowOf i_ItemOk_ps).Den) : evalFn (env [(78, i_isLevel_m K), (79, i_inRange_m K), (94, i_isDaemon_m K)] [] false 22) i_ItemOk_fin (bodyOf Go.Proofs.Try.f115) .leaf x = (i_ItemOk_m K).fn x := by kernel_rfl
theorem i_ItemOk_all (K : Nat) : (i_ItemOk_m K).ok = true ∧ Refines Go.Proofs.Try.prog 115 (i_ItemOk_m K) ∧ Callable Go.Proofs.Try.prog 115 := ⟨rfl, refines_of (E := (env [(78, i_isLevel_m K), (79, i_inRange_m K), (94, i_isDaemon_m K)] [] false 22)) (envTy _ _ _ _) (fnsOf rfl ⟨i_isLevel_all K, i_inRange_all K, i_isDaemon_all K, trivial⟩) (by kernel_rfl) Go.Proofs.Try.func115 rfl rfl i_ItemOk_fin rfl (by kernel_rfl) .leaf (anLeaf _ _) (i_ItemOk_ok K), ⟨_, _, Go.Proofs.Try.func115, rfl, by kernel_rfl⟩⟩
/-! loop.example/g00183/impl.ItemsOk -/
noncomputable def i_ItemsOk_ps : List PK := [.val (.sl R_Item)]
noncomputable def i_ItemsOk_rs : List PK := [.val .bool]
noncomputable def i_ItemsOk_fin : Fin := ⟨i_ItemsOk_ps, i_ItemsOk_rs, [.tmp 2]⟩
noncomputable def i_ItemsOk_l0_hd : Pat := [(0, .val (.sl R_Item)), (5, .val (.sl R_Item)), (6, .val (.int .i64)), (7, .val (.int .i64))]
noncomputable def i_ItemsOk_l0_xp : Pat := []
noncomputable def i_ItemsOk_l0_f (K n : Nat) (x : (Pat.ty i_ItemsOk_l0_hd).Den) : Option ((outOf i_ItemsOk_ps i_ItemsOk_rs).Den ⊕ (Pat.ty i_ItemsOk_l0_xp).Den) := i_ItemsOk_l0 K n x.1 x.2.1 x.2.2.1 x.2.2.2.1
noncomputable def i_ItemsOk_l0_an (K : Nat) : An (outOf i_ItemsOk_ps i_ItemsOk_rs) := .loop i_ItemsOk_l0_hd i_ItemsOk_l0_xp 0 (i_ItemsOk_l0_f K K) .leaf
noncomputable def i_ItemsOk_m (K : Nat) : Mdl := ⟨i_ItemsOk_ps, i_ItemsOk_rs, fun x => i_ItemsOk K x.1⟩
noncomputable def i_ItemsOk_l0_c : Code := loopAt [1, 0, 1, 0, 9] (bodyOf Go.Proofs.Try.f76)
theorem i_ItemsOk_l0_ok (K n : Nat) (x : (Pat.ty i_ItemsOk_l0_hd).Den) : i_ItemsOk_l0_f K (n + 1) x = round (env [(115, i_ItemOk_m K)] [] false 31) i_ItemsOk_fin i_ItemsOk_l0_hd i_ItemsOk_l0_xp 0 i_ItemsOk_l0_c .leaf (i_ItemsOk_l0_f K n) x := by kernel_rfl
theorem i_ItemsOk_ok (K : Nat) (x : (rowOf i_ItemsOk_ps).Den) : evalFn (env [(115, i_ItemOk_m K)] [] false 31) i_ItemsOk_fin (bodyOf Go.Proofs.Try.f76) (.seq .leaf (.seq (.seq .leaf (.block (i_ItemsOk_l0_an K))) .leaf)) x = (i_ItemsOk_m K).fn x := by kernel_rfl
theorem i_ItemsOk_all (K : Nat) : (i_ItemsOk_m K).ok = true ∧ Refines Go.Proofs.Try.prog 76 (i_ItemsOk_m K) ∧ Callable Go.Proofs.Try.prog 76 := ⟨rfl, refines_of (E := (env [(115, i_ItemOk_m K)] [] false 31)) (envTy _ _ _ _) (fnsOf rfl ⟨i_ItemOk_all K, trivial⟩) (by kernel_rfl) Go.Proofs.Try.func76 rfl rfl i_ItemsOk_fin rfl (by kernel_rfl) (.seq .leaf (.seq (.seq .leaf (.block (i_ItemsOk_l0_an K))) .leaf)) ⟨(anLeaf _ _), ⟨⟨(anLeaf _ _), ⟨⟨i_ItemsOk_l0_f K, K, rfl, fun _ => rfl, fun n x => i_ItemsOk_l0_ok K n x⟩, (anLeaf _ _)⟩⟩, (anLeaf _ _)⟩⟩ (i_ItemsOk_ok K), ⟨_, _, Go.Proofs.Try.func76, rfl, by kernel_rfl⟩⟩
/-! loop.example/g00183/impl.BundleOk -/
noncomputable def i_BundleOk_ps : List PK := [.agg R_Bundle]
noncomputable def i_BundleOk_rs : List PK := [.val .bool]
noncomputable def i_BundleOk_fin : Fin := ⟨i_BundleOk_ps, i_BundleOk_rs, [.tmp 2]⟩
noncomputable def i_BundleOk_m (K : Nat) : Mdl := ⟨i_BundleOk_ps, i_BundleOk_rs, fun x => i_BundleOk K x.1⟩
theorem i_BundleOk_ok (K : Nat) (x : (rowOf i_BundleOk_ps).Den) : evalFn (env [(76, i_ItemsOk_m K), (79, i_inRange_m K), (94, i_isDaemon_m K)] [] false 36) i_BundleOk_fin (bodyOf Go.Proofs.Try.f46) .leaf x = (i_BundleOk_m K).fn x := by kernel_rfl
theorem i_BundleOk_all (K : Nat) : (i_BundleOk_m K).ok = true ∧ Refines Go.Proofs.Try.prog 46 (i_BundleOk_m K) ∧ Callable Go.Proofs.Try.prog 46 := ⟨rfl, refines_of (E := (env [(76, i_ItemsOk_m K), (79, i_inRange_m K), (94, i_isDaemon_m K)] [] false 36)) (envTy _ _ _ _) (fnsOf rfl ⟨i_ItemsOk_all K, i_inRange_all K, i_isDaemon_all K, trivial⟩) (by kernel_rfl) Go.Proofs.Try.func46 rfl rfl i_BundleOk_fin rfl (by kernel_rfl) .leaf (anLeaf _ _) (i_BundleOk_ok K), ⟨_, _, Go.Proofs.Try.func46, rfl, by kernel_rfl⟩⟩
/-! loop.example/g00183/laws.big -/
noncomputable def l_big_ps : List PK := [.val (.sl (.int .u8))]
noncomputable def l_big_rs : List PK := [.val .bool]
noncomputable def l_big_fin : Fin := ⟨l_big_ps, l_big_rs, [.tmp 2]⟩
noncomputable def l_big_m (K : Nat) : Mdl := ⟨l_big_ps, l_big_rs, fun x => l_big K x.1⟩
theorem l_big_ok (K : Nat) (x : (rowOf l_big_ps).Den) : evalFn (env [] [] false 6) l_big_fin (bodyOf Go.Proofs.Try.f13) .leaf x = (l_big_m K).fn x := by kernel_rfl
theorem l_big_all (K : Nat) : (l_big_m K).ok = true ∧ Refines Go.Proofs.Try.prog 13 (l_big_m K) ∧ Callable Go.Proofs.Try.prog 13 := ⟨rfl, refines_of (E := (env [] [] false 6)) (envTy _ _ _ _) (fnsOf rfl trivial) (by kernel_rfl) Go.Proofs.Try.func13 rfl rfl l_big_fin rfl (by kernel_rfl) .leaf (anLeaf _ _) (l_big_ok K), ⟨_, _, Go.Proofs.Try.func13, rfl, by kernel_rfl⟩⟩
/-! loop.example/g00183/spec.l01New -/
noncomputable def s_l01New_ps : List PK := [.val (.sl (.int .u8))]
noncomputable def s_l01New_rs : List PK := [.ptr R_l01Cur]
noncomputable def s_l01New_fin : Fin := ⟨s_l01New_ps, s_l01New_rs, [.tmp 2]⟩
noncomputable def s_l01New_l0_hd : Pat := [(0, .val (.sl (.int .u8))), (3, .val (.int .i64)), (4, .val (.int .i64))]
noncomputable def s_l01New_l0_xp : Pat := [(0, .val (.sl (.int .u8))), (3, .val (.int .i64))]
noncomputable def s_l01New_l0_f (K n : Nat) (x : (Pat.ty s_l01New_l0_hd).Den) : Option ((outOf s_l01New_ps s_l01New_rs).Den ⊕ (Pat.ty s_l01New_l0_xp).Den) := s_l01New_l0 K n x.1 x.2.1 x.2.2.1
noncomputable def s_l01New_l0_an (K : Nat) : An (outOf s_l01New_ps s_l01New_rs) := .loop s_l01New_l0_hd s_l01New_l0_xp 0 (s_l01New_l0_f K K) .leaf
noncomputable def s_l01New_m (K : Nat) : Mdl := ⟨s_l01New_ps, s_l01New_rs, fun x => s_l01New K x.1⟩
noncomputable def s_l01New_l0_c : Code := loopAt [1, 1, 0, 1, 0, 9] (bodyOf Go.Proofs.Try.f56)
theorem s_l01New_l0_ok (K n : Nat) (x : (Pat.ty s_l01New_l0_hd).Den) : s_l01New_l0_f K (n + 1) x = round (env [] [] false 32) s_l01New_fin s_l01New_l0_hd s_l01New_l0_xp 0 s_l01New_l0_c .leaf (s_l01New_l0_f K n) x := by kernel_rfl
theorem s_l01New_ok (K : Nat) (x : (rowOf s_l01New_ps).Den) : evalFn (env [] [] false 32) s_l01New_fin (bodyOf Go.Proofs.Try.f56) (.seq .leaf (.seq .leaf (.seq (.seq .leaf (.block (s_l01New_l0_an K))) .leaf))) x = (s_l01New_m K).fn x := by kernel_rfl
theorem s_l01New_all (K : Nat) : (s_l01New_m K).ok = true ∧ Refines Go.Proofs.Try.prog 56 (s_l01New_m K) ∧ Callable Go.Proofs.Try.prog 56 := ⟨rfl, refines_of (E := (env [] [] false 32)) (envTy _ _ _ _) (fnsOf rfl trivial) (by kernel_rfl) Go.Proofs.Try.func56 rfl rfl s_l01New_fin rfl (by kernel_rfl) (.seq .leaf (.seq .leaf (.seq (.seq .leaf (.block (s_l01New_l0_an K))) .leaf))) ⟨(anLeaf _ _), ⟨(anLeaf _ _), ⟨⟨(anLeaf _ _), ⟨⟨s_l01New_l0_f K, K, rfl, fun _ => rfl, fun n x => s_l01New_l0_ok K n x⟩, (anLeaf _ _)⟩⟩, (anLeaf _ _)⟩⟩⟩ (s_l01New_ok K), ⟨_, _, Go.Proofs.Try.func56, rfl, by kernel_rfl⟩⟩
/-! loop.example/g00183/spec.l01Byte -/
noncomputable def s_l01Byte_ps : List PK := [.ptr R_l01Cur]
noncomputable def s_l01Byte_rs : List PK := [.val (.int .i64)]
noncomputable def s_l01Byte_fin : Fin := ⟨s_l01Byte_ps, s_l01Byte_rs, [.tmp 2]⟩
noncomputable def s_l01Byte_m (K : Nat) : Mdl := ⟨s_l01Byte_ps, s_l01Byte_rs, fun x => s_l01Byte K x.1⟩
theorem s_l01Byte_ok (K : Nat) (x : (rowOf s_l01Byte_ps).Den) : evalFn (env [] [] false 58) s_l01Byte_fin (bodyOf Go.Proofs.Try.f105) .leaf x = (s_l01Byte_m K).fn x := by kernel_rfl
theorem s_l01Byte_all (K : Nat) : (s_l01Byte_m K).ok = true ∧ Refines Go.Proofs.Try.prog 105 (s_l01Byte_m K) ∧ Callable Go.Proofs.Try.prog 105 := ⟨rfl, refines_of (E := (env [] [] false 58)) (envTy _ _ _ _) (fnsOf rfl trivial) (by kernel_rfl) Go.Proofs.Try.func105 rfl rfl s_l01Byte_fin rfl (by kernel_rfl) .leaf (anLeaf _ _) (s_l01Byte_ok K), ⟨_, _, Go.Proofs.Try.func105, rfl, by kernel_rfl⟩⟩
/-! loop.example/g00183/spec.l01Below -/
noncomputable def s_l01Below_ps : List PK := [.ptr R_l01Cur, .val (.int .i64)]
noncomputable def s_l01Below_rs : List PK := [.val (.int .i64)]
noncomputable def s_l01Below_fin : Fin := ⟨s_l01Below_ps, s_l01Below_rs, [.tmp 4]⟩
noncomputable def s_l01Below_m (K : Nat) : Mdl := ⟨s_l01Below_ps, s_l01Below_rs, fun x => s_l01Below K x.1 x.2.1⟩
theorem s_l01Below_ok (K : Nat) (x : (rowOf s_l01Below_ps).Den) : evalFn (env [(105, s_l01Byte_m K)] [] false 37) s_l01Below_fin (bodyOf Go.Proofs.Try.f68) .leaf x = (s_l01Below_m K).fn x := by kernel_rfl
theorem s_l01Below_all (K : Nat) : (s_l01Below_m K).ok = true ∧ Refines Go.Proofs.Try.prog 68 (s_l01Below_m K) ∧ Callable Go.Proofs.Try.prog 68 := ⟨rfl, refines_of (E := (env [(105, s_l01Byte_m K)] [] false 37)) (envTy _ _ _ _) (fnsOf rfl ⟨s_l01Byte_all K, trivial⟩) (by kernel_rfl) Go.Proofs.Try.func68 rfl rfl s_l01Below_fin rfl (by kernel_rfl) .leaf (anLeaf _ _) (s_l01Below_ok K), ⟨_, _, Go.Proofs.Try.func68, rfl, by kernel_rfl⟩⟩
/-! loop.example/g00183/spec.l01Once -/
noncomputable def s_l01Once_ps : List PK := [.ptr R_l01Cur, .val (.int .i64)]
noncomputable def s_l01Once_rs : List PK := [.val .bool]
noncomputable def s_l01Once_fin : Fin := ⟨s_l01Once_ps, s_l01Once_rs, [.tmp 4]⟩
noncomputable def s_l01Once_m (K : Nat) : Mdl := ⟨s_l01Once_ps, s_l01Once_rs, fun x => s_l01Once K x.1 x.2.1⟩
theorem s_l01Once_ok (K : Nat) (x : (rowOf s_l01Once_ps).Den) : evalFn (env [(68, s_l01Below_m K)] [] false 9) s_l01Once_fin (bodyOf Go.Proofs.Try.f67) .leaf x = (s_l01Once_m K).fn x := by kernel_rfl
theorem s_l01Once_all (K : Nat) : (s_l01Once_m K).ok = true ∧ Refines Go.Proofs.Try.prog 67 (s_l01Once_m K) ∧ Callable Go.Proofs.Try.prog 67 := ⟨rfl, refines_of (E := (env [(68, s_l01Below_m K)] [] false 9)) (envTy _ _ _ _) (fnsOf rfl ⟨s_l01Below_all K, trivial⟩) (by kernel_rfl) Go.Proofs.Try.func67 rfl rfl s_l01Once_fin rfl (by kernel_rfl) .leaf (anLeaf _ _) (s_l01Once_ok K), ⟨_, _, Go.Proofs.Try.func67, rfl, by kernel_rfl⟩⟩
/-! loop.example/g00183/spec.l09Ring -/
noncomputable def s_l09Ring_ps : List PK := [.ptr R_l01Cur]
noncomputable def s_l09Ring_rs : List PK := [.agg (.cons (.int .i64) (.cons (.ow (.int .i64)) .nil))]
noncomputable def s_l09Ring_fin : Fin := ⟨s_l09Ring_ps, s_l09Ring_rs, [.cell 2 38]⟩
noncomputable def s_l09Ring_l0_hd : Pat := [(0, .ptr 1000000000 0), (2, .ptr 2 0), (3, .ptr 3 0), (4, .val (.int .i64)), (2, .box (.cons (.int .i64) (.cons (.ow (.int .i64)) .nil))), (3, .box (.cons (.int .i64) (.cons (.ow (.int .i64)) .nil))), (1000000000, .box R_l01Cur)]
noncomputable def s_l09Ring_l0_xp : Pat := [(2, .ptr 2 0), (3, .ptr 3 0), (2, .box (.cons (.int .i64) (.cons (.ow (.int .i64)) .nil))), (3, .box (.cons (.int .i64) (.cons (.ow (.int .i64)) .nil))), (1000000000, .box R_l01Cur)]
noncomputable def s_l09Ring_l0_f (K n : Nat) (x : (Pat.ty s_l09Ring_l0_hd).Den) : Option ((outOf s_l09Ring_ps s_l09Ring_rs).Den ⊕ (Pat.ty s_l09Ring_l0_xp).Den) := s_l09Ring_l0 K n x.2.2.2.1 x.2.2.2.2.1 x.2.2.2.2.2.1 x.2.2.2.2.2.2.1
noncomputable def s_l09Ring_l0_an (K : Nat) : An (outOf s_l09Ring_ps s_l09Ring_rs) := .loop s_l09Ring_l0_hd s_l09Ring_l0_xp 0 (s_l09Ring_l0_f K K) .leaf
noncomputable def s_l09Ring_m (K : Nat) : Mdl := ⟨s_l09Ring_ps, s_l09Ring_rs, fun x => s_l09Ring K x.1⟩
noncomputable def s_l09Ring_l0_c : Code := loopAt [1, 1, 0, 1, 0, 9] (bodyOf Go.Proofs.Try.f82)
theorem s_l09Ring_l0_ok (K n : Nat) (x : (Pat.ty s_l09Ring_l0_hd).Den) : s_l09Ring_l0_f K (n + 1) x = round (env [(67, s_l01Once_m K), (68, s_l01Below_m K)] [] false 29) s_l09Ring_fin s_l09Ring_l0_hd s_l09Ring_l0_xp 0 s_l09Ring_l0_c .leaf (s_l09Ring_l0_f K n) x := by kernel_rfl
theorem s_l09Ring_ok (K : Nat) (x : (rowOf s_l09Ring_ps).Den) : evalFn (env [(67, s_l01Once_m K), (68, s_l01Below_m K)] [] false 29) s_l09Ring_fin (bodyOf Go.Proofs.Try.f82) (.seq .leaf (.seq .leaf (.seq (.seq .leaf (.block (s_l09Ring_l0_an K))) .leaf))) x = (s_l09Ring_m K).fn x := by kernel_rfl
theorem s_l09Ring_all (K : Nat) : (s_l09Ring_m K).ok = true ∧ Refines Go.Proofs.Try.prog 82 (s_l09Ring_m K) ∧ Callable Go.Proofs.Try.prog 82 := ⟨rfl, refines_of (E := (env [(67, s_l01Once_m K), (68, s_l01Below_m K)] [] false 29)) (envTy _ _ _ _) (fnsOf rfl ⟨s_l01Once_all K, s_l01Below_all K, trivial⟩) (by kernel_rfl) Go.Proofs.Try.func82 rfl rfl s_l09Ring_fin rfl (by kernel_rfl) (.seq .leaf (.seq .leaf (.seq (.seq .leaf (.block (s_l09Ring_l0_an K))) .leaf))) ⟨(anLeaf _ _), ⟨(anLeaf _ _), ⟨⟨(anLeaf _ _), ⟨⟨s_l09Ring_l0_f K, K, rfl, fun _ => rfl, fun n x => s_l09Ring_l0_ok K n x⟩, (anLeaf _ _)⟩⟩, (anLeaf _ _)⟩⟩⟩ (s_l09Ring_ok K), ⟨_, _, Go.Proofs.Try.func82, rfl, by kernel_rfl⟩⟩
/-! loop.example/g00183/spec.l01Figure -/
noncomputable def s_l01Figure_ps : List PK := [.val (.int .i64)]
noncomputable def s_l01Figure_rs : List PK := [.val (.int .u8)]
noncomputable def s_l01Figure_fin : Fin := ⟨s_l01Figure_ps, s_l01Figure_rs, [.tmp 2]⟩
noncomputable def s_l01Figure_m (K : Nat) : Mdl := ⟨s_l01Figure_ps, s_l01Figure_rs, fun x => s_l01Figure K x.1⟩
theorem s_l01Figure_ok (K : Nat) (x : (rowOf s_l01Figure_ps).Den) : evalFn (env [] [] false 12) s_l01Figure_fin (bodyOf Go.Proofs.Try.f141) .leaf x = (s_l01Figure_m K).fn x := by kernel_rfl
theorem s_l01Figure_all (K : Nat) : (s_l01Figure_m K).ok = true ∧ Refines Go.Proofs.Try.prog 141 (s_l01Figure_m K) ∧ Callable Go.Proofs.Try.prog 141 := ⟨rfl, refines_of (E := (env [] [] false 12)) (envTy _ _ _ _) (fnsOf rfl trivial) (by kernel_rfl) Go.Proofs.Try.func141 rfl rfl s_l01Figure_fin rfl (by kernel_rfl) .leaf (anLeaf _ _) (s_l01Figure_ok K), ⟨_, _, Go.Proofs.Try.func141, rfl, by kernel_rfl⟩⟩
/-! loop.example/g00183/spec.Decimal -/
noncomputable def s_Decimal_ps : List PK := [.val (.int .i64)]
noncomputable def s_Decimal_rs : List PK := [.val .str]
noncomputable def s_Decimal_fin : Fin := ⟨s_Decimal_ps, s_Decimal_rs, [.tmp 2]⟩
noncomputable def s_Decimal_l0_hd : Pat := [(0, .val (.int .i64)), (3, .val .bool), (4, .val .str)]
noncomputable def s_Decimal_l0_xp : Pat := [(3, .val .bool), (4, .val .str)]
noncomputable def s_Decimal_l0_f (K n : Nat) (x : (Pat.ty s_Decimal_l0_hd).Den) : Option ((outOf s_Decimal_ps s_Decimal_rs).Den ⊕ (Pat.ty s_Decimal_l0_xp).Den) := s_Decimal_l0 K n x.1 x.2.1 x.2.2.1
noncomputable def s_Decimal_l0_an (K : Nat) : An (outOf s_Decimal_ps s_Decimal_rs) := .loop s_Decimal_l0_hd s_Decimal_l0_xp 0 (s_Decimal_l0_f K K) .leaf
noncomputable def s_Decimal_m (K : Nat) : Mdl := ⟨s_Decimal_ps, s_Decimal_rs, fun x => s_Decimal K x.1⟩
noncomputable def s_Decimal_l0_c : Code := loopAt [1, 1, 1, 1, 0, 0, 9] (bodyOf Go.Proofs.Try.f126)
theorem s_Decimal_l0_ok (K n : Nat) (x : (Pat.ty s_Decimal_l0_hd).Den) : s_Decimal_l0_f K (n + 1) x = round (env [(141, s_l01Figure_m K)] [] false 30) s_Decimal_fin s_Decimal_l0_hd s_Decimal_l0_xp 0 s_Decimal_l0_c .leaf (s_Decimal_l0_f K n) x := by kernel_rfl
theorem s_Decimal_ok (K : Nat) (x : (rowOf s_Decimal_ps).Den) : evalFn (env [(141, s_l01Figure_m K)] [] false 30) s_Decimal_fin (bodyOf Go.Proofs.Try.f126) (.seq .leaf (.seq .leaf (.seq .leaf (.seq .leaf (.seq (.block (s_Decimal_l0_an K)) .leaf))))) x = (s_Decimal_m K).fn x := by kernel_rfl
theorem s_Decimal_all (K : Nat) : (s_Decimal_m K).ok = true ∧ Refines Go.Proofs.Try.prog 126 (s_Decimal_m K) ∧ Callable Go.Proofs.Try.prog 126 := ⟨rfl, refines_of (E := (env [(141, s_l01Figure_m K)] [] false 30)) (envTy _ _ _ _) (fnsOf rfl ⟨s_l01Figure_all K, trivial⟩) (by kernel_rfl) Go.Proofs.Try.func126 rfl rfl s_Decimal_fin rfl (by kernel_rfl) (.seq .leaf (.seq .leaf (.seq .leaf (.seq .leaf (.seq (.block (s_Decimal_l0_an K)) .leaf))))) ⟨(anLeaf _ _), ⟨(anLeaf _ _), ⟨(anLeaf _ _), ⟨(anLeaf _ _), ⟨⟨⟨s_Decimal_l0_f K, K, rfl, fun _ => rfl, fun n x => s_Decimal_l0_ok K n x⟩, (anLeaf _ _)⟩, (anLeaf _ _)⟩⟩⟩⟩⟩ (s_Decimal_ok K), ⟨_, _, Go.Proofs.Try.func126, rfl, by kernel_rfl⟩⟩
/-! loop.example/g00183/spec.l13Bundle -/
noncomputable def s_l13Bundle_ps : List PK := [.ptr R_l01Cur, .agg R_Ring, .val (.int .i64)]
noncomputable def s_l13Bundle_rs : List PK := [.agg (.cons (.int .i64) (.cons (.int .i64) (.cons (.int .i64) (.cons (.ow R_Item) .nil))))]
noncomputable def s_l13Bundle_fin : Fin := ⟨s_l13Bundle_ps, s_l13Bundle_rs, [.cell 6 30]⟩
noncomputable def s_l13Bundle_l0_hd : Pat := [(0, .ptr 1000000000 0), (6, .ptr 6 0), (7, .ptr 7 0), (8, .val (.ow R_Item)), (9, .val (.int .i64)), (6, .box (.cons (.int .i64) (.cons (.int .i64) (.cons (.int .i64) (.cons (.ow R_Item) .nil))))), (7, .box (.cons (.int .i64) (.cons (.int .i64) (.cons (.int .i64) (.cons (.ow R_Item) .nil))))), (1000000000, .box R_l01Cur)]
noncomputable def s_l13Bundle_l0_xp : Pat := [(0, .ptr 1000000000 0), (6, .ptr 6 0), (7, .ptr 7 0), (8, .val (.ow R_Item)), (6, .box (.cons (.int .i64) (.cons (.int .i64) (.cons (.int .i64) (.cons (.ow R_Item) .nil))))), (7, .box (.cons (.int .i64) (.cons (.int .i64) (.cons (.int .i64) (.cons (.ow R_Item) .nil))))), (1000000000, .box R_l01Cur)]
noncomputable def s_l13Bundle_l0_f (K n : Nat) (x : (Pat.ty s_l13Bundle_l0_hd).Den) : Option ((outOf s_l13Bundle_ps s_l13Bundle_rs).Den ⊕ (Pat.ty s_l13Bundle_l0_xp).Den) := s_l13Bundle_l0 K n x.2.2.2.1 x.2.2.2.2.1 x.2.2.2.2.2.1 x.2.2.2.2.2.2.1 x.2.2.2.2.2.2.2.1
noncomputable def s_l13Bundle_l0_an (K : Nat) : An (outOf s_l13Bundle_ps s_l13Bundle_rs) := .loop s_l13Bundle_l0_hd s_l13Bundle_l0_xp 0 (s_l13Bundle_l0_f K K) .leaf
noncomputable def s_l13Bundle_l1_hd : Pat := [(0, .ptr 1000000000 0), (6, .ptr 6 0), (7, .ptr 7 0), (8, .val (.ow R_Item)), (10, .val (.int .i64)), (6, .box (.cons (.int .i64) (.cons (.int .i64) (.cons (.int .i64) (.cons (.ow R_Item) .nil))))), (7, .box (.cons (.int .i64) (.cons (.int .i64) (.cons (.int .i64) (.cons (.ow R_Item) .nil))))), (1000000000, .box R_l01Cur)]
noncomputable def s_l13Bundle_l1_xp : Pat := [(6, .ptr 6 0), (7, .ptr 7 0), (6, .box (.cons (.int .i64) (.cons (.int .i64) (.cons (.int .i64) (.cons (.ow R_Item) .nil))))), (7, .box (.cons (.int .i64) (.cons (.int .i64) (.cons (.int .i64) (.cons (.ow R_Item) .nil))))), (1000000000, .box R_l01Cur)]
noncomputable def s_l13Bundle_l1_f (K n : Nat) (x : (Pat.ty s_l13Bundle_l1_hd).Den) : Option ((outOf s_l13Bundle_ps s_l13Bundle_rs).Den ⊕ (Pat.ty s_l13Bundle_l1_xp).Den) := s_l13Bundle_l1 K n x.2.2.2.1 x.2.2.2.2.1 x.2.2.2.2.2.1 x.2.2.2.2.2.2.1 x.2.2.2.2.2.2.2.1
noncomputable def s_l13Bundle_l1_an (K : Nat) : An (outOf s_l13Bundle_ps s_l13Bundle_rs) := .loop s_l13Bundle_l1_hd s_l13Bundle_l1_xp 2 (s_l13Bundle_l1_f K K) .leaf
noncomputable def s_l13Bundle_m (K : Nat) : Mdl := ⟨s_l13Bundle_ps, s_l13Bundle_rs, fun x => s_l13Bundle K x.1 x.2.1 x.2.2.1⟩
noncomputable def s_l13Bundle_l0_c : Code := loopAt [1, 1, 0, 1, 0, 1, 1, 0, 1, 0, 9] (bodyOf Go.Proofs.Try.f98)
theorem s_l13Bundle_l0_ok (K n : Nat) (x : (Pat.ty s_l13Bundle_l0_hd).Den) : s_l13Bundle_l0_f K (n + 1) x = round (env [(67, s_l01Once_m K), (68, s_l01Below_m K), (126, s_Decimal_m K)] [] false 67) s_l13Bundle_fin s_l13Bundle_l0_hd s_l13Bundle_l0_xp 0 s_l13Bundle_l0_c .leaf (s_l13Bundle_l0_f K n) x := by kernel_rfl
noncomputable def s_l13Bundle_l1_c : Code := loopAt [1, 1, 0, 1, 0, 1, 1, 1, 1, 0, 9] (bodyOf Go.Proofs.Try.f98)
theorem s_l13Bundle_l1_ok (K n : Nat) (x : (Pat.ty s_l13Bundle_l1_hd).Den) : s_l13Bundle_l1_f K (n + 1) x = round (env [(67, s_l01Once_m K), (68, s_l01Below_m K), (126, s_Decimal_m K)] [] false 67) s_l13Bundle_fin s_l13Bundle_l1_hd s_l13Bundle_l1_xp 2 s_l13Bundle_l1_c .leaf (s_l13Bundle_l1_f K n) x := by kernel_rfl
theorem s_l13Bundle_ok (K : Nat) (x : (rowOf s_l13Bundle_ps).Den) : evalFn (env [(67, s_l01Once_m K), (68, s_l01Below_m K), (126, s_Decimal_m K)] [] false 67) s_l13Bundle_fin (bodyOf Go.Proofs.Try.f98) (.seq .leaf (.seq .leaf (.seq (.seq .leaf (.cond (.seq .leaf (.seq .leaf (.seq (.seq .leaf (.block (s_l13Bundle_l0_an K))) (.seq .leaf (.block (s_l13Bundle_l1_an K)))))) .leaf)) .leaf))) x = (s_l13Bundle_m K).fn x := by kernel_rfl
theorem s_l13Bundle_all (K : Nat) : (s_l13Bundle_m K).ok = true ∧ Refines Go.Proofs.Try.prog 98 (s_l13Bundle_m K) ∧ Callable Go.Proofs.Try.prog 98 := ⟨rfl, refines_of (E := (env [(67, s_l01Once_m K), (68, s_l01Below_m K), (126, s_Decimal_m K)] [] false 67)) (envTy _ _ _ _) (fnsOf rfl ⟨s_l01Once_all K, s_l01Below_all K, s_Decimal_all K, trivial⟩) (by kernel_rfl) Go.Proofs.Try.func98 rfl rfl s_l13Bundle_fin rfl (by kernel_rfl) (.seq .leaf (.seq .leaf (.seq (.seq .leaf (.cond (.seq .leaf (.seq .leaf (.seq (.seq .leaf (.block (s_l13Bundle_l0_an K))) (.seq .leaf (.block (s_l13Bundle_l1_an K)))))) .leaf)) .leaf))) ⟨(anLeaf _ _), ⟨(anLeaf _ _), ⟨⟨(anLeaf _ _), ⟨⟨(anLeaf _ _), ⟨(anLeaf _ _), ⟨⟨(anLeaf _ _), ⟨⟨s_l13Bundle_l0_f K, K, rfl, fun _ => rfl, fun n x => s_l13Bundle_l0_ok K n x⟩, (anLeaf _ _)⟩⟩, ⟨(anLeaf _ _), ⟨⟨s_l13Bundle_l1_f K, K, rfl, fun _ => rfl, fun n x => s_l13Bundle_l1_ok K n x⟩, (anLeaf _ _)⟩⟩⟩⟩⟩, (anLeaf _ _)⟩⟩, (anLeaf _ _)⟩⟩⟩ (s_l13Bundle_ok K), ⟨_, _, Go.Proofs.Try.func98, rfl, by kernel_rfl⟩⟩
/-! loop.example/g00183/spec.l01PickInt -/
noncomputable def s_l01PickInt_ps : List PK := [.ptr R_l01Cur, .val (.sl (.int .i64))]
noncomputable def s_l01PickInt_rs : List PK := [.val (.int .i64)]
noncomputable def s_l01PickInt_fin : Fin := ⟨s_l01PickInt_ps, s_l01PickInt_rs, [.tmp 4]⟩
noncomputable def s_l01PickInt_m (K : Nat) : Mdl := ⟨s_l01PickInt_ps, s_l01PickInt_rs, fun x => s_l01PickInt K x.1 x.2.1⟩
theorem s_l01PickInt_ok (K : Nat) (x : (rowOf s_l01PickInt_ps).Den) : evalFn (env [(68, s_l01Below_m K)] [] false 12) s_l01PickInt_fin (bodyOf Go.Proofs.Try.f121) .leaf x = (s_l01PickInt_m K).fn x := by kernel_rfl
theorem s_l01PickInt_all (K : Nat) : (s_l01PickInt_m K).ok = true ∧ Refines Go.Proofs.Try.prog 121 (s_l01PickInt_m K) ∧ Callable Go.Proofs.Try.prog 121 := ⟨rfl, refines_of (E := (env [(68, s_l01Below_m K)] [] false 12)) (envTy _ _ _ _) (fnsOf rfl ⟨s_l01Below_all K, trivial⟩) (by kernel_rfl) Go.Proofs.Try.func121 rfl rfl s_l01PickInt_fin rfl (by kernel_rfl) .leaf (anLeaf _ _) (s_l01PickInt_ok K), ⟨_, _, Go.Proofs.Try.func121, rfl, by kernel_rfl⟩⟩
/-! loop.example/g00183/spec.l01Pick -/
noncomputable def s_l01Pick_ps : List PK := [.ptr R_l01Cur, .val (.sl .str)]
noncomputable def s_l01Pick_rs : List PK := [.val .str]
noncomputable def s_l01Pick_fin : Fin := ⟨s_l01Pick_ps, s_l01Pick_rs, [.tmp 4]⟩
noncomputable def s_l01Pick_m (K : Nat) : Mdl := ⟨s_l01Pick_ps, s_l01Pick_rs, fun x => s_l01Pick K x.1 x.2.1⟩
theorem s_l01Pick_ok (K : Nat) (x : (rowOf s_l01Pick_ps).Den) : evalFn (env [(68, s_l01Below_m K)] [] false 12) s_l01Pick_fin (bodyOf Go.Proofs.Try.f139) .leaf x = (s_l01Pick_m K).fn x := by kernel_rfl
theorem s_l01Pick_all (K : Nat) : (s_l01Pick_m K).ok = true ∧ Refines Go.Proofs.Try.prog 139 (s_l01Pick_m K) ∧ Callable Go.Proofs.Try.prog 139 := ⟨rfl, refines_of (E := (env [(68, s_l01Below_m K)] [] false 12)) (envTy _ _ _ _) (fnsOf rfl ⟨s_l01Below_all K, trivial⟩) (by kernel_rfl) Go.Proofs.Try.func139 rfl rfl s_l01Pick_fin rfl (by kernel_rfl) .leaf (anLeaf _ _) (s_l01Pick_ok K), ⟨_, _, Go.Proofs.Try.func139, rfl, by kernel_rfl⟩⟩
/-! loop.example/g00183/spec.l05Of -/
noncomputable def s_l05Of_ps : List PK := [.ptr R_l01Cur, .val (.int .i64)]
noncomputable def s_l05Of_rs : List PK := [.agg R_Item]
noncomputable def s_l05Of_fin : Fin := ⟨s_l05Of_ps, s_l05Of_rs, [.cell 4 58]⟩
noncomputable def s_l05Of_m (K : Nat) : Mdl := ⟨s_l05Of_ps, s_l05Of_rs, fun x => s_l05Of K x.1 x.2.1⟩
theorem s_l05Of_ok (K : Nat) (x : (rowOf s_l05Of_ps).Den) : evalFn (env [(68, s_l01Below_m K), (139, s_l01Pick_m K)] [] false 16) s_l05Of_fin (bodyOf Go.Proofs.Try.f120) .leaf x = (s_l05Of_m K).fn x := by kernel_rfl
theorem s_l05Of_all (K : Nat) : (s_l05Of_m K).ok = true ∧ Refines Go.Proofs.Try.prog 120 (s_l05Of_m K) ∧ Callable Go.Proofs.Try.prog 120 := ⟨rfl, refines_of (E := (env [(68, s_l01Below_m K), (139, s_l01Pick_m K)] [] false 16)) (envTy _ _ _ _) (fnsOf rfl ⟨s_l01Below_all K, s_l01Pick_all K, trivial⟩) (by kernel_rfl) Go.Proofs.Try.func120 rfl rfl s_l05Of_fin rfl (by kernel_rfl) .leaf (anLeaf _ _) (s_l05Of_ok K), ⟨_, _, Go.Proofs.Try.func120, rfl, by kernel_rfl⟩⟩
/-! loop.example/g00183/spec.l05Items -/
noncomputable def s_l05Items_ps : List PK := [.ptr R_l01Cur]
noncomputable def s_l05Items_rs : List PK := [.val (.ow R_Item)]
noncomputable def s_l05Items_fin : Fin := ⟨s_l05Items_ps, s_l05Items_rs, [.tmp 2]⟩
noncomputable def s_l05Items_l0_hd : Pat := [(0, .ptr 1000000000 0), (3, .val (.ow R_Item)), (4, .val (.int .i64)), (1000000000, .box R_l01Cur)]
noncomputable def s_l05Items_l0_xp : Pat := [(3, .val (.ow R_Item)), (1000000000, .box R_l01Cur)]
noncomputable def s_l05Items_l0_f (K n : Nat) (x : (Pat.ty s_l05Items_l0_hd).Den) : Option ((outOf s_l05Items_ps s_l05Items_rs).Den ⊕ (Pat.ty s_l05Items_l0_xp).Den) := s_l05Items_l0 K n x.2.1 x.2.2.1 x.2.2.2.1
noncomputable def s_l05Items_l0_an (K : Nat) : An (outOf s_l05Items_ps s_l05Items_rs) := .loop s_l05Items_l0_hd s_l05Items_l0_xp 0 (s_l05Items_l0_f K K) .leaf
noncomputable def s_l05Items_m (K : Nat) : Mdl := ⟨s_l05Items_ps, s_l05Items_rs, fun x => s_l05Items K x.1⟩
noncomputable def s_l05Items_l0_c : Code := loopAt [1, 1, 0, 1, 0, 9] (bodyOf Go.Proofs.Try.f142)
theorem s_l05Items_l0_ok (K n : Nat) (x : (Pat.ty s_l05Items_l0_hd).Den) : s_l05Items_l0_f K (n + 1) x = round (env [(67, s_l01Once_m K), (68, s_l01Below_m K), (120, s_l05Of_m K)] [] false 22) s_l05Items_fin s_l05Items_l0_hd s_l05Items_l0_xp 0 s_l05Items_l0_c .leaf (s_l05Items_l0_f K n) x := by kernel_rfl
theorem s_l05Items_ok (K : Nat) (x : (rowOf s_l05Items_ps).Den) : evalFn (env [(67, s_l01Once_m K), (68, s_l01Below_m K), (120, s_l05Of_m K)] [] false 22) s_l05Items_fin (bodyOf Go.Proofs.Try.f142) (.seq .leaf (.seq .leaf (.seq (.seq .leaf (.block (s_l05Items_l0_an K))) .leaf))) x = (s_l05Items_m K).fn x := by kernel_rfl
theorem s_l05Items_all (K : Nat) : (s_l05Items_m K).ok = true ∧ Refines Go.Proofs.Try.prog 142 (s_l05Items_m K) ∧ Callable Go.Proofs.Try.prog 142 := ⟨rfl, refines_of (E := (env [(67, s_l01Once_m K), (68, s_l01Below_m K), (120, s_l05Of_m K)] [] false 22)) (envTy _ _ _ _) (fnsOf rfl ⟨s_l01Once_all K, s_l01Below_all K, s_l05Of_all K, trivial⟩) (by kernel_rfl) Go.Proofs.Try.func142 rfl rfl s_l05Items_fin rfl (by kernel_rfl) (.seq .leaf (.seq .leaf (.seq (.seq .leaf (.block (s_l05Items_l0_an K))) .leaf))) ⟨(anLeaf _ _), ⟨(anLeaf _ _), ⟨⟨(anLeaf _ _), ⟨⟨s_l05Items_l0_f K, K, rfl, fun _ => rfl, fun n x => s_l05Items_l0_ok K n x⟩, (anLeaf _ _)⟩⟩, (anLeaf _ _)⟩⟩⟩ (s_l05Items_ok K), ⟨_, _, Go.Proofs.Try.func142, rfl, by kernel_rfl⟩⟩
/-! loop.example/g00183/spec.l01Long -/
noncomputable def s_l01Long_ps : List PK := [.val (.int .i64), .val (.int .u8)]
noncomputable def s_l01Long_rs : List PK := [.val .str]
noncomputable def s_l01Long_fin : Fin := ⟨s_l01Long_ps, s_l01Long_rs, [.tmp 4]⟩
noncomputable def s_l01Long_l0_hd : Pat := [(0, .val (.int .i64)), (1, .val (.int .u8)), (5, .val (.ow (.int .u8))), (6, .val (.int .i64))]
noncomputable def s_l01Long_l0_xp : Pat := [(5, .val (.ow (.int .u8)))]
noncomputable def s_l01Long_l0_f (K n : Nat) (x : (Pat.ty s_l01Long_l0_hd).Den) : Option ((outOf s_l01Long_ps s_l01Long_rs).Den ⊕ (Pat.ty s_l01Long_l0_xp).Den) := s_l01Long_l0 K n x.1 x.2.1 x.2.2.1 x.2.2.2.1
noncomputable def s_l01Long_l0_an (K : Nat) : An (outOf s_l01Long_ps s_l01Long_rs) := .loop s_l01Long_l0_hd s_l01Long_l0_xp 0 (s_l01Long_l0_f K K) .leaf
noncomputable def s_l01Long_m (K : Nat) : Mdl := ⟨s_l01Long_ps, s_l01Long_rs, fun x => s_l01Long K x.1 x.2.1⟩
noncomputable def s_l01Long_l0_c : Code := loopAt [1, 1, 0, 1, 0, 9] (bodyOf Go.Proofs.Try.f122)
theorem s_l01Long_l0_ok (K n : Nat) (x : (Pat.ty s_l01Long_l0_hd).Den) : s_l01Long_l0_f K (n + 1) x = round (env [] [] false 20) s_l01Long_fin s_l01Long_l0_hd s_l01Long_l0_xp 0 s_l01Long_l0_c .leaf (s_l01Long_l0_f K n) x := by kernel_rfl
theorem s_l01Long_ok (K : Nat) (x : (rowOf s_l01Long_ps).Den) : evalFn (env [] [] false 20) s_l01Long_fin (bodyOf Go.Proofs.Try.f122) (.seq .leaf (.seq .leaf (.seq (.seq .leaf (.block (s_l01Long_l0_an K))) .leaf))) x = (s_l01Long_m K).fn x := by kernel_rfl
theorem s_l01Long_all (K : Nat) : (s_l01Long_m K).ok = true ∧ Refines Go.Proofs.Try.prog 122 (s_l01Long_m K) ∧ Callable Go.Proofs.Try.prog 122 := ⟨rfl, refines_of (E := (env [] [] false 20)) (envTy _ _ _ _) (fnsOf rfl trivial) (by kernel_rfl) Go.Proofs.Try.func122 rfl rfl s_l01Long_fin rfl (by kernel_rfl) (.seq .leaf (.seq .leaf (.seq (.seq .leaf (.block (s_l01Long_l0_an K))) .leaf))) ⟨(anLeaf _ _), ⟨(anLeaf _ _), ⟨⟨(anLeaf _ _), ⟨⟨s_l01Long_l0_f K, K, rfl, fun _ => rfl, fun n x => s_l01Long_l0_ok K n x⟩, (anLeaf _ _)⟩⟩, (anLeaf _ _)⟩⟩⟩ (s_l01Long_ok K), ⟨_, _, Go.Proofs.Try.func122, rfl, by kernel_rfl⟩⟩
/-! loop.example/g00183/spec.l05AnyItem -/
noncomputable def s_l05AnyItem_ps : List PK := [.ptr R_l01Cur]
noncomputable def s_l05AnyItem_rs : List PK := [.agg R_Item]
noncomputable def s_l05AnyItem_fin : Fin := ⟨s_l05AnyItem_ps, s_l05AnyItem_rs, [.cell 2 58]⟩
noncomputable def s_l05AnyItem_m (K : Nat) : Mdl := ⟨s_l05AnyItem_ps, s_l05AnyItem_rs, fun x => s_l05AnyItem K x.1⟩
theorem s_l05AnyItem_ok (K : Nat) (x : (rowOf s_l05AnyItem_ps).Den) : evalFn (env [(68, s_l01Below_m K), (120, s_l05Of_m K), (121, s_l01PickInt_m K), (122, s_l01Long_m K)] [] false 37) s_l05AnyItem_fin (bodyOf Go.Proofs.Try.f86) .leaf x = (s_l05AnyItem_m K).fn x := by kernel_rfl
theorem s_l05AnyItem_all (K : Nat) : (s_l05AnyItem_m K).ok = true ∧ Refines Go.Proofs.Try.prog 86 (s_l05AnyItem_m K) ∧ Callable Go.Proofs.Try.prog 86 := ⟨rfl, refines_of (E := (env [(68, s_l01Below_m K), (120, s_l05Of_m K), (121, s_l01PickInt_m K), (122, s_l01Long_m K)] [] false 37)) (envTy _ _ _ _) (fnsOf rfl ⟨s_l01Below_all K, s_l05Of_all K, s_l01PickInt_all K, s_l01Long_all K, trivial⟩) (by kernel_rfl) Go.Proofs.Try.func86 rfl rfl s_l05AnyItem_fin rfl (by kernel_rfl) .leaf (anLeaf _ _) (s_l05AnyItem_ok K), ⟨_, _, Go.Proofs.Try.func86, rfl, by kernel_rfl⟩⟩
/-! loop.example/g00183/spec.l05AnyItems -/
noncomputable def s_l05AnyItems_ps : List PK := [.ptr R_l01Cur]
noncomputable def s_l05AnyItems_rs : List PK := [.val (.ow R_Item)]
noncomputable def s_l05AnyItems_fin : Fin := ⟨s_l05AnyItems_ps, s_l05AnyItems_rs, [.tmp 2]⟩
noncomputable def s_l05AnyItems_m (K : Nat) : Mdl := ⟨s_l05AnyItems_ps, s_l05AnyItems_rs, fun x => s_l05AnyItems K x.1⟩
theorem s_l05AnyItems_ok (K : Nat) (x : (rowOf s_l05AnyItems_ps).Den) : evalFn (env [(68, s_l01Below_m K), (86, s_l05AnyItem_m K), (121, s_l01PickInt_m K), (142, s_l05Items_m K)] [] false 31) s_l05AnyItems_fin (bodyOf Go.Proofs.Try.f127) .leaf x = (s_l05AnyItems_m K).fn x := by kernel_rfl
theorem s_l05AnyItems_all (K : Nat) : (s_l05AnyItems_m K).ok = true ∧ Refines Go.Proofs.Try.prog 127 (s_l05AnyItems_m K) ∧ Callable Go.Proofs.Try.prog 127 := ⟨rfl, refines_of (E := (env [(68, s_l01Below_m K), (86, s_l05AnyItem_m K), (121, s_l01PickInt_m K), (142, s_l05Items_m K)] [] false 31)) (envTy _ _ _ _) (fnsOf rfl ⟨s_l01Below_all K, s_l05AnyItem_all K, s_l01PickInt_all K, s_l05Items_all K, trivial⟩) (by kernel_rfl) Go.Proofs.Try.func127 rfl rfl s_l05AnyItems_fin rfl (by kernel_rfl) .leaf (anLeaf _ _) (s_l05AnyItems_ok K), ⟨_, _, Go.Proofs.Try.func127, rfl, by kernel_rfl⟩⟩
/-! loop.example/g00183/spec.l13AnyBundle -/
noncomputable def s_l13AnyBundle_ps : List PK := [.ptr R_l01Cur]
noncomputable def s_l13AnyBundle_rs : List PK := [.agg (.cons (.int .i64) (.cons (.int .i64) (.cons (.int .i64) (.cons (.ow R_Item) .nil))))]
noncomputable def s_l13AnyBundle_fin : Fin := ⟨s_l13AnyBundle_ps, s_l13AnyBundle_rs, [.cell 2 30]⟩
noncomputable def s_l13AnyBundle_m (K : Nat) : Mdl := ⟨s_l13AnyBundle_ps, s_l13AnyBundle_rs, fun x => s_l13AnyBundle K x.1⟩
theorem s_l13AnyBundle_ok (K : Nat) (x : (rowOf s_l13AnyBundle_ps).Den) : evalFn (env [(68, s_l01Below_m K), (82, s_l09Ring_m K), (98, s_l13Bundle_m K), (121, s_l01PickInt_m K), (127, s_l05AnyItems_m K)] [] false 46) s_l13AnyBundle_fin (bodyOf Go.Proofs.Try.f99) .leaf x = (s_l13AnyBundle_m K).fn x := by kernel_rfl
theorem s_l13AnyBundle_all (K : Nat) : (s_l13AnyBundle_m K).ok = true ∧ Refines Go.Proofs.Try.prog 99 (s_l13AnyBundle_m K) ∧ Callable Go.Proofs.Try.prog 99 := ⟨rfl, refines_of (E := (env [(68, s_l01Below_m K), (82, s_l09Ring_m K), (98, s_l13Bundle_m K), (121, s_l01PickInt_m K), (127, s_l05AnyItems_m K)] [] false 46)) (envTy _ _ _ _) (fnsOf rfl ⟨s_l01Below_all K, s_l09Ring_all K, s_l13Bundle_all K, s_l01PickInt_all K, s_l05AnyItems_all K, trivial⟩) (by kernel_rfl) Go.Proofs.Try.func99 rfl rfl s_l13AnyBundle_fin rfl (by kernel_rfl) .leaf (anLeaf _ _) (s_l13AnyBundle_ok K), ⟨_, _, Go.Proofs.Try.func99, rfl, by kernel_rfl⟩⟩
/-! loop.example/g00183/spec.l13Bundles -/
noncomputable def s_l13Bundles_ps : List PK := [.ptr R_l01Cur]
noncomputable def s_l13Bundles_rs : List PK := [.agg R_Ring, .val (.ow R_Bundle)]
noncomputable def s_l13Bundles_fin : Fin := ⟨s_l13Bundles_ps, s_l13Bundles_rs, [.cell 2 38, .tmp 3]⟩
noncomputable def s_l13Bundles_l0_hd : Pat := [(0, .ptr 1000000000 0), (2, .ptr 2 0), (4, .ptr 4 0), (5, .val (.ow R_Bundle)), (6, .val (.int .i64)), (2, .box (.cons (.int .i64) (.cons (.ow (.int .i64)) .nil))), (4, .box R_Ring), (1000000000, .box R_l01Cur)]
noncomputable def s_l13Bundles_l0_xp : Pat := [(2, .ptr 2 0), (4, .ptr 4 0), (5, .val (.ow R_Bundle)), (2, .box (.cons (.int .i64) (.cons (.ow (.int .i64)) .nil))), (4, .box R_Ring), (1000000000, .box R_l01Cur)]
noncomputable def s_l13Bundles_l0_f (K n : Nat) (x : (Pat.ty s_l13Bundles_l0_hd).Den) : Option ((outOf s_l13Bundles_ps s_l13Bundles_rs).Den ⊕ (Pat.ty s_l13Bundles_l0_xp).Den) := s_l13Bundles_l0 K n x.2.2.2.1 x.2.2.2.2.1 x.2.2.2.2.2.1 x.2.2.2.2.2.2.1 x.2.2.2.2.2.2.2.1
noncomputable def s_l13Bundles_l0_an (K : Nat) : An (outOf s_l13Bundles_ps s_l13Bundles_rs) := .loop s_l13Bundles_l0_hd s_l13Bundles_l0_xp 0 (s_l13Bundles_l0_f K K) .leaf
noncomputable def s_l13Bundles_m (K : Nat) : Mdl := ⟨s_l13Bundles_ps, s_l13Bundles_rs, fun x => s_l13Bundles K x.1⟩
noncomputable def s_l13Bundles_l0_c : Code := loopAt [1, 1, 1, 1, 0, 1, 0, 9] (bodyOf Go.Proofs.Try.f55)
theorem s_l13Bundles_l0_ok (K n : Nat) (x : (Pat.ty s_l13Bundles_l0_hd).Den) : s_l13Bundles_l0_f K (n + 1) x = round (env [(67, s_l01Once_m K), (68, s_l01Below_m K), (82, s_l09Ring_m K), (98, s_l13Bundle_m K), (99, s_l13AnyBundle_m K)] [] false 44) s_l13Bundles_fin s_l13Bundles_l0_hd s_l13Bundles_l0_xp 0 s_l13Bundles_l0_c .leaf (s_l13Bundles_l0_f K n) x := by kernel_rfl
theorem s_l13Bundles_ok (K : Nat) (x : (rowOf s_l13Bundles_ps).Den) : evalFn (env [(67, s_l01Once_m K), (68, s_l01Below_m K), (82, s_l09Ring_m K), (98, s_l13Bundle_m K), (99, s_l13AnyBundle_m K)] [] false 44) s_l13Bundles_fin (bodyOf Go.Proofs.Try.f55) (.seq .leaf (.seq .leaf (.seq .leaf (.seq .leaf (.seq (.seq .leaf (.block (s_l13Bundles_l0_an K))) .leaf))))) x = (s_l13Bundles_m K).fn x := by kernel_rfl
theorem s_l13Bundles_all (K : Nat) : (s_l13Bundles_m K).ok = true ∧ Refines Go.Proofs.Try.prog 55 (s_l13Bundles_m K) ∧ Callable Go.Proofs.Try.prog 55 := ⟨rfl, refines_of (E := (env [(67, s_l01Once_m K), (68, s_l01Below_m K), (82, s_l09Ring_m K), (98, s_l13Bundle_m K), (99, s_l13AnyBundle_m K)] [] false 44)) (envTy _ _ _ _) (fnsOf rfl ⟨s_l01Once_all K, s_l01Below_all K, s_l09Ring_all K, s_l13Bundle_all K, s_l13AnyBundle_all K, trivial⟩) (by kernel_rfl) Go.Proofs.Try.func55 rfl rfl s_l13Bundles_fin rfl (by kernel_rfl) (.seq .leaf (.seq .leaf (.seq .leaf (.seq .leaf (.seq (.seq .leaf (.block (s_l13Bundles_l0_an K))) .leaf))))) ⟨(anLeaf _ _), ⟨(anLeaf _ _), ⟨(anLeaf _ _), ⟨(anLeaf _ _), ⟨⟨(anLeaf _ _), ⟨⟨s_l13Bundles_l0_f K, K, rfl, fun _ => rfl, fun n x => s_l13Bundles_l0_ok K n x⟩, (anLeaf _ _)⟩⟩, (anLeaf _ _)⟩⟩⟩⟩⟩ (s_l13Bundles_ok K), ⟨_, _, Go.Proofs.Try.func55, rfl, by kernel_rfl⟩⟩
/-! loop.example/g00183/spec.DrawTogether -/
noncomputable def s_DrawTogether_ps : List PK := [.val (.sl (.int .u8))]
noncomputable def s_DrawTogether_rs : List PK := [.agg R_Ring, .val (.ow R_Bundle)]
noncomputable def s_DrawTogether_fin : Fin := ⟨s_DrawTogether_ps, s_DrawTogether_rs, [.cell 2 38, .tmp 3]⟩
noncomputable def s_DrawTogether_m (K : Nat) : Mdl := ⟨s_DrawTogether_ps, s_DrawTogether_rs, fun x => s_DrawTogether K x.1⟩
theorem s_DrawTogether_ok (K : Nat) (x : (rowOf s_DrawTogether_ps).Den) : evalFn (env [(55, s_l13Bundles_m K), (56, s_l01New_m K)] [] false 9) s_DrawTogether_fin (bodyOf Go.Proofs.Try.f14) .leaf x = (s_DrawTogether_m K).fn x := by kernel_rfl
theorem s_DrawTogether_all (K : Nat) : (s_DrawTogether_m K).ok = true ∧ Refines Go.Proofs.Try.prog 14 (s_DrawTogether_m K) ∧ Callable Go.Proofs.Try.prog 14 := ⟨rfl, refines_of (E := (env [(55, s_l13Bundles_m K), (56, s_l01New_m K)] [] false 9)) (envTy _ _ _ _) (fnsOf rfl ⟨s_l13Bundles_all K, s_l01New_all K, trivial⟩) (by kernel_rfl) Go.Proofs.Try.func14 rfl rfl s_DrawTogether_fin rfl (by kernel_rfl) .leaf (anLeaf _ _) (s_DrawTogether_ok K), ⟨_, _, Go.Proofs.Try.func14, rfl, by kernel_rfl⟩⟩
/-! loop.example/g00183/impl.bundleOf -/
noncomputable def i_bundleOf_ps : List PK := [.agg R_Ring, .val (.sl R_Bundle), .val (.int .i64)]
noncomputable def i_bundleOf_rs : List PK := [.agg R_Bundle, .val .bool]
noncomputable def i_bundleOf_fin : Fin := ⟨i_bundleOf_ps, i_bundleOf_rs, [.cell 6 30, .tmp 7]⟩
noncomputable def i_bundleOf_l0_hd : Pat := [(2, .val (.int .i64)), (3, .ptr 3 0), (6, .ptr 6 0), (10, .val (.sl R_Bundle)), (11, .val (.int .i64)), (12, .val (.int .i64)), (3, .box R_Ring), (6, .box (.cons (.int .i64) (.cons (.int .i64) (.cons (.int .i64) (.cons (.ow R_Item) .nil)))))]
noncomputable def i_bundleOf_l0_xp : Pat := [(6, .ptr 6 0), (6, .box (.cons (.int .i64) (.cons (.int .i64) (.cons (.int .i64) (.cons (.ow R_Item) .nil)))))]
noncomputable def i_bundleOf_l0_f (K n : Nat) (x : (Pat.ty i_bundleOf_l0_hd).Den) : Option ((outOf i_bundleOf_ps i_bundleOf_rs).Den ⊕ (Pat.ty i_bundleOf_l0_xp).Den) := i_bundleOf_l0 K n x.1 x.2.2.2.1 x.2.2.2.2.1 x.2.2.2.2.2.1 x.2.2.2.2.2.2.1 x.2.2.2.2.2.2.2.1
noncomputable def i_bundleOf_l0_an (K : Nat) : An (outOf i_bundleOf_ps i_bundleOf_rs) := .loop i_bundleOf_l0_hd i_bundleOf_l0_xp 0 (i_bundleOf_l0_f K K) .leaf
noncomputable def i_bundleOf_m (K : Nat) : Mdl := ⟨i_bundleOf_ps, i_bundleOf_rs, fun x => i_bundleOf K x.1 x.2.1 x.2.2.1⟩
noncomputable def i_bundleOf_l0_c : Code := loopAt [1, 0, 1, 0, 9] (bodyOf Go.Proofs.Try.f57)
theorem i_bundleOf_l0_ok (K n : Nat) (x : (Pat.ty i_bundleOf_l0_hd).Den) : i_bundleOf_l0_f K (n + 1) x = round (env [(46, i_BundleOk_m K)] [] false 34) i_bundleOf_fin i_bundleOf_l0_hd i_bundleOf_l0_xp 0 i_bundleOf_l0_c .leaf (i_bundleOf_l0_f K n) x := by kernel_rfl
theorem i_bundleOf_ok (K : Nat) (x : (rowOf i_bundleOf_ps).Den) : evalFn (env [(46, i_BundleOk_m K)] [] false 34) i_bundleOf_fin (bodyOf Go.Proofs.Try.f57) (.seq .leaf (.seq (.seq .leaf (.block (i_bundleOf_l0_an K))) .leaf)) x = (i_bundleOf_m K).fn x := by kernel_rfl
theorem i_bundleOf_all (K : Nat) : (i_bundleOf_m K).ok = true ∧ Refines Go.Proofs.Try.prog 57 (i_bundleOf_m K) ∧ Callable Go.Proofs.Try.prog 57 := ⟨rfl, refines_of (E := (env [(46, i_BundleOk_m K)] [] false 34)) (envTy _ _ _ _) (fnsOf rfl ⟨i_BundleOk_all K, trivial⟩) (by kernel_rfl) Go.Proofs.Try.func57 rfl rfl i_bundleOf_fin rfl (by kernel_rfl) (.seq .leaf (.seq (.seq .leaf (.block (i_bundleOf_l0_an K))) .leaf)) ⟨(anLeaf _ _), ⟨⟨(anLeaf _ _), ⟨⟨i_bundleOf_l0_f K, K, rfl, fun _ => rfl, fun n x => i_bundleOf_l0_ok K n x⟩, (anLeaf _ _)⟩⟩, (anLeaf _ _)⟩⟩ (i_bundleOf_ok K), ⟨_, _, Go.Proofs.Try.func57, rfl, by kernel_rfl⟩⟩
/-! slices.Index[[]int,int] -/
noncomputable def slices_Index_int_int_ps : List PK := [.val (.sl (.int .i64)), .val (.int .i64)]
noncomputable def slices_Index_int_int_rs : List PK := [.val (.int .i64)]
noncomputable def slices_Index_int_int_fin : Fin := ⟨slices_Index_int_int_ps, slices_Index_int_int_rs, [.tmp 4]⟩
noncomputable def slices_Index_int_int_l0_hd : Pat := [(0, .val (.sl (.int .i64))), (1, .val (.int .i64)), (7, .val (.int .i64)), (8, .val (.int .i64))]
noncomputable def slices_Index_int_int_l0_xp : Pat := []
noncomputable def slices_Index_int_int_l0_f (K n : Nat) (x : (Pat.ty slices_Index_int_int_l0_hd).Den) : Option ((outOf slices_Index_int_int_ps slices_Index_int_int_rs).Den ⊕ (Pat.ty slices_Index_int_int_l0_xp).Den) := slices_Index_int_int_l0 K n x.1 x.2.1 x.2.2.1 x.2.2.2.1
noncomputable def slices_Index_int_int_l0_an (K : Nat) : An (outOf slices_Index_int_int_ps slices_Index_int_int_rs) := .loop slices_Index_int_int_l0_hd slices_Index_int_int_l0_xp 0 (slices_Index_int_int_l0_f K K) .leaf
noncomputable def slices_Index_int_int_m (K : Nat) : Mdl := ⟨slices_Index_int_int_ps, slices_Index_int_int_rs, fun x => slices_Index_int_int K x.1 x.2.1⟩
noncomputable def slices_Index_int_int_l0_c : Code := loopAt [1, 0, 1, 0, 9] (bodyOf Go.Proofs.Try.f100)
theorem slices_Index_int_int_l0_ok (K n : Nat) (x : (Pat.ty slices_Index_int_int_l0_hd).Den) : slices_Index_int_int_l0_f K (n + 1) x = round (env [] [] false 19) slices_Index_int_int_fin slices_Index_int_int_l0_hd slices_Index_int_int_l0_xp 0 slices_Index_int_int_l0_c .leaf (slices_Index_int_int_l0_f K n) x := by kernel_rfl
theorem slices_Index_int_int_ok (K : Nat) (x : (rowOf slices_Index_int_int_ps).Den) : evalFn (env [] [] false 19) slices_Index_int_int_fin (bodyOf Go.Proofs.Try.f100) (.seq .leaf (.seq (.seq .leaf (.block (slices_Index_int_int_l0_an K))) .leaf)) x = (slices_Index_int_int_m K).fn x := by kernel_rfl
theorem slices_Index_int_int_all (K : Nat) : (slices_Index_int_int_m K).ok = true ∧ Refines Go.Proofs.Try.prog 100 (slices_Index_int_int_m K) ∧ Callable Go.Proofs.Try.prog 100 := ⟨rfl, refines_of (E := (env [] [] false 19)) (envTy _ _ _ _) (fnsOf rfl trivial) (by kernel_rfl) Go.Proofs.Try.func100 rfl rfl slices_Index_int_int_fin rfl (by kernel_rfl) (.seq .leaf (.seq (.seq .leaf (.block (slices_Index_int_int_l0_an K))) .leaf)) ⟨(anLeaf _ _), ⟨⟨(anLeaf _ _), ⟨⟨slices_Index_int_int_l0_f K, K, rfl, fun _ => rfl, fun n x => slices_Index_int_int_l0_ok K n x⟩, (anLeaf _ _)⟩⟩, (anLeaf _ _)⟩⟩ (slices_Index_int_int_ok K), ⟨_, _, Go.Proofs.Try.func100, rfl, by kernel_rfl⟩⟩
/-! slices.Contains[[]int,int] -/
noncomputable def slices_Contains_int_int_ps : List PK := [.val (.sl (.int .i64)), .val (.int .i64)]
noncomputable def slices_Contains_int_int_rs : List PK := [.val .bool]
noncomputable def slices_Contains_int_int_fin : Fin := ⟨slices_Contains_int_int_ps, slices_Contains_int_int_rs, [.tmp 4]⟩
noncomputable def slices_Contains_int_int_m (K : Nat) : Mdl := ⟨slices_Contains_int_int_ps, slices_Contains_int_int_rs, fun x => slices_Contains_int_int K x.1 x.2.1⟩
theorem slices_Contains_int_int_ok (K : Nat) (x : (rowOf slices_Contains_int_int_ps).Den) : evalFn (env [(100, slices_Index_int_int_m K)] [] false 9) slices_Contains_int_int_fin (bodyOf Go.Proofs.Try.f58) .leaf x = (slices_Contains_int_int_m K).fn x := by kernel_rfl
theorem slices_Contains_int_int_all (K : Nat) : (slices_Contains_int_int_m K).ok = true ∧ Refines Go.Proofs.Try.prog 58 (slices_Contains_int_int_m K) ∧ Callable Go.Proofs.Try.prog 58 := ⟨rfl, refines_of (E := (env [(100, slices_Index_int_int_m K)] [] false 9)) (envTy _ _ _ _) (fnsOf rfl ⟨slices_Index_int_int_all K, trivial⟩) (by kernel_rfl) Go.Proofs.Try.func58 rfl rfl slices_Contains_int_int_fin rfl (by kernel_rfl) .leaf (anLeaf _ _) (slices_Contains_int_int_ok K), ⟨_, _, Go.Proofs.Try.func58, rfl, by kernel_rfl⟩⟩
/-! loop.example/g00183/impl.TogetherWith -/
noncomputable def i_TogetherWith_ps : List PK := [.agg R_Ring, .val (.sl R_Bundle), .val (.int .i64)]
noncomputable def i_TogetherWith_rs : List PK := [.val (.ow (.int .i64))]
noncomputable def i_TogetherWith_fin : Fin := ⟨i_TogetherWith_ps, i_TogetherWith_rs, [.tmp 6]⟩
noncomputable def i_TogetherWith_l0_hd : Pat := [(1, .val (.sl R_Bundle)), (2, .val (.int .i64)), (3, .ptr 3 0), (7, .ptr 7 0), (9, .val (.ow (.int .i64))), (24, .val (.sl (.int .i64))), (25, .val (.int .i64)), (26, .val (.int .i64)), (3, .box R_Ring), (7, .box R_Bundle)]
noncomputable def i_TogetherWith_l0_xp : Pat := [(9, .val (.ow (.int .i64)))]
noncomputable def i_TogetherWith_l0_f (K n : Nat) (x : (Pat.ty i_TogetherWith_l0_hd).Den) : Option ((outOf i_TogetherWith_ps i_TogetherWith_rs).Den ⊕ (Pat.ty i_TogetherWith_l0_xp).Den) := i_TogetherWith_l0 K n x.1 x.2.1 x.2.2.2.2.1 x.2.2.2.2.2.1 x.2.2.2.2.2.2.1 x.2.2.2.2.2.2.2.1 x.2.2.2.2.2.2.2.2.1 x.2.2.2.2.2.2.2.2.2.1
noncomputable def i_TogetherWith_l0_an (K : Nat) : An (outOf i_TogetherWith_ps i_TogetherWith_rs) := .loop i_TogetherWith_l0_hd i_TogetherWith_l0_xp 0 (i_TogetherWith_l0_f K K) .leaf
noncomputable def i_TogetherWith_m (K : Nat) : Mdl := ⟨i_TogetherWith_ps, i_TogetherWith_rs, fun x => i_TogetherWith K x.1 x.2.1 x.2.2.1⟩
noncomputable def i_TogetherWith_l0_c : Code := loopAt [1, 1, 1, 1, 0, 1, 0, 9] (bodyOf Go.Proofs.Try.f15)
theorem i_TogetherWith_l0_ok (K n : Nat) (x : (Pat.ty i_TogetherWith_l0_hd).Den) : i_TogetherWith_l0_f K (n + 1) x = round (env [(57, i_bundleOf_m K), (58, slices_Contains_int_int_m K)] [] false 67) i_TogetherWith_fin i_TogetherWith_l0_hd i_TogetherWith_l0_xp 0 i_TogetherWith_l0_c .leaf (i_TogetherWith_l0_f K n) x := by kernel_rfl
theorem i_TogetherWith_ok (K : Nat) (x : (rowOf i_TogetherWith_ps).Den) : evalFn (env [(57, i_bundleOf_m K), (58, slices_Contains_int_int_m K)] [] false 67) i_TogetherWith_fin (bodyOf Go.Proofs.Try.f15) (.seq .leaf (.seq .leaf (.seq .leaf (.seq .leaf (.seq (.seq .leaf (.block (i_TogetherWith_l0_an K))) .leaf))))) x = (i_TogetherWith_m K).fn x := by kernel_rfl
theorem i_TogetherWith_all (K : Nat) : (i_TogetherWith_m K).ok = true ∧ Refines Go.Proofs.Try.prog 15 (i_TogetherWith_m K) ∧ Callable Go.Proofs.Try.prog 15 := ⟨rfl, refines_of (E := (env [(57, i_bundleOf_m K), (58, slices_Contains_int_int_m K)] [] false 67)) (envTy _ _ _ _) (fnsOf rfl ⟨i_bundleOf_all K, slices_Contains_int_int_all K, trivial⟩) (by kernel_rfl) Go.Proofs.Try.func15 rfl rfl i_TogetherWith_fin rfl (by kernel_rfl) (.seq .leaf (.seq .leaf (.seq .leaf (.seq .leaf (.seq (.seq .leaf (.block (i_TogetherWith_l0_an K))) .leaf))))) ⟨(anLeaf _ _), ⟨(anLeaf _ _), ⟨(anLeaf _ _), ⟨(anLeaf _ _), ⟨⟨(anLeaf _ _), ⟨⟨i_TogetherWith_l0_f K, K, rfl, fun _ => rfl, fun n x => i_TogetherWith_l0_ok K n x⟩, (anLeaf _ _)⟩⟩, (anLeaf _ _)⟩⟩⟩⟩⟩ (i_TogetherWith_ok K), ⟨_, _, Go.Proofs.Try.func15, rfl, by kernel_rfl⟩⟩
/-! loop.example/g00183/spec.l13First -/
noncomputable def s_l13First_ps : List PK := [.agg R_Ring, .val (.sl R_Bundle), .val (.int .i64)]
noncomputable def s_l13First_rs : List PK := [.agg R_Bundle, .val .bool]
noncomputable def s_l13First_fin : Fin := ⟨s_l13First_ps, s_l13First_rs, [.cell 6 30, .tmp 7]⟩
noncomputable def s_l13First_l0_hd : Pat := [(1, .val (.sl R_Bundle)), (2, .val (.int .i64)), (3, .ptr 3 0), (6, .ptr 6 0), (8, .val (.int .i64)), (3, .box R_Ring), (6, .box (.cons (.int .i64) (.cons (.int .i64) (.cons (.int .i64) (.cons (.ow R_Item) .nil)))))]
noncomputable def s_l13First_l0_xp : Pat := [(6, .ptr 6 0), (6, .box (.cons (.int .i64) (.cons (.int .i64) (.cons (.int .i64) (.cons (.ow R_Item) .nil)))))]
noncomputable def s_l13First_l0_f (K n : Nat) (x : (Pat.ty s_l13First_l0_hd).Den) : Option ((outOf s_l13First_ps s_l13First_rs).Den ⊕ (Pat.ty s_l13First_l0_xp).Den) := s_l13First_l0 K n x.1 x.2.1 x.2.2.2.2.1 x.2.2.2.2.2.1 x.2.2.2.2.2.2.1
noncomputable def s_l13First_l0_an (K : Nat) : An (outOf s_l13First_ps s_l13First_rs) := .loop s_l13First_l0_hd s_l13First_l0_xp 0 (s_l13First_l0_f K K) .leaf
noncomputable def s_l13First_m (K : Nat) : Mdl := ⟨s_l13First_ps, s_l13First_rs, fun x => s_l13First K x.1 x.2.1 x.2.2.1⟩
noncomputable def s_l13First_l0_c : Code := loopAt [1, 0, 1, 0, 9] (bodyOf Go.Proofs.Try.f59)
theorem s_l13First_l0_ok (K n : Nat) (x : (Pat.ty s_l13First_l0_hd).Den) : s_l13First_l0_f K (n + 1) x = round (env [(39, s_BundleOk_m K)] [] false 44) s_l13First_fin s_l13First_l0_hd s_l13First_l0_xp 0 s_l13First_l0_c .leaf (s_l13First_l0_f K n) x := by kernel_rfl
theorem s_l13First_ok (K : Nat) (x : (rowOf s_l13First_ps).Den) : evalFn (env [(39, s_BundleOk_m K)] [] false 44) s_l13First_fin (bodyOf Go.Proofs.Try.f59) (.seq .leaf (.seq (.seq .leaf (.block (s_l13First_l0_an K))) .leaf)) x = (s_l13First_m K).fn x := by kernel_rfl
theorem s_l13First_all (K : Nat) : (s_l13First_m K).ok = true ∧ Refines Go.Proofs.Try.prog 59 (s_l13First_m K) ∧ Callable Go.Proofs.Try.prog 59 := ⟨rfl, refines_of (E := (env [(39, s_BundleOk_m K)] [] false 44)) (envTy _ _ _ _) (fnsOf rfl ⟨s_BundleOk_all K, trivial⟩) (by kernel_rfl) Go.Proofs.Try.func59 rfl rfl s_l13First_fin rfl (by kernel_rfl) (.seq .leaf (.seq (.seq .leaf (.block (s_l13First_l0_an K))) .leaf)) ⟨(anLeaf _ _), ⟨⟨(anLeaf _ _), ⟨⟨s_l13First_l0_f K, K, rfl, fun _ => rfl, fun n x => s_l13First_l0_ok K n x⟩, (anLeaf _ _)⟩⟩, (anLeaf _ _)⟩⟩ (s_l13First_ok K), ⟨_, _, Go.Proofs.Try.func59, rfl, by kernel_rfl⟩⟩
/-! loop.example/g00183/spec.l05In -/
noncomputable def s_l05In_ps : List PK := [.val (.sl (.int .i64)), .val (.int .i64)]
noncomputable def s_l05In_rs : List PK := [.val .bool]
noncomputable def s_l05In_fin : Fin := ⟨s_l05In_ps, s_l05In_rs, [.tmp 4]⟩
noncomputable def s_l05In_l0_hd : Pat := [(0, .val (.sl (.int .i64))), (1, .val (.int .i64)), (5, .val (.int .i64))]
noncomputable def s_l05In_l0_xp : Pat := []
noncomputable def s_l05In_l0_f (K n : Nat) (x : (Pat.ty s_l05In_l0_hd).Den) : Option ((outOf s_l05In_ps s_l05In_rs).Den ⊕ (Pat.ty s_l05In_l0_xp).Den) := s_l05In_l0 K n x.1 x.2.1 x.2.2.1
noncomputable def s_l05In_l0_an (K : Nat) : An (outOf s_l05In_ps s_l05In_rs) := .loop s_l05In_l0_hd s_l05In_l0_xp 0 (s_l05In_l0_f K K) .leaf
noncomputable def s_l05In_m (K : Nat) : Mdl := ⟨s_l05In_ps, s_l05In_rs, fun x => s_l05In K x.1 x.2.1⟩
noncomputable def s_l05In_l0_c : Code := loopAt [1, 0, 1, 0, 9] (bodyOf Go.Proofs.Try.f60)
theorem s_l05In_l0_ok (K n : Nat) (x : (Pat.ty s_l05In_l0_hd).Den) : s_l05In_l0_f K (n + 1) x = round (env [] [] false 18) s_l05In_fin s_l05In_l0_hd s_l05In_l0_xp 0 s_l05In_l0_c .leaf (s_l05In_l0_f K n) x := by kernel_rfl
theorem s_l05In_ok (K : Nat) (x : (rowOf s_l05In_ps).Den) : evalFn (env [] [] false 18) s_l05In_fin (bodyOf Go.Proofs.Try.f60) (.seq .leaf (.seq (.seq .leaf (.block (s_l05In_l0_an K))) .leaf)) x = (s_l05In_m K).fn x := by kernel_rfl
theorem s_l05In_all (K : Nat) : (s_l05In_m K).ok = true ∧ Refines Go.Proofs.Try.prog 60 (s_l05In_m K) ∧ Callable Go.Proofs.Try.prog 60 := ⟨rfl, refines_of (E := (env [] [] false 18)) (envTy _ _ _ _) (fnsOf rfl trivial) (by kernel_rfl) Go.Proofs.Try.func60 rfl rfl s_l05In_fin rfl (by kernel_rfl) (.seq .leaf (.seq (.seq .leaf (.block (s_l05In_l0_an K))) .leaf)) ⟨(anLeaf _ _), ⟨⟨(anLeaf _ _), ⟨⟨s_l05In_l0_f K, K, rfl, fun _ => rfl, fun n x => s_l05In_l0_ok K n x⟩, (anLeaf _ _)⟩⟩, (anLeaf _ _)⟩⟩ (s_l05In_ok K), ⟨_, _, Go.Proofs.Try.func60, rfl, by kernel_rfl⟩⟩
/-! loop.example/g00183/spec.TogetherWith -/
noncomputable def s_TogetherWith_ps : List PK := [.agg R_Ring, .val (.sl R_Bundle), .val (.int .i64)]
noncomputable def s_TogetherWith_rs : List PK := [.val (.ow (.int .i64))]
noncomputable def s_TogetherWith_fin : Fin := ⟨s_TogetherWith_ps, s_TogetherWith_rs, [.tmp 6]⟩
noncomputable def s_TogetherWith_l0_hd : Pat := [(1, .val (.sl R_Bundle)), (2, .val (.int .i64)), (3, .ptr 3 0), (7, .val (.ow (.int .i64))), (8, .ptr 8 0), (10, .val (.int .i64)), (3, .box R_Ring), (8, .box R_Bundle)]
noncomputable def s_TogetherWith_l0_xp : Pat := [(7, .val (.ow (.int .i64)))]
noncomputable def s_TogetherWith_l0_f (K n : Nat) (x : (Pat.ty s_TogetherWith_l0_hd).Den) : Option ((outOf s_TogetherWith_ps s_TogetherWith_rs).Den ⊕ (Pat.ty s_TogetherWith_l0_xp).Den) := s_TogetherWith_l0 K n x.1 x.2.1 x.2.2.2.1 x.2.2.2.2.2.1 x.2.2.2.2.2.2.1 x.2.2.2.2.2.2.2.1
noncomputable def s_TogetherWith_l0_an (K : Nat) : An (outOf s_TogetherWith_ps s_TogetherWith_rs) := .loop s_TogetherWith_l0_hd s_TogetherWith_l0_xp 0 (s_TogetherWith_l0_f K K) .leaf
noncomputable def s_TogetherWith_m (K : Nat) : Mdl := ⟨s_TogetherWith_ps, s_TogetherWith_rs, fun x => s_TogetherWith K x.1 x.2.1 x.2.2.1⟩
noncomputable def s_TogetherWith_l0_c : Code := loopAt [1, 1, 1, 1, 0, 1, 0, 9] (bodyOf Go.Proofs.Try.f17)
theorem s_TogetherWith_l0_ok (K n : Nat) (x : (Pat.ty s_TogetherWith_l0_hd).Den) : s_TogetherWith_l0_f K (n + 1) x = round (env [(59, s_l13First_m K), (60, s_l05In_m K)] [] false 74) s_TogetherWith_fin s_TogetherWith_l0_hd s_TogetherWith_l0_xp 0 s_TogetherWith_l0_c .leaf (s_TogetherWith_l0_f K n) x := by kernel_rfl
theorem s_TogetherWith_ok (K : Nat) (x : (rowOf s_TogetherWith_ps).Den) : evalFn (env [(59, s_l13First_m K), (60, s_l05In_m K)] [] false 74) s_TogetherWith_fin (bodyOf Go.Proofs.Try.f17) (.seq .leaf (.seq .leaf (.seq .leaf (.seq .leaf (.seq (.seq .leaf (.block (s_TogetherWith_l0_an K))) .leaf))))) x = (s_TogetherWith_m K).fn x := by kernel_rfl
theorem s_TogetherWith_all (K : Nat) : (s_TogetherWith_m K).ok = true ∧ Refines Go.Proofs.Try.prog 17 (s_TogetherWith_m K) ∧ Callable Go.Proofs.Try.prog 17 := ⟨rfl, refines_of (E := (env [(59, s_l13First_m K), (60, s_l05In_m K)] [] false 74)) (envTy _ _ _ _) (fnsOf rfl ⟨s_l13First_all K, s_l05In_all K, trivial⟩) (by kernel_rfl) Go.Proofs.Try.func17 rfl rfl s_TogetherWith_fin rfl (by kernel_rfl) (.seq .leaf (.seq .leaf (.seq .leaf (.seq .leaf (.seq (.seq .leaf (.block (s_TogetherWith_l0_an K))) .leaf))))) ⟨(anLeaf _ _), ⟨(anLeaf _ _), ⟨(anLeaf _ _), ⟨(anLeaf _ _), ⟨⟨(anLeaf _ _), ⟨⟨s_TogetherWith_l0_f K, K, rfl, fun _ => rfl, fun n x => s_TogetherWith_l0_ok K n x⟩, (anLeaf _ _)⟩⟩, (anLeaf _ _)⟩⟩⟩⟩⟩ (s_TogetherWith_ok K), ⟨_, _, Go.Proofs.Try.func17, rfl, by kernel_rfl⟩⟩
/-! loop.example/g00183/laws.sameInts -/
noncomputable def l_sameInts_ps : List PK := [.val (.sl (.int .i64)), .val (.sl (.int .i64))]
noncomputable def l_sameInts_rs : List PK := [.val .bool]
noncomputable def l_sameInts_fin : Fin := ⟨l_sameInts_ps, l_sameInts_rs, [.tmp 4]⟩
noncomputable def l_sameInts_l0_hd : Pat := [(0, .val (.sl (.int .i64))), (1, .val (.sl (.int .i64))), (5, .val (.int .i64))]
noncomputable def l_sameInts_l0_xp : Pat := []
noncomputable def l_sameInts_l0_f (K n : Nat) (x : (Pat.ty l_sameInts_l0_hd).Den) : Option ((outOf l_sameInts_ps l_sameInts_rs).Den ⊕ (Pat.ty l_sameInts_l0_xp).Den) := l_sameInts_l0 K n x.1 x.2.1 x.2.2.1
noncomputable def l_sameInts_l0_an (K : Nat) : An (outOf l_sameInts_ps l_sameInts_rs) := .loop l_sameInts_l0_hd l_sameInts_l0_xp 0 (l_sameInts_l0_f K K) .leaf
noncomputable def l_sameInts_m (K : Nat) : Mdl := ⟨l_sameInts_ps, l_sameInts_rs, fun x => l_sameInts K x.1 x.2.1⟩
noncomputable def l_sameInts_l0_c : Code := loopAt [1, 1, 0, 1, 0, 9] (bodyOf Go.Proofs.Try.f16)
theorem l_sameInts_l0_ok (K n : Nat) (x : (Pat.ty l_sameInts_l0_hd).Den) : l_sameInts_l0_f K (n + 1) x = round (env [] [] false 26) l_sameInts_fin l_sameInts_l0_hd l_sameInts_l0_xp 0 l_sameInts_l0_c .leaf (l_sameInts_l0_f K n) x := by kernel_rfl
theorem l_sameInts_ok (K : Nat) (x : (rowOf l_sameInts_ps).Den) : evalFn (env [] [] false 26) l_sameInts_fin (bodyOf Go.Proofs.Try.f16) (.seq .leaf (.seq .leaf (.seq (.seq .leaf (.block (l_sameInts_l0_an K))) .leaf))) x = (l_sameInts_m K).fn x := by kernel_rfl
theorem l_sameInts_all (K : Nat) : (l_sameInts_m K).ok = true ∧ Refines Go.Proofs.Try.prog 16 (l_sameInts_m K) ∧ Callable Go.Proofs.Try.prog 16 := ⟨rfl, refines_of (E := (env [] [] false 26)) (envTy _ _ _ _) (fnsOf rfl trivial) (by kernel_rfl) Go.Proofs.Try.func16 rfl rfl l_sameInts_fin rfl (by kernel_rfl) (.seq .leaf (.seq .leaf (.seq (.seq .leaf (.block (l_sameInts_l0_an K))) .leaf))) ⟨(anLeaf _ _), ⟨(anLeaf _ _), ⟨⟨(anLeaf _ _), ⟨⟨l_sameInts_l0_f K, K, rfl, fun _ => rfl, fun n x => l_sameInts_l0_ok K n x⟩, (anLeaf _ _)⟩⟩, (anLeaf _ _)⟩⟩⟩ (l_sameInts_ok K), ⟨_, _, Go.Proofs.Try.func16, rfl, by kernel_rfl⟩⟩
/-! loop.example/g00183/laws.rises -/
noncomputable def l_rises_ps : List PK := [.val (.sl (.int .i64))]
noncomputable def l_rises_rs : List PK := [.val .bool]
noncomputable def l_rises_fin : Fin := ⟨l_rises_ps, l_rises_rs, [.tmp 2]⟩
noncomputable def l_rises_l0_hd : Pat := [(0, .val (.sl (.int .i64))), (3, .val (.int .i64))]
noncomputable def l_rises_l0_xp : Pat := []
noncomputable def l_rises_l0_f (K n : Nat) (x : (Pat.ty l_rises_l0_hd).Den) : Option ((outOf l_rises_ps l_rises_rs).Den ⊕ (Pat.ty l_rises_l0_xp).Den) := l_rises_l0 K n x.1 x.2.1
noncomputable def l_rises_l0_an (K : Nat) : An (outOf l_rises_ps l_rises_rs) := .loop l_rises_l0_hd l_rises_l0_xp 0 (l_rises_l0_f K K) .leaf
noncomputable def l_rises_m (K : Nat) : Mdl := ⟨l_rises_ps, l_rises_rs, fun x => l_rises K x.1⟩
noncomputable def l_rises_l0_c : Code := loopAt [1, 0, 1, 0, 9] (bodyOf Go.Proofs.Try.f18)
theorem l_rises_l0_ok (K n : Nat) (x : (Pat.ty l_rises_l0_hd).Den) : l_rises_l0_f K (n + 1) x = round (env [] [] false 20) l_rises_fin l_rises_l0_hd l_rises_l0_xp 0 l_rises_l0_c .leaf (l_rises_l0_f K n) x := by kernel_rfl
theorem l_rises_ok (K : Nat) (x : (rowOf l_rises_ps).Den) : evalFn (env [] [] false 20) l_rises_fin (bodyOf Go.Proofs.Try.f18) (.seq .leaf (.seq (.seq .leaf (.block (l_rises_l0_an K))) .leaf)) x = (l_rises_m K).fn x := by kernel_rfl
theorem l_rises_all (K : Nat) : (l_rises_m K).ok = true ∧ Refines Go.Proofs.Try.prog 18 (l_rises_m K) ∧ Callable Go.Proofs.Try.prog 18 := ⟨rfl, refines_of (E := (env [] [] false 20)) (envTy _ _ _ _) (fnsOf rfl trivial) (by kernel_rfl) Go.Proofs.Try.func18 rfl rfl l_rises_fin rfl (by kernel_rfl) (.seq .leaf (.seq (.seq .leaf (.block (l_rises_l0_an K))) .leaf)) ⟨(anLeaf _ _), ⟨⟨(anLeaf _ _), ⟨⟨l_rises_l0_f K, K, rfl, fun _ => rfl, fun n x => l_rises_l0_ok K n x⟩, (anLeaf _ _)⟩⟩, (anLeaf _ _)⟩⟩ (l_rises_ok K), ⟨_, _, Go.Proofs.Try.func18, rfl, by kernel_rfl⟩⟩
/-! loop.example/g00183/impl.putItem -/
noncomputable def i_putItem_ps : List PK := [.val (.ow R_Item), .agg R_Item]
noncomputable def i_putItem_rs : List PK := [.val (.ow R_Item)]
noncomputable def i_putItem_fin : Fin := ⟨i_putItem_ps, i_putItem_rs, [.tmp 4]⟩
noncomputable def i_putItem_l0_hd : Pat := [(0, .val (.ow R_Item)), (3, .ptr 3 0), (5, .val (.int .i64)), (3, .box R_Item)]
noncomputable def i_putItem_l0_xp : Pat := [(0, .val (.ow R_Item)), (3, .ptr 3 0), (5, .val (.int .i64)), (3, .box R_Item)]
noncomputable def i_putItem_l0_f (K n : Nat) (x : (Pat.ty i_putItem_l0_hd).Den) : Option ((outOf i_putItem_ps i_putItem_rs).Den ⊕ (Pat.ty i_putItem_l0_xp).Den) := i_putItem_l0 K n x.1 x.2.2.1 x.2.2.2.1
noncomputable def i_putItem_l0_an (K : Nat) : An (outOf i_putItem_ps i_putItem_rs) := .loop i_putItem_l0_hd i_putItem_l0_xp 0 (i_putItem_l0_f K K) .leaf
noncomputable def i_putItem_m (K : Nat) : Mdl := ⟨i_putItem_ps, i_putItem_rs, fun x => i_putItem K x.1 x.2.1⟩
noncomputable def i_putItem_l0_c : Code := loopAt [1, 1, 0, 0, 9] (bodyOf Go.Proofs.Try.f101)
theorem i_putItem_l0_ok (K n : Nat) (x : (Pat.ty i_putItem_l0_hd).Den) : i_putItem_l0_f K (n + 1) x = round (env [(128, slices_Insert_i_Item_i_Item_m K)] [] false 42) i_putItem_fin i_putItem_l0_hd i_putItem_l0_xp 0 i_putItem_l0_c .leaf (i_putItem_l0_f K n) x := by kernel_rfl
theorem i_putItem_ok (K : Nat) (x : (rowOf i_putItem_ps).Den) : evalFn (env [(128, slices_Insert_i_Item_i_Item_m K)] [] false 42) i_putItem_fin (bodyOf Go.Proofs.Try.f101) (.seq .leaf (.seq .leaf (.seq (.block (i_putItem_l0_an K)) .leaf))) x = (i_putItem_m K).fn x := by kernel_rfl
theorem i_putItem_all (K : Nat) : (i_putItem_m K).ok = true ∧ Refines Go.Proofs.Try.prog 101 (i_putItem_m K) ∧ Callable Go.Proofs.Try.prog 101 := ⟨rfl, refines_of (E := (env [(128, slices_Insert_i_Item_i_Item_m K)] [] false 42)) (envTy _ _ _ _) (fnsOf rfl ⟨slices_Insert_i_Item_i_Item_all K, trivial⟩) (by kernel_rfl) Go.Proofs.Try.func101 rfl rfl i_putItem_fin rfl (by kernel_rfl) (.seq .leaf (.seq .leaf (.seq (.block (i_putItem_l0_an K)) .leaf))) ⟨(anLeaf _ _), ⟨(anLeaf _ _), ⟨⟨⟨i_putItem_l0_f K, K, rfl, fun _ => rfl, fun n x => i_putItem_l0_ok K n x⟩, (anLeaf _ _)⟩, (anLeaf _ _)⟩⟩⟩ (i_putItem_ok K), ⟨_, _, Go.Proofs.Try.func101, rfl, by kernel_rfl⟩⟩
/-! loop.example/g00183/impl.Union -/
noncomputable def i_Union_ps : List PK := [.val (.sl (.sl R_Item))]
noncomputable def i_Union_rs : List PK := [.val (.ow R_Item)]
noncomputable def i_Union_fin : Fin := ⟨i_Union_ps, i_Union_rs, [.tmp 2]⟩
noncomputable def i_Union_l1_hd : Pat := [(3, .val (.ow R_Item)), (8, .val (.sl (.sl R_Item))), (9, .val (.int .i64)), (10, .val (.int .i64)), (17, .val (.sl R_Item)), (18, .val (.int .i64)), (19, .val (.int .i64))]
noncomputable def i_Union_l1_xp : Pat := [(3, .val (.ow R_Item)), (8, .val (.sl (.sl R_Item))), (9, .val (.int .i64)), (10, .val (.int .i64))]
noncomputable def i_Union_l1_f (K n : Nat) (x : (Pat.ty i_Union_l1_hd).Den) : Option ((outOf i_Union_ps i_Union_rs).Den ⊕ (Pat.ty i_Union_l1_xp).Den) := i_Union_l1 K n x.1 x.2.1 x.2.2.1 x.2.2.2.1 x.2.2.2.2.1 x.2.2.2.2.2.1 x.2.2.2.2.2.2.1
noncomputable def i_Union_l1_an (K : Nat) : An (outOf i_Union_ps i_Union_rs) := .loop i_Union_l1_hd i_Union_l1_xp 2 (i_Union_l1_f K K) .leaf
noncomputable def i_Union_l0_hd : Pat := [(3, .val (.ow R_Item)), (8, .val (.sl (.sl R_Item))), (9, .val (.int .i64)), (10, .val (.int .i64))]
noncomputable def i_Union_l0_xp : Pat := [(3, .val (.ow R_Item))]
noncomputable def i_Union_l0_f (K n : Nat) (x : (Pat.ty i_Union_l0_hd).Den) : Option ((outOf i_Union_ps i_Union_rs).Den ⊕ (Pat.ty i_Union_l0_xp).Den) := i_Union_l0 K n x.1 x.2.1 x.2.2.1 x.2.2.2.1
noncomputable def i_Union_l0_an (K : Nat) : An (outOf i_Union_ps i_Union_rs) := .loop i_Union_l0_hd i_Union_l0_xp 0 (i_Union_l0_f K K) (.seq .leaf (.seq .leaf (.seq (.block (.seq .leaf (.seq .leaf (.seq .leaf (.block (i_Union_l1_an K)))))) .leaf)))
noncomputable def i_Union_m (K : Nat) : Mdl := ⟨i_Union_ps, i_Union_rs, fun x => i_Union K x.1⟩
noncomputable def i_Union_l1_c : Code := loopAt [1, 1, 0, 1, 0, 0, 1, 1, 0, 0, 1, 1, 1, 0, 9] (bodyOf Go.Proofs.Try.f62)
theorem i_Union_l1_ok (K n : Nat) (x : (Pat.ty i_Union_l1_hd).Den) : i_Union_l1_f K (n + 1) x = round (env [(76, i_ItemsOk_m K), (101, i_putItem_m K)] [] false 29) i_Union_fin i_Union_l1_hd i_Union_l1_xp 2 i_Union_l1_c .leaf (i_Union_l1_f K n) x := by kernel_rfl
noncomputable def i_Union_l0_c : Code := loopAt [1, 1, 0, 1, 0, 9] (bodyOf Go.Proofs.Try.f62)
theorem i_Union_l0_ok (K n : Nat) (x : (Pat.ty i_Union_l0_hd).Den) : i_Union_l0_f K (n + 1) x = round (env [(76, i_ItemsOk_m K), (101, i_putItem_m K)] [] false 29) i_Union_fin i_Union_l0_hd i_Union_l0_xp 0 i_Union_l0_c (.seq .leaf (.seq .leaf (.seq (.block (.seq .leaf (.seq .leaf (.seq .leaf (.block (i_Union_l1_an K)))))) .leaf))) (i_Union_l0_f K n) x := by kernel_rfl
theorem i_Union_ok (K : Nat) (x : (rowOf i_Union_ps).Den) : evalFn (env [(76, i_ItemsOk_m K), (101, i_putItem_m K)] [] false 29) i_Union_fin (bodyOf Go.Proofs.Try.f62) (.seq .leaf (.seq .leaf (.seq (.seq .leaf (.block (i_Union_l0_an K))) .leaf))) x = (i_Union_m K).fn x := by kernel_rfl
theorem i_Union_all (K : Nat) : (i_Union_m K).ok = true ∧ Refines Go.Proofs.Try.prog 62 (i_Union_m K) ∧ Callable Go.Proofs.Try.prog 62 := ⟨rfl, refines_of (E := (env [(76, i_ItemsOk_m K), (101, i_putItem_m K)] [] false 29)) (envTy _ _ _ _) (fnsOf rfl ⟨i_ItemsOk_all K, i_putItem_all K, trivial⟩) (by kernel_rfl) Go.Proofs.Try.func62 rfl rfl i_Union_fin rfl (by kernel_rfl) (.seq .leaf (.seq .leaf (.seq (.seq .leaf (.block (i_Union_l0_an K))) .leaf))) ⟨(anLeaf _ _), ⟨(anLeaf _ _), ⟨⟨(anLeaf _ _), ⟨⟨i_Union_l0_f K, K, rfl, fun _ => rfl, fun n x => i_Union_l0_ok K n x⟩, ⟨(anLeaf _ _), ⟨(anLeaf _ _), ⟨⟨(anLeaf _ _), ⟨(anLeaf _ _), ⟨(anLeaf _ _), ⟨⟨i_Union_l1_f K, K, rfl, fun _ => rfl, fun n x => i_Union_l1_ok K n x⟩, (anLeaf _ _)⟩⟩⟩⟩, (anLeaf _ _)⟩⟩⟩⟩⟩, (anLeaf _ _)⟩⟩⟩ (i_Union_ok K), ⟨_, _, Go.Proofs.Try.func62, rfl, by kernel_rfl⟩⟩
/-! loop.example/g00183/impl.ItemAt -/
noncomputable def i_ItemAt_ps : List PK := [.val (.sl R_Item), .val (.int .i64)]
noncomputable def i_ItemAt_rs : List PK := [.agg R_Item, .val .bool]
noncomputable def i_ItemAt_fin : Fin := ⟨i_ItemAt_ps, i_ItemAt_rs, [.cell 4 58, .tmp 5]⟩
noncomputable def i_ItemAt_l0_hd : Pat := [(1, .val (.int .i64)), (4, .ptr 4 0), (8, .val (.sl R_Item)), (9, .val (.int .i64)), (10, .val (.int .i64)), (4, .box R_Item)]
noncomputable def i_ItemAt_l0_xp : Pat := [(4, .ptr 4 0), (4, .box R_Item)]
noncomputable def i_ItemAt_l0_f (K n : Nat) (x : (Pat.ty i_ItemAt_l0_hd).Den) : Option ((outOf i_ItemAt_ps i_ItemAt_rs).Den ⊕ (Pat.ty i_ItemAt_l0_xp).Den) := i_ItemAt_l0 K n x.1 x.2.2.1 x.2.2.2.1 x.2.2.2.2.1 x.2.2.2.2.2.1
noncomputable def i_ItemAt_l0_an (K : Nat) : An (outOf i_ItemAt_ps i_ItemAt_rs) := .loop i_ItemAt_l0_hd i_ItemAt_l0_xp 0 (i_ItemAt_l0_f K K) .leaf
noncomputable def i_ItemAt_m (K : Nat) : Mdl := ⟨i_ItemAt_ps, i_ItemAt_rs, fun x => i_ItemAt K x.1 x.2.1⟩
noncomputable def i_ItemAt_l0_c : Code := loopAt [1, 0, 1, 0, 9] (bodyOf Go.Proofs.Try.f71)
theorem i_ItemAt_l0_ok (K n : Nat) (x : (Pat.ty i_ItemAt_l0_hd).Den) : i_ItemAt_l0_f K (n + 1) x = round (env [] [] false 21) i_ItemAt_fin i_ItemAt_l0_hd i_ItemAt_l0_xp 0 i_ItemAt_l0_c .leaf (i_ItemAt_l0_f K n) x := by kernel_rfl
theorem i_ItemAt_ok (K : Nat) (x : (rowOf i_ItemAt_ps).Den) : evalFn (env [] [] false 21) i_ItemAt_fin (bodyOf Go.Proofs.Try.f71) (.seq .leaf (.seq (.seq .leaf (.block (i_ItemAt_l0_an K))) .leaf)) x = (i_ItemAt_m K).fn x := by kernel_rfl
theorem i_ItemAt_all (K : Nat) : (i_ItemAt_m K).ok = true ∧ Refines Go.Proofs.Try.prog 71 (i_ItemAt_m K) ∧ Callable Go.Proofs.Try.prog 71 := ⟨rfl, refines_of (E := (env [] [] false 21)) (envTy _ _ _ _) (fnsOf rfl trivial) (by kernel_rfl) Go.Proofs.Try.func71 rfl rfl i_ItemAt_fin rfl (by kernel_rfl) (.seq .leaf (.seq (.seq .leaf (.block (i_ItemAt_l0_an K))) .leaf)) ⟨(anLeaf _ _), ⟨⟨(anLeaf _ _), ⟨⟨i_ItemAt_l0_f K, K, rfl, fun _ => rfl, fun n x => i_ItemAt_l0_ok K n x⟩, (anLeaf _ _)⟩⟩, (anLeaf _ _)⟩⟩ (i_ItemAt_ok K), ⟨_, _, Go.Proofs.Try.func71, rfl, by kernel_rfl⟩⟩
/-! loop.example/g00183/impl.AruOf -/
noncomputable def i_AruOf_ps : List PK := [.val (.sl R_Item)]
noncomputable def i_AruOf_rs : List PK := [.val (.int .i64)]
noncomputable def i_AruOf_fin : Fin := ⟨i_AruOf_ps, i_AruOf_rs, [.tmp 2]⟩
noncomputable def i_AruOf_l0_hd : Pat := [(0, .val (.sl R_Item)), (3, .val (.int .i64))]
noncomputable def i_AruOf_l0_xp : Pat := []
noncomputable def i_AruOf_l0_f (K n : Nat) (x : (Pat.ty i_AruOf_l0_hd).Den) : Option ((outOf i_AruOf_ps i_AruOf_rs).Den ⊕ (Pat.ty i_AruOf_l0_xp).Den) := i_AruOf_l0 K n x.1 x.2.1
noncomputable def i_AruOf_l0_an (K : Nat) : An (outOf i_AruOf_ps i_AruOf_rs) := .loop i_AruOf_l0_hd i_AruOf_l0_xp 0 (i_AruOf_l0_f K K) .leaf
noncomputable def i_AruOf_m (K : Nat) : Mdl := ⟨i_AruOf_ps, i_AruOf_rs, fun x => i_AruOf K x.1⟩
noncomputable def i_AruOf_l0_c : Code := loopAt [1, 1, 0, 9] (bodyOf Go.Proofs.Try.f70)
theorem i_AruOf_l0_ok (K n : Nat) (x : (Pat.ty i_AruOf_l0_hd).Den) : i_AruOf_l0_f K (n + 1) x = round (env [(71, i_ItemAt_m K)] [] false 18) i_AruOf_fin i_AruOf_l0_hd i_AruOf_l0_xp 0 i_AruOf_l0_c .leaf (i_AruOf_l0_f K n) x := by kernel_rfl
theorem i_AruOf_ok (K : Nat) (x : (rowOf i_AruOf_ps).Den) : evalFn (env [(71, i_ItemAt_m K)] [] false 18) i_AruOf_fin (bodyOf Go.Proofs.Try.f70) (.seq .leaf (.seq .leaf (.block (i_AruOf_l0_an K)))) x = (i_AruOf_m K).fn x := by kernel_rfl
theorem i_AruOf_all (K : Nat) : (i_AruOf_m K).ok = true ∧ Refines Go.Proofs.Try.prog 70 (i_AruOf_m K) ∧ Callable Go.Proofs.Try.prog 70 := ⟨rfl, refines_of (E := (env [(71, i_ItemAt_m K)] [] false 18)) (envTy _ _ _ _) (fnsOf rfl ⟨i_ItemAt_all K, trivial⟩) (by kernel_rfl) Go.Proofs.Try.func70 rfl rfl i_AruOf_fin rfl (by kernel_rfl) (.seq .leaf (.seq .leaf (.block (i_AruOf_l0_an K)))) ⟨(anLeaf _ _), ⟨(anLeaf _ _), ⟨⟨i_AruOf_l0_f K, K, rfl, fun _ => rfl, fun n x => i_AruOf_l0_ok K n x⟩, (anLeaf _ _)⟩⟩⟩ (i_AruOf_ok K), ⟨_, _, Go.Proofs.Try.func70, rfl, by kernel_rfl⟩⟩
/-! loop.example/g00183/impl.Whole -/
noncomputable def i_Whole_ps : List PK := [.val (.sl R_Item)]
noncomputable def i_Whole_rs : List PK := [.val (.ow R_Item)]
noncomputable def i_Whole_fin : Fin := ⟨i_Whole_ps, i_Whole_rs, [.tmp 2]⟩
noncomputable def i_Whole_l0_hd : Pat := [(3, .val (.int .i64)), (4, .val (.ow R_Item)), (9, .val (.sl R_Item)), (10, .val (.int .i64)), (11, .val (.int .i64))]
noncomputable def i_Whole_l0_xp : Pat := [(4, .val (.ow R_Item))]
noncomputable def i_Whole_l0_f (K n : Nat) (x : (Pat.ty i_Whole_l0_hd).Den) : Option ((outOf i_Whole_ps i_Whole_rs).Den ⊕ (Pat.ty i_Whole_l0_xp).Den) := i_Whole_l0 K n x.1 x.2.1 x.2.2.1 x.2.2.2.1 x.2.2.2.2.1
noncomputable def i_Whole_l0_an (K : Nat) : An (outOf i_Whole_ps i_Whole_rs) := .loop i_Whole_l0_hd i_Whole_l0_xp 0 (i_Whole_l0_f K K) .leaf
noncomputable def i_Whole_m (K : Nat) : Mdl := ⟨i_Whole_ps, i_Whole_rs, fun x => i_Whole K x.1⟩
noncomputable def i_Whole_l0_c : Code := loopAt [1, 1, 1, 0, 1, 0, 9] (bodyOf Go.Proofs.Try.f61)
theorem i_Whole_l0_ok (K n : Nat) (x : (Pat.ty i_Whole_l0_hd).Den) : i_Whole_l0_f K (n + 1) x = round (env [(70, i_AruOf_m K)] [] false 25) i_Whole_fin i_Whole_l0_hd i_Whole_l0_xp 0 i_Whole_l0_c .leaf (i_Whole_l0_f K n) x := by kernel_rfl
theorem i_Whole_ok (K : Nat) (x : (rowOf i_Whole_ps).Den) : evalFn (env [(70, i_AruOf_m K)] [] false 25) i_Whole_fin (bodyOf Go.Proofs.Try.f61) (.seq .leaf (.seq .leaf (.seq .leaf (.seq (.seq .leaf (.block (i_Whole_l0_an K))) .leaf)))) x = (i_Whole_m K).fn x := by kernel_rfl
theorem i_Whole_all (K : Nat) : (i_Whole_m K).ok = true ∧ Refines Go.Proofs.Try.prog 61 (i_Whole_m K) ∧ Callable Go.Proofs.Try.prog 61 := ⟨rfl, refines_of (E := (env [(70, i_AruOf_m K)] [] false 25)) (envTy _ _ _ _) (fnsOf rfl ⟨i_AruOf_all K, trivial⟩) (by kernel_rfl) Go.Proofs.Try.func61 rfl rfl i_Whole_fin rfl (by kernel_rfl) (.seq .leaf (.seq .leaf (.seq .leaf (.seq (.seq .leaf (.block (i_Whole_l0_an K))) .leaf)))) ⟨(anLeaf _ _), ⟨(anLeaf _ _), ⟨(anLeaf _ _), ⟨⟨(anLeaf _ _), ⟨⟨i_Whole_l0_f K, K, rfl, fun _ => rfl, fun n x => i_Whole_l0_ok K n x⟩, (anLeaf _ _)⟩⟩, (anLeaf _ _)⟩⟩⟩⟩ (i_Whole_ok K), ⟨_, _, Go.Proofs.Try.func61, rfl, by kernel_rfl⟩⟩
/-! loop.example/g00183/impl.Rest -/
noncomputable def i_Rest_ps : List PK := [.agg R_Ring, .val (.sl R_Bundle), .val (.int .i64), .val (.int .i64)]
noncomputable def i_Rest_rs : List PK := [.val (.ow R_Item)]
noncomputable def i_Rest_fin : Fin := ⟨i_Rest_ps, i_Rest_rs, [.tmp 8]⟩
noncomputable def i_Rest_l0_hd : Pat := [(1, .val (.sl R_Bundle)), (3, .val (.int .i64)), (4, .ptr 4 0), (11, .val (.ow (.sl R_Item))), (36, .val (.ow (.int .i64))), (37, .val (.int .i64)), (38, .val (.int .i64)), (4, .box R_Ring)]
noncomputable def i_Rest_l0_xp : Pat := [(3, .val (.int .i64)), (11, .val (.ow (.sl R_Item)))]
noncomputable def i_Rest_l0_f (K n : Nat) (x : (Pat.ty i_Rest_l0_hd).Den) : Option ((outOf i_Rest_ps i_Rest_rs).Den ⊕ (Pat.ty i_Rest_l0_xp).Den) := i_Rest_l0 K n x.1 x.2.1 x.2.2.2.1 x.2.2.2.2.1 x.2.2.2.2.2.1 x.2.2.2.2.2.2.1 x.2.2.2.2.2.2.2.1
noncomputable def i_Rest_l0_an (K : Nat) : An (outOf i_Rest_ps i_Rest_rs) := .loop i_Rest_l0_hd i_Rest_l0_xp 0 (i_Rest_l0_f K K) .leaf
noncomputable def i_Rest_l1_hd : Pat := [(3, .val (.int .i64)), (16, .val (.ow R_Item)), (57, .val (.ow R_Item)), (58, .val (.int .i64)), (59, .val (.int .i64))]
noncomputable def i_Rest_l1_xp : Pat := [(16, .val (.ow R_Item))]
noncomputable def i_Rest_l1_f (K n : Nat) (x : (Pat.ty i_Rest_l1_hd).Den) : Option ((outOf i_Rest_ps i_Rest_rs).Den ⊕ (Pat.ty i_Rest_l1_xp).Den) := i_Rest_l1 K n x.1 x.2.1 x.2.2.1 x.2.2.2.1 x.2.2.2.2.1
noncomputable def i_Rest_l1_an (K : Nat) : An (outOf i_Rest_ps i_Rest_rs) := .loop i_Rest_l1_hd i_Rest_l1_xp 2 (i_Rest_l1_f K K) .leaf
noncomputable def i_Rest_m (K : Nat) : Mdl := ⟨i_Rest_ps, i_Rest_rs, fun x => i_Rest K x.1 x.2.1 x.2.2.1 x.2.2.2.1⟩
noncomputable def i_Rest_l0_c : Code := loopAt [1, 1, 1, 1, 0, 1, 0, 9] (bodyOf Go.Proofs.Try.f19)
theorem i_Rest_l0_ok (K n : Nat) (x : (Pat.ty i_Rest_l0_hd).Den) : i_Rest_l0_f K (n + 1) x = round (env [(15, i_TogetherWith_m K), (57, i_bundleOf_m K), (61, i_Whole_m K), (62, i_Union_m K)] [] false 73) i_Rest_fin i_Rest_l0_hd i_Rest_l0_xp 0 i_Rest_l0_c .leaf (i_Rest_l0_f K n) x := by kernel_rfl
noncomputable def i_Rest_l1_c : Code := loopAt [1, 1, 1, 1, 1, 1, 0, 1, 0, 9] (bodyOf Go.Proofs.Try.f19)
theorem i_Rest_l1_ok (K n : Nat) (x : (Pat.ty i_Rest_l1_hd).Den) : i_Rest_l1_f K (n + 1) x = round (env [(15, i_TogetherWith_m K), (57, i_bundleOf_m K), (61, i_Whole_m K), (62, i_Union_m K)] [] false 73) i_Rest_fin i_Rest_l1_hd i_Rest_l1_xp 2 i_Rest_l1_c .leaf (i_Rest_l1_f K n) x := by kernel_rfl
theorem i_Rest_ok (K : Nat) (x : (rowOf i_Rest_ps).Den) : evalFn (env [(15, i_TogetherWith_m K), (57, i_bundleOf_m K), (61, i_Whole_m K), (62, i_Union_m K)] [] false 73) i_Rest_fin (bodyOf Go.Proofs.Try.f19) (.seq .leaf (.seq .leaf (.seq .leaf (.seq .leaf (.seq (.seq .leaf (.block (i_Rest_l0_an K))) (.seq .leaf (.seq (.seq .leaf (.block (i_Rest_l1_an K))) .leaf))))))) x = (i_Rest_m K).fn x := by kernel_rfl
theorem i_Rest_all (K : Nat) : (i_Rest_m K).ok = true ∧ Refines Go.Proofs.Try.prog 19 (i_Rest_m K) ∧ Callable Go.Proofs.Try.prog 19 := ⟨rfl, refines_of (E := (env [(15, i_TogetherWith_m K), (57, i_bundleOf_m K), (61, i_Whole_m K), (62, i_Union_m K)] [] false 73)) (envTy _ _ _ _) (fnsOf rfl ⟨i_TogetherWith_all K, i_bundleOf_all K, i_Whole_all K, i_Union_all K, trivial⟩) (by kernel_rfl) Go.Proofs.Try.func19 rfl rfl i_Rest_fin rfl (by kernel_rfl) (.seq .leaf (.seq .leaf (.seq .leaf (.seq .leaf (.seq (.seq .leaf (.block (i_Rest_l0_an K))) (.seq .leaf (.seq (.seq .leaf (.block (i_Rest_l1_an K))) .leaf))))))) ⟨(anLeaf _ _), ⟨(anLeaf _ _), ⟨(anLeaf _ _), ⟨(anLeaf _ _), ⟨⟨(anLeaf _ _), ⟨⟨i_Rest_l0_f K, K, rfl, fun _ => rfl, fun n x => i_Rest_l0_ok K n x⟩, (anLeaf _ _)⟩⟩, ⟨(anLeaf _ _), ⟨⟨(anLeaf _ _), ⟨⟨i_Rest_l1_f K, K, rfl, fun _ => rfl, fun n x => i_Rest_l1_ok K n x⟩, (anLeaf _ _)⟩⟩, (anLeaf _ _)⟩⟩⟩⟩⟩⟩⟩ (i_Rest_ok K), ⟨_, _, Go.Proofs.Try.func19, rfl, by kernel_rfl⟩⟩
/-! loop.example/g00183/laws.sameItems -/
noncomputable def l_sameItems_ps : List PK := [.val (.sl R_Item), .val (.sl R_Item)]
noncomputable def l_sameItems_rs : List PK := [.val .bool]
noncomputable def l_sameItems_fin : Fin := ⟨l_sameItems_ps, l_sameItems_rs, [.tmp 4]⟩
noncomputable def l_sameItems_l0_hd : Pat := [(0, .val (.sl R_Item)), (1, .val (.sl R_Item)), (5, .val (.int .i64))]
noncomputable def l_sameItems_l0_xp : Pat := []
noncomputable def l_sameItems_l0_f (K n : Nat) (x : (Pat.ty l_sameItems_l0_hd).Den) : Option ((outOf l_sameItems_ps l_sameItems_rs).Den ⊕ (Pat.ty l_sameItems_l0_xp).Den) := l_sameItems_l0 K n x.1 x.2.1 x.2.2.1
noncomputable def l_sameItems_l0_an (K : Nat) : An (outOf l_sameItems_ps l_sameItems_rs) := .loop l_sameItems_l0_hd l_sameItems_l0_xp 0 (l_sameItems_l0_f K K) .leaf
noncomputable def l_sameItems_m (K : Nat) : Mdl := ⟨l_sameItems_ps, l_sameItems_rs, fun x => l_sameItems K x.1 x.2.1⟩
noncomputable def l_sameItems_l0_c : Code := loopAt [1, 1, 0, 1, 0, 9] (bodyOf Go.Proofs.Try.f20)
theorem l_sameItems_l0_ok (K n : Nat) (x : (Pat.ty l_sameItems_l0_hd).Den) : l_sameItems_l0_f K (n + 1) x = round (env [] [] false 26) l_sameItems_fin l_sameItems_l0_hd l_sameItems_l0_xp 0 l_sameItems_l0_c .leaf (l_sameItems_l0_f K n) x := by kernel_rfl
theorem l_sameItems_ok (K : Nat) (x : (rowOf l_sameItems_ps).Den) : evalFn (env [] [] false 26) l_sameItems_fin (bodyOf Go.Proofs.Try.f20) (.seq .leaf (.seq .leaf (.seq (.seq .leaf (.block (l_sameItems_l0_an K))) .leaf))) x = (l_sameItems_m K).fn x := by kernel_rfl
theorem l_sameItems_all (K : Nat) : (l_sameItems_m K).ok = true ∧ Refines Go.Proofs.Try.prog 20 (l_sameItems_m K) ∧ Callable Go.Proofs.Try.prog 20 := ⟨rfl, refines_of (E := (env [] [] false 26)) (envTy _ _ _ _) (fnsOf rfl trivial) (by kernel_rfl) Go.Proofs.Try.func20 rfl rfl l_sameItems_fin rfl (by kernel_rfl) (.seq .leaf (.seq .leaf (.seq (.seq .leaf (.block (l_sameItems_l0_an K))) .leaf))) ⟨(anLeaf _ _), ⟨(anLeaf _ _), ⟨⟨(anLeaf _ _), ⟨⟨l_sameItems_l0_f K, K, rfl, fun _ => rfl, fun n x => l_sameItems_l0_ok K n x⟩, (anLeaf _ _)⟩⟩, (anLeaf _ _)⟩⟩⟩ (l_sameItems_ok K), ⟨_, _, Go.Proofs.Try.func20, rfl, by kernel_rfl⟩⟩
/-! loop.example/g00183/impl.AllHere$1 -/
noncomputable def i_AllHere_1_ps : List PK := [.agg R_Bundle, .ptr (.int .i64), .ptr R_Ring]
noncomputable def i_AllHere_1_rs : List PK := [.val .bool]
noncomputable def i_AllHere_1_fin : Fin := ⟨i_AllHere_1_ps, i_AllHere_1_rs, [.tmp 4]⟩
noncomputable def i_AllHere_1_m (K : Nat) : Mdl := ⟨i_AllHere_1_ps, i_AllHere_1_rs, fun x => i_AllHere_1 K x.1 x.2.1 x.2.2.1⟩
theorem i_AllHere_1_ok (K : Nat) (x : (rowOf i_AllHere_1_ps).Den) : evalFn (env [(46, i_BundleOk_m K)] [] false 20) i_AllHere_1_fin (bodyOf Go.Proofs.Try.f64) .leaf x = (i_AllHere_1_m K).fn x := by kernel_rfl
theorem i_AllHere_1_all (K : Nat) : (i_AllHere_1_m K).ok = true ∧ Refines Go.Proofs.Try.prog 64 (i_AllHere_1_m K) ∧ Callable Go.Proofs.Try.prog 64 := ⟨rfl, refines_of (E := (env [(46, i_BundleOk_m K)] [] false 20)) (envTy _ _ _ _) (fnsOf rfl ⟨i_BundleOk_all K, trivial⟩) (by kernel_rfl) Go.Proofs.Try.func64 rfl rfl i_AllHere_1_fin rfl (by kernel_rfl) .leaf (anLeaf _ _) (i_AllHere_1_ok K), ⟨_, _, Go.Proofs.Try.func64, rfl, by kernel_rfl⟩⟩
/-! slices.IndexFunc[[]loop.example/g00183/impl.Bundle,loop.example/g00183/impl.Bundle] -/
noncomputable def slices_IndexFunc_i_Bundle_i_Bundle_ps : List PK := [.val (.sl R_Bundle), .clo 64 [.int .i64, R_Ring]]
noncomputable def slices_IndexFunc_i_Bundle_i_Bundle_rs : List PK := [.val (.int .i64)]
noncomputable def slices_IndexFunc_i_Bundle_i_Bundle_fin : Fin := ⟨slices_IndexFunc_i_Bundle_i_Bundle_ps, slices_IndexFunc_i_Bundle_i_Bundle_rs, [.tmp 4]⟩
noncomputable def slices_IndexFunc_i_Bundle_i_Bundle_l0_hd : Pat := [(0, .val (.sl R_Bundle)), (1, .clo 64 [1000000100, 1000000101]), (7, .val (.int .i64)), (8, .val (.int .i64)), (1000000100, .box (.int .i64)), (1000000101, .box R_Ring)]
noncomputable def slices_IndexFunc_i_Bundle_i_Bundle_l0_xp : Pat := [(1000000100, .box (.int .i64)), (1000000101, .box R_Ring)]
noncomputable def slices_IndexFunc_i_Bundle_i_Bundle_l0_f (K n : Nat) (x : (Pat.ty slices_IndexFunc_i_Bundle_i_Bundle_l0_hd).Den) : Option ((outOf slices_IndexFunc_i_Bundle_i_Bundle_ps slices_IndexFunc_i_Bundle_i_Bundle_rs).Den ⊕ (Pat.ty slices_IndexFunc_i_Bundle_i_Bundle_l0_xp).Den) := slices_IndexFunc_i_Bundle_i_Bundle_l0 K n x.1 x.2.2.1 x.2.2.2.1 x.2.2.2.2.1 x.2.2.2.2.2.1
noncomputable def slices_IndexFunc_i_Bundle_i_Bundle_l0_an (K : Nat) : An (outOf slices_IndexFunc_i_Bundle_i_Bundle_ps slices_IndexFunc_i_Bundle_i_Bundle_rs) := .loop slices_IndexFunc_i_Bundle_i_Bundle_l0_hd slices_IndexFunc_i_Bundle_i_Bundle_l0_xp 0 (slices_IndexFunc_i_Bundle_i_Bundle_l0_f K K) .leaf
noncomputable def slices_IndexFunc_i_Bundle_i_Bundle_m (K : Nat) : Mdl := ⟨slices_IndexFunc_i_Bundle_i_Bundle_ps, slices_IndexFunc_i_Bundle_i_Bundle_rs, fun x => slices_IndexFunc_i_Bundle_i_Bundle K x.1 x.2.1⟩
noncomputable def slices_IndexFunc_i_Bundle_i_Bundle_l0_c : Code := loopAt [1, 0, 1, 0, 9] (bodyOf Go.Proofs.Try.f102)
theorem slices_IndexFunc_i_Bundle_i_Bundle_l0_ok (K n : Nat) (x : (Pat.ty slices_IndexFunc_i_Bundle_i_Bundle_l0_hd).Den) : slices_IndexFunc_i_Bundle_i_Bundle_l0_f K (n + 1) x = round (env [(64, i_AllHere_1_m K)] [] false 19) slices_IndexFunc_i_Bundle_i_Bundle_fin slices_IndexFunc_i_Bundle_i_Bundle_l0_hd slices_IndexFunc_i_Bundle_i_Bundle_l0_xp 0 slices_IndexFunc_i_Bundle_i_Bundle_l0_c .leaf (slices_IndexFunc_i_Bundle_i_Bundle_l0_f K n) x := by kernel_rfl
theorem slices_IndexFunc_i_Bundle_i_Bundle_ok (K : Nat) (x : (rowOf slices_IndexFunc_i_Bundle_i_Bundle_ps).Den) : evalFn (env [(64, i_AllHere_1_m K)] [] false 19) slices_IndexFunc_i_Bundle_i_Bundle_fin (bodyOf Go.Proofs.Try.f102) (.seq .leaf (.seq (.seq .leaf (.block (slices_IndexFunc_i_Bundle_i_Bundle_l0_an K))) .leaf)) x = (slices_IndexFunc_i_Bundle_i_Bundle_m K).fn x := by kernel_rfl
theorem slices_IndexFunc_i_Bundle_i_Bundle_all (K : Nat) : (slices_IndexFunc_i_Bundle_i_Bundle_m K).ok = true ∧ Refines Go.Proofs.Try.prog 102 (slices_IndexFunc_i_Bundle_i_Bundle_m K) ∧ Callable Go.Proofs.Try.prog 102 := ⟨rfl, refines_of (E := (env [(64, i_AllHere_1_m K)] [] false 19)) (envTy _ _ _ _) (fnsOf rfl ⟨i_AllHere_1_all K, trivial⟩) (by kernel_rfl) Go.Proofs.Try.func102 rfl rfl slices_IndexFunc_i_Bundle_i_Bundle_fin rfl (by kernel_rfl) (.seq .leaf (.seq (.seq .leaf (.block (slices_IndexFunc_i_Bundle_i_Bundle_l0_an K))) .leaf)) ⟨(anLeaf _ _), ⟨⟨(anLeaf _ _), ⟨⟨slices_IndexFunc_i_Bundle_i_Bundle_l0_f K, K, rfl, fun _ => rfl, fun n x => slices_IndexFunc_i_Bundle_i_Bundle_l0_ok K n x⟩, (anLeaf _ _)⟩⟩, (anLeaf _ _)⟩⟩ (slices_IndexFunc_i_Bundle_i_Bundle_ok K), ⟨_, _, Go.Proofs.Try.func102, rfl, by kernel_rfl⟩⟩
/-! slices.ContainsFunc[[]loop.example/g00183/impl.Bundle,loop.example/g00183/impl.Bundle] -/
noncomputable def slices_ContainsFunc_i_Bundle_i_Bundle_ps : List PK := [.val (.sl R_Bundle), .clo 64 [.int .i64, R_Ring]]
noncomputable def slices_ContainsFunc_i_Bundle_i_Bundle_rs : List PK := [.val .bool]
noncomputable def slices_ContainsFunc_i_Bundle_i_Bundle_fin : Fin := ⟨slices_ContainsFunc_i_Bundle_i_Bundle_ps, slices_ContainsFunc_i_Bundle_i_Bundle_rs, [.tmp 4]⟩
noncomputable def slices_ContainsFunc_i_Bundle_i_Bundle_m (K : Nat) : Mdl := ⟨slices_ContainsFunc_i_Bundle_i_Bundle_ps, slices_ContainsFunc_i_Bundle_i_Bundle_rs, fun x => slices_ContainsFunc_i_Bundle_i_Bundle K x.1 x.2.1⟩
theorem slices_ContainsFunc_i_Bundle_i_Bundle_ok (K : Nat) (x : (rowOf slices_ContainsFunc_i_Bundle_i_Bundle_ps).Den) : evalFn (env [(102, slices_IndexFunc_i_Bundle_i_Bundle_m K)] [] false 9) slices_ContainsFunc_i_Bundle_i_Bundle_fin (bodyOf Go.Proofs.Try.f63) .leaf x = (slices_ContainsFunc_i_Bundle_i_Bundle_m K).fn x := by kernel_rfl
theorem slices_ContainsFunc_i_Bundle_i_Bundle_all (K : Nat) : (slices_ContainsFunc_i_Bundle_i_Bundle_m K).ok = true ∧ Refines Go.Proofs.Try.prog 63 (slices_ContainsFunc_i_Bundle_i_Bundle_m K) ∧ Callable Go.Proofs.Try.prog 63 := ⟨rfl, refines_of (E := (env [(102, slices_IndexFunc_i_Bundle_i_Bundle_m K)] [] false 9)) (envTy _ _ _ _) (fnsOf rfl ⟨slices_IndexFunc_i_Bundle_i_Bundle_all K, trivial⟩) (by kernel_rfl) Go.Proofs.Try.func63 rfl rfl slices_ContainsFunc_i_Bundle_i_Bundle_fin rfl (by kernel_rfl) .leaf (anLeaf _ _) (slices_ContainsFunc_i_Bundle_i_Bundle_ok K), ⟨_, _, Go.Proofs.Try.func63, rfl, by kernel_rfl⟩⟩
/-! loop.example/g00183/impl.AllHere -/
noncomputable def i_AllHere_ps : List PK := [.agg R_Ring, .val (.sl R_Bundle)]
noncomputable def i_AllHere_rs : List PK := [.val .bool]
noncomputable def i_AllHere_fin : Fin := ⟨i_AllHere_ps, i_AllHere_rs, [.tmp 4]⟩
noncomputable def i_AllHere_l0_hd : Pat := [(1, .val (.sl R_Bundle)), (2, .ptr 2 0), (9, .val (.sl (.int .i64))), (10, .val (.int .i64)), (11, .val (.int .i64)), (2, .box R_Ring)]
noncomputable def i_AllHere_l0_xp : Pat := []
noncomputable def i_AllHere_l0_f (K n : Nat) (x : (Pat.ty i_AllHere_l0_hd).Den) : Option ((outOf i_AllHere_ps i_AllHere_rs).Den ⊕ (Pat.ty i_AllHere_l0_xp).Den) := i_AllHere_l0 K n x.1 x.2.2.1 x.2.2.2.1 x.2.2.2.2.1 x.2.2.2.2.2.1
noncomputable def i_AllHere_l0_an (K : Nat) : An (outOf i_AllHere_ps i_AllHere_rs) := .loop i_AllHere_l0_hd i_AllHere_l0_xp 0 (i_AllHere_l0_f K K) .leaf
noncomputable def i_AllHere_m (K : Nat) : Mdl := ⟨i_AllHere_ps, i_AllHere_rs, fun x => i_AllHere K x.1 x.2.1⟩
noncomputable def i_AllHere_l0_c : Code := loopAt [1, 0, 1, 0, 9] (bodyOf Go.Proofs.Try.f21)
theorem i_AllHere_l0_ok (K n : Nat) (x : (Pat.ty i_AllHere_l0_hd).Den) : i_AllHere_l0_f K (n + 1) x = round (env [(63, slices_ContainsFunc_i_Bundle_i_Bundle_m K)] [] false 21) i_AllHere_fin i_AllHere_l0_hd i_AllHere_l0_xp 0 i_AllHere_l0_c .leaf (i_AllHere_l0_f K n) x := by kernel_rfl
theorem i_AllHere_ok (K : Nat) (x : (rowOf i_AllHere_ps).Den) : evalFn (env [(63, slices_ContainsFunc_i_Bundle_i_Bundle_m K)] [] false 21) i_AllHere_fin (bodyOf Go.Proofs.Try.f21) (.seq .leaf (.seq (.seq .leaf (.block (i_AllHere_l0_an K))) .leaf)) x = (i_AllHere_m K).fn x := by kernel_rfl
theorem i_AllHere_all (K : Nat) : (i_AllHere_m K).ok = true ∧ Refines Go.Proofs.Try.prog 21 (i_AllHere_m K) ∧ Callable Go.Proofs.Try.prog 21 := ⟨rfl, refines_of (E := (env [(63, slices_ContainsFunc_i_Bundle_i_Bundle_m K)] [] false 21)) (envTy _ _ _ _) (fnsOf rfl ⟨slices_ContainsFunc_i_Bundle_i_Bundle_all K, trivial⟩) (by kernel_rfl) Go.Proofs.Try.func21 rfl rfl i_AllHere_fin rfl (by kernel_rfl) (.seq .leaf (.seq (.seq .leaf (.block (i_AllHere_l0_an K))) .leaf)) ⟨(anLeaf _ _), ⟨⟨(anLeaf _ _), ⟨⟨i_AllHere_l0_f K, K, rfl, fun _ => rfl, fun n x => i_AllHere_l0_ok K n x⟩, (anLeaf _ _)⟩⟩, (anLeaf _ _)⟩⟩ (i_AllHere_ok K), ⟨_, _, Go.Proofs.Try.func21, rfl, by kernel_rfl⟩⟩
/-! loop.example/g00183/spec.AllHere -/
noncomputable def s_AllHere_ps : List PK := [.agg R_Ring, .val (.sl R_Bundle)]
noncomputable def s_AllHere_rs : List PK := [.val .bool]
noncomputable def s_AllHere_fin : Fin := ⟨s_AllHere_ps, s_AllHere_rs, [.tmp 4]⟩
noncomputable def s_AllHere_l0_hd : Pat := [(1, .val (.sl R_Bundle)), (2, .ptr 2 0), (5, .val (.int .i64)), (2, .box R_Ring)]
noncomputable def s_AllHere_l0_xp : Pat := []
noncomputable def s_AllHere_l0_f (K n : Nat) (x : (Pat.ty s_AllHere_l0_hd).Den) : Option ((outOf s_AllHere_ps s_AllHere_rs).Den ⊕ (Pat.ty s_AllHere_l0_xp).Den) := s_AllHere_l0 K n x.1 x.2.2.1 x.2.2.2.1
noncomputable def s_AllHere_l0_an (K : Nat) : An (outOf s_AllHere_ps s_AllHere_rs) := .loop s_AllHere_l0_hd s_AllHere_l0_xp 0 (s_AllHere_l0_f K K) .leaf
noncomputable def s_AllHere_m (K : Nat) : Mdl := ⟨s_AllHere_ps, s_AllHere_rs, fun x => s_AllHere K x.1 x.2.1⟩
noncomputable def s_AllHere_l0_c : Code := loopAt [1, 0, 1, 0, 9] (bodyOf Go.Proofs.Try.f22)
theorem s_AllHere_l0_ok (K n : Nat) (x : (Pat.ty s_AllHere_l0_hd).Den) : s_AllHere_l0_f K (n + 1) x = round (env [(59, s_l13First_m K)] [] false 28) s_AllHere_fin s_AllHere_l0_hd s_AllHere_l0_xp 0 s_AllHere_l0_c .leaf (s_AllHere_l0_f K n) x := by kernel_rfl
theorem s_AllHere_ok (K : Nat) (x : (rowOf s_AllHere_ps).Den) : evalFn (env [(59, s_l13First_m K)] [] false 28) s_AllHere_fin (bodyOf Go.Proofs.Try.f22) (.seq .leaf (.seq (.seq .leaf (.block (s_AllHere_l0_an K))) .leaf)) x = (s_AllHere_m K).fn x := by kernel_rfl
theorem s_AllHere_all (K : Nat) : (s_AllHere_m K).ok = true ∧ Refines Go.Proofs.Try.prog 22 (s_AllHere_m K) ∧ Callable Go.Proofs.Try.prog 22 := ⟨rfl, refines_of (E := (env [(59, s_l13First_m K)] [] false 28)) (envTy _ _ _ _) (fnsOf rfl ⟨s_l13First_all K, trivial⟩) (by kernel_rfl) Go.Proofs.Try.func22 rfl rfl s_AllHere_fin rfl (by kernel_rfl) (.seq .leaf (.seq (.seq .leaf (.block (s_AllHere_l0_an K))) .leaf)) ⟨(anLeaf _ _), ⟨⟨(anLeaf _ _), ⟨⟨s_AllHere_l0_f K, K, rfl, fun _ => rfl, fun n x => s_AllHere_l0_ok K n x⟩, (anLeaf _ _)⟩⟩, (anLeaf _ _)⟩⟩ (s_AllHere_ok K), ⟨_, _, Go.Proofs.Try.func22, rfl, by kernel_rfl⟩⟩
/-! loop.example/g00183/laws.FnTogether -/
noncomputable def l_FnTogether_ps : List PK := [.val (.sl (.int .u8))]
noncomputable def l_FnTogether_rs : List PK := [.val .bool]
noncomputable def l_FnTogether_fin : Fin := ⟨l_FnTogether_ps, l_FnTogether_rs, [.tmp 2]⟩
noncomputable def l_FnTogether_l1_hd : Pat := [(3, .ptr 3 0), (4, .val (.ow R_Bundle)), (5, .val (.int .i64)), (6, .val (.int .i64)), (7, .val (.ow (.int .i64))), (8, .val (.ow R_Item)), (9, .val (.int .i64)), (3, .box R_Ring)]
noncomputable def l_FnTogether_l1_xp : Pat := [(3, .ptr 3 0), (4, .val (.ow R_Bundle)), (5, .val (.int .i64)), (6, .val (.int .i64)), (7, .val (.ow (.int .i64))), (8, .val (.ow R_Item)), (3, .box R_Ring)]
noncomputable def l_FnTogether_l1_f (K n : Nat) (x : (Pat.ty l_FnTogether_l1_hd).Den) : Option ((outOf l_FnTogether_ps l_FnTogether_rs).Den ⊕ (Pat.ty l_FnTogether_l1_xp).Den) := l_FnTogether_l1 K n x.2.1 x.2.2.1 x.2.2.2.1 x.2.2.2.2.1 x.2.2.2.2.2.1 x.2.2.2.2.2.2.1 x.2.2.2.2.2.2.2.1
noncomputable def l_FnTogether_l1_an (K : Nat) : An (outOf l_FnTogether_ps l_FnTogether_rs) := .loop l_FnTogether_l1_hd l_FnTogether_l1_xp 2 (l_FnTogether_l1_f K K) .leaf
noncomputable def l_FnTogether_l2_hd : Pat := [(3, .ptr 3 0), (4, .val (.ow R_Bundle)), (5, .val (.int .i64)), (6, .val (.int .i64)), (7, .val (.ow (.int .i64))), (8, .val (.sl R_Item)), (10, .val (.int .i64)), (3, .box R_Ring)]
noncomputable def l_FnTogether_l2_xp : Pat := [(3, .ptr 3 0), (4, .val (.ow R_Bundle)), (5, .val (.int .i64)), (7, .val (.ow (.int .i64))), (3, .box R_Ring)]
noncomputable def l_FnTogether_l2_f (K n : Nat) (x : (Pat.ty l_FnTogether_l2_hd).Den) : Option ((outOf l_FnTogether_ps l_FnTogether_rs).Den ⊕ (Pat.ty l_FnTogether_l2_xp).Den) := l_FnTogether_l2 K n x.2.1 x.2.2.1 x.2.2.2.1 x.2.2.2.2.1 x.2.2.2.2.2.1 x.2.2.2.2.2.2.1 x.2.2.2.2.2.2.2.1
noncomputable def l_FnTogether_l2_an (K : Nat) : An (outOf l_FnTogether_ps l_FnTogether_rs) := .loop l_FnTogether_l2_hd l_FnTogether_l2_xp 4 (l_FnTogether_l2_f K K) .leaf
noncomputable def l_FnTogether_l0_hd : Pat := [(3, .ptr 3 0), (4, .val (.ow R_Bundle)), (5, .val (.int .i64)), (3, .box R_Ring)]
noncomputable def l_FnTogether_l0_xp : Pat := [(3, .ptr 3 0), (4, .val (.ow R_Bundle)), (3, .box R_Ring)]
noncomputable def l_FnTogether_l0_f (K n : Nat) (x : (Pat.ty l_FnTogether_l0_hd).Den) : Option ((outOf l_FnTogether_ps l_FnTogether_rs).Den ⊕ (Pat.ty l_FnTogether_l0_xp).Den) := l_FnTogether_l0 K n x.2.1 x.2.2.1 x.2.2.2.1
noncomputable def l_FnTogether_l0_an (K : Nat) : An (outOf l_FnTogether_ps l_FnTogether_rs) := .loop l_FnTogether_l0_hd l_FnTogether_l0_xp 0 (l_FnTogether_l0_f K K) (.seq .leaf (.seq (.block (.seq .leaf (.seq .leaf (.seq .leaf (.seq .leaf (.seq (.seq .leaf (.block (l_FnTogether_l1_an K))) (.seq (.seq .leaf (.block (l_FnTogether_l2_an K))) .leaf))))))) .leaf))
noncomputable def l_FnTogether_m (K : Nat) : Mdl := ⟨l_FnTogether_ps, l_FnTogether_rs, fun x => l_FnTogether K x.1⟩
noncomputable def l_FnTogether_l1_c : Code := loopAt [1, 1, 1, 0, 1, 0, 0, 1, 0, 0, 1, 1, 1, 1, 0, 1, 0, 9] (bodyOf Go.Proofs.Try.f4)
theorem l_FnTogether_l1_ok (K n : Nat) (x : (Pat.ty l_FnTogether_l1_hd).Den) : l_FnTogether_l1_f K (n + 1) x = round (env [(13, l_big_m K), (14, s_DrawTogether_m K), (15, i_TogetherWith_m K), (16, l_sameInts_m K), (17, s_TogetherWith_m K), (18, l_rises_m K), (19, i_Rest_m K), (20, l_sameItems_m K), (21, i_AllHere_m K), (22, s_AllHere_m K)] [] false 129) l_FnTogether_fin l_FnTogether_l1_hd l_FnTogether_l1_xp 2 l_FnTogether_l1_c .leaf (l_FnTogether_l1_f K n) x := by kernel_rfl
noncomputable def l_FnTogether_l2_c : Code := loopAt [1, 1, 1, 0, 1, 0, 0, 1, 0, 0, 1, 1, 1, 1, 1, 0, 1, 0, 9] (bodyOf Go.Proofs.Try.f4)
theorem l_FnTogether_l2_ok (K n : Nat) (x : (Pat.ty l_FnTogether_l2_hd).Den) : l_FnTogether_l2_f K (n + 1) x = round (env [(13, l_big_m K), (14, s_DrawTogether_m K), (15, i_TogetherWith_m K), (16, l_sameInts_m K), (17, s_TogetherWith_m K), (18, l_rises_m K), (19, i_Rest_m K), (20, l_sameItems_m K), (21, i_AllHere_m K), (22, s_AllHere_m K)] [] false 129) l_FnTogether_fin l_FnTogether_l2_hd l_FnTogether_l2_xp 4 l_FnTogether_l2_c .leaf (l_FnTogether_l2_f K n) x := by kernel_rfl
noncomputable def l_FnTogether_l0_c : Code := loopAt [1, 1, 1, 0, 1, 0, 9] (bodyOf Go.Proofs.Try.f4)
theorem l_FnTogether_l0_ok (K n : Nat) (x : (Pat.ty l_FnTogether_l0_hd).Den) : l_FnTogether_l0_f K (n + 1) x = round (env [(13, l_big_m K), (14, s_DrawTogether_m K), (15, i_TogetherWith_m K), (16, l_sameInts_m K), (17, s_TogetherWith_m K), (18, l_rises_m K), (19, i_Rest_m K), (20, l_sameItems_m K), (21, i_AllHere_m K), (22, s_AllHere_m K)] [] false 129) l_FnTogether_fin l_FnTogether_l0_hd l_FnTogether_l0_xp 0 l_FnTogether_l0_c (.seq .leaf (.seq (.block (.seq .leaf (.seq .leaf (.seq .leaf (.seq .leaf (.seq (.seq .leaf (.block (l_FnTogether_l1_an K))) (.seq (.seq .leaf (.block (l_FnTogether_l2_an K))) .leaf))))))) .leaf)) (l_FnTogether_l0_f K n) x := by kernel_rfl
theorem l_FnTogether_ok (K : Nat) (x : (rowOf l_FnTogether_ps).Den) : evalFn (env [(13, l_big_m K), (14, s_DrawTogether_m K), (15, i_TogetherWith_m K), (16, l_sameInts_m K), (17, s_TogetherWith_m K), (18, l_rises_m K), (19, i_Rest_m K), (20, l_sameItems_m K), (21, i_AllHere_m K), (22, s_AllHere_m K)] [] false 129) l_FnTogether_fin (bodyOf Go.Proofs.Try.f4) (.seq .leaf (.seq .leaf (.seq .leaf (.seq (.seq .leaf (.block (l_FnTogether_l0_an K))) .leaf)))) x = (l_FnTogether_m K).fn x := by kernel_rfl
theorem l_FnTogether_all (K : Nat) : (l_FnTogether_m K).ok = true ∧ Refines Go.Proofs.Try.prog 4 (l_FnTogether_m K) ∧ Callable Go.Proofs.Try.prog 4 := ⟨rfl, refines_of (E := (env [(13, l_big_m K), (14, s_DrawTogether_m K), (15, i_TogetherWith_m K), (16, l_sameInts_m K), (17, s_TogetherWith_m K), (18, l_rises_m K), (19, i_Rest_m K), (20, l_sameItems_m K), (21, i_AllHere_m K), (22, s_AllHere_m K)] [] false 129)) (envTy _ _ _ _) (fnsOf rfl ⟨l_big_all K, s_DrawTogether_all K, i_TogetherWith_all K, l_sameInts_all K, s_TogetherWith_all K, l_rises_all K, i_Rest_all K, l_sameItems_all K, i_AllHere_all K, s_AllHere_all K, trivial⟩) (by kernel_rfl) Go.Proofs.Try.func4 rfl rfl l_FnTogether_fin rfl (by kernel_rfl) (.seq .leaf (.seq .leaf (.seq .leaf (.seq (.seq .leaf (.block (l_FnTogether_l0_an K))) .leaf)))) ⟨(anLeaf _ _), ⟨(anLeaf _ _), ⟨(anLeaf _ _), ⟨⟨(anLeaf _ _), ⟨⟨l_FnTogether_l0_f K, K, rfl, fun _ => rfl, fun n x => l_FnTogether_l0_ok K n x⟩, ⟨(anLeaf _ _), ⟨⟨(anLeaf _ _), ⟨(anLeaf _ _), ⟨(anLeaf _ _), ⟨(anLeaf _ _), ⟨⟨(anLeaf _ _), ⟨⟨l_FnTogether_l1_f K, K, rfl, fun _ => rfl, fun n x => l_FnTogether_l1_ok K n x⟩, (anLeaf _ _)⟩⟩, ⟨⟨(anLeaf _ _), ⟨⟨l_FnTogether_l2_f K, K, rfl, fun _ => rfl, fun n x => l_FnTogether_l2_ok K n x⟩, (anLeaf _ _)⟩⟩, (anLeaf _ _)⟩⟩⟩⟩⟩⟩, (anLeaf _ _)⟩⟩⟩⟩, (anLeaf _ _)⟩⟩⟩⟩ (l_FnTogether_ok K), ⟨_, _, Go.Proofs.Try.func4, rfl, by kernel_rfl⟩⟩
end Go.Proofs.Ytphjhelolaoihaa.R
