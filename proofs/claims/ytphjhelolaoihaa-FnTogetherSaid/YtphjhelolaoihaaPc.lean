/- Plain laws, part j: what is drawn. -/
import Derived.Test.YtphjhelolaoihaaPb
import Derived.Test.YtphjhelolaoihaaPa
set_option linter.all false
namespace Pl
open Rg Go

def CurOk (c : List Int × Int × Int × Unit) : Prop := 0 ≤ c.2.1 ∧ c.2.1 ≤ (c.1.length : Int) ∧ c.1.length ≤ 140737488351232

theorem and_small (x : Int) : 0 ≤ sBit .and .i64 x 255 ∧ sBit .and .i64 x 255 ≤ 255 := by
  unfold sBit
  have h : ((BitVec.ofInt IntKind.i64.bits x) &&& (BitVec.ofInt IntKind.i64.bits 255)).toNat ≤ 255 := by
    rw [BitVec.toNat_and]
    have : (BitVec.ofInt IntKind.i64.bits 255).toNat = 255 := by decide
    rw [this]; exact Nat.and_le_right
  simp only
  rw [show IntKind.i64.wrap (((BitVec.ofInt IntKind.i64.bits x) &&& (BitVec.ofInt IntKind.i64.bits 255)).toNat : Int) = _ from w64_id (by omega)]
  omega
end Pl
namespace Go.Proofs.Ytphjhelolaoihaa.R
open Pl Rg Go

section
variable {K : Nat}

theorem s_l01New_ret {l : List Int} (hl : l.length ≤ 140737488351232) (hK : big ≤ K) : Ret (s_l01New K l) (fun y => CurOk y.1) := by
  have hb : big = 4000000 := rfl
  have key : ∀ (k n : Nat) (s : Int) (i : Nat), i + k = 4000 → k < n → i ≤ l.length → ∃ s', s_l01New_l0 K n l s (i : Int) = some (.inr (l, s', ())) := by
    intro k
    induction k with
    | zero =>
      intro n s i h1 h2 h3
      obtain ⟨n, rfl⟩ : ∃ k, n = k + 1 := ⟨n - 1, by omega⟩
      unfold s_l01New_l0
      have e : decide ((i : Int) < (4000:Int)) = false := by simp; omega
      rw [e]
      cases decide ((i : Int) < (l.length : Int)) <;> exact ⟨_, rfl⟩
    | succ k ih =>
      intro n s i h1 h2 h3
      obtain ⟨n, rfl⟩ : ∃ k, n = k + 1 := ⟨n - 1, by omega⟩
      unfold s_l01New_l0
      have e : decide ((i : Int) < (4000:Int)) = true := by simp; omega
      rw [e, inB_nat]
      cases c : decide ((i : Int) < (l.length : Int))
      · exact ⟨_, rfl⟩
      · simp only [decide_eq_true_eq] at c
        have e2 : decide (i < l.length) = true := by simp; omega
        have e3 : w64 ((i : Int) + (1:Int)) = ((i + 1 : Nat) : Int) := by rw [w64_id (by omega)]; omega
        rw [e2, e3]
        exact ih n _ (i + 1) (by omega) (by omega) (by omega)
  unfold s_l01New
  obtain ⟨s', h⟩ := key 4000 K (w64 ((27101:Int) + (l.length : Int))) 0 (by omega) (by omega) (by omega)
  rw [show s_l01New_l0 K K l (w64 ((27101:Int) + (l.length : Int))) (0:Int) = _ from h]
  exact Ret.some ⟨Int.le_refl _, by show (0:Int) ≤ (l.length : Int); omega, hl⟩

theorem s_l01Byte_ret {c : D_l01Cur} (h : CurOk c) : Ret (s_l01Byte K c) (fun y => 0 ≤ y.1 ∧ y.1 ≤ 255 ∧ CurOk y.2.1) := by
  obtain ⟨h1, h2, h3⟩ := h
  unfold s_l01Byte
  simp only
  cases e : decide (c.2.1 < (c.1.length : Int))
  · simp only [cond_false]
    exact Ret.some ⟨(and_small _).1, (and_small _).2, h1, h2, h3⟩
  · simp only [decide_eq_true_eq] at e
    have hb : inB c.2.1 c.1.length = true := by simp [inB, h1, e]
    have hw : w64 (c.2.1 + (1:Int)) = c.2.1 + 1 := w64_id (by omega)
    rw [hb, hw]
    exact Ret.some ⟨(and_small _).1, (and_small _).2, by show 0 ≤ c.2.1 + 1; omega, by show c.2.1 + 1 ≤ (c.1.length : Int); omega, h3⟩

theorem s_l01Below_ret {c : D_l01Cur} {n : Int} (h : CurOk c) (h0 : 0 < n) (h1 : n ≤ 256) : Ret (s_l01Below K c n) (fun y => 0 ≤ y.1 ∧ y.1 < n ∧ CurOk y.2.1) := by
  unfold s_l01Below
  have e1 : decide (n ≤ (0:Int)) = false := by simp; omega
  have e2 : decide (n ≤ (256:Int)) = true := by simp; omega
  have e3 : (n == (0:Int)) = false := by simp; omega
  rw [e1, e2, e3]
  refine Ret.bind (s_l01Byte_ret h) ?_
  rintro y ⟨y1, y2, y3⟩
  refine Ret.some ⟨Int.tmod_nonneg _ y1, Int.tmod_lt_of_pos _ h0, y3⟩

theorem s_l01Once_ret {c : D_l01Cur} {n : Int} (h : CurOk c) (h0 : 0 < n) (h1 : n ≤ 256) : Ret (s_l01Once K c n) (fun y => CurOk y.2.1) := by
  unfold s_l01Once
  refine Ret.bind (s_l01Below_ret h h0 h1) ?_
  rintro y ⟨y1, y2, y3⟩
  exact Ret.some y3

theorem s_l01PickInt_ret {c : D_l01Cur} {l : List Int} (h : CurOk c) (h0 : 0 < l.length) (h1 : l.length ≤ 256) : Ret (s_l01PickInt K c l) (fun y => y.1 ∈ l ∧ CurOk y.2.1) := by
  unfold s_l01PickInt
  refine Ret.bind (s_l01Below_ret h (by omega) (by omega)) ?_
  rintro y ⟨y1, y2, y3⟩
  obtain ⟨k, hk⟩ : ∃ k : Nat, y.1 = k := ⟨y.1.toNat, by omega⟩
  rw [hk] at y2 ⊢
  have hk' : k < l.length := by omega
  rw [inB_nat, decide_eq_true hk']
  refine Ret.some ⟨?_, y3⟩
  show xi (.int .i64) l (k : Int) ∈ l
  rw [xi_nat (r := .int .i64) hk']; exact List.getElem_mem hk'

theorem s_l01Pick_ret {c : D_l01Cur} {l : List ByteArray} (h : CurOk c) (h0 : 0 < l.length) (h1 : l.length ≤ 256) : Ret (s_l01Pick K c l) (fun y => y.1 ∈ l ∧ CurOk y.2.1) := by
  unfold s_l01Pick
  refine Ret.bind (s_l01Below_ret h (by omega) (by omega)) ?_
  rintro y ⟨y1, y2, y3⟩
  obtain ⟨k, hk⟩ : ∃ k : Nat, y.1 = k := ⟨y.1.toNat, by omega⟩
  rw [hk] at y2 ⊢
  have hk' : k < l.length := by omega
  rw [inB_nat, decide_eq_true hk']
  refine Ret.some ⟨?_, y3⟩
  show xi .str l (k : Int) ∈ l
  rw [xi_nat (r := .str) hk']; exact List.getElem_mem hk'

theorem s_l09Ring_ret {c : D_l01Cur} (h : CurOk c) (hK : big ≤ K) : Ret (s_l09Ring K c) (fun y => ringOk y.1 = true ∧ CurOk y.2.1) := by
  have hb : big = 4000000 := rfl
  have key : ∀ (k n : Nat) (i : Nat) (z r : D_Ring) (c : D_l01Cur), i + k = 5 → 1 ≤ i → k < n → CurOk c → (1 ≤ r.1 ∧ r.1 ≤ 9) → (∀ x, x ∈ r.2.1 → 1 ≤ x ∧ x < i) → r.2.1.Pairwise (· < ·) → r.2.1.length < i →
      Ret (s_l09Ring_l0 K n (i : Int) z r c) (fun y => ∃ u v w, y = .inr u ∧ u.2.2.2.1 = v ∧ u.2.2.2.2.1 = w ∧ CurOk w ∧ (1 ≤ v.1 ∧ v.1 ≤ 9) ∧ (∀ x, x ∈ v.2.1 → 1 ≤ x ∧ x ≤ 5) ∧ v.2.1.Pairwise (· < ·) ∧ v.2.1.length ≤ 5) := by
    intro k
    induction k with
    | zero =>
      intro n i z r c h1 hi h2 h3 h4 h5 h6 h7
      obtain ⟨n, rfl⟩ : ∃ k, n = k + 1 := ⟨n - 1, by omega⟩
      unfold s_l09Ring_l0
      have e : decide ((i : Int) ≤ (4:Int)) = false := by simp; omega
      rw [e]
      exact Ret.some ⟨_, r, c, rfl, rfl, rfl, h3, h4, fun x hx => by have := h5 x hx; omega, h6, by omega⟩
    | succ k ih =>
      intro n i z r c h1 hi h2 h3 h4 h5 h6 h7
      obtain ⟨n, rfl⟩ : ∃ k, n = k + 1 := ⟨n - 1, by omega⟩
      unfold s_l09Ring_l0
      have e : decide ((i : Int) ≤ (4:Int)) = true := by simp; omega
      have e3 : w64 ((i : Int) + (1:Int)) = ((i + 1 : Nat) : Int) := by rw [w64_id (by omega)]; omega
      rw [e, e3]
      refine Ret.bind (s_l01Once_ret h3 (by omega) (by omega)) ?_
      intro y hy
      rw [fits_small (by simp; omega) (by decide)]
      cases y.1
      · refine ih n (i + 1) z _ _ (by omega) (by omega) (by omega) hy h4 ?_ ?_ (by simp; omega)
        · intro x hx
          rcases List.mem_append.1 hx with hx | hx
          · have := h5 x hx; omega
          · rw [List.mem_singleton] at hx; omega
        · rw [List.pairwise_append]
          exact ⟨h6, List.pairwise_singleton _ _, fun a ha b hb => by rw [List.mem_singleton] at hb; have := h5 a ha; omega⟩
      · exact ih n (i + 1) z _ _ (by omega) (by omega) (by omega) hy h4 (fun x hx => by have := h5 x hx; omega) h6 (by omega)
  unfold s_l09Ring
  refine Ret.bind (s_l01Below_ret h (by omega) (by omega)) ?_
  rintro y ⟨y1, y2, y3⟩
  have e1 : w64 ((1:Int) + y.1) = 1 + y.1 := w64_id (by omega)
  refine Ret.bind (key 4 K 1 _ _ _ (by omega) (by omega) (by omega) y3 (by show 1 ≤ w64 (1 + y.1) ∧ w64 (1 + y.1) ≤ 9; rw [e1]; omega) (by simp) List.Pairwise.nil (by simp)) ?_
  rintro s ⟨u, v, w, rfl, hv, hw, g1, g2, g3, g4, g5⟩
  simp only [Sum.elim_inr]
  rw [hv, hw]
  cases hl : (v.2.1.length : Int) == 0
  · refine Ret.some ⟨ringOk_iff.2 ⟨g2, ⟨?_, g5⟩, g3, g4⟩, g1⟩
    have hl : ¬ ((v.2.1.length : Int) = 0) := by intro e; rw [e] at hl; cases hl
    show 1 ≤ v.2.1.length
    omega
  · refine Ret.some ⟨ringOk_iff.2 ⟨g2, ⟨Nat.le_refl _, by show (1:Nat) ≤ 5; omega⟩, ?_, List.pairwise_singleton _ _⟩, g1⟩
    intro x hx
    have hx : x ∈ [(2:Int)] := hx
    rw [List.mem_singleton] at hx; omega
end
end Go.Proofs.Ytphjhelolaoihaa.R

/- Plain laws, part v: drawn numbers, texts, items. -/
namespace Go.Proofs.Ytphjhelolaoihaa.R
open Pl Rg Go

section
variable {K : Nat}

theorem s_l01Below_any {c : D_l01Cur} {n : Int} (h : CurOk c) (h0 : 0 < n) : Ret (s_l01Below K c n) (fun y => 0 ≤ y.1 ∧ y.1 < n ∧ CurOk y.2.1) := by
  rcases Int.lt_or_le 256 n with h1 | h1
  · unfold s_l01Below
    have e1 : decide (n ≤ (0:Int)) = false := by rw [decide_eq_false_iff_not]; omega
    have e2 : decide (n ≤ (256:Int)) = false := by rw [decide_eq_false_iff_not]; omega
    have e3 : (n == (0:Int)) = false := by
      cases e : n == 0
      · rfl
      · have := eq_of_beq e; omega
    rw [e1, e2, e3]
    simp only [cond_false]
    refine Ret.bind (s_l01Byte_ret h) ?_
    rintro a ⟨a1, a2, a3⟩
    refine Ret.bind (s_l01Byte_ret a3) ?_
    rintro b ⟨b1, b2, b3⟩
    refine Ret.bind (s_l01Byte_ret b3) ?_
    rintro c ⟨c1, c2, c3⟩
    refine Ret.bind (s_l01Byte_ret c3) ?_
    rintro d ⟨d1, d2, d3⟩
    simp only [Bool.not_false, cond_true]
    have w1 : w64 (a.1 * (16777216:Int)) = a.1 * 16777216 := w64_id (by omega)
    have w2 : w64 (b.1 * (65536:Int)) = b.1 * 65536 := w64_id (by omega)
    have w3 : w64 (c.1 * (256:Int)) = c.1 * 256 := w64_id (by omega)
    rw [w1, w2, w3]
    have w4 : w64 (a.1 * 16777216 + b.1 * 65536) = a.1 * 16777216 + b.1 * 65536 := w64_id (by omega)
    rw [w4]
    have w5 : w64 (a.1 * 16777216 + b.1 * 65536 + c.1 * 256) = a.1 * 16777216 + b.1 * 65536 + c.1 * 256 := w64_id (by omega)
    rw [w5]
    have w6 : w64 (a.1 * 16777216 + b.1 * 65536 + c.1 * 256 + d.1) = a.1 * 16777216 + b.1 * 65536 + c.1 * 256 + d.1 := w64_id (by omega)
    rw [w6]
    exact Ret.some ⟨Int.tmod_nonneg _ (by omega), Int.tmod_lt_of_pos _ h0, d3⟩
  · exact s_l01Below_ret h h0 h1

theorem s_l01Long_ret {n c : Int} (h0 : 0 ≤ n) (h1 : n ≤ 1000000) (hK : big ≤ K) : Ret (s_l01Long K n c) (fun _ => True) := by
  have hb : big = 4000000 := rfl
  have key : ∀ (k m i : Nat) (l : List Int), (i : Int) + k = n → k < m → (l.length : Int) = n → ∃ l', s_l01Long_l0 K m n c l (i : Int) = some (.inr (l', ())) := by
    intro k
    induction k with
    | zero =>
      intro m i l g1 g2 g3
      obtain ⟨m, rfl⟩ : ∃ k, m = k + 1 := ⟨m - 1, by omega⟩
      unfold s_l01Long_l0
      have e : decide ((i : Int) < n) = false := by rw [decide_eq_false_iff_not]; omega
      rw [e]; exact ⟨l, rfl⟩
    | succ k ih =>
      intro m i l g1 g2 g3
      obtain ⟨m, rfl⟩ : ∃ k, m = k + 1 := ⟨m - 1, by omega⟩
      unfold s_l01Long_l0
      have e : decide ((i : Int) < n) = true := by rw [decide_eq_true_eq]; omega
      have hi : i < l.length := by omega
      have e3 : w64 ((i : Int) + (1:Int)) = ((i + 1 : Nat) : Int) := by rw [w64_id (by omega)]; omega
      rw [e, inB_nat, decide_eq_true hi, e3]
      exact ih m (i + 1) _ (by omega) (by omega) (by rw [List.length_set]; exact g3)
  unfold s_l01Long
  have e : mkFits n n 1 = true := by
    unfold mkFits
    rw [decide_eq_true h0, decide_eq_true (Int.le_refl n), decide_eq_true (by omega)]; rfl
  rw [e]
  obtain ⟨l', h⟩ := key n.toNat K 0 (List.replicate n.toNat (.int .u8 : Ty).zero) (by omega) (by omega) (by rw [List.length_replicate]; omega)
  simp only [cond_true]
  refine Ret.eq h ?_
  exact Ret.some trivial

theorem s_l05Of_ret {c : D_l01Cur} {n : Int} (h : CurOk c) : Ret (s_l05Of K c n) (fun y => CurOk y.2.1) := by
  unfold s_l05Of
  refine Ret.bind (s_l01Below_ret h (by omega) (by omega)) ?_
  rintro a ⟨a1, a2, a3⟩
  refine Ret.bind (s_l01Pick_ret a3 (by simp) (by simp)) ?_
  rintro b ⟨b1, b2⟩
  exact Ret.some b2

theorem s_l05AnyItem_ret {c : D_l01Cur} (h : CurOk c) (hK : big ≤ K) : Ret (s_l05AnyItem K c) (fun y => CurOk y.2.1) := by
  unfold s_l05AnyItem
  refine Ret.bind (s_l01Below_ret h (by omega) (by omega)) ?_
  rintro a ⟨a1, a2, a3⟩
  refine Ret.bind (s_l05Of_ret a3) ?_
  intro b b1
  refine Ret.bind (s_l01Below_ret b1 (by omega) (by omega)) ?_
  rintro d ⟨d1, d2, d3⟩
  refine Ret.ite (fun _ => ?_) fun _ => Ret.ite (fun _ => ?_) fun _ => Ret.ite (fun _ => ?_) fun _ => Ret.ite (fun _ => ?_) fun _ => ?_
  · exact Ret.bind (s_l01PickInt_ret d3 (by simp) (by simp)) fun _ h => Ret.some h.2
  · exact Ret.bind (s_l01PickInt_ret d3 (by simp) (by simp)) fun _ h => Ret.some h.2
  · exact Ret.bind (s_l01PickInt_ret d3 (by simp) (by simp)) fun _ h => Ret.some h.2
  · refine Ret.bind (s_l01Below_ret d3 (by omega) (by omega)) ?_
    rintro e ⟨e1, e2, e3⟩
    have w : w64 ((60:Int) + e.1) = 60 + e.1 := w64_id (by omega)
    rw [w]
    exact Ret.bind (s_l01Long_ret (by omega) (by omega) hK) fun _ _ => Ret.some e3
  · exact Ret.some d3
end
end Go.Proofs.Ytphjhelolaoihaa.R

/- Plain laws, part tb: those who go on together, as the program and the spec have it. -/
namespace Go.Proofs.Ytphjhelolaoihaa.R
open Pl Rg Go

section
variable {K : Nat}

theorem i_BundleOk_eq {b : PBundle} (h : b.2.2.2.1.length ≤ 3000000) (hK : big ≤ K) : i_BundleOk K b = some (bundleOk b, ()) := by
  have hb : big = 4000000 := rfl
  unfold i_BundleOk bundleOk
  rw [i_isDaemon_eq, i_inRange_eq, i_inRange_eq, i_ItemsOk_eq (by omega) (by omega)]
  simp only [Option.bind_some]
  cases inR b.1 1 5
  · rfl
  cases c : inR b.2.1 1 9
  · rfl
  have c := inR_iff.1 c
  have e : w64 (b.2.1 - (1:Int)) = b.2.1 - 1 := w64_id (by omega)
  rw [e]
  cases inR b.2.2.1 0 (b.2.1 - 1) <;> cases itemsOk b.2.2.2.1 <;> cases decide (b.2.2.1 > 0) <;> rfl

theorem s_BundleOk_eq {b : PBundle} (h : b.2.2.2.1.length ≤ 3000000) (hK : big ≤ K) : s_BundleOk K b = some (bundleOk b, ()) := by
  have hb : big = 4000000 := rfl
  unfold s_BundleOk bundleOk
  rw [s_l01In_eq, s_l01In_eq, s_l01In_eq, s_ItemsOk_eq (by omega) (by omega)]
  simp only [Option.bind_some]
  cases inR b.1 1 5
  · rfl
  cases c : inR b.2.1 1 9
  · rfl
  have c := inR_iff.1 c
  have e : w64 (b.2.1 - (1:Int)) = b.2.1 - 1 := w64_id (by omega)
  rw [e]
  cases inR b.2.2.1 0 (b.2.1 - 1) <;> cases itemsOk b.2.2.2.1 <;> cases decide (b.2.2.1 > 0) <;> rfl

/-- Few bundles, of few items. -/
structure BSm (l : List PBundle) : Prop where
  len : l.length ≤ 1000
  it : ∀ b, b ∈ l → b.2.2.2.1.length ≤ 1000

def zBundle : PBundle := (0, 0, 0, [], ())

theorem i_bundleOf_l0_eq (hK : big ≤ K) (id : Int) (r : PRing) (z : PBundle) : ∀ (t pre : List PBundle) (n : Nat), t.length < n → (pre ++ t).length ≤ 1000 → (∀ b, b ∈ t → b.2.2.2.1.length ≤ 1000) →
    i_bundleOf_l0 K n id (pre ++ t) ((pre ++ t).length : Int) (pre.length : Int) r z = some (match firstB r.1 t id with | some b => .inl (b, true, ()) | none => .inr ((), z, ()))
  | [], pre, n + 1, _, _, _ => by
    unfold i_bundleOf_l0
    rw [lt_end]; rfl
  | y :: t, pre, n + 1, hn, hl, hb => by
    have hp : pre.length ≤ 1000000000000 := by simp at hl; omega
    have ih := i_bundleOf_l0_eq hK id r z t (pre ++ [y]) n (by simpa using hn) (by simpa using hl) (fun b h => hb b (by simp [h]))
    unfold i_bundleOf_l0
    rw [lt_at, inB_at, xi_at (r := R_Bundle), next_at (x := y) hp, app_cons (pre := pre) (t := t), ih, i_BundleOk_eq (by have := hb y (by simp); omega) hK]
    simp only [cond_true, Option.bind_some, firstB, List.find?_cons, isOf]
    cases y.1 == id <;> cases y.2.1 == r.1 <;> cases bundleOk y <;> simp

theorem i_bundleOf_eq {r : PRing} {l : List PBundle} {id : Int} (h : BSm l) (hK : big ≤ K) :
    i_bundleOf K r l id = some (match firstB r.1 l id with | some b => (b, true, ()) | none => (zBundle, false, ())) := by
  have hb : big = 4000000 := rfl
  have hl := h.len
  unfold i_bundleOf
  have := i_bundleOf_l0_eq hK id r zBundle l [] K (by omega) (by simpa using hl) h.it
  rw [show i_bundleOf_l0 K K id l (l.length : Int) (0:Int) r ((0:Int), ((0:Int), ((0:Int), ([], ())))) = _ from this]
  cases firstB r.1 l id <;> rfl

theorem s_l13First_l0_eq (hK : big ≤ K) (id : Int) (r : PRing) (z : PBundle) : ∀ (t pre : List PBundle) (n : Nat), t.length < n → (pre ++ t).length ≤ 1000 → (∀ b, b ∈ t → b.2.2.2.1.length ≤ 1000) →
    s_l13First_l0 K n (pre ++ t) id (pre.length : Int) r z = some (match firstB r.1 t id with | some b => .inl (b, true, ()) | none => .inr ((), z, ()))
  | [], pre, n + 1, _, _, _ => by
    unfold s_l13First_l0
    rw [lt_end]; rfl
  | y :: t, pre, n + 1, hn, hl, hb => by
    have hp : pre.length ≤ 1000000000000 := by simp at hl; omega
    have ih := s_l13First_l0_eq hK id r z t (pre ++ [y]) n (by simpa using hn) (by simpa using hl) (fun b h => hb b (by simp [h]))
    unfold s_l13First_l0
    rw [lt_at, inB_at, xi_at (r := R_Bundle), next_at (x := y) hp, app_cons (pre := pre) (t := t), ih, s_BundleOk_eq (by have := hb y (by simp); omega) hK]
    simp only [cond_true, Option.bind_some, firstB, List.find?_cons, isOf]
    cases y.1 == id <;> cases y.2.1 == r.1 <;> cases bundleOk y <;> simp

theorem s_l13First_eq {r : PRing} {l : List PBundle} {id : Int} (h : BSm l) (hK : big ≤ K) :
    s_l13First K r l id = some (match firstB r.1 l id with | some b => (b, true, ()) | none => (zBundle, false, ())) := by
  have hb : big = 4000000 := rfl
  have hl := h.len
  unfold s_l13First
  have := s_l13First_l0_eq hK id r zBundle l [] K (by omega) (by simpa using hl) h.it
  rw [show s_l13First_l0 K K l id (0:Int) r ((0:Int), ((0:Int), ((0:Int), ([], ())))) = _ from this]
  cases firstB r.1 l id <;> rfl

/-! ### together -/
theorem filter_pairwise_notin {p : Int → Bool} {pre t : List Int} {y : Int} (h : (pre ++ y :: t).Pairwise (· < ·)) : (pre.filter p).contains y = false := by
  cases c : (pre.filter p).contains y
  · rfl
  · have hm := List.mem_filter.1 (List.contains_iff_mem.1 c)
    have := (List.pairwise_append.1 h).2.2 y hm.1 y (by simp)
    omega

theorem i_TogetherWith_l0_eq {r : PRing} {l : List PBundle} {id : Int} {own : PBundle} (hs : BSm l) (hK : big ≤ K) (hr : r.2.1.Pairwise (· < ·)) (hrl : r.2.1.length ≤ 5) : ∀ (t pre : List Int) (n : Nat), r.2.1 = pre ++ t → t.length < n →
    i_TogetherWith_l0 K n l id (pre.filter (withB r.1 l id own.2.2.1)) r.2.1 (r.2.1.length : Int) (pre.length : Int) r own = some (.inr (r.2.1.filter (withB r.1 l id own.2.2.1), ())) := by
  have hb : big = 4000000 := rfl
  intro t
  induction t with
  | nil =>
    intro pre n he hn
    obtain ⟨n, rfl⟩ : ∃ k, n = k + 1 := ⟨n - 1, by omega⟩
    have e : decide ((pre.length : Int) < (r.2.1.length : Int)) = false := by rw [he]; exact lt_end
    unfold i_TogetherWith_l0
    rw [e, he]; simp
  | cons y t ih =>
    intro pre n he hn
    obtain ⟨n, rfl⟩ : ∃ k, n = k + 1 := ⟨n - 1, by omega⟩
    have hpl : pre.length ≤ 5 := by rw [he] at hrl; simp at hrl; omega
    have e1 : decide ((pre.length : Int) < (r.2.1.length : Int)) = true := by rw [he]; exact lt_at
    have e2 : inB (pre.length : Int) r.2.1.length = true := by rw [he]; exact inB_at
    have e3 : xi (.int .i64) r.2.1 (pre.length : Int) = y := by rw [he]; exact xi_at (r := .int .i64)
    have hfl : (pre.filter (withB r.1 l id own.2.2.1)).length ≤ 5 := Nat.le_trans (List.length_filter_le _ _) hpl
    have hc := filter_pairwise_notin (p := withB r.1 l id own.2.2.1) (by rw [← he]; exact hr)
    have ih := ih (pre ++ [y]) n (by rw [he]; simp) (by simpa using hn)
    unfold i_TogetherWith_l0
    rw [e1, e2, e3, next_at (x := y) (by omega), i_bundleOf_eq hs hK, slices_Contains_eq (by omega) (by omega), hc]
    rw [fits_small (by simp; omega) (by decide)]
    simp only [cond_true, Option.bind_some]
    have hf : (pre ++ [y]).filter (withB r.1 l id own.2.2.1) = pre.filter (withB r.1 l id own.2.2.1) ++ (bif withB r.1 l id own.2.2.1 y then [y] else []) := by
      rw [List.filter_append]
      cases h : withB r.1 l id own.2.2.1 y <;> simp [h]
    rw [hf] at ih
    cases hy : firstB r.1 l y with
    | none =>
      have wy : withB r.1 l id own.2.2.1 y = false := by unfold withB; rw [hy]
      rw [wy] at ih
      simp only [cond_false, List.append_nil] at ih ⊢
      exact ih
    | some b =>
      have wy : withB r.1 l id own.2.2.1 y = ((y == id) || (decide (own.2.2.1 > 0) && (b.2.2.1 == own.2.2.1))) := by unfold withB; rw [hy]
      rw [wy] at ih
      simp only [cond_true, Bool.not_false]
      cases c1 : y == id <;> cases c2 : decide (own.2.2.1 > 0) <;> cases c3 : b.2.2.1 == own.2.2.1 <;> simp only [c1, c2, c3, Bool.or_self, Bool.and_self, Bool.or_true, Bool.or_false, Bool.and_true, Bool.and_false, Bool.true_or, Bool.false_or, Bool.false_and, cond_true, cond_false, List.append_nil] at ih ⊢ <;> exact ih

theorem i_TogetherWith_eq {r : PRing} {l : List PBundle} {id : Int} (hs : BSm l) (hK : big ≤ K) (hr : r.2.1.Pairwise (· < ·)) (hrl : r.2.1.length ≤ 5) : i_TogetherWith K r l id = some (together r l id, ()) := by
  have hb : big = 4000000 := rfl
  unfold i_TogetherWith together
  rw [i_bundleOf_eq hs hK]
  simp only [Option.bind_some]
  cases firstB r.1 l id with
  | none => rfl
  | some own =>
    simp only [Bool.not_true, cond_false]
    have := i_TogetherWith_l0_eq (id := id) (own := own) hs hK hr hrl r.2.1 [] K rfl (by omega)
    rw [show i_TogetherWith_l0 K K l id [] r.2.1 (r.2.1.length : Int) (0:Int) r own = _ from this]
    rfl
end
end Go.Proofs.Ytphjhelolaoihaa.R

/- Plain laws, part tc: those who go on together, and what they have yet to hear. -/
namespace Go.Proofs.Ytphjhelolaoihaa.R
open Pl Rg Go

section
variable {K : Nat}

theorem s_TogetherWith_l0_eq {r : PRing} {l : List PBundle} {id : Int} {own : PBundle} (hs : BSm l) (hK : big ≤ K) (hr : r.2.1.Pairwise (· < ·)) (hrl : r.2.1.length ≤ 5) : ∀ (t pre : List Int) (n : Nat), r.2.1 = pre ++ t → t.length < n →
    s_TogetherWith_l0 K n l id (pre.filter (withB r.1 l id own.2.2.1)) (pre.length : Int) r own = some (.inr (r.2.1.filter (withB r.1 l id own.2.2.1), ())) := by
  have hb : big = 4000000 := rfl
  intro t
  induction t with
  | nil =>
    intro pre n he hn
    obtain ⟨n, rfl⟩ : ∃ k, n = k + 1 := ⟨n - 1, by omega⟩
    have e : decide ((pre.length : Int) < (r.2.1.length : Int)) = false := by rw [he]; exact lt_end
    unfold s_TogetherWith_l0
    rw [e, he]; simp
  | cons y t ih =>
    intro pre n he hn
    obtain ⟨n, rfl⟩ : ∃ k, n = k + 1 := ⟨n - 1, by omega⟩
    have hpl : pre.length ≤ 5 := by rw [he] at hrl; simp at hrl; omega
    have e1 : decide ((pre.length : Int) < (r.2.1.length : Int)) = true := by rw [he]; exact lt_at
    have e2 : inB (pre.length : Int) r.2.1.length = true := by rw [he]; exact inB_at
    have e3 : xi (.int .i64) r.2.1 (pre.length : Int) = y := by rw [he]; exact xi_at (r := .int .i64)
    have hfl : (pre.filter (withB r.1 l id own.2.2.1)).length ≤ 5 := Nat.le_trans (List.length_filter_le _ _) hpl
    have hc := filter_pairwise_notin (p := withB r.1 l id own.2.2.1) (by rw [← he]; exact hr)
    have ih := ih (pre ++ [y]) n (by rw [he]; simp) (by simpa using hn)
    unfold s_TogetherWith_l0
    rw [e1, e2, e3, next_at (x := y) (by omega), s_l13First_eq hs hK]
    have hf : (pre ++ [y]).filter (withB r.1 l id own.2.2.1) = pre.filter (withB r.1 l id own.2.2.1) ++ (bif withB r.1 l id own.2.2.1 y then [y] else []) := by
      rw [List.filter_append]
      cases h : withB r.1 l id own.2.2.1 y <;> simp [h]
    rw [hf] at ih
    simp only [cond_true, Option.bind_some]
    cases hy : firstB r.1 l y with
    | none =>
      have wy : withB r.1 l id own.2.2.1 y = false := by unfold withB; rw [hy]
      rw [wy] at ih
      simp only [cond_false, List.append_nil] at ih ⊢
      exact ih
    | some b =>
      obtain ⟨f1, f2, f3⟩ := firstB_isOf hy
      have wy : withB r.1 l id own.2.2.1 y = ((y == id) || (decide (own.2.2.1 > 0) && (b.2.2.1 == own.2.2.1))) := by unfold withB; rw [hy]
      rw [wy] at ih
      simp only [cond_true]
      rw [f1, s_l05In_eq (by omega) (by omega), hc, fits_small (by simp; omega) (by decide)]
      cases c3 : b.2.2.1 == own.2.2.1
      · cases c1 : y == id <;> simp only [c1, c3, Bool.and_false, Bool.or_false, Bool.or_true, Bool.true_or, cond_true, cond_false, List.append_nil, Option.bind_some, Bool.not_false] at ih ⊢ <;> exact ih
      · have ec : b.2.2.1 = own.2.2.1 := eq_of_beq c3
        rw [ec]
        cases c1 : y == id <;> cases c2 : decide (own.2.2.1 > 0) <;> simp only [c1, c2, c3, Bool.and_true, Bool.and_self, Bool.or_self, Bool.or_false, Bool.or_true, Bool.true_or, Bool.false_or, cond_true, cond_false, List.append_nil, Option.bind_some, Bool.not_false] at ih ⊢ <;> exact ih

theorem s_TogetherWith_eq {r : PRing} {l : List PBundle} {id : Int} (hs : BSm l) (hK : big ≤ K) (hr : r.2.1.Pairwise (· < ·)) (hrl : r.2.1.length ≤ 5) : s_TogetherWith K r l id = some (together r l id, ()) := by
  have hb : big = 4000000 := rfl
  unfold s_TogetherWith together
  rw [s_l13First_eq hs hK]
  simp only [Option.bind_some]
  cases firstB r.1 l id with
  | none => rfl
  | some own =>
    simp only [Bool.not_true, cond_false]
    have := s_TogetherWith_l0_eq (id := id) (own := own) hs hK hr hrl r.2.1 [] K rfl (by omega)
    rw [show s_TogetherWith_l0 K K l id [] (0:Int) r own = _ from this]
    rfl

/-! ### all of it -/
theorem i_Union_l1_eq (hK : big ≤ K) (x1 : List (List PItem)) (x2 x3 : Int) : ∀ (t pre : List PItem) (n : Nat) (u : List PItem), t.length < n → (pre ++ t).length ≤ 1000 → itemsOk u = true → (∀ x, x ∈ t → itemOk x = true) →
    i_Union_l1 K n u x1 x2 x3 (pre ++ t) ((pre ++ t).length : Int) (pre.length : Int) = some (.inr (t.foldl putItem u, x1, x2, x3, ()))
  | [], pre, n + 1, u, _, _, _, _ => by
    unfold i_Union_l1
    rw [lt_end]; rfl
  | y :: t, pre, n + 1, u, hn, hl, hu, ht => by
    have hp : pre.length ≤ 1000000000000 := by simp at hl; omega
    have hy := ht y (by simp)
    have e : (bif hasSeq u y.1 then u else Pl.insert u y) = putItem u y := by
      unfold putItem; rw [hu, hy]
      cases hasSeq u y.1 <;> rfl
    have ih := i_Union_l1_eq hK x1 x2 x3 t (pre ++ [y]) n (putItem u y) (by simpa using hn) (by simpa using hl) (putItem_ok hu) (fun x hx => ht x (by simp [hx]))
    unfold i_Union_l1
    rw [lt_at, inB_at, xi_at (r := R_Item), next_at (x := y) hp, i_putItem_eq hu hK, e, app_cons (pre := pre) (t := t)]
    exact ih

theorem i_Union_l0_eq (hK : big ≤ K) : ∀ (t pre : List (List PItem)) (n : Nat) (u : List PItem), t.length < n → (pre ++ t).length ≤ 1000 → itemsOk u = true → (∀ x, x ∈ t → x.length ≤ 1000) →
    i_Union_l0 K n u (pre ++ t) ((pre ++ t).length : Int) (pre.length : Int) = some (.inr (t.foldl (fun u l => bif itemsOk l then l.foldl putItem u else u) u, ()))
  | [], pre, n + 1, u, _, _, _, _ => by
    unfold i_Union_l0
    rw [lt_end]; rfl
  | y :: t, pre, n + 1, u, hn, hl, hu, ht => by
    have hb : big = 4000000 := rfl
    have hp : pre.length ≤ 1000000000000 := by simp at hl; omega
    have hy := ht y (by simp)
    unfold i_Union_l0
    rw [lt_at, inB_at, xi_at (r := .sl R_Item), i_ItemsOk_eq (by omega) (by omega)]
    simp only [cond_true, Option.bind_some, List.foldl_cons]
    cases c : itemsOk y
    · have ih := i_Union_l0_eq hK t (pre ++ [y]) n u (by simpa using hn) (by simpa using hl) hu (fun x hx => ht x (by simp [hx]))
      simp only [Bool.not_false, cond_true, cond_false]
      rw [next_at (x := y) hp, app_cons (pre := pre) (t := t)]
      exact ih
    · have ih := i_Union_l0_eq hK t (pre ++ [y]) n (y.foldl putItem u) (by simpa using hn) (by simpa using hl) (fold_ok hu) (fun x hx => ht x (by simp [hx]))
      simp only [Bool.not_true, cond_true, cond_false]
      have h1 := i_Union_l1_eq hK (pre ++ y :: t) ((pre ++ y :: t).length : Int) (pre.length : Int) y [] K u (by omega) (by simpa using hy) hu (itemsOk_iff.1 c).1
      rw [show i_Union_l1 K K u (pre ++ y :: t) ((pre ++ y :: t).length : Int) (pre.length : Int) y (y.length : Int) (0:Int) = _ from h1]
      simp only [Option.bind_some, Sum.elim_inr]
      rw [next_at (x := y) hp, app_cons (pre := pre) (t := t)]
      exact ih

theorem i_Union_eq {ls : List (List PItem)} (hK : big ≤ K) (h1 : ls.length ≤ 1000) (h2 : ∀ x, x ∈ ls → x.length ≤ 1000) : i_Union K ls = some (unionI ls, ()) := by
  have hb : big = 4000000 := rfl
  unfold i_Union
  have := i_Union_l0_eq hK ls [] K [] (by omega) (by simpa using h1) rfl h2
  rw [show i_Union_l0 K K [] ls (ls.length : Int) (0:Int) = _ from this]
  rfl

theorem i_Whole_l0_eq (a : Int) : ∀ (t pre acc : List PItem) (n : Nat), t.length < n → (pre ++ t).length ≤ 100000 → acc.length + t.length ≤ 100000 →
    i_Whole_l0 K n a acc (pre ++ t) ((pre ++ t).length : Int) (pre.length : Int) = some (.inr (acc ++ t.filter (fun x => decide (x.1 ≤ a)), ()))
  | [], pre, acc, n + 1, _, _, _ => by
    unfold i_Whole_l0
    rw [lt_end]; simp
  | y :: t, pre, acc, n + 1, hn, hl, ha => by
    have hp : pre.length ≤ 1000000000000 := by simp at hl; omega
    have ih := fun acc h => i_Whole_l0_eq a t (pre ++ [y]) acc n (by simpa using hn) (by simpa using hl) h
    unfold i_Whole_l0
    rw [lt_at, inB_at, xi_at (r := R_Item), next_at (x := y) hp, fits_small (by simp at ha ⊢; omega) (by decide), app_cons (pre := pre) (t := t), ih (acc ++ [y]) (by simp at ha ⊢; omega), ih acc (by simp at ha ⊢; omega)]
    simp only [cond_true, List.filter_cons]
    cases decide (y.1 ≤ a) <;> simp

theorem i_Whole_eq {u : List PItem} (h : u.length ≤ 100000) (hK : big ≤ K) : i_Whole K u = some (whole u, ()) := by
  have hb : big = 4000000 := rfl
  unfold i_Whole whole
  rw [i_AruOf_eq (by omega) (by omega)]
  simp only [Option.bind_some]
  have := i_Whole_l0_eq (K := K) (aru u : Int) u [] [] K (by omega) (by simpa using h) (by simpa using h)
  rw [show i_Whole_l0 K K (aru u : Int) [] u (u.length : Int) (0:Int) = _ from this]
  simp

theorem i_Rest_l1_eq (a : Int) : ∀ (t pre acc : List PItem) (n : Nat), t.length < n → (pre ++ t).length ≤ 100000 → acc.length + t.length ≤ 100000 →
    i_Rest_l1 K n a acc (pre ++ t) ((pre ++ t).length : Int) (pre.length : Int) = some (.inr (acc ++ t.filter (fun x => decide (x.1 > a)), ()))
  | [], pre, acc, n + 1, _, _, _ => by
    unfold i_Rest_l1
    rw [lt_end]; simp
  | y :: t, pre, acc, n + 1, hn, hl, ha => by
    have hp : pre.length ≤ 1000000000000 := by simp at hl; omega
    have ih := fun acc h => i_Rest_l1_eq a t (pre ++ [y]) acc n (by simpa using hn) (by simpa using hl) h
    unfold i_Rest_l1
    rw [lt_at, inB_at, xi_at (r := R_Item), next_at (x := y) hp, fits_small (by simp at ha ⊢; omega) (by decide), app_cons (pre := pre) (t := t), ih (acc ++ [y]) (by simp at ha ⊢; omega), ih acc (by simp at ha ⊢; omega)]
    simp only [cond_true, List.filter_cons]
    cases decide (y.1 > a) <;> simp
end
end Go.Proofs.Ytphjhelolaoihaa.R

/- Plain laws, part td: what those who go on together have yet to hear; are all here? -/
namespace Go.Proofs.Ytphjhelolaoihaa.R
open Pl Rg Go

section
variable {K : Nat}

theorem itemsOf_small {r id : Int} {l : List PBundle} (hs : BSm l) : (itemsOf (firstB r l id)).length ≤ 1000 := by
  cases h : firstB r l id with
  | none => exact Nat.zero_le _
  | some b => exact hs.it b (List.mem_of_find?_eq_some h)

theorem i_Rest_l0_eq {r : PRing} {l : List PBundle} (hs : BSm l) (hK : big ≤ K) (h : Int) : ∀ (t pre : List Int) (n : Nat) (acc : List (List PItem)), t.length < n → (pre ++ t).length ≤ 5 → acc.length = pre.length →
    i_Rest_l0 K n l h acc (pre ++ t) ((pre ++ t).length : Int) (pre.length : Int) r = some (.inr (h, acc ++ t.map (fun d => itemsOf (firstB r.1 l d)), ()))
  | [], pre, n + 1, acc, _, _, _ => by
    unfold i_Rest_l0
    rw [lt_end]; simp
  | y :: t, pre, n + 1, acc, hn, hl, ha => by
    have hp : pre.length ≤ 5 := by simp at hl; omega
    have ih := i_Rest_l0_eq (r := r) hs hK h t (pre ++ [y]) n (acc ++ [itemsOf (firstB r.1 l y)]) (by simpa using hn) (by simpa using hl) (by simp [ha])
    unfold i_Rest_l0
    rw [lt_at, inB_at, xi_at (r := .int .i64), next_at (x := y) (by omega), i_bundleOf_eq hs hK, app_cons (pre := pre) (t := t)]
    simp only [cond_true, Option.bind_some]
    rw [fits_small (by simp; omega) (by decide)]
    simp only [cond_true]
    cases hy : firstB r.1 l y with
    | none =>
      rw [hy] at ih
      refine Eq.trans ih ?_
      simp [hy]
    | some b =>
      rw [hy] at ih
      refine Eq.trans ih ?_
      simp [hy]

theorem i_Rest_eq {r : PRing} {l : List PBundle} {id h : Int} (hs : BSm l) (hK : big ≤ K) (hr : r.2.1.Pairwise (· < ·)) (hrl : r.2.1.length ≤ 5) : i_Rest K r l id h = some (rest r l id h, ()) := by
  have hb : big = 4000000 := rfl
  unfold i_Rest rest
  rw [i_bundleOf_eq hs hK, i_TogetherWith_eq hs hK hr hrl]
  simp only [Option.bind_some]
  have htl : (together r l id).length ≤ 5 := by
    unfold together
    cases firstB r.1 l id with
    | none => exact Nat.zero_le _
    | some own => exact Nat.le_trans (List.length_filter_le _ _) hrl
  cases firstB r.1 l id with
  | none => rfl
  | some own =>
    simp only [Bool.not_true, cond_false]
    cases own.2.2.1 == (0:Int)
    · simp only [cond_false]
      have h0 := i_Rest_l0_eq (r := r) hs hK h (together r l id) [] K [] (by omega) (by simpa using htl) rfl
      rw [show i_Rest_l0 K K l h [] (together r l id) ((together r l id).length : Int) (0:Int) r = _ from h0]
      simp only [Option.bind_some, Sum.elim_inr, List.nil_append]
      rw [i_Union_eq hK (by simp; omega) (fun x hx => by
        obtain ⟨d, _, rfl⟩ := List.mem_map.1 hx
        exact itemsOf_small hs)]
      have hu := itemsOk_length (union_ok (ls := (together r l id).map fun d => itemsOf (firstB r.1 l d)))
      simp only [Option.bind_some]
      rw [i_Whole_eq (by omega) hK]
      simp only [Option.bind_some]
      have hw : (wholeOf r l (together r l id)).length ≤ 60 := Nat.le_trans (List.length_filter_le _ _) hu
      have h1 := i_Rest_l1_eq (K := K) h (wholeOf r l (together r l id)) [] [] K (by omega) (by simp; omega) (by simp; omega)
      refine Eq.trans (congrArg (fun o => Option.bind o _) h1) ?_
      simp
    · rfl

/-! ### are all here? -/
theorem i_IndexFunc_l0_eq (hK : big ≤ K) (id : Int) (r : PRing) : ∀ (t pre : List PBundle) (n : Nat), t.length < n → (pre ++ t).length ≤ 1000 → (∀ b, b ∈ t → b.2.2.2.1.length ≤ 1000) →
    ∃ i : Int, 0 ≤ i ∧ slices_IndexFunc_i_Bundle_i_Bundle_l0 K n (pre ++ t) ((pre ++ t).length : Int) (pre.length : Int) id r = some (match firstB r.1 t id with | some _ => .inl (i, (id, r, ()), ()) | none => .inr (id, r, ()))
  | [], pre, n + 1, _, _, _ => by
    unfold slices_IndexFunc_i_Bundle_i_Bundle_l0
    rw [lt_end]; exact ⟨0, Int.le_refl _, rfl⟩
  | y :: t, pre, n + 1, hn, hl, hb => by
    have hp : pre.length ≤ 1000000000000 := by simp at hl; omega
    obtain ⟨i, hi, ih⟩ := i_IndexFunc_l0_eq hK id r t (pre ++ [y]) n (by simpa using hn) (by simpa using hl) (fun b h => hb b (by simp [h]))
    have e : i_AllHere_1 K y id r = some (isOf r.1 id y, id, r, ()) := by
      unfold i_AllHere_1 isOf
      rw [i_BundleOk_eq (by have := hb y (by simp); omega) hK]
      cases y.1 == id <;> cases y.2.1 == r.1 <;> rfl
    unfold slices_IndexFunc_i_Bundle_i_Bundle_l0
    rw [lt_at, inB_at, xi_at (r := R_Bundle), e, next_at (x := y) hp, app_cons (pre := pre) (t := t)]
    simp only [cond_true, Option.bind_some]
    rw [ih]
    unfold firstB
    rw [List.find?_cons]
    cases isOf r.1 id y
    · exact ⟨i, hi, rfl⟩
    · exact ⟨(pre.length : Int), by omega, rfl⟩

theorem i_ContainsFunc_eq {l : List PBundle} {id : Int} {r : PRing} (hs : BSm l) (hK : big ≤ K) : slices_ContainsFunc_i_Bundle_i_Bundle K l (id, r, ()) = some ((firstB r.1 l id).isSome, (id, r, ()), ()) := by
  have hb : big = 4000000 := rfl
  have hl := hs.len
  unfold slices_ContainsFunc_i_Bundle_i_Bundle slices_IndexFunc_i_Bundle_i_Bundle
  obtain ⟨i, hi, h⟩ := i_IndexFunc_l0_eq hK id r l [] K (by omega) (by simpa using hl) hs.it
  simp only
  rw [show slices_IndexFunc_i_Bundle_i_Bundle_l0 K K l (l.length : Int) (0:Int) id r = _ from h]
  cases firstB r.1 l id with
  | none => rfl
  | some b =>
    have e : decide (i ≥ (0:Int)) = true := decide_eq_true hi
    simp only [Option.bind_some, Sum.elim_inl, e, Option.isSome_some]

theorem i_AllHere_l0_eq {l : List PBundle} {r : PRing} (hs : BSm l) (hK : big ≤ K) : ∀ (t pre : List Int) (n : Nat), t.length < n → (pre ++ t).length ≤ 5 →
    i_AllHere_l0 K n l (pre ++ t) ((pre ++ t).length : Int) (pre.length : Int) r = some (yes (t.all fun d => (firstB r.1 l d).isSome))
  | [], pre, n + 1, _, _ => by
    unfold i_AllHere_l0
    rw [lt_end]; rfl
  | y :: t, pre, n + 1, hn, hl => by
    have hp : pre.length ≤ 1000000000000 := by simp at hl; omega
    have ih := i_AllHere_l0_eq (r := r) hs hK t (pre ++ [y]) n (by simpa using hn) (by simpa using hl)
    unfold i_AllHere_l0
    rw [lt_at, inB_at, xi_at (r := .int .i64), next_at (x := y) hp, i_ContainsFunc_eq hs hK, app_cons (pre := pre) (t := t)]
    simp only [cond_true, Option.bind_some, List.all_cons]
    rw [ih]
    cases (firstB r.1 l y).isSome <;> simp [yes]

theorem i_AllHere_eq {l : List PBundle} {r : PRing} (hs : BSm l) (hK : big ≤ K) (hrl : r.2.1.length ≤ 5) : i_AllHere K r l = some (allHere r l, ()) := by
  have hb : big = 4000000 := rfl
  unfold i_AllHere allHere
  have := i_AllHere_l0_eq (r := r) hs hK r.2.1 [] K (by omega) (by simpa using hrl)
  rw [show i_AllHere_l0 K K l r.2.1 (r.2.1.length : Int) (0:Int) r = _ from this]
  cases r.2.1.all fun d => (firstB r.1 l d).isSome <;> rfl

theorem s_AllHere_l0_eq {l : List PBundle} (hs : BSm l) (hK : big ≤ K) (c : Int) (u : Unit) : ∀ (t pre : List Int) (n : Nat), t.length < n → (pre ++ t).length ≤ 5 →
    s_AllHere_l0 K n l (pre.length : Int) (c, pre ++ t, u) = some (yes (t.all fun d => (firstB c l d).isSome))
  | [], pre, n + 1, _, _ => by
    unfold s_AllHere_l0
    simp only
    rw [lt_end]; rfl
  | y :: t, pre, n + 1, hn, hl => by
    have hp : pre.length ≤ 1000000000000 := by simp at hl; omega
    have ih := s_AllHere_l0_eq hs hK c u t (pre ++ [y]) n (by simpa using hn) (by simpa using hl)
    unfold s_AllHere_l0
    simp only
    rw [lt_at, inB_at, xi_at (r := .int .i64), next_at (x := y) hp, s_l13First_eq hs hK, app_cons (pre := pre) (t := t)]
    simp only [cond_true, Option.bind_some, List.all_cons]
    rw [ih]
    cases firstB c l y <;> simp [yes]

theorem s_AllHere_eq {l : List PBundle} {r : PRing} (hs : BSm l) (hK : big ≤ K) (hrl : r.2.1.length ≤ 5) : s_AllHere K r l = some (allHere r l, ()) := by
  have hb : big = 4000000 := rfl
  obtain ⟨c, ms, u⟩ := r
  unfold s_AllHere allHere
  have := s_AllHere_l0_eq hs hK c u ms [] K (by simp only at hrl; omega) (by simpa using hrl)
  rw [show s_AllHere_l0 K K l (0:Int) (c, ms, u) = _ from this]
  cases ms.all fun d => (firstB c l d).isSome <;> rfl

/-! ### lists of numbers -/
theorem l_sameInts_self {l : List Int} (h : l.length ≤ 1000) (hK : big ≤ K) : l_sameInts K l l = some (true, ()) := by
  have hb : big = 4000000 := rfl
  have key : ∀ (t pre : List Int) (n : Nat), l = pre ++ t → t.length < n → l_sameInts_l0 K n l l (pre.length : Int) = some (.inr ()) := by
    intro t
    induction t with
    | nil =>
      intro pre n he hn
      obtain ⟨n, rfl⟩ : ∃ k, n = k + 1 := ⟨n - 1, by omega⟩
      have e : decide ((pre.length : Int) < (l.length : Int)) = false := by rw [he]; exact lt_end
      unfold l_sameInts_l0
      rw [e]; rfl
    | cons y t ih =>
      intro pre n he hn
      obtain ⟨n, rfl⟩ : ∃ k, n = k + 1 := ⟨n - 1, by omega⟩
      have hp : pre.length ≤ 1000 := by rw [he] at h; simp at h; omega
      have e1 : decide ((pre.length : Int) < (l.length : Int)) = true := by rw [he]; exact lt_at
      have e2 : inB (pre.length : Int) l.length = true := by rw [he]; exact inB_at
      have e3 : xi (.int .i64) l (pre.length : Int) = y := by rw [he]; exact xi_at (r := .int .i64)
      unfold l_sameInts_l0
      rw [e1, e2, e3, next_at (x := y) (by omega)]
      have e4 : (y != y) = false := by simp
      rw [e4]
      exact ih (pre ++ [y]) n (by rw [he]; simp) (by simpa using hn)
  unfold l_sameInts
  have e : ((l.length : Int) != (l.length : Int)) = false := by simp
  have := key l [] K rfl (by omega)
  rw [e, show l_sameInts_l0 K K l l (0:Int) = _ from this]
  rfl

theorem l_rises_true {l : List Int} (hp : l.Pairwise (· < ·)) (h : l.length ≤ 1000) (hK : big ≤ K) : l_rises K l = some (true, ()) := by
  have hb : big = 4000000 := rfl
  have key : ∀ (k n i : Nat), 1 ≤ i → l.length ≤ i + k → k < n → l_rises_l0 K n l (i : Int) = some (.inr ()) := by
    intro k
    induction k with
    | zero =>
      intro n i h1 h2 h3
      obtain ⟨n, rfl⟩ : ∃ k, n = k + 1 := ⟨n - 1, by omega⟩
      unfold l_rises_l0
      have e : decide ((i : Int) < (l.length : Int)) = false := by rw [decide_eq_false_iff_not]; omega
      rw [e]; rfl
    | succ k ih =>
      intro n i h1 h2 h3
      obtain ⟨n, rfl⟩ : ∃ k, n = k + 1 := ⟨n - 1, by omega⟩
      unfold l_rises_l0
      by_cases hi : i < l.length
      · have e : decide ((i : Int) < (l.length : Int)) = true := by rw [decide_eq_true_eq]; omega
        have ew : w64 ((i : Int) - (1:Int)) = ((i - 1 : Nat) : Int) := by rw [w64_id (by omega)]; omega
        have hi1 : i - 1 < l.length := by omega
        have e3 : w64 ((i : Int) + (1:Int)) = ((i + 1 : Nat) : Int) := by rw [w64_id (by omega)]; omega
        have hlt : l[i - 1] < l[i] := List.pairwise_iff_getElem.1 hp (i - 1) i hi1 hi (by omega)
        have e4 : decide (l[i - 1] ≥ l[i]) = false := by rw [decide_eq_false_iff_not]; omega
        rw [e, ew, inB_nat, inB_nat, decide_eq_true hi, decide_eq_true hi1, xi_nat (r := .int .i64) hi, xi_nat (r := .int .i64) hi1, e3]
        simp only [cond_true]
        refine Eq.trans (congrArg (fun b : Bool => (bif b then _ else _ : Option ((Bool × Unit) ⊕ Unit))) e4) ?_
        exact ih n (i + 1) (by omega) (by omega) (by omega)
      · have e : decide ((i : Int) < (l.length : Int)) = false := by rw [decide_eq_false_iff_not]; omega
        rw [e]; rfl
  unfold l_rises
  have := key l.length K 1 (by omega) (by omega) (by omega)
  rw [show l_rises_l0 K K l (1:Int) = _ from this]
  rfl
end
end Go.Proofs.Ytphjhelolaoihaa.R

/- Plain laws, part te: drawn bundles. -/
namespace Go.Proofs.Ytphjhelolaoihaa.R
open Pl Rg Go

section
variable {K : Nat}

theorem size_bytesOf (l : List Int) : (bytesOf l).size = l.length := by
  show (l.map fun n => UInt8.ofNat n.toNat).toArray.size = l.length
  simp

theorem s_l01Figure_ret (n : Int) : ∃ m : Int, s_l01Figure K n = some (m, ()) := by
  unfold s_l01Figure
  cases decide (n < (10:Int)) <;> exact ⟨_, rfl⟩

theorem s_Decimal_ret {x : Int} (h0 : 0 < x) (h1 : x < 10) (hK : big ≤ K) : Ret (s_Decimal K x) (fun _ => True) := by
  have hb : big = 4000000 := rfl
  obtain ⟨k, rfl⟩ : ∃ k, K = k + 2 := ⟨K - 2, by omega⟩
  unfold s_Decimal
  have e0 : (x == (0:Int)) = false := by
    cases e : x == 0
    · rfl
    · have := eq_of_beq e; omega
  have e1 : (x != (0:Int)) = true := by unfold bne; rw [e0]; rfl
  have e2 : Int.tmod x 10 = x := Int.tmod_eq_of_lt (by omega) h1
  have e3 : decide (x < (0:Int)) = false := by rw [decide_eq_false_iff_not]; omega
  have e4 : w64 (Int.tdiv x 10) = 0 := by rw [Int.tdiv_eq_zero_of_lt (by omega) h1]; rfl
  rw [e0, e3]
  simp only [cond_false]
  unfold s_Decimal_l0
  rw [e1, e2, e3]
  obtain ⟨m, hm⟩ := s_l01Figure_ret (K := k + 2) x
  rw [hm]
  simp only [cond_true, cond_false, Option.bind_some]
  have e5 : catFits (bytesOf [m]).size (⟨#[]⟩ : ByteArray).size = true := by rw [size_bytesOf]; rfl
  rw [e5, e4]
  simp only [cond_true]
  unfold s_Decimal_l0
  exact Ret.some trivial

theorem s_l13Bundle_ret {c : D_l01Cur} {r : PRing} {id : Int} (hc : CurOk c) (hr : r.1 ≤ 100) (hK : big ≤ K) : Ret (s_l13Bundle K c r id) (fun y => y.1.2.2.2.1.length ≤ 6 ∧ CurOk y.2.1) := by
  have hb : big = 4000000 := rfl
  have k0 : ∀ (k n i : Nat) (acc : List PItem) (a b : PBundle) (c : D_l01Cur), i + k = 7 → 1 ≤ i → k < n → acc.length + k = 6 → ∃ acc' : List PItem, s_l13Bundle_l0 K n acc (i : Int) a b c = some (.inr ((), (), (), acc', a, b, c, ())) ∧ acc'.length = 6 := by
    intro k
    induction k with
    | zero =>
      intro n i acc a b c h1 h2 h3 h4
      obtain ⟨n, rfl⟩ : ∃ k, n = k + 1 := ⟨n - 1, by omega⟩
      unfold s_l13Bundle_l0
      have e : decide ((i : Int) ≤ (6:Int)) = false := by rw [decide_eq_false_iff_not]; omega
      rw [e]
      exact ⟨acc, rfl, by omega⟩
    | succ k ih =>
      intro n i acc a b c h1 h2 h3 h4
      obtain ⟨n, rfl⟩ : ∃ k, n = k + 1 := ⟨n - 1, by omega⟩
      unfold s_l13Bundle_l0
      have e : decide ((i : Int) ≤ (6:Int)) = true := by rw [decide_eq_true_eq]; omega
      have e3 : w64 ((i : Int) + (1:Int)) = ((i + 1 : Nat) : Int) := by rw [w64_id (by omega)]; omega
      obtain ⟨y, hy, _⟩ := s_Decimal_ret (K := K) (x := (i : Int)) (by omega) (by omega) hK
      rw [e, e3, hy]
      simp only [cond_true, Option.bind_some]
      rw [fits_small (by simp; omega) (by decide)]
      exact ih n (i + 1) _ a b c (by omega) (by omega) (by omega) (by simp; omega)
  have k1 : ∀ (k n i : Nat) (xs : List PItem) (a b : PBundle) (c : D_l01Cur), i + k = xs.length → k < n → xs.length ≤ 6 → b.2.2.2.1.length ≤ i → CurOk c →
      ∃ (b' : PBundle) (c' : D_l01Cur), s_l13Bundle_l1 K n xs (i : Int) a b c = some (.inr ((), (), a, b', c', ())) ∧ b'.2.2.2.1.length ≤ 6 ∧ CurOk c' := by
    intro k
    induction k with
    | zero =>
      intro n i xs a b c h1 h2 h3 h4 h5
      obtain ⟨n, rfl⟩ : ∃ k, n = k + 1 := ⟨n - 1, by omega⟩
      unfold s_l13Bundle_l1
      have e : decide ((i : Int) < (xs.length : Int)) = false := by rw [decide_eq_false_iff_not]; omega
      rw [e]
      exact ⟨b, c, rfl, by omega, h5⟩
    | succ k ih =>
      intro n i xs a b c h1 h2 h3 h4 h5
      obtain ⟨n, rfl⟩ : ∃ k, n = k + 1 := ⟨n - 1, by omega⟩
      unfold s_l13Bundle_l1
      have e : decide ((i : Int) < (xs.length : Int)) = true := by rw [decide_eq_true_eq]; omega
      have hi : i < xs.length := by omega
      have e3 : w64 ((i : Int) + (1:Int)) = ((i + 1 : Nat) : Int) := by rw [w64_id (by omega)]; omega
      obtain ⟨y, hy, hyc⟩ := s_l01Once_ret (K := K) h5 (n := 3) (by omega) (by omega)
      rw [e, e3, hy]
      simp only [cond_true, Option.bind_some]
      cases y.1
      · simp only [Bool.not_false, cond_true]
        rw [inB_nat, decide_eq_true hi, fits_small (by simp; omega) (by decide)]
        exact ih n (i + 1) xs a _ y.2.1 (by omega) (by omega) h3 (by simp; omega) hyc
      · simp only [Bool.not_true, cond_false]
        exact ih n (i + 1) xs a b y.2.1 (by omega) (by omega) h3 (by omega) hyc
  unfold s_l13Bundle
  refine Ret.ite (fun h => ?_) fun _ => Ret.some ⟨Nat.zero_le _, hc⟩
  rw [decide_eq_true_eq] at h
  refine Ret.bind (s_l01Once_ret hc (by omega) (by omega)) ?_
  intro y hy
  refine Ret.ite (fun _ => ?_) fun _ => Ret.some ⟨Nat.zero_le _, hy⟩
  have ew : w64 (r.1 - (1:Int)) = r.1 - 1 := w64_id (by omega)
  rw [ew]
  refine Ret.bind (s_l01Below_ret hy (by omega) (by omega)) ?_
  rintro j ⟨j1, j2, j3⟩
  obtain ⟨acc, g1, g2⟩ := k0 6 K 1 [] ((0:Int), ((0:Int), ((0:Int), ([], ())))) (id, (r.1, (w64 ((1:Int) + j.1), ([], ())))) j.2.1 (by omega) (by omega) (by omega) rfl
  refine Ret.eq g1 ?_
  simp only [Sum.elim_inr]
  obtain ⟨b', c', q1, q2, q3⟩ := k1 acc.length K 0 acc ((0:Int), ((0:Int), ((0:Int), ([], ())))) (id, (r.1, (w64 ((1:Int) + j.1), ([], ())))) j.2.1 (by omega) (by omega) (by omega) (Nat.le_refl _) j3
  refine Ret.eq q1 ?_
  exact Ret.some ⟨q2, q3⟩
end
end Go.Proofs.Ytphjhelolaoihaa.R

/- Plain laws, part tf: drawn bundles of a ring. -/
namespace Go.Proofs.Ytphjhelolaoihaa.R
open Pl Rg Go

section
variable {K : Nat}

theorem s_l05Items_ret {c : D_l01Cur} (hc : CurOk c) (hK : big ≤ K) : Ret (s_l05Items K c) (fun y => y.1.length ≤ 10 ∧ CurOk y.2.1) := by
  have hb : big = 4000000 := rfl
  have key : ∀ (k n i : Nat) (acc : List PItem) (c : D_l01Cur), i + k = 10 → 1 ≤ i → k < n → acc.length < i → CurOk c → ∃ (acc' : List PItem) (c' : D_l01Cur), s_l05Items_l0 K n acc (i : Int) c = some (.inr (acc', c', ())) ∧ acc'.length ≤ 10 ∧ CurOk c' := by
    intro k
    induction k with
    | zero =>
      intro n i acc c h1 h2 h3 h4 h5
      obtain ⟨n, rfl⟩ : ∃ k, n = k + 1 := ⟨n - 1, by omega⟩
      unfold s_l05Items_l0
      obtain ⟨y, hy, y1, y2, y3⟩ := s_l01Below_ret (K := K) h5 (n := 10) (by omega) (by omega)
      rw [hy]
      have e : decide ((i : Int) ≤ y.1) = false := by rw [decide_eq_false_iff_not]; omega
      simp only [Option.bind_some]
      rw [e]
      exact ⟨acc, y.2.1, rfl, by omega, y3⟩
    | succ k ih =>
      intro n i acc c h1 h2 h3 h4 h5
      obtain ⟨n, rfl⟩ : ∃ k, n = k + 1 := ⟨n - 1, by omega⟩
      unfold s_l05Items_l0
      obtain ⟨y, hy, y1, y2, y3⟩ := s_l01Below_ret (K := K) h5 (n := 10) (by omega) (by omega)
      rw [hy]
      simp only [Option.bind_some]
      cases decide ((i : Int) ≤ y.1)
      · exact ⟨acc, y.2.1, rfl, by omega, y3⟩
      · have e3 : w64 ((i : Int) + (1:Int)) = ((i + 1 : Nat) : Int) := by rw [w64_id (by omega)]; omega
        obtain ⟨z, hz, hzc⟩ := s_l01Once_ret (K := K) y3 (n := 4) (by omega) (by omega)
        rw [hz, e3]
        simp only [cond_true, Option.bind_some]
        cases z.1
        · simp only [Bool.not_false, cond_true]
          obtain ⟨x, hx, hxc⟩ := s_l05Of_ret (K := K) (n := (i : Int)) hzc
          rw [hx]
          simp only [Option.bind_some]
          rw [fits_small (by simp; omega) (by decide)]
          exact ih n (i + 1) _ x.2.1 (by omega) (by omega) (by omega) (by simp; omega) hxc
        · simp only [Bool.not_true, cond_false]
          exact ih n (i + 1) acc z.2.1 (by omega) (by omega) (by omega) (by omega) hzc
  unfold s_l05Items
  obtain ⟨acc, c', g1, g2, g3⟩ := key 9 K 1 [] c (by omega) (by omega) (by omega) (by simp) hc
  refine Ret.eq g1 ?_
  exact Ret.some ⟨g2, g3⟩

theorem s_l05AnyItems_ret {c : D_l01Cur} (hc : CurOk c) (hK : big ≤ K) : Ret (s_l05AnyItems K c) (fun y => y.1.length ≤ 11 ∧ CurOk y.2.1) := by
  unfold s_l05AnyItems
  refine Ret.bind (s_l05Items_ret hc hK) ?_
  rintro a ⟨a1, a2⟩
  refine Ret.bind (s_l01Below_ret a2 (by omega) (by omega)) ?_
  rintro d ⟨d1, d2, d3⟩
  refine Ret.ite (fun _ => ?_) fun _ => Ret.ite (fun _ => ?_) fun _ => Ret.some ⟨by show a.1.length ≤ 11; omega, d3⟩
  · refine Ret.bind (s_l05AnyItem_ret d3 hK) ?_
    intro b hb
    rw [fits_small (by simp; omega) (by decide)]
    exact Ret.some ⟨by show (a.1 ++ [b.1]).length ≤ 11; simp; omega, hb⟩
  · refine Ret.ite (fun h => ?_) fun _ => Ret.some ⟨by show a.1.length ≤ 11; omega, d3⟩
    rw [decide_eq_true_eq] at h
    refine Ret.bind (s_l01Below_ret (n := (a.1.length : Int)) d3 (by omega) (by omega)) ?_
    rintro j ⟨j1, j2, j3⟩
    refine Ret.bind (s_l01PickInt_ret j3 (by simp) (by simp)) ?_
    rintro k ⟨k1, k2⟩
    have e : inB j.1 a.1.length = true := by unfold inB; rw [decide_eq_true j1, decide_eq_true j2]; rfl
    rw [e]
    exact Ret.some ⟨by show (a.1.set j.1.toNat _).length ≤ 11; rw [List.length_set]; omega, k2⟩

theorem s_l13AnyBundle_ret {c : D_l01Cur} (hc : CurOk c) (hK : big ≤ K) : Ret (s_l13AnyBundle K c) (fun y => y.1.2.2.2.1.length ≤ 11 ∧ CurOk y.2.1) := by
  unfold s_l13AnyBundle
  refine Ret.bind (s_l09Ring_ret hc hK) ?_
  rintro r ⟨r1, r2⟩
  have hr := ringOk_iff.1 r1
  refine Ret.bind (s_l01Below_ret r2 (by omega) (by omega)) ?_
  rintro a ⟨a1, a2, a3⟩
  have e : inB (0:Int) r.1.2.1.length = true := by
    have := inB_nat (i := 0) (n := r.1.2.1.length)
    rw [decide_eq_true (by omega)] at this; exact this
  rw [e]
  have ew : w64 ((1:Int) + a.1) = 1 + a.1 := w64_id (by omega)
  simp only [cond_true]
  refine Ret.bind (s_l13Bundle_ret a3 (by show w64 ((1:Int) + a.1) ≤ 100; rw [ew]; omega) hK) ?_
  rintro b ⟨b1, b2⟩
  refine Ret.bind (s_l01Below_ret b2 (by omega) (by omega)) ?_
  rintro d ⟨d1, d2, d3⟩
  have hb11 : b.1.2.2.2.1.length ≤ 11 := by omega
  refine Ret.ite (fun _ => ?_) fun _ => Ret.ite (fun _ => ?_) fun _ => Ret.ite (fun _ => ?_) fun _ => Ret.ite (fun _ => ?_) fun _ => ?_
  · exact Ret.bind (s_l01PickInt_ret d3 (by simp) (by simp)) fun _ h => Ret.some ⟨hb11, h.2⟩
  · exact Ret.bind (s_l01PickInt_ret d3 (by simp) (by simp)) fun _ h => Ret.some ⟨hb11, h.2⟩
  · exact Ret.bind (s_l01PickInt_ret d3 (by simp) (by simp)) fun _ h => Ret.some ⟨hb11, h.2⟩
  · exact Ret.bind (s_l05AnyItems_ret d3 hK) fun _ h => Ret.some ⟨h.1, h.2⟩
  · exact Ret.some ⟨hb11, d3⟩

theorem s_DrawTogether_ret {l : List Int} (hl : l.length ≤ 140737488351232) (hK : big ≤ K) : Ret (s_DrawTogether K l) (fun y => (y.1.2.1.length ≤ 5 ∧ y.1.2.1.Pairwise (· < ·)) ∧ BSm y.2.1) := by
  have hb : big = 4000000 := rfl
  unfold s_DrawTogether
  refine Ret.bind (s_l01New_ret hl hK) ?_
  intro c hc
  unfold s_l13Bundles
  refine Ret.bind (o := Option.bind _ _) (R := fun y => (y.1.2.1.length ≤ 5 ∧ y.1.2.1.Pairwise (· < ·)) ∧ BSm y.2.1) ?_ fun y hy => Ret.some hy
  refine Ret.bind (s_l09Ring_ret hc hK) ?_
  rintro r ⟨r1, r2⟩
  have hr := ringOk_iff.1 r1
  refine Ret.bind (s_l01Below_ret r2 (by omega) (by omega)) ?_
  rintro a ⟨a1, a2, a3⟩
  have ew : w64 ((1:Int) + a.1) = 1 + a.1 := w64_id (by omega)
  have key : ∀ (k n i : Nat) (acc : List PBundle) (z rr : PRing) (c : D_l01Cur), rr.1 ≤ 100 → rr.2.1.length ≤ 5 → i + k = rr.2.1.length → k < n → acc.length ≤ 2 * i → (∀ b, b ∈ acc → b.2.2.2.1.length ≤ 1000) → CurOk c →
      ∃ (acc' : List PBundle) (c' : D_l01Cur), s_l13Bundles_l0 K n acc (i : Int) z rr c = some (.inr ((), (), acc', z, rr, c', ())) ∧ BSm acc' := by
    intro k
    induction k with
    | zero =>
      intro n i acc z rr c h0 h1 h2 h3 h4 h5 h6
      obtain ⟨n, rfl⟩ : ∃ k, n = k + 1 := ⟨n - 1, by omega⟩
      unfold s_l13Bundles_l0
      have e : decide ((i : Int) < (rr.2.1.length : Int)) = false := by rw [decide_eq_false_iff_not]; omega
      rw [e]
      exact ⟨acc, c, rfl, by omega, h5⟩
    | succ k ih =>
      intro n i acc z rr c h0 h1 h2 h3 h4 h5 h6
      obtain ⟨n, rfl⟩ : ∃ k, n = k + 1 := ⟨n - 1, by omega⟩
      unfold s_l13Bundles_l0
      have e : decide ((i : Int) < (rr.2.1.length : Int)) = true := by rw [decide_eq_true_eq]; omega
      have hi : i < rr.2.1.length := by omega
      have e3 : w64 ((i : Int) + (1:Int)) = ((i + 1 : Nat) : Int) := by rw [w64_id (by omega)]; omega
      obtain ⟨y, hy, hyc⟩ := s_l01Once_ret (K := K) h6 (n := 8) (by omega) (by omega)
      have add : ∀ {acc : List PBundle} {b : PBundle}, (∀ b, b ∈ acc → b.2.2.2.1.length ≤ 1000) → b.2.2.2.1.length ≤ 11 → ∀ x, x ∈ acc ++ [b] → x.2.2.2.1.length ≤ 1000 := by
        intro acc b g1 g2 x hx
        rcases List.mem_append.1 hx with hx | hx
        · exact g1 x hx
        · rw [List.mem_singleton] at hx; subst hx; omega
      rw [e, e3, hy]
      simp only [cond_true, Option.bind_some]
      cases y.1
      · simp only [Bool.not_false, cond_true]
        rw [inB_nat, decide_eq_true hi]
        obtain ⟨b, hb', b1, b2⟩ := s_l13Bundle_ret (K := K) (r := rr) (id := xi (.int .i64) rr.2.1 (i : Int)) hyc h0 hK
        rw [hb']
        simp only [cond_true, Option.bind_some]
        rw [fits_small (by simp; omega) (by decide)]
        obtain ⟨x, hx, hxc⟩ := s_l01Once_ret (K := K) b2 (n := 8) (by omega) (by omega)
        rw [hx]
        simp only [cond_true, Option.bind_some]
        have ha1 := add h5 (show b.1.2.2.2.1.length ≤ 11 by omega)
        cases x.1
        · exact ih n (i + 1) _ z rr x.2.1 h0 h1 (by omega) (by omega) (by simp; omega) ha1 hxc
        · obtain ⟨d, hd, d1, d2⟩ := s_l13AnyBundle_ret (K := K) hxc hK
          rw [hd]
          simp only [cond_true, Option.bind_some]
          rw [fits_small (by simp; omega) (by decide)]
          exact ih n (i + 1) _ z rr d.2.1 h0 h1 (by omega) (by omega) (by simp; omega) (add ha1 d1) d2
      · simp only [Bool.not_true, cond_false]
        obtain ⟨x, hx, hxc⟩ := s_l01Once_ret (K := K) hyc (n := 8) (by omega) (by omega)
        rw [hx]
        simp only [Option.bind_some]
        cases x.1
        · exact ih n (i + 1) _ z rr x.2.1 h0 h1 (by omega) (by omega) (by omega) h5 hxc
        · obtain ⟨d, hd, d1, d2⟩ := s_l13AnyBundle_ret (K := K) hxc hK
          simp only [cond_true]
          rw [hd]
          simp only [Option.bind_some]
          rw [fits_small (by simp; omega) (by decide)]
          exact ih n (i + 1) _ z rr d.2.1 h0 h1 (by omega) (by omega) (by simp; omega) (add h5 d1) d2
  obtain ⟨acc, c', g1, g2⟩ := key r.1.2.1.length K 0 [] ((0:Int), ([], ())) (w64 ((1:Int) + a.1), r.1.2) a.2.1 (by show w64 ((1:Int) + a.1) ≤ 100; rw [ew]; omega) hr.2.1.2 (by show 0 + r.1.2.1.length = r.1.2.1.length; omega) (by omega) (Nat.zero_le _) (by simp) a3
  refine Ret.eq g1 ?_
  exact Ret.some ⟨⟨hr.2.1.2, hr.2.2.2⟩, g2⟩
end
end Go.Proofs.Ytphjhelolaoihaa.R
