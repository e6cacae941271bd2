/- Plain laws, part j: what is drawn. -/
import Derived.Test.YtphjhelolaoihaaPb
set_option linter.all false
namespace Pl
open Rg Go

def CurOk (c : List Int × Int × Int × Unit) : Prop := 0 ≤ c.2.1 ∧ c.2.1 ≤ (c.1.length : Int) ∧ c.1.length ≤ 140737488351232

theorem and_small (x : Int) : 0 ≤ sBit .and .i64 x 255 ∧ sBit .and .i64 x 255 ≤ 255 := by
  unfold sBit
  have h : ((BitVec.ofInt IntKind.i64.bits x) &&& (BitVec.ofInt IntKind.i64.bits 255)).toNat ≤ 255 := by
    rw [BitVec.toNat_and]
    have : (BitVec.ofInt IntKind.i64.bits 255).toNat = 255 := by decide
    rw [this]; exact Nat.and_le_right
  simp only
  rw [show IntKind.i64.wrap (((BitVec.ofInt IntKind.i64.bits x) &&& (BitVec.ofInt IntKind.i64.bits 255)).toNat : Int) = _ from w64_id (by omega)]
  omega
end Pl
namespace Go.Proofs.Ytphjhelolaoihaa.R
open Pl Rg Go

section
variable {K : Nat}

theorem s_l01New_ret {l : List Int} (hl : l.length ≤ 140737488351232) (hK : big ≤ K) : Ret (s_l01New K l) (fun y => CurOk y.1) := by
  have hb : big = 4000000 := rfl
  have key : ∀ (k n : Nat) (s : Int) (i : Nat), i + k = 4000 → k < n → i ≤ l.length → ∃ s', s_l01New_l0 K n l s (i : Int) = some (.inr (l, s', ())) := by
    intro k
    induction k with
    | zero =>
      intro n s i h1 h2 h3
      obtain ⟨n, rfl⟩ : ∃ k, n = k + 1 := ⟨n - 1, by omega⟩
      unfold s_l01New_l0
      have e : decide ((i : Int) < (4000:Int)) = false := by simp; omega
      rw [e]
      cases decide ((i : Int) < (l.length : Int)) <;> exact ⟨_, rfl⟩
    | succ k ih =>
      intro n s i h1 h2 h3
      obtain ⟨n, rfl⟩ : ∃ k, n = k + 1 := ⟨n - 1, by omega⟩
      unfold s_l01New_l0
      have e : decide ((i : Int) < (4000:Int)) = true := by simp; omega
      rw [e, inB_nat]
      cases c : decide ((i : Int) < (l.length : Int))
      · exact ⟨_, rfl⟩
      · simp only [decide_eq_true_eq] at c
        have e2 : decide (i < l.length) = true := by simp; omega
        have e3 : w64 ((i : Int) + (1:Int)) = ((i + 1 : Nat) : Int) := by rw [w64_id (by omega)]; omega
        rw [e2, e3]
        exact ih n _ (i + 1) (by omega) (by omega) (by omega)
  unfold s_l01New
  obtain ⟨s', h⟩ := key 4000 K (w64 ((27101:Int) + (l.length : Int))) 0 (by omega) (by omega) (by omega)
  rw [show s_l01New_l0 K K l (w64 ((27101:Int) + (l.length : Int))) (0:Int) = _ from h]
  exact Ret.some ⟨Int.le_refl _, by show (0:Int) ≤ (l.length : Int); omega, hl⟩

theorem s_l01Byte_ret {c : D_l01Cur} (h : CurOk c) : Ret (s_l01Byte K c) (fun y => 0 ≤ y.1 ∧ y.1 ≤ 255 ∧ CurOk y.2.1) := by
  obtain ⟨h1, h2, h3⟩ := h
  unfold s_l01Byte
  simp only
  cases e : decide (c.2.1 < (c.1.length : Int))
  · simp only [cond_false]
    exact Ret.some ⟨(and_small _).1, (and_small _).2, h1, h2, h3⟩
  · simp only [decide_eq_true_eq] at e
    have hb : inB c.2.1 c.1.length = true := by simp [inB, h1, e]
    have hw : w64 (c.2.1 + (1:Int)) = c.2.1 + 1 := w64_id (by omega)
    rw [hb, hw]
    exact Ret.some ⟨(and_small _).1, (and_small _).2, by show 0 ≤ c.2.1 + 1; omega, by show c.2.1 + 1 ≤ (c.1.length : Int); omega, h3⟩

theorem s_l01Below_ret {c : D_l01Cur} {n : Int} (h : CurOk c) (h0 : 0 < n) (h1 : n ≤ 256) : Ret (s_l01Below K c n) (fun y => 0 ≤ y.1 ∧ y.1 < n ∧ CurOk y.2.1) := by
  unfold s_l01Below
  have e1 : decide (n ≤ (0:Int)) = false := by simp; omega
  have e2 : decide (n ≤ (256:Int)) = true := by simp; omega
  have e3 : (n == (0:Int)) = false := by simp; omega
  rw [e1, e2, e3]
  refine Ret.bind (s_l01Byte_ret h) ?_
  rintro y ⟨y1, y2, y3⟩
  refine Ret.some ⟨Int.tmod_nonneg _ y1, Int.tmod_lt_of_pos _ h0, y3⟩

theorem s_l01Once_ret {c : D_l01Cur} {n : Int} (h : CurOk c) (h0 : 0 < n) (h1 : n ≤ 256) : Ret (s_l01Once K c n) (fun y => CurOk y.2.1) := by
  unfold s_l01Once
  refine Ret.bind (s_l01Below_ret h h0 h1) ?_
  rintro y ⟨y1, y2, y3⟩
  exact Ret.some y3

theorem s_l01PickInt_ret {c : D_l01Cur} {l : List Int} (h : CurOk c) (h0 : 0 < l.length) (h1 : l.length ≤ 256) : Ret (s_l01PickInt K c l) (fun y => y.1 ∈ l ∧ CurOk y.2.1) := by
  unfold s_l01PickInt
  refine Ret.bind (s_l01Below_ret h (by omega) (by omega)) ?_
  rintro y ⟨y1, y2, y3⟩
  obtain ⟨k, hk⟩ : ∃ k : Nat, y.1 = k := ⟨y.1.toNat, by omega⟩
  rw [hk] at y2 ⊢
  have hk' : k < l.length := by omega
  rw [inB_nat, decide_eq_true hk']
  refine Ret.some ⟨?_, y3⟩
  show xi (.int .i64) l (k : Int) ∈ l
  rw [xi_nat (r := .int .i64) hk']; exact List.getElem_mem hk'

theorem s_l01Pick_ret {c : D_l01Cur} {l : List ByteArray} (h : CurOk c) (h0 : 0 < l.length) (h1 : l.length ≤ 256) : Ret (s_l01Pick K c l) (fun y => y.1 ∈ l ∧ CurOk y.2.1) := by
  unfold s_l01Pick
  refine Ret.bind (s_l01Below_ret h (by omega) (by omega)) ?_
  rintro y ⟨y1, y2, y3⟩
  obtain ⟨k, hk⟩ : ∃ k : Nat, y.1 = k := ⟨y.1.toNat, by omega⟩
  rw [hk] at y2 ⊢
  have hk' : k < l.length := by omega
  rw [inB_nat, decide_eq_true hk']
  refine Ret.some ⟨?_, y3⟩
  show xi .str l (k : Int) ∈ l
  rw [xi_nat (r := .str) hk']; exact List.getElem_mem hk'

theorem s_l03Name_ret {c : D_l01Cur} (h : CurOk c) : Ret (s_l03Name K c) (fun y => y.1.size ≤ 60 ∧ CurOk y.2.1) := by
  unfold s_l03Name
  refine Ret.bind (s_l01Pick_ret h (by simp) (by simp)) ?_
  rintro y ⟨y1, y2⟩
  refine Ret.some ⟨?_, y2⟩
  show y.1.size ≤ 60
  simp only [List.mem_cons, List.not_mem_nil, or_false] at y1
  rcases y1 with h | h | h | h | h <;> rw [h] <;> decide

theorem s_l09Ring_ret {c : D_l01Cur} (h : CurOk c) (hK : big ≤ K) : Ret (s_l09Ring K c) (fun y => ringOk y.1 = true ∧ CurOk y.2.1) := by
  have hb : big = 4000000 := rfl
  have key : ∀ (k n : Nat) (i : Nat) (z r : D_Ring) (c : D_l01Cur), i + k = 5 → 1 ≤ i → k < n → CurOk c → (1 ≤ r.1 ∧ r.1 ≤ 9) → (∀ x, x ∈ r.2.1 → 1 ≤ x ∧ x < i) → r.2.1.Pairwise (· < ·) → r.2.1.length < i →
      Ret (s_l09Ring_l0 K n (i : Int) z r c) (fun y => ∃ u v w, y = .inr u ∧ u.2.2.2.1 = v ∧ u.2.2.2.2.1 = w ∧ CurOk w ∧ (1 ≤ v.1 ∧ v.1 ≤ 9) ∧ (∀ x, x ∈ v.2.1 → 1 ≤ x ∧ x ≤ 5) ∧ v.2.1.Pairwise (· < ·) ∧ v.2.1.length ≤ 5) := by
    intro k
    induction k with
    | zero =>
      intro n i z r c h1 hi h2 h3 h4 h5 h6 h7
      obtain ⟨n, rfl⟩ : ∃ k, n = k + 1 := ⟨n - 1, by omega⟩
      unfold s_l09Ring_l0
      have e : decide ((i : Int) ≤ (4:Int)) = false := by simp; omega
      rw [e]
      exact Ret.some ⟨_, r, c, rfl, rfl, rfl, h3, h4, fun x hx => by have := h5 x hx; omega, h6, by omega⟩
    | succ k ih =>
      intro n i z r c h1 hi h2 h3 h4 h5 h6 h7
      obtain ⟨n, rfl⟩ : ∃ k, n = k + 1 := ⟨n - 1, by omega⟩
      unfold s_l09Ring_l0
      have e : decide ((i : Int) ≤ (4:Int)) = true := by simp; omega
      have e3 : w64 ((i : Int) + (1:Int)) = ((i + 1 : Nat) : Int) := by rw [w64_id (by omega)]; omega
      rw [e, e3]
      refine Ret.bind (s_l01Once_ret h3 (by omega) (by omega)) ?_
      intro y hy
      rw [fits_small (by simp; omega) (by decide)]
      cases y.1
      · refine ih n (i + 1) z _ _ (by omega) (by omega) (by omega) hy h4 ?_ ?_ (by simp; omega)
        · intro x hx
          rcases List.mem_append.1 hx with hx | hx
          · have := h5 x hx; omega
          · rw [List.mem_singleton] at hx; omega
        · rw [List.pairwise_append]
          exact ⟨h6, List.pairwise_singleton _ _, fun a ha b hb => by rw [List.mem_singleton] at hb; have := h5 a ha; omega⟩
      · exact ih n (i + 1) z _ _ (by omega) (by omega) (by omega) hy h4 (fun x hx => by have := h5 x hx; omega) h6 (by omega)
  unfold s_l09Ring
  refine Ret.bind (s_l01Below_ret h (by omega) (by omega)) ?_
  rintro y ⟨y1, y2, y3⟩
  have e1 : w64 ((1:Int) + y.1) = 1 + y.1 := w64_id (by omega)
  refine Ret.bind (key 4 K 1 _ _ _ (by omega) (by omega) (by omega) y3 (by show 1 ≤ w64 (1 + y.1) ∧ w64 (1 + y.1) ≤ 9; rw [e1]; omega) (by simp) List.Pairwise.nil (by simp)) ?_
  rintro s ⟨u, v, w, rfl, hv, hw, g1, g2, g3, g4, g5⟩
  simp only [Sum.elim_inr]
  rw [hv, hw]
  cases hl : (v.2.1.length : Int) == 0
  · refine Ret.some ⟨ringOk_iff.2 ⟨g2, ⟨?_, g5⟩, g3, g4⟩, g1⟩
    have hl : ¬ ((v.2.1.length : Int) = 0) := by intro e; rw [e] at hl; cases hl
    show 1 ≤ v.2.1.length
    omega
  · refine Ret.some ⟨ringOk_iff.2 ⟨g2, ⟨Nat.le_refl _, by show (1:Nat) ≤ 5; omega⟩, ?_, List.pairwise_singleton _ _⟩, g1⟩
    intro x hx
    have hx : x ∈ [(2:Int)] := hx
    rw [List.mem_singleton] at hx; omega
end
end Go.Proofs.Ytphjhelolaoihaa.R

/- Plain laws, part k: a ring at work. -/
namespace Pl
open Rg Go

def FlyOk (f : PFly) : Prop := f.2.2.1.2.2.2.2.2.1.length ≤ 20

structure WorkOk (N : Nat) (w : PWork) : Prop where
  ring : ringOk w.1 = true
  ids : w.2.1.map (·.1) = w.1.2.1
  mate : ∀ m, m ∈ w.2.1 → MateOk m ∧ m.2.1 = w.1
  heard : w.2.2.2.1.length = w.2.1.length
  fly : w.2.2.1.length ≤ N
  flyOk : ∀ f, f ∈ w.2.2.1 → FlyOk f
  said : w.2.2.2.2.1.length ≤ N
  hl : ∀ l, l ∈ w.2.2.2.1 → l.length ≤ N

theorem WorkOk.len {N : Nat} {w : PWork} (h : WorkOk N w) : w.2.1.length = w.1.2.1.length := by
  have := congrArg List.length h.ids; simpa using this

theorem WorkOk.len5 {N : Nat} {w : PWork} (h : WorkOk N w) : 1 ≤ w.2.1.length ∧ w.2.1.length ≤ 5 := by
  have := (ringOk_iff.1 h.ring).2.1
  rw [h.len]; exact this

theorem WorkOk.mono {N M : Nat} {w : PWork} (h : WorkOk N w) (hm : N ≤ M) : WorkOk M w :=
  ⟨h.ring, h.ids, h.mate, h.heard, Nat.le_trans h.fly hm, h.flyOk, Nat.le_trans h.said hm, fun l hl => Nat.le_trans (h.hl l hl) hm⟩

theorem WorkOk.at {N : Nat} {w : PWork} (h : WorkOk N w) {k : Nat} (hk : k < w.2.1.length) : MateOk w.2.1[k] ∧ w.2.1[k].2.1 = w.1 := h.mate _ (List.getElem_mem hk)

theorem WorkOk.set {N : Nat} {w : PWork} (h : WorkOk N w) {k : Nat} (hk : k < w.2.1.length) {m : PMate} (hm : MateOk m) (h1 : m.1 = w.2.1[k].1) (h2 : m.2.1 = w.1) : WorkOk N (w.1, w.2.1.set k m, w.2.2) := by
  refine ⟨h.ring, ?_, ?_, ?_, h.fly, h.flyOk, h.said, h.hl⟩
  · show (w.2.1.set k m).map (·.1) = w.1.2.1
    rw [List.map_set, h1, ← h.ids]
    have : w.2.1[k].1 = (w.2.1.map (·.1))[k]'(by simpa using hk) := by simp
    rw [this, List.set_getElem_self]
  · intro x hx
    have hx : x ∈ w.2.1.set k m := hx
    rcases List.mem_or_eq_of_mem_set hx with hx | hx
    · exact h.mate x hx
    · subst hx; exact ⟨hm, h2⟩
  · show w.2.2.2.1.length = (w.2.1.set k m).length
    rw [List.length_set]; exact h.heard

theorem WorkOk.flyAdd {N : Nat} {w : PWork} (h : WorkOk N w) {l : List PFly} {M : Nat} (hl : l.length ≤ M) (hm : N ≤ M) (hf : ∀ f, f ∈ l → FlyOk f) : WorkOk M (w.1, w.2.1, l, w.2.2.2) :=
  ⟨h.ring, h.ids, h.mate, h.heard, hl, hf, Nat.le_trans h.said hm, fun l hl => Nat.le_trans (h.hl l hl) hm⟩
end Pl
namespace Go.Proofs.Ytphjhelolaoihaa.R
open Pl Rg Go

section
variable {K : Nat}

theorem s_l11At_l0_eq (id : Int) : ∀ (t pre : List PMate) (n : Nat) (r : PRing) (u : _), t.length < n → (pre ++ t).length ≤ 1000000000000 →
    (s_l11At_l0 K n id (pre.length : Int) (r, pre ++ t, u) = some (.inr ((r, pre ++ t, u), ())) ∧ ∀ m, m ∈ t → m.1 ≠ id) ∨
    ∃ k : Nat, s_l11At_l0 K n id (pre.length : Int) (r, pre ++ t, u) = some (.inl ((k : Int), (r, pre ++ t, u), ())) ∧ ∃ h : k < (pre ++ t).length, (pre ++ t)[k].1 = id
  | [], pre, n + 1, r, u, _, _ => by
    left
    unfold s_l11At_l0
    simp only
    rw [lt_end]
    exact ⟨rfl, by simp⟩
  | y :: t, pre, n + 1, r, u, hn, hl => by
    have hp : pre.length ≤ 1000000000000 := by simp at hl; omega
    have ih := s_l11At_l0_eq id t (pre ++ [y]) n r u (by simpa using hn) (by simpa using hl)
    unfold s_l11At_l0
    simp only
    rw [lt_at, inB_at, xi_at (r := R_Mate), next_at (x := y) hp]
    cases c : y.1 == id
    · simp only [cond_true, cond_false]
      rw [app_cons (pre := pre) (t := t)]
      rcases ih with ⟨h1, h2⟩ | ⟨k, h1, h2⟩
      · left
        refine ⟨h1, ?_⟩
        intro m hm
        rcases List.mem_cons.1 hm with e | hm
        · subst e; intro e; rw [e] at c; simp at c
        · exact h2 m hm
      · right; exact ⟨k, h1, h2⟩
    · right
      refine ⟨pre.length, rfl, by simp, ?_⟩
      simp
      exact eq_of_beq c

theorem s_l11At_eq {N : Nat} {w : PWork} (h : WorkOk N w) (hK : big ≤ K) (id : Int) :
    (s_l11At K w id = some (-1, w, ()) ∧ id ∉ w.1.2.1) ∨ ∃ k : Nat, s_l11At K w id = some ((k : Int), w, ()) ∧ ∃ hk : k < w.2.1.length, w.2.1[k].1 = id := by
  have hb : big = 4000000 := rfl
  have h5 := h.len5
  unfold s_l11At
  obtain ⟨r, l, u⟩ := w
  simp only at h5
  rcases s_l11At_l0_eq (K := K) id l [] K r u (by omega) (by simp; omega) with ⟨h1, h2⟩ | ⟨k, h1, h2⟩
  · left
    rw [show s_l11At_l0 K K id (0:Int) (r, l, u) = _ from h1]
    refine ⟨rfl, ?_⟩
    rw [← h.ids]
    intro hm
    obtain ⟨m, hm1, hm2⟩ := List.mem_map.1 hm
    exact h2 m hm1 hm2
  · right
    rw [show s_l11At_l0 K K id (0:Int) (r, l, u) = _ from h1]
    exact ⟨k, rfl, h2⟩

theorem s_l11Mate_eq {N : Nat} {w : PWork} (h : WorkOk N w) {k : Nat} (hk : k < w.2.1.length) (m : PMate) : s_l11Mate K w (k : Int) m = some ((w.1, w.2.1.set k m, w.2.2), ()) := by
  have h5 := h.len5
  unfold s_l11Mate
  simp only [List.nil_append]
  rw [fits_small (by omega) (by decide), inB_nat, decide_eq_true hk, Int.toNat_natCast]
  rfl

theorem s_NextOf_ret {r : PRing} {id : Int} (h : ringOk r = true) (hK : big ≤ K) : ∃ n, s_NextOf K r id = some (n, ()) := by
  have hb : big = 4000000 := rfl
  have hr := (ringOk_iff.1 h).2.1
  have key : ∀ (t pre : List Int) (n : Nat) (c : Int) (u : Unit), t.length < n → (pre ++ t).length ≤ 5 →
      ∃ y, s_NextOf_l0 K n id (pre.length : Int) (c, pre ++ t, u) = some y ∧ (y = .inr () ∨ ∃ n, y = .inl (n, ())) := by
    intro t
    induction t with
    | nil =>
      intro pre n c u hn hl
      obtain ⟨n, rfl⟩ : ∃ k, n = k + 1 := ⟨n - 1, by omega⟩
      unfold s_NextOf_l0
      simp only
      rw [lt_end]
      exact ⟨_, rfl, .inl rfl⟩
    | cons y t ih =>
      intro pre n c u hn hl
      obtain ⟨n, rfl⟩ : ∃ k, n = k + 1 := ⟨n - 1, by omega⟩
      have hp : pre.length ≤ 1000000000000 := by simp at hl; omega
      have ih := ih (pre ++ [y]) n c u (by simpa using hn) (by simpa using hl)
      unfold s_NextOf_l0
      simp only
      rw [lt_at, inB_at, xi_at (r := .int .i64), next_at (x := y) hp]
      have e1 : (((pre ++ y :: t).length : Int) == (0:Int)) = false := by simp; omega
      rw [e1]
      cases c1 : y == id
      · rw [app_cons (pre := pre) (t := t)]
        exact ih
      · simp only [cond_true, Bool.not_false]
        have hpos : (0:Int) < ((pre ++ y :: t).length : Int) := by simp; omega
        have e2 : inB (Int.tmod ((pre ++ [y]).length : Int) ((pre ++ y :: t).length : Int)) (pre ++ y :: t).length = true := by
          unfold inB
          rw [decide_eq_true (Int.tmod_nonneg _ (by omega)), decide_eq_true (Int.tmod_lt_of_pos _ hpos)]; rfl
        rw [e2]
        exact ⟨_, rfl, .inr ⟨_, rfl⟩⟩
  unfold s_NextOf
  rw [s_RingOk_eq (by omega) (by omega), h]
  obtain ⟨c, l, u⟩ := r
  obtain ⟨y, h1, h2⟩ := key l [] K c u (by simp only at hr; omega) (by simp only at hr; simp; omega)
  simp only [Option.bind_some, Bool.not_true, cond_false]
  rw [show s_NextOf_l0 K K id (0:Int) (c, l, u) = _ from h1]
  rcases h2 with rfl | ⟨n, rfl⟩ <;> exact ⟨_, rfl⟩

theorem s_l11Token_ret {N : Nat} {w : PWork} (h : WorkOk N w) (hN : N ≤ 1000000) (hK : big ≤ K) {id : Int} {t : PToken} (ht : t.2.2.2.2.2.1.length ≤ 20) :
    Ret (s_l11Token K w id t) (fun y => WorkOk (N + 1) y.1 ∧ y.1.1 = w.1 ∧ y.1.2.1 = w.2.1) := by
  have hf := h.fly
  unfold s_l11Token
  simp only [List.nil_append]
  rw [fits_small (by omega) (by decide)]
  obtain ⟨n, hn⟩ := s_NextOf_ret (id := id) h.ring hK
  refine Ret.eq hn ?_
  rw [s_l05CopyToken_eq (by omega)]
  simp only [Option.bind_some]
  rw [fits_small (by simp; omega) (by decide)]
  refine Ret.some ⟨h.flyAdd (by simp; omega) (by omega) ?_, rfl, rfl⟩
  intro f hf
  rcases List.mem_append.1 hf with hf | hf
  · exact h.flyOk f hf
  · rw [List.mem_singleton] at hf; subst hf; exact ht

theorem s_l11Tell_l1_ret (id : Int) (items : List PItem) (i : Nat) (hi : i < items.length) (r : PRing) (u : _) : ∀ (t pre : List PMate) (n : Nat) (fl : List PFly), t.length < n → (pre ++ t).length ≤ 5 → fl.length + t.length ≤ 5000000 → (∀ f, f ∈ fl → FlyOk f) →
    ∃ v : List PFly, s_l11Tell_l1 K n id items fl (i : Int) (pre.length : Int) (r, pre ++ t, u) = some (.inr ((), id, items, v, (i : Int), (r, pre ++ t, u), ())) ∧ v.length ≤ fl.length + t.length ∧ ∀ f, f ∈ v → FlyOk f := by
  intro t
  induction t with
  | nil =>
    intro pre n fl hn hl hf hfo
    obtain ⟨n, rfl⟩ : ∃ k, n = k + 1 := ⟨n - 1, by omega⟩
    unfold s_l11Tell_l1
    simp only
    rw [lt_end]
    exact ⟨fl, rfl, by simp, hfo⟩
  | cons y t ih =>
    intro pre n fl hn hl hf hfo
    obtain ⟨n, rfl⟩ : ∃ k, n = k + 1 := ⟨n - 1, by omega⟩
    have hp : pre.length ≤ 1000000000000 := by simp at hl; omega
    have ih := fun fl h1 h2 => ih (pre ++ [y]) n fl (by simpa using hn) (by simpa using hl) h1 h2
    unfold s_l11Tell_l1
    simp only
    rw [lt_at, inB_at, xi_at (r := R_Mate), next_at (x := y) hp, inB_nat, decide_eq_true hi, xi_nat (r := R_Item) hi]
    simp only [List.length_cons] at hf ⊢
    cases c : y.1 != id
    · simp only [cond_true, cond_false]
      rw [app_cons (pre := pre) (t := t)]
      obtain ⟨v, h1, h2, h3⟩ := ih fl (by omega) hfo
      exact ⟨v, h1, by omega, h3⟩
    · simp only [cond_true]
      rw [fits_small (by simp; omega) (by decide)]
      simp only [cond_true]
      obtain ⟨v, h1, h2, h3⟩ := ih (fl ++ [(y.1, (false, (((0:Int), ((0:Int), ((0:Int), ((0:Int), ((0:Int), ([], ())))))), (items[i], ()))))]) (by simp; omega) (by
        intro f hf
        rcases List.mem_append.1 hf with hf | hf
        · exact hfo f hf
        · rw [List.mem_singleton] at hf; subst hf; exact Nat.zero_le _)
      rw [app_cons (pre := pre) (t := t)]
      refine ⟨v, h1, ?_, h3⟩
      simp at h2; omega

theorem s_l11Tell_ret {N : Nat} {w : PWork} (h : WorkOk N w) (hN : N ≤ 1000000) (hK : big ≤ K) {id : Int} {items : List PItem} (hi : items.length ≤ 100) :
    Ret (s_l11Tell K w id items) (fun y => WorkOk (N + 500) y.1 ∧ y.1.1 = w.1 ∧ y.1.2.1 = w.2.1) := by
  have hb : big = 4000000 := rfl
  have hf := h.fly
  have h5 := h.len5
  obtain ⟨r, ms, u⟩ := w
  simp only at hf h5
  have key : ∀ (k n i : Nat) (fl : List PFly), i + k = items.length → k < n → fl.length + 5 * k ≤ 4000000 → (∀ f, f ∈ fl → FlyOk f) →
      ∃ v : List PFly, s_l11Tell_l0 K n id items fl (i : Int) (r, ms, u) = some (.inr ((), v, (r, ms, u), ())) ∧ v.length ≤ fl.length + 5 * k ∧ ∀ f, f ∈ v → FlyOk f := by
    intro k
    induction k with
    | zero =>
      intro n i fl h1 h2 h3 h4
      obtain ⟨n, rfl⟩ : ∃ k, n = k + 1 := ⟨n - 1, by omega⟩
      unfold s_l11Tell_l0
      have e : decide ((i : Int) < (items.length : Int)) = false := by simp; omega
      rw [e]
      exact ⟨fl, rfl, by omega, h4⟩
    | succ k ih =>
      intro n i fl h1 h2 h3 h4
      obtain ⟨n, rfl⟩ : ∃ k, n = k + 1 := ⟨n - 1, by omega⟩
      unfold s_l11Tell_l0
      have e : decide ((i : Int) < (items.length : Int)) = true := by simp; omega
      rw [e]
      obtain ⟨v, g1, g2, g3⟩ := s_l11Tell_l1_ret (K := K) id items i (by omega) r u ms [] K fl (by omega) (by simp; omega) (by omega) h4
      rw [show s_l11Tell_l1 K K id items fl (i : Int) (0:Int) (r, ms, u) = _ from g1]
      simp only [cond_true, Option.bind_some, Sum.elim_inr, List.nil_append]
      have e3 : w64 ((i : Int) + (1:Int)) = ((i + 1 : Nat) : Int) := by rw [w64_id (by omega)]; omega
      rw [e3]
      obtain ⟨v', k1, k2, k3⟩ := ih n (i + 1) v (by omega) (by omega) (by omega) g3
      exact ⟨v', k1, by omega, k3⟩
  unfold s_l11Tell
  simp only [List.nil_append]
  rw [fits_small (by omega) (by decide)]
  obtain ⟨v, g1, g2, g3⟩ := key items.length K 0 u.1 (by omega) (by omega) (by omega) h.flyOk
  rw [show s_l11Tell_l0 K K id items u.1 (0:Int) (r, ms, u) = _ from g1]
  exact Ret.some ⟨h.flyAdd (l := v) (by omega) (by omega) g3, rfl, rfl⟩
end
end Go.Proofs.Ytphjhelolaoihaa.R

/- Plain laws, part m: the deeds of a ring at work. -/
namespace Pl
open Rg Go

/-- A turn that may be done in a ring of members ms. -/
structure TurnR (ms : List Int) (e : PTurn) : Prop where
  kind : 1 ≤ e.1 ∧ e.1 ≤ 7
  id : e.2.1 ∈ ms
  idx : 0 ≤ e.2.2.1
  say : e.1 = 1 → (1 ≤ e.2.2.2.1 ∧ e.2.2.2.1 ≤ 2) ∧ e.2.2.2.2.1.size ≤ 60
  no : e.1 ≠ 1 → e.2.2.2.1 = 0 ∧ e.2.2.2.2.1 = ⟨#[]⟩
end Pl
namespace Go.Proofs.Ytphjhelolaoihaa.R
open Pl Rg Go

section
variable {K : Nat}

theorem saidAdd {N : Nat} {w : PWork} (h : WorkOk N w) {l : List PItem} {M : Nat} (hl : l.length ≤ M) (hm : N ≤ M) : WorkOk M (w.1, w.2.1, w.2.2.1, w.2.2.2.1, l, ()) :=
  ⟨h.ring, h.ids, h.mate, h.heard, Nat.le_trans h.fly hm, h.flyOk, hl, fun l hl => Nat.le_trans (h.hl l hl) hm⟩

theorem s_l11Come_l0_ret (x5 : PFly) (x6 : PToken) : ∀ (t pre : List PItem) (n N : Nat) (w : PWork), t.length < n → (pre ++ t).length ≤ 1000 → WorkOk N w → N + t.length ≤ 2000000 →
    ∃ v : PWork, s_l11Come_l0 K n (pre ++ t) (pre.length : Int) x5 x6 w = some (.inr ((), (), pre ++ t, (), x5, x6, v, ())) ∧ WorkOk (N + t.length) v ∧ v.1 = w.1 ∧ v.2.1 = w.2.1 := by
  intro t
  induction t with
  | nil =>
    intro pre n N w hn hl h hN
    obtain ⟨n, rfl⟩ : ∃ k, n = k + 1 := ⟨n - 1, by omega⟩
    unfold s_l11Come_l0
    rw [lt_end]
    exact ⟨w, rfl, h, rfl, rfl⟩
  | cons y t ih =>
    intro pre n N w hn hl h hN
    obtain ⟨n, rfl⟩ : ∃ k, n = k + 1 := ⟨n - 1, by omega⟩
    have hp : pre.length ≤ 1000000000000 := by simp at hl; omega
    have hs := h.said
    simp only [List.length_cons] at hN
    unfold s_l11Come_l0
    rw [lt_at, inB_at, xi_at (r := R_Item), next_at (x := y) hp]
    simp only [List.nil_append, cond_true]
    rw [fits_small (by omega) (by decide), fits_small (by simp; omega) (by decide)]
    simp only [cond_true]
    cases c : decide (y.1 > x5.2.2.1.2.2.1)
    · simp only [cond_false]
      rw [app_cons (pre := pre) (t := t)]
      obtain ⟨v, h1, h2, h3⟩ := ih (pre ++ [y]) n N w (by simpa using hn) (by simpa using hl) h (by omega)
      exact ⟨v, h1, h2.mono (by simp), h3⟩
    · simp only [cond_true]
      rw [app_cons (pre := pre) (t := t)]
      obtain ⟨v, h1, h2, h3⟩ := ih (pre ++ [y]) n (N + 1) (w.1, w.2.1, w.2.2.1, w.2.2.2.1, w.2.2.2.2.1 ++ [y], ()) (by simpa using hn) (by simpa using hl) (saidAdd h (by simp; omega) (by omega)) (by omega)
      exact ⟨v, h1, h2.mono (by simp; omega), h3⟩

theorem hold_sm {m : PMate} {t : PToken} (hm : MateOk m) : (hold m t).2.1.length ≤ 63 := by
  unfold hold
  have h1 := itemsOk_length hm.items
  have h2 : (give t m.2.2.1).length ≤ m.2.2.1.length := List.length_filter_le _ _
  have h3 := holdNew_length (m := m) (t := t)
  cases holdOk m t
  · simp
  · simp only [cond_true, List.length_append]; omega

theorem s_l11Come_ret {N : Nat} {w : PWork} (h : WorkOk N w) (hN : N ≤ 900000) (hK : big ≤ K) {f : PFly} (hf : FlyOk f) :
    Ret (s_l11Come K w f) (fun y => WorkOk (N + 600) y.2.1 ∧ y.2.1.1 = w.1) := by
  have hb : big = 4000000 := rfl
  unfold s_l11Come
  rcases s_l11At_eq h hK f.1 with ⟨h1, _⟩ | ⟨k, h1, hk, _⟩
  · refine Ret.eq h1 ?_
    exact Ret.some ⟨h.mono (by omega), rfl⟩
  · refine Ret.eq h1 ?_
    have e0 : decide ((k : Int) < (0:Int)) = false := by rw [decide_eq_false_iff_not]; omega
    simp only [e0, cond_false]
    rw [inB_nat, decide_eq_true hk, xi_nat (r := R_Mate) hk]
    obtain ⟨hm, hr⟩ := h.at hk
    simp only [cond_true]
    cases c : f.2.1
    · simp only [Bool.not_false, cond_true]
      refine Ret.eq (s_Catch_eq hm.sm hK) ?_
      refine Ret.eq (s_l11Mate_eq h hk _) ?_
      have e1 : (catchI w.2.1[k] f.2.2.2.1).1 = w.2.1[k].1 ∧ (catchI w.2.1[k] f.2.2.2.1).2.1 = w.1 := by
        unfold catchI
        rw [mateOk_iff.2 hm]; exact ⟨rfl, hr⟩
      exact Ret.some ⟨(h.set hk (catch_ok hm) e1.1 e1.2).mono (by omega), rfl⟩
    · simp only [Bool.not_true, cond_false]
      have hf' : f.2.2.1.2.2.2.2.2.1.length ≤ 20 := hf
      refine Ret.eq (s_Hold_eq hm.sm (by omega) hK) ?_
      have hsm := hold_sm (t := f.2.2.1) hm
      cases c2 : (hold w.2.1[k] f.2.2.1).2.2.2
      · exact Ret.some ⟨h.mono (by omega), rfl⟩
      · simp only [Bool.not_true, cond_false]
        refine Ret.eq (s_l11Mate_eq h hk _) ?_
        have hho : holdOk w.2.1[k] f.2.2.1 = true := by
          unfold hold at c2
          cases e : holdOk w.2.1[k] f.2.2.1
          · rw [e] at c2; cases c2
          · rfl
        have e1 : (hold w.2.1[k] f.2.2.1).1 = holdMate w.2.1[k] f.2.2.1 := by unfold hold; rw [hho]; rfl
        have hw := h.set hk (m := (hold w.2.1[k] f.2.2.1).1) (by rw [e1]; exact hold_ok hho) (by rw [e1]; rfl) (by rw [e1]; exact hr)
        have e2 : (hold w.2.1[k] f.2.2.1).2.2.1.2.2.2.2.2.1.length ≤ 20 := by
          have : (hold w.2.1[k] f.2.2.1).2.2.1 = holdTok w.2.1[k] f.2.2.1 := by unfold hold; rw [hho]; rfl
          rw [this]; exact lacks_wants
        obtain ⟨v, g1, g2, g3, g4⟩ := s_l11Come_l0_ret (K := K) f (hold w.2.1[k] f.2.2.1).2.2.1 (hold w.2.1[k] f.2.2.1).2.1 [] K N _ (by omega) (by simp; omega) hw (by omega)
        refine Ret.eq g1 ?_
        simp only [Sum.elim_inr, List.nil_append]
        refine Ret.bind (s_l11Tell_ret (g2.mono (M := N + 63) (by omega)) (by omega) hK (by omega)) ?_
        rintro y ⟨y1, y2, y3⟩
        refine Ret.bind (s_l11Token_ret y1 (by omega) hK e2) ?_
        rintro x ⟨x1, x2, x3⟩
        exact Ret.some ⟨x1.mono (by omega), by show x.1.1 = w.1; rw [x2, y2, g3]⟩

theorem s_l11Again_l0_ret (m : PMate) (w : PWork) : ∀ (t pre : List PItem) (n : Nat) (acc : List PItem), m.2.2.1 = pre ++ t → t.length < n → (pre ++ t).length ≤ 1000 → acc.length + t.length ≤ 1000 →
    ∃ v : List PItem, s_l11Again_l0 K n acc (pre.length : Int) m w = some (.inr ((), (), v, m, w, ())) ∧ v.length ≤ acc.length + t.length := by
  intro t
  induction t with
  | nil =>
    intro pre n acc he hn hl ha
    obtain ⟨n, rfl⟩ : ∃ k, n = k + 1 := ⟨n - 1, by omega⟩
    unfold s_l11Again_l0
    rw [he, lt_end]
    exact ⟨acc, rfl, by simp⟩
  | cons y t ih =>
    intro pre n acc he hn hl ha
    obtain ⟨n, rfl⟩ : ∃ k, n = k + 1 := ⟨n - 1, by omega⟩
    have hp : pre.length ≤ 1000000000000 := by simp at hl; omega
    simp only [List.length_cons] at ha ⊢
    unfold s_l11Again_l0
    rw [he, lt_at, inB_at, xi_at (r := R_Item), next_at (x := y) hp]
    simp only [cond_true]
    rw [fits_small (by simp; omega) (by decide)]
    cases y.2.1 == m.1
    · simp only [cond_false]
      obtain ⟨v, h1, h2⟩ := ih (pre ++ [y]) n acc (by rw [he]; simp) (by simpa using hn) (by simpa using hl) (by omega)
      exact ⟨v, h1, by omega⟩
    · simp only [cond_true]
      obtain ⟨v, h1, h2⟩ := ih (pre ++ [y]) n (acc ++ [y]) (by rw [he]; simp) (by simpa using hn) (by simpa using hl) (by simp; omega)
      exact ⟨v, h1, by simp at h2; omega⟩

theorem s_l11Again_ret {N : Nat} {w : PWork} (h : WorkOk N w) (hN : N ≤ 900000) (hK : big ≤ K) {k : Nat} (hk : k < w.2.1.length) :
    Ret (s_l11Again K w (k : Int)) (fun y => WorkOk (N + 600) y.2.1 ∧ y.2.1.1 = w.1) := by
  have hb : big = 4000000 := rfl
  unfold s_l11Again
  rw [inB_nat, decide_eq_true hk, xi_nat (r := R_Mate) hk]
  obtain ⟨hm, hr⟩ := h.at hk
  have hil := itemsOk_length hm.items
  simp only [cond_true]
  refine Ret.eq (s_l10Blank_eq (t := w.2.1[k].2.2.2.2.2.2.2.2.2.1) (by omega)) ?_
  cases c : blankT w.2.1[k].2.2.2.2.2.2.2.2.2.1
  · simp only [cond_false]
    obtain ⟨v, h1, h2⟩ := s_l11Again_l0_ret (K := K) w.2.1[k] w w.2.1[k].2.2.1 [] K [] rfl (by omega) (by simp; omega) (by simp; omega)
    refine Ret.eq h1 ?_
    simp only [Sum.elim_inr]
    have hl : tokenOk w.2.1[k].2.2.2.2.2.2.2.2.2.1 = true := by
      rcases hm.last with e | e
      · rw [c] at e; cases e
      · exact e
    have ht := tokenOk_iff.1 hl
    refine Ret.bind (s_l11Token_ret h (by omega) hK (by omega)) ?_
    rintro y ⟨y1, y2, y3⟩
    refine Ret.bind (s_l11Tell_ret y1 (by omega) hK (by simp at h2; omega)) ?_
    rintro x ⟨x1, x2, x3⟩
    exact Ret.some ⟨x1.mono (by omega), by show x.1.1 = w.1; rw [x2, y2]⟩
  · simp only [cond_true]
    exact Ret.some ⟨h.mono (by omega), rfl⟩

theorem s_l11Hear_ret {N : Nat} {w : PWork} (h : WorkOk N w) (hN : N ≤ 900000) (hK : big ≤ K) {k : Nat} (hk : k < w.2.1.length) :
    Ret (s_l11Hear K w (k : Int)) (fun y => WorkOk (N + 600) y.1 ∧ y.1.1 = w.1) := by
  have hb : big = 4000000 := rfl
  have h5 := h.len5
  unfold s_l11Hear
  rw [inB_nat, decide_eq_true hk, xi_nat (r := R_Mate) hk]
  obtain ⟨hm, hr⟩ := h.at hk
  simp only [cond_true]
  refine Ret.eq (s_Hear_eq hm.sm hK) ?_
  refine Ret.eq (s_l11Mate_eq h hk _) ?_
  have hh := h.heard
  have hil := itemsOk_length hm.items
  have hal := aru_le (l := w.2.1[k].2.2.1)
  have hll : (hear w.2.1[k]).2.length ≤ 60 := by
    unfold hear
    rw [mateOk_iff.2 hm]
    have := hearList_length hm
    have := hm.heard
    show (hearList w.2.1[k]).length ≤ 60
    omega
  have e1 : (hear w.2.1[k]).1.1 = w.2.1[k].1 ∧ (hear w.2.1[k]).1.2.1 = w.1 := by
    unfold hear
    rw [mateOk_iff.2 hm]; exact ⟨rfl, hr⟩
  have hw := h.set hk (hear_ok hm) e1.1 e1.2
  simp only [List.nil_append]
  have hk2 : k < w.2.2.2.1.length := by omega
  rw [fits_small (by omega) (by decide), inB_nat, decide_eq_true hk2, xi_nat (r := .sl R_Item) hk2]
  have hhl := h.hl _ (List.getElem_mem hk2)
  simp only [cond_true]
  have hg : ∀ (l : List (List PItem)) (h : k < l.length), l[k].length ≤ N → (bif appFits 40 l[k].length then bif appFits 40 (l[k] ++ (hear w.2.1[k]).2).length then true else false else false) = true := by
    intro l hl hlk
    rw [fits_small (by omega) (by decide), fits_small (by simp; omega) (by decide)]; rfl
  have f1 : appFits 40 (w.2.2.2.1[k]).length = true := fits_small (by omega) (by decide)
  have f2 : appFits 40 ((w.2.2.2.1[k]) ++ (hear w.2.1[k]).2).length = true := fits_small (by simp; omega) (by decide)
  rw [f1, f2]
  simp only [cond_true, Int.toNat_natCast]
  refine Ret.some ⟨?_, rfl⟩
  refine ⟨hw.ring, hw.ids, hw.mate, ?_, Nat.le_trans hw.fly (by omega), hw.flyOk, Nat.le_trans hw.said (by omega), ?_⟩
  · show (w.2.2.2.1.set k (w.2.2.2.1[k] ++ (hear w.2.1[k]).2)).length = (w.2.1.set k _).length
    rw [List.length_set, List.length_set]; exact h.heard
  · intro l hl
    have hl : l ∈ w.2.2.2.1.set k (w.2.2.2.1[k] ++ (hear w.2.1[k]).2) := hl
    rcases List.mem_or_eq_of_mem_set hl with hl | hl
    · exact Nat.le_trans (h.hl l hl) (by omega)
    · subst hl; simp; omega
end
end Go.Proofs.Ytphjhelolaoihaa.R

/- Plain laws, part n: lives of a ring. -/
namespace Go.Proofs.Ytphjhelolaoihaa.R
open Pl Rg Go

section
variable {K : Nat}

theorem s_l11Do_ret {N : Nat} {w : PWork} (h : WorkOk N w) (hN : N ≤ 900000) (hK : big ≤ K) {e : PTurn} (he : TurnR w.1.2.1 e) :
    Ret (s_l11Do K w e) (fun y => WorkOk (N + 600) y.2.1 ∧ y.2.1.1 = w.1) := by
  have hb : big = 4000000 := rfl
  unfold s_l11Do
  rcases s_l11At_eq h hK e.2.1 with ⟨_, hn⟩ | ⟨k, h1, hk, _⟩
  · exact absurd he.id hn
  refine Ret.eq h1 ?_
  obtain ⟨hm, hr⟩ := h.at hk
  simp only
  rw [inB_nat, decide_eq_true hk, xi_nat (r := R_Mate) hk]
  simp only [cond_true]
  cases c1 : e.1 == (1:Int)
  · simp only [cond_false]
    cases c7 : e.1 == (7:Int)
    · simp only [cond_false]
      cases c6 : e.1 == (6:Int)
      · simp only [cond_false]
        have hf := h.fly
        cases c0 : (w.2.2.1.length : Int) == 0
        · have hpos : (0:Int) < (w.2.2.1.length : Int) := by
            have : ¬ ((w.2.2.1.length : Int) = 0) := by intro e; rw [e] at c0; cases c0
            omega
          simp only [cond_false, Bool.not_false, cond_true]
          have m0 := Int.tmod_nonneg (w.2.2.1.length : Int) he.idx
          have m1 := Int.tmod_lt_of_pos e.2.2.1 hpos
          obtain ⟨j, hj⟩ : ∃ j : Nat, Int.tmod e.2.2.1 (w.2.2.1.length : Int) = j := ⟨(Int.tmod e.2.2.1 (w.2.2.1.length : Int)).toNat, by omega⟩
          rw [hj] at m1 ⊢
          have hj' : j < w.2.2.1.length := by omega
          rw [inB_nat, decide_eq_true hj', xi_nat (r := R_Fly) hj']
          have hjf := h.flyOk _ (List.getElem_mem hj')
          simp only [cond_true, List.nil_append]
          cases c5 : e.1 == (5:Int)
          · have e1 : w64 ((j : Int) + (1:Int)) = ((j + 1 : Nat) : Int) := by rw [w64_id (by omega)]; omega
            simp only [cond_false]
            rw [inTo_drop (by omega), e1, inTo_drop (by omega), Int.toNat_natCast, Int.toNat_natCast, List.drop_zero, List.take_length]
            have l1 : (w.2.2.1.take j).length ≤ w.2.2.1.length := by simp; omega
            have l2 : (w.2.2.1.take j ++ w.2.2.1.drop (j + 1)).length ≤ w.2.2.1.length := by simp; omega
            rw [fits_small (by omega) (by decide), fits_small (by omega) (by decide)]
            simp only [cond_true]
            have hw : WorkOk N (w.1, w.2.1, w.2.2.1.take j ++ w.2.2.1.drop (j + 1), w.2.2.2) := h.flyAdd (by omega) (Nat.le_refl _) (by
              intro f hf
              rcases List.mem_append.1 hf with hf | hf
              · exact h.flyOk f (List.mem_of_mem_take hf)
              · exact h.flyOk f (List.mem_of_mem_drop hf))
            cases c4 : e.1 == (4:Int)
            · simp only [cond_false]
              refine Ret.bind (s_l11Come_ret hw hN hK hjf) ?_
              rintro y ⟨y1, y2⟩
              exact Ret.some ⟨y1, y2⟩
            · exact Ret.some ⟨hw.mono (by omega), rfl⟩
          · simp only [cond_true]
            rw [fits_small (by omega) (by decide), fits_small (by simp; omega) (by decide)]
            refine Ret.some ⟨h.flyAdd (by simp; omega) (by omega) ?_, rfl⟩
            intro f hf
            rcases List.mem_append.1 hf with hf | hf
            · exact h.flyOk f hf
            · rw [List.mem_singleton] at hf; subst hf; exact hjf
        · exact Ret.some ⟨h.mono (by omega), rfl⟩
      · simp only [cond_true]
        refine Ret.bind (s_l11Again_ret h hN hK hk) ?_
        rintro y ⟨y1, y2⟩
        exact Ret.some ⟨y1, y2⟩
    · simp only [cond_true]
      refine Ret.bind (s_l11Hear_ret h hN hK hk) ?_
      rintro y ⟨y1, y2⟩
      exact Ret.some ⟨y1, y2⟩
  · simp only [cond_true]
    refine Ret.eq (s_Say_eq hm.sm hK) ?_
    cases c : (say w.2.1[k] e.2.2.2.1 e.2.2.2.2.1).2
    · exact Ret.some ⟨h.mono (by omega), rfl⟩
    · simp only [Bool.not_true, cond_false]
      refine Ret.eq (s_l11Mate_eq h hk _) ?_
      have hs : sayOk w.2.1[k] e.2.2.2.1 e.2.2.2.2.1 = true := by
        unfold say at c
        cases e : sayOk w.2.1[k] e.2.2.2.1 e.2.2.2.2.1
        · rw [e] at c; cases c
        · rfl
      have e1 : (say w.2.1[k] e.2.2.2.1 e.2.2.2.2.1).1.1 = w.2.1[k].1 ∧ (say w.2.1[k] e.2.2.2.1 e.2.2.2.2.1).1.2.1 = w.1 := by
        unfold say; rw [hs]; exact ⟨rfl, hr⟩
      exact Ret.some ⟨(h.set hk (say_ok hs) e1.1 e1.2).mono (by omega), rfl⟩

theorem s_MateNew_eq {r : PRing} (h : ringOk r = true) {id : Int} (hi : id ∈ r.2.1) (hK : big ≤ K) :
    s_MateNew K id r = some ((id, r, [], [], [], 0, 0, 0, 0, zToken, ()), true, ()) := by
  have hb : big = 4000000 := rfl
  have hr := ringOk_iff.1 h
  unfold s_MateNew
  rw [s_RingOk_eq (by omega) (by omega), s_l05In_eq (by omega) (by omega), h, List.contains_iff_mem.2 hi, List.nil_append, fits_small (by omega) (by decide)]
  rfl

theorem mateNew_ok {r : PRing} (h : ringOk r = true) {id : Int} (hi : id ∈ r.2.1) : MateOk (id, r, [], [], [], 0, 0, 0, 0, zToken, ()) :=
  ⟨h, hi, rfl, rfl, ⟨Int.le_refl _, by show (0:Int) ≤ 1000000000; omega⟩, ⟨Int.le_refl _, by show (0:Int) ≤ 60; omega⟩, ⟨Int.le_refl _, Int.natCast_nonneg _⟩, ⟨Int.le_refl _, Int.natCast_nonneg _⟩, .inl rfl⟩

theorem s_WorkNew_ret {r : PRing} (h : ringOk r = true) (hK : big ≤ K) : Ret (s_WorkNew K r) (fun y => WorkOk 1 y.1 ∧ y.1.1 = r ∧ y.2.1 = true) := by
  have hb : big = 4000000 := rfl
  have hr := ringOk_iff.1 h
  obtain ⟨c, l, u⟩ := r
  have key : ∀ (t pre : List Int) (n : Nat) (z : PWork) (ms : List PMate) (hs : List (List PItem)), l = pre ++ t → t.length < n → (pre ++ t).length ≤ 5 → ms.map (·.1) = pre → (∀ m, m ∈ ms → MateOk m ∧ m.2.1 = (c, l, u)) → hs.length = ms.length → (∀ x, x ∈ hs → x = []) →
      ∃ ms' hs', s_WorkNew_l0 K n (pre.length : Int) (c, l, u) z ((c, l, u), ms, [], hs, [], ()) = some (.inr ((), (), (), (c, l, u), z, ((c, l, u), ms', [], hs', [], ()), ())) ∧
        ms'.map (·.1) = l ∧ (∀ m, m ∈ ms' → MateOk m ∧ m.2.1 = (c, l, u)) ∧ hs'.length = ms'.length ∧ ∀ x, x ∈ hs' → x = [] := by
    intro t
    induction t with
    | nil =>
      intro pre n z ms hs he hn hl h1 h2 h3 h4
      obtain ⟨n, rfl⟩ : ∃ k, n = k + 1 := ⟨n - 1, by omega⟩
      have e : decide ((pre.length : Int) < (l.length : Int)) = false := by rw [he]; exact lt_end
      unfold s_WorkNew_l0
      simp only
      rw [e]
      exact ⟨ms, hs, rfl, by rw [h1, he]; simp, h2, h3, h4⟩
    | cons y t ih =>
      intro pre n z ms hs he hn hl h1 h2 h3 h4
      obtain ⟨n, rfl⟩ : ∃ k, n = k + 1 := ⟨n - 1, by omega⟩
      have hp : pre.length ≤ 1000000000000 := by simp at hl; omega
      have hml : ms.length ≤ 5 := by have := congrArg List.length h1; simp at this hl; omega
      have e1 : decide ((pre.length : Int) < (l.length : Int)) = true := by rw [he]; exact lt_at
      have e2 : inB (pre.length : Int) l.length = true := by rw [he]; exact inB_at
      have e3 : xi (.int .i64) l (pre.length : Int) = y := by rw [he]; exact xi_at (r := .int .i64)
      have hy : y ∈ l := by rw [he]; simp
      unfold s_WorkNew_l0
      simp only
      rw [e1, e2, e3, next_at (x := y) hp, s_MateNew_eq h hy hK]
      simp only [cond_true, Option.bind_some]
      rw [fits_small (by simp; omega) (by decide), fits_small (by simp; omega) (by decide)]
      simp only [cond_true]
      refine ih (pre ++ [y]) n z _ _ (by rw [he]; simp) (by simpa using hn) (by simpa using hl) (by simp [h1]) ?_ (by simp [h3]) ?_
      · intro m hm
        rcases List.mem_append.1 hm with hm | hm
        · exact h2 m hm
        · rw [List.mem_singleton] at hm; subst hm; exact ⟨mateNew_ok h hy, rfl⟩
      · intro x hx
        rcases List.mem_append.1 hx with hx | hx
        · exact h4 x hx
        · rw [List.mem_singleton] at hx; exact hx
  obtain ⟨ms, hs, g1, g2, g3, g4, g5⟩ := key l [] K ((((0:Int), ([], ())), ([], ([], ([], ([], ())))))) [] [] rfl (by simp only at hr; omega) (by simp only at hr; simp; omega) rfl (by simp) rfl (by simp)
  have hl0 : 0 < l.length := by simp only at hr; omega
  unfold s_WorkNew
  rw [s_RingOk_eq (by simp only at hr ⊢; omega) (by simp only at hr ⊢; omega), h, List.nil_append, fits_small (by simp only at hr ⊢; omega) (by decide)]
  simp only [Option.bind_some, Bool.not_true, cond_false, cond_true]
  refine Ret.eq g1 ?_
  simp only [Sum.elim_inr]
  have eb : inB (0:Int) l.length = true := by
    have := inB_nat (i := 0) (n := l.length)
    rw [decide_eq_true hl0] at this; exact this
  rw [eb]
  unfold s_FirstToken
  rw [s_RingOk_eq (by simp only at hr ⊢; omega) (by simp only at hr ⊢; omega), h]
  refine Ret.some ⟨⟨h, g2, g3, g4, Nat.le_refl _, ?_, Nat.zero_le _, ?_⟩, rfl, rfl⟩
  · intro f hf
    rw [List.mem_singleton] at hf; subst hf; exact Nat.zero_le _
  · intro x hx
    rw [g5 x hx]; exact Nat.zero_le _

theorem s_TurnOk_eq {r : PRing} (h : ringOk r = true) {e : PTurn} (he : TurnR r.2.1 e) (hK : big ≤ K) : s_TurnOk K r e = some (true, ()) := by
  have hb : big = 4000000 := rfl
  have hr := ringOk_iff.1 h
  unfold s_TurnOk
  have e1 : decide (e.2.2.1 < (0:Int)) = false := by have := he.idx; rw [decide_eq_false_iff_not]; omega
  rw [s_RingOk_eq (by omega) (by omega), s_l05In_eq (by omega) (by omega), s_l01In_eq, s_l01In_eq, h, List.contains_iff_mem.2 he.id, inR_iff.2 he.kind, e1]
  simp only [Option.bind_some, Bool.not_true, cond_false]
  cases c : e.1 == (1:Int)
  · have hc : e.1 ≠ 1 := by intro e; rw [e] at c; cases c
    obtain ⟨g1, g2⟩ := he.no hc
    rw [g1, g2, sEq_iff.2 rfl]
    rfl
  · obtain ⟨g1, g2⟩ := he.say (eq_of_beq c)
    have : decide ((e.2.2.2.2.1.size : Int) ≤ 60) = true := by rw [decide_eq_true_eq]; omega
    rw [inR_iff.2 g1, this]; rfl

theorem s_l11Next_ret {N : Nat} {w : PWork} (h : WorkOk N w) (hN : N ≤ 900000) (hK : big ≤ K) {c : D_l01Cur} (hc : CurOk c) :
    Ret (s_l11Next K c w) (fun y => TurnR w.1.2.1 y.1 ∧ CurOk y.2.1 ∧ y.2.2.1 = w) := by
  have hb : big = 4000000 := rfl
  have hr := ringOk_iff.1 h.ring
  have hf := h.fly
  have key : ∀ (k n i : Nat) (z e : PTurn) (c : D_l01Cur), i + k = w.2.2.1.length → k < n → CurOk c → 0 ≤ e.2.2.1 →
      ∃ (e' : PTurn) (c' : D_l01Cur), s_l11Next_l0 K n (i : Int) z e c w = some (.inr ((), (), (), z, e', c', w, ())) ∧ CurOk c' ∧ e'.1 = e.1 ∧ e'.2.1 = e.2.1 ∧ 0 ≤ e'.2.2.1 ∧ e'.2.2.2 = e.2.2.2 := by
    intro k
    induction k with
    | zero =>
      intro n i z e c h1 h2 h3 h4
      obtain ⟨n, rfl⟩ : ∃ k, n = k + 1 := ⟨n - 1, by omega⟩
      unfold s_l11Next_l0
      have e0 : decide ((i : Int) < (w.2.2.1.length : Int)) = false := by rw [decide_eq_false_iff_not]; omega
      rw [e0]
      exact ⟨e, c, rfl, h3, rfl, rfl, h4, rfl⟩
    | succ k ih =>
      intro n i z e c h1 h2 h3 h4
      obtain ⟨n, rfl⟩ : ∃ k, n = k + 1 := ⟨n - 1, by omega⟩
      unfold s_l11Next_l0
      have e0 : decide ((i : Int) < (w.2.2.1.length : Int)) = true := by rw [decide_eq_true_eq]; omega
      have hi : i < w.2.2.1.length := by omega
      have e3 : w64 ((i : Int) + (1:Int)) = ((i + 1 : Nat) : Int) := by rw [w64_id (by omega)]; omega
      rw [e0, inB_nat, decide_eq_true hi, xi_nat (r := R_Fly) hi, e3]
      simp only [cond_true]
      cases (w.2.2.1[i].2).1
      · simp only [cond_false]
        exact ih n (i + 1) z e c (by omega) (by omega) h3 h4
      · simp only [cond_true]
        obtain ⟨y, hy, hyc⟩ := s_l01Once_ret (K := K) h3 (n := 4) (by omega) (by omega)
        rw [hy]
        simp only [Option.bind_some]
        cases y.1
        · simp only [Bool.not_false, cond_true]
          obtain ⟨e', c', g1, g2, g3, g4, g5, g6⟩ := ih n (i + 1) z (e.1, e.2.1, (i : Int), e.2.2.2) y.2.1 (by omega) (by omega) hyc (by show (0:Int) ≤ (i : Int); omega)
          exact ⟨e', c', g1, g2, g3, g4, g5, g6⟩
        · simp only [Bool.not_true, cond_false]
          exact ih n (i + 1) z e y.2.1 (by omega) (by omega) hyc h4
  unfold s_l11Next
  refine Ret.bind (s_l01PickInt_ret hc (by simp) (by simp)) ?_
  rintro k ⟨k1, k2⟩
  have hkind : 1 ≤ k.1 ∧ k.1 ≤ 7 := by
    simp only [List.mem_cons, List.not_mem_nil, or_false] at k1
    omega
  refine Ret.bind (s_l01Below_ret k2 (by omega) (by omega)) ?_
  rintro j ⟨j1, j2, j3⟩
  obtain ⟨jn, hj⟩ : ∃ n : Nat, j.1 = n := ⟨j.1.toNat, by omega⟩
  rw [hj] at j2 ⊢
  have hjn : jn < w.1.2.1.length := by omega
  have hid : w.1.2.1[jn] ∈ w.1.2.1 := List.getElem_mem hjn
  rw [inB_nat, decide_eq_true hjn, xi_nat (r := .int .i64) hjn]
  simp only [cond_true]
  refine Ret.bind (s_l01Below_ret j3 (by omega) (by omega)) ?_
  rintro x ⟨x1, x2, x3⟩
  cases c2 : k.1 == (2:Int)
  · simp only [cond_false]
    cases c1 : k.1 == (1:Int)
    · refine Ret.some ⟨⟨hkind, hid, x1, fun e => ?_, fun _ => ⟨rfl, rfl⟩⟩, x3, rfl⟩
      have : k.1 = 1 := e
      rw [this] at c1; cases c1
    · simp only [cond_true]
      refine Ret.bind (s_l01Below_ret x3 (by omega) (by omega)) ?_
      rintro a ⟨a1, a2, a3⟩
      refine Ret.bind (s_l03Name_ret a3) ?_
      rintro b ⟨b1, b2⟩
      have e1 : w64 ((1:Int) + a.1) = 1 + a.1 := w64_id (by omega)
      refine Ret.some ⟨⟨hkind, hid, x1, fun _ => ⟨?_, b1⟩, fun e => ?_⟩, b2, rfl⟩
      · show 1 ≤ w64 ((1:Int) + a.1) ∧ w64 ((1:Int) + a.1) ≤ 2
        rw [e1]; omega
      · exact absurd (eq_of_beq c1) e
  · have hk2 : k.1 = 2 := eq_of_beq c2
    simp only [cond_true]
    obtain ⟨e', c', g1, g2, g3, g4, g5, g6⟩ := key w.2.2.1.length K 0 ((0:Int), ((0:Int), ((0:Int), ((0:Int), ((⟨#[]⟩ : ByteArray), ()))))) (k.1, (w.1.2.1[jn], (x.1, ((0:Int), ((⟨#[]⟩ : ByteArray), ()))))) x.2.1 (by omega) (by omega) x3 x1
    refine Ret.eq g1 ?_
    simp only [Sum.elim_inr]
    have g3 : e'.1 = k.1 := g3
    have e1 : (e'.1 == (1:Int)) = false := by rw [g3, hk2]; rfl
    rw [e1]
    refine Ret.some ⟨⟨by show 1 ≤ e'.1 ∧ e'.1 ≤ 7; omega, ?_, g5, fun e => ?_, fun _ => ?_⟩, g2, rfl⟩
    · show e'.2.1 ∈ w.1.2.1
      rw [g4]; exact hid
    · have : e'.1 = 1 := e
      omega
    · show e'.2.2.2.1 = 0 ∧ e'.2.2.2.2.1 = _
      rw [g6]; exact ⟨rfl, rfl⟩
end
end Go.Proofs.Ytphjhelolaoihaa.R

/- Plain laws, part o: drawn worlds of a ring. -/
namespace Go.Proofs.Ytphjhelolaoihaa.R
open Pl Rg Go

section
variable {K : Nat}

theorem s_l11Size_ret {l : List Int} (hl : l.length ≤ 140737488351232) : ∃ n : Int, s_l11Size K l = some (n, ()) ∧ 24 ≤ n ∧ n ≤ 89 := by
  unfold s_l11Size
  have h0 : (0:Int) ≤ Int.tdiv (l.length : Int) 4 := Int.tdiv_nonneg (by omega) (by omega)
  have h1 : Int.tdiv (l.length : Int) 4 ≤ (l.length : Int) := by
    have := Int.tdiv_le_self (a := (l.length : Int)) (b := 4) (by omega)
    exact this
  have e1 : w64 (Int.tdiv (l.length : Int) 4) = Int.tdiv (l.length : Int) 4 := w64_id (by omega)
  rw [e1]
  have e2 : w64 (24 + Int.tdiv (l.length : Int) 4) = 24 + Int.tdiv (l.length : Int) 4 := w64_id (by omega)
  rw [e2]
  cases c : decide (24 + Int.tdiv (l.length : Int) 4 > (89:Int))
  · rw [decide_eq_false_iff_not] at c
    exact ⟨_, rfl, by omega, by omega⟩
  · exact ⟨_, rfl, by omega, by omega⟩

theorem s_l11Draw_ret {l : List Int} (hl : l.length ≤ 140737488351232) (hK : big ≤ K) {c : D_l01Cur} (hc : CurOk c) :
    Ret (s_l11Draw K c l) (fun y => ringOk y.1.1 = true ∧ (∀ e, e ∈ y.1.2.1 → TurnR y.1.1.2.1 e) ∧ y.1.2.1.length ≤ 89 ∧ CurOk y.2.1) := by
  have hb : big = 4000000 := rfl
  obtain ⟨sz, hsz, hs1, hs2⟩ := s_l11Size_ret (K := K) hl
  have key : ∀ (k n i N : Nat) (z d : D_l11Drawn) (w : PWork) (c : D_l01Cur), (i : Int) + k = sz → k < n → CurOk c → WorkOk N w → N + 600 * k ≤ 800000 → d.1 = w.1 → (∀ e, e ∈ d.2.1 → TurnR w.1.2.1 e) → d.2.1.length = i →
      ∃ (d' : D_l11Drawn) (c' : D_l01Cur), s_l11Draw_l0 K n l (i : Int) z d w c = some (.inr ((), (), z, d', c', ())) ∧ CurOk c' ∧ d'.1 = d.1 ∧ (∀ e, e ∈ d'.2.1 → TurnR d.1.2.1 e) ∧ d'.2.1.length ≤ 89 := by
    intro k
    induction k with
    | zero =>
      intro n i N z d w c h1 h2 h3 h4 h5 h6 h7 h8
      obtain ⟨n, rfl⟩ : ∃ k, n = k + 1 := ⟨n - 1, by omega⟩
      unfold s_l11Draw_l0
      rw [hsz]
      have e0 : decide ((i : Int) < sz) = false := by rw [decide_eq_false_iff_not]; omega
      simp only [Option.bind_some]
      rw [e0]
      exact ⟨d, c, rfl, h3, rfl, fun e he => by rw [h6]; exact h7 e he, by omega⟩
    | succ k ih =>
      intro n i N z d w c h1 h2 h3 h4 h5 h6 h7 h8
      obtain ⟨n, rfl⟩ : ∃ k, n = k + 1 := ⟨n - 1, by omega⟩
      unfold s_l11Draw_l0
      rw [hsz]
      have e0 : decide ((i : Int) < sz) = true := by rw [decide_eq_true_eq]; omega
      have e3 : w64 ((i : Int) + (1:Int)) = ((i + 1 : Nat) : Int) := by rw [w64_id (by omega)]; omega
      simp only [Option.bind_some]
      rw [e0, e3]
      simp only [cond_true]
      obtain ⟨y, hy, y1, y2, y3⟩ := s_l11Next_ret h4 (by omega) hK h3
      rw [hy]
      simp only [Option.bind_some]
      rw [y3]
      obtain ⟨x, hx, x1, x2⟩ := s_l11Do_ret h4 (by omega) hK y1
      rw [hx]
      simp only [Option.bind_some]
      rw [fits_small (by simp; omega) (by decide)]
      simp only [cond_true]
      obtain ⟨d', c', g1, g2, g3, g4, g5⟩ := ih n (i + 1) (N + 600) z (d.1, ((d.2.1 ++ [y.1]), ())) x.2.1 y.2.1 (by omega) (by omega) y2 x1 (by omega) (by rw [x2]; exact h6) (by
        intro e he
        rw [x2]
        rcases List.mem_append.1 he with he | he
        · exact h7 e he
        · rw [List.mem_singleton] at he; subst he; exact y1) (by simp; omega)
      exact ⟨d', c', g1, g2, g3, g4, g5⟩
  unfold s_l11Draw
  refine Ret.bind (s_l09Ring_ret hc hK) ?_
  rintro r ⟨r1, r2⟩
  refine Ret.bind (s_WorkNew_ret r1 hK) ?_
  rintro w ⟨w1, w2, _⟩
  obtain ⟨szn, hszn⟩ : ∃ n : Nat, sz = n := ⟨sz.toNat, by omega⟩
  obtain ⟨d', c', g1, g2, g3, g4, g5⟩ := key szn K 0 1 (((0:Int), ([], ())), ([], ())) (r.1, ([], ())) w.1 r.2.1 (by omega) (by omega) r2 w1 (by omega) w2.symm (fun e he => absurd he (by simp)) rfl
  refine Ret.eq g1 ?_
  simp only [Sum.elim_inr]
  have g3 : d'.1 = r.1 := g3
  exact Ret.some ⟨by show ringOk d'.1 = true; rw [g3]; exact r1, by show ∀ e, e ∈ d'.2.1 → TurnR d'.1.2.1 e; rw [g3]; exact g4, g5, g2⟩

/-! ### a copy of a work -/
theorem s_l11Copy_eq {N : Nat} {w : PWork} (h : WorkOk N w) (hN : N ≤ 1000000) (hK : big ≤ K) : s_l11Copy K w = some (w, ()) := by
  have hb : big = 4000000 := rfl
  have hr := ringOk_iff.1 h.ring
  have h5 := h.len5
  have hf := h.fly
  have hs := h.said
  have hh := h.heard
  obtain ⟨r, ms, fl, hd, sd, u⟩ := w
  simp only at hr h5 hf hs hh
  have k0 : ∀ (t pre : List PMate) (n : Nat) (z : PWork) (u1 : _), ms = pre ++ t → t.length < n →
      s_l11Copy_l0 K n (pre.length : Int) (r, ms, fl, hd, sd, u) z (r, pre, u1) = some (.inr ((), (), (), (r, ms, fl, hd, sd, u), z, (r, ms, u1), ())) := by
    intro t
    induction t with
    | nil =>
      intro pre n z u1 he hn
      obtain ⟨n, rfl⟩ : ∃ k, n = k + 1 := ⟨n - 1, by omega⟩
      unfold s_l11Copy_l0
      have e : decide ((pre.length : Int) < (ms.length : Int)) = false := by rw [he]; exact lt_end
      simp only
      rw [e, he]; simp
    | cons y t ih =>
      intro pre n z u1 he hn
      obtain ⟨n, rfl⟩ : ∃ k, n = k + 1 := ⟨n - 1, by omega⟩
      have hp : pre.length ≤ 5 := by rw [he] at h5; simp at h5; omega
      have e1 : decide ((pre.length : Int) < (ms.length : Int)) = true := by rw [he]; exact lt_at
      have e2 : inB (pre.length : Int) ms.length = true := by rw [he]; exact inB_at
      have e3 : xi R_Mate ms (pre.length : Int) = y := by rw [he]; exact xi_at (r := R_Mate)
      have hy : MateOk y := (h.mate y (by show y ∈ ms; rw [he]; simp)).1
      unfold s_l11Copy_l0
      simp only
      rw [e1, e2, e3, next_at (x := y) (by omega), s_l10Copy_eq hy.sm]
      simp only [cond_true, Option.bind_some]
      rw [fits_small (by simp; omega) (by decide)]
      exact ih (pre ++ [y]) n z u1 (by rw [he]; simp) (by simpa using hn)
  have k1 : ∀ (t pre : List PFly) (n : Nat) (z : PWork) (a : List PMate) (u1 : _), fl = pre ++ t → t.length < n →
      s_l11Copy_l1 K n (pre.length : Int) (r, ms, fl, hd, sd, u) z (r, a, pre, u1) = some (.inr ((), (), (), (r, ms, fl, hd, sd, u), z, (r, a, fl, u1), ())) := by
    intro t
    induction t with
    | nil =>
      intro pre n z a u1 he hn
      obtain ⟨n, rfl⟩ : ∃ k, n = k + 1 := ⟨n - 1, by omega⟩
      unfold s_l11Copy_l1
      have e : decide ((pre.length : Int) < (fl.length : Int)) = false := by rw [he]; exact lt_end
      simp only
      rw [e, he]; simp
    | cons y t ih =>
      intro pre n z a u1 he hn
      obtain ⟨n, rfl⟩ : ∃ k, n = k + 1 := ⟨n - 1, by omega⟩
      have hp : pre.length ≤ 1000000 := by rw [he] at hf; simp at hf; omega
      have e1 : decide ((pre.length : Int) < (fl.length : Int)) = true := by rw [he]; exact lt_at
      have e2 : inB (pre.length : Int) fl.length = true := by rw [he]; exact inB_at
      have e3 : xi R_Fly fl (pre.length : Int) = y := by rw [he]; exact xi_at (r := R_Fly)
      have hy : y.2.2.1.2.2.2.2.2.1.length ≤ 20 := h.flyOk y (by show y ∈ fl; rw [he]; simp)
      unfold s_l11Copy_l1
      simp only
      rw [e1, e2, e3, next_at (x := y) (by omega), s_l05CopyToken_eq (by omega)]
      simp only [cond_true, Option.bind_some]
      rw [fits_small (by simp; omega) (by decide)]
      exact ih (pre ++ [y]) n z a u1 (by rw [he]; simp) (by simpa using hn)
  have k2 : ∀ (t pre : List (List PItem)) (n : Nat) (z : PWork) (a : List PMate) (b : List PFly) (u1 : _), hd = pre ++ t → t.length < n →
      s_l11Copy_l2 K n (pre.length : Int) (r, ms, fl, hd, sd, u) z (r, a, b, pre, u1) = some (.inr ((), (), z, (r, a, b, hd, u1), ())) := by
    intro t
    induction t with
    | nil =>
      intro pre n z a b u1 he hn
      obtain ⟨n, rfl⟩ : ∃ k, n = k + 1 := ⟨n - 1, by omega⟩
      unfold s_l11Copy_l2
      have e : decide ((pre.length : Int) < (hd.length : Int)) = false := by rw [he]; exact lt_end
      simp only
      rw [e, he]; simp
    | cons y t ih =>
      intro pre n z a b u1 he hn
      obtain ⟨n, rfl⟩ : ∃ k, n = k + 1 := ⟨n - 1, by omega⟩
      have hp : pre.length ≤ 5 := by rw [he] at hh; simp at hh; omega
      have e1 : decide ((pre.length : Int) < (hd.length : Int)) = true := by rw [he]; exact lt_at
      have e2 : inB (pre.length : Int) hd.length = true := by rw [he]; exact inB_at
      have e3 : xi (.sl R_Item) hd (pre.length : Int) = y := by rw [he]; exact xi_at (r := .sl R_Item)
      have hy : y.length ≤ N := h.hl y (by show y ∈ hd; rw [he]; simp)
      unfold s_l11Copy_l2
      simp only
      rw [e1, e2, e3, next_at (x := y) (by omega), List.nil_append]
      simp only [cond_true]
      rw [fits_small (by omega) (by decide), fits_small (by simp; omega) (by decide)]
      exact ih (pre ++ [y]) n z a b u1 (by rw [he]; simp) (by simpa using hn)
  unfold s_l11Copy
  simp only [List.nil_append]
  rw [fits_small (by omega) (by decide), fits_small (by omega) (by decide)]
  simp only [cond_true]
  refine Eq.trans (congrArg (fun o => Option.bind o _) (k0 ms [] K _ _ rfl (by omega))) ?_
  simp only [Option.bind_some, Sum.elim_inr]
  refine Eq.trans (congrArg (fun o => Option.bind o _) (k1 fl [] K _ _ _ rfl (by omega))) ?_
  simp only [Option.bind_some, Sum.elim_inr]
  refine Eq.trans (congrArg (fun o => Option.bind o _) (k2 hd [] K _ _ _ _ rfl (by omega))) ?_
  rfl

/-! ### a life of a ring -/
theorem s_RunWork_ret {r : PRing} (h : ringOk r = true) {es : List PTurn} (he : ∀ e, e ∈ es → TurnR r.2.1 e) (hl : es.length ≤ 90) (hK : big ≤ K) :
    Ret (s_RunWork K r es) (fun y => WorkOk 100000 y.1 ∧ y.1.1 = r ∧ y.2.2.1 = true) := by
  have hb : big = 4000000 := rfl
  have k0 : ∀ (t pre : List PTurn) (n : Nat) (a b : PWork), es = pre ++ t → t.length < n →
      s_RunWork_l0 K n es true (pre.length : Int) r a b = some (.inr (es, (), (), true, a, b, ())) := by
    intro t
    induction t with
    | nil =>
      intro pre n a b he2 hn
      obtain ⟨n, rfl⟩ : ∃ k, n = k + 1 := ⟨n - 1, by omega⟩
      unfold s_RunWork_l0
      have e : decide ((pre.length : Int) < (es.length : Int)) = false := by rw [he2]; exact lt_end
      rw [e]; rfl
    | cons y t ih =>
      intro pre n a b he2 hn
      obtain ⟨n, rfl⟩ : ∃ k, n = k + 1 := ⟨n - 1, by omega⟩
      have hp : pre.length ≤ 90 := by rw [he2] at hl; simp at hl; omega
      have e1 : decide ((pre.length : Int) < (es.length : Int)) = true := by rw [he2]; exact lt_at
      have e2 : inB (pre.length : Int) es.length = true := by rw [he2]; exact inB_at
      have e3 : xi R_Turn es (pre.length : Int) = y := by rw [he2]; exact xi_at (r := R_Turn)
      have e4 : decide ((es.length : Int) ≤ (90:Int)) = true := by rw [decide_eq_true_eq]; omega
      unfold s_RunWork_l0
      rw [e1, e2, e3, e4, next_at (x := y) (by omega), s_TurnOk_eq h (he y (by rw [he2]; simp)) hK]
      exact ih (pre ++ [y]) n a b (by rw [he2]; simp) (by simpa using hn)
  have k1 : ∀ (t pre : List PTurn) (n N : Nat) (acc : List Int) (a w : PWork), es = pre ++ t → t.length < n → acc.length = pre.length → WorkOk N w → w.1 = r → N + 600 * t.length ≤ 60000 →
      ∃ (acc' : List Int) (w' : PWork), s_RunWork_l1 K n es acc (pre.length : Int) a w = some (.inr ((), (), acc', a, w', ())) ∧ WorkOk 60000 w' ∧ w'.1 = r := by
    intro t
    induction t with
    | nil =>
      intro pre n N acc a w he2 hn ha hw hwr hN
      obtain ⟨n, rfl⟩ : ∃ k, n = k + 1 := ⟨n - 1, by omega⟩
      unfold s_RunWork_l1
      have e : decide ((pre.length : Int) < (es.length : Int)) = false := by rw [he2]; exact lt_end
      rw [e]
      exact ⟨acc, w, rfl, hw.mono (by simp at hN; omega), hwr⟩
    | cons y t ih =>
      intro pre n N acc a w he2 hn ha hw hwr hN
      obtain ⟨n, rfl⟩ : ∃ k, n = k + 1 := ⟨n - 1, by omega⟩
      have hp : pre.length ≤ 90 := by rw [he2] at hl; simp at hl; omega
      have e1 : decide ((pre.length : Int) < (es.length : Int)) = true := by rw [he2]; exact lt_at
      have e2 : inB (pre.length : Int) es.length = true := by rw [he2]; exact inB_at
      have e3 : xi R_Turn es (pre.length : Int) = y := by rw [he2]; exact xi_at (r := R_Turn)
      simp only [List.length_cons] at hN
      unfold s_RunWork_l1
      rw [e1, e2, e3, next_at (x := y) (by omega)]
      simp only [cond_true]
      obtain ⟨x, hx, x1, x2⟩ := s_l11Do_ret hw (by omega) hK (e := y) (by rw [hwr]; exact he y (by rw [he2]; simp))
      rw [hx]
      simp only [Option.bind_some]
      rw [fits_small (by simp; omega) (by decide)]
      exact ih (pre ++ [y]) n (N + 600) _ a x.2.1 (by rw [he2]; simp) (by simpa using hn) (by simp [ha]) x1 (by rw [x2]; exact hwr) (by omega)
  unfold s_RunWork
  refine Ret.bind (s_WorkNew_ret h hK) ?_
  rintro w ⟨w1, w2, w3⟩
  rw [w3]
  refine Ret.eq (k0 es [] K _ _ rfl (by omega)) ?_
  simp only [Sum.elim_inr, Bool.not_true, cond_false]
  obtain ⟨acc, w', g1, g2, g3⟩ := k1 es [] K 1 [] (((0:Int), ([], ())), ([], ([], ([], ([], ()))))) w.1 rfl (by omega) rfl w1 w2 (by omega)
  refine Ret.eq g1 ?_
  simp only [Sum.elim_inr]
  refine Ret.eq (s_l11Copy_eq g2 (by omega) hK) ?_
  exact Ret.some ⟨g2.mono (by omega), g3, rfl⟩

theorem s_l11World_ret {l : List Int} (hl : l.length ≤ 140737488351232) (hK : big ≤ K) {c : D_l01Cur} (hc : CurOk c) :
    Ret (s_l11World K c l) (fun y => WorkOk 100000 y.1 ∧ CurOk y.2.1) := by
  unfold s_l11World
  refine Ret.bind (s_l11Draw_ret hl hK hc) ?_
  rintro d ⟨d1, d2, d3, d4⟩
  refine Ret.bind (s_RunWork_ret d1 d2 (by omega) hK) ?_
  rintro y ⟨y1, y2, y3⟩
  exact Ret.some ⟨y1, d4⟩

end
end Go.Proofs.Ytphjhelolaoihaa.R

/- Plain laws, part t: any item that is drawn; an item that a member catches. -/
namespace Go.Proofs.Ytphjhelolaoihaa.R
open Pl Rg Go

section
variable {K : Nat}

theorem s_l01Below_any {c : D_l01Cur} {n : Int} (h : CurOk c) (h0 : 0 < n) : Ret (s_l01Below K c n) (fun y => 0 ≤ y.1 ∧ y.1 < n ∧ CurOk y.2.1) := by
  rcases Int.lt_or_le 256 n with h1 | h1
  · unfold s_l01Below
    have e1 : decide (n ≤ (0:Int)) = false := by rw [decide_eq_false_iff_not]; omega
    have e2 : decide (n ≤ (256:Int)) = false := by rw [decide_eq_false_iff_not]; omega
    have e3 : (n == (0:Int)) = false := by
      cases e : n == 0
      · rfl
      · have := eq_of_beq e; omega
    rw [e1, e2, e3]
    simp only [cond_false]
    refine Ret.bind (s_l01Byte_ret h) ?_
    rintro a ⟨a1, a2, a3⟩
    refine Ret.bind (s_l01Byte_ret a3) ?_
    rintro b ⟨b1, b2, b3⟩
    refine Ret.bind (s_l01Byte_ret b3) ?_
    rintro c ⟨c1, c2, c3⟩
    refine Ret.bind (s_l01Byte_ret c3) ?_
    rintro d ⟨d1, d2, d3⟩
    simp only [Bool.not_false, cond_true]
    have w1 : w64 (a.1 * (16777216:Int)) = a.1 * 16777216 := w64_id (by omega)
    have w2 : w64 (b.1 * (65536:Int)) = b.1 * 65536 := w64_id (by omega)
    have w3 : w64 (c.1 * (256:Int)) = c.1 * 256 := w64_id (by omega)
    rw [w1, w2, w3]
    have w4 : w64 (a.1 * 16777216 + b.1 * 65536) = a.1 * 16777216 + b.1 * 65536 := w64_id (by omega)
    rw [w4]
    have w5 : w64 (a.1 * 16777216 + b.1 * 65536 + c.1 * 256) = a.1 * 16777216 + b.1 * 65536 + c.1 * 256 := w64_id (by omega)
    rw [w5]
    have w6 : w64 (a.1 * 16777216 + b.1 * 65536 + c.1 * 256 + d.1) = a.1 * 16777216 + b.1 * 65536 + c.1 * 256 + d.1 := w64_id (by omega)
    rw [w6]
    exact Ret.some ⟨Int.tmod_nonneg _ (by omega), Int.tmod_lt_of_pos _ h0, d3⟩
  · exact s_l01Below_ret h h0 h1

theorem s_l01Long_ret {n c : Int} (h0 : 0 ≤ n) (h1 : n ≤ 1000000) (hK : big ≤ K) : Ret (s_l01Long K n c) (fun _ => True) := by
  have hb : big = 4000000 := rfl
  have key : ∀ (k m i : Nat) (l : List Int), (i : Int) + k = n → k < m → (l.length : Int) = n → ∃ l', s_l01Long_l0 K m n c l (i : Int) = some (.inr (l', ())) := by
    intro k
    induction k with
    | zero =>
      intro m i l g1 g2 g3
      obtain ⟨m, rfl⟩ : ∃ k, m = k + 1 := ⟨m - 1, by omega⟩
      unfold s_l01Long_l0
      have e : decide ((i : Int) < n) = false := by rw [decide_eq_false_iff_not]; omega
      rw [e]; exact ⟨l, rfl⟩
    | succ k ih =>
      intro m i l g1 g2 g3
      obtain ⟨m, rfl⟩ : ∃ k, m = k + 1 := ⟨m - 1, by omega⟩
      unfold s_l01Long_l0
      have e : decide ((i : Int) < n) = true := by rw [decide_eq_true_eq]; omega
      have hi : i < l.length := by omega
      have e3 : w64 ((i : Int) + (1:Int)) = ((i + 1 : Nat) : Int) := by rw [w64_id (by omega)]; omega
      rw [e, inB_nat, decide_eq_true hi, e3]
      exact ih m (i + 1) _ (by omega) (by omega) (by rw [List.length_set]; exact g3)
  unfold s_l01Long
  have e : mkFits n n 1 = true := by
    unfold mkFits
    rw [decide_eq_true h0, decide_eq_true (Int.le_refl n), decide_eq_true (by omega)]; rfl
  rw [e]
  obtain ⟨l', h⟩ := key n.toNat K 0 (List.replicate n.toNat (.int .u8 : Ty).zero) (by omega) (by omega) (by rw [List.length_replicate]; omega)
  simp only [cond_true]
  refine Ret.eq h ?_
  exact Ret.some trivial

theorem s_l05Of_ret {c : D_l01Cur} {n : Int} (h : CurOk c) : Ret (s_l05Of K c n) (fun y => CurOk y.2.1) := by
  unfold s_l05Of
  refine Ret.bind (s_l01Below_ret h (by omega) (by omega)) ?_
  rintro a ⟨a1, a2, a3⟩
  refine Ret.bind (s_l01Pick_ret a3 (by simp) (by simp)) ?_
  rintro b ⟨b1, b2⟩
  exact Ret.some b2

theorem s_l05AnyItem_ret {c : D_l01Cur} (h : CurOk c) (hK : big ≤ K) : Ret (s_l05AnyItem K c) (fun _ => True) := by
  unfold s_l05AnyItem
  refine Ret.bind (s_l01Below_ret h (by omega) (by omega)) ?_
  rintro a ⟨a1, a2, a3⟩
  refine Ret.bind (s_l05Of_ret a3) ?_
  intro b b1
  refine Ret.bind (s_l01Below_ret b1 (by omega) (by omega)) ?_
  rintro d ⟨d1, d2, d3⟩
  refine Ret.ite (fun _ => ?_) fun _ => Ret.ite (fun _ => ?_) fun _ => Ret.ite (fun _ => ?_) fun _ => Ret.ite (fun _ => ?_) fun _ => ?_
  · exact Ret.bind (s_l01PickInt_ret d3 (by simp) (by simp)) fun _ _ => Ret.some trivial
  · exact Ret.bind (s_l01PickInt_ret d3 (by simp) (by simp)) fun _ _ => Ret.some trivial
  · exact Ret.bind (s_l01PickInt_ret d3 (by simp) (by simp)) fun _ _ => Ret.some trivial
  · refine Ret.bind (s_l01Below_ret d3 (by omega) (by omega)) ?_
    rintro e ⟨e1, e2, e3⟩
    have w : w64 ((60:Int) + e.1) = 60 + e.1 := w64_id (by omega)
    rw [w]
    exact Ret.bind (s_l01Long_ret (by omega) (by omega) hK) fun _ _ => Ret.some trivial
  · exact Ret.some trivial

theorem s_DrawCaught_ret {l : List Int} (hl : l.length ≤ 140737488351232) (hK : big ≤ K) : Ret (s_DrawCaught K l) (fun y => MateOk y.1) := by
  unfold s_DrawCaught
  refine Ret.bind (s_l01New_ret hl hK) ?_
  intro c hc
  refine Ret.bind (s_l11World_ret hl hK hc) ?_
  rintro ⟨w, c2, ⟨⟩⟩ ⟨hw, hc2⟩
  have hw : WorkOk 100000 w := hw
  have h5 : 1 ≤ w.2.1.length ∧ w.2.1.length ≤ 5 := hw.len5
  have hs : w.2.2.2.2.1.length ≤ 100000 := hw.said
  refine Ret.bind (s_l01Below_ret (n := (w.2.1.length : Int)) hc2 (by omega) (by omega)) ?_
  rintro j ⟨j1, j2, j3⟩
  obtain ⟨jn, hj⟩ : ∃ n : Nat, j.1 = n := ⟨j.1.toNat, by omega⟩
  rw [hj] at j2 ⊢
  have hjn : jn < w.2.1.length := by omega
  rw [inB_nat, decide_eq_true hjn, xi_nat (r := R_Mate) hjn]
  have hm := (hw.at hjn).1
  simp only [cond_true]
  refine Ret.ite (fun hc => ?_) fun _ => Ret.bind (s_l05AnyItem_ret j3 hK) fun _ _ => Ret.some hm
  rw [decide_eq_true_eq] at hc
  refine Ret.bind (s_l01Once_ret j3 (by omega) (by omega)) ?_
  intro a ha
  refine Ret.ite (fun _ => ?_) fun _ => Ret.bind (s_l05AnyItem_ret ha hK) fun _ _ => Ret.some hm
  refine Ret.bind (s_l01Below_any (n := (w.2.2.2.2.1.length : Int)) ha hc) ?_
  rintro k ⟨k1, k2, k3⟩
  have e : inB k.1 w.2.2.2.2.1.length = true := by unfold inB; rw [decide_eq_true k1, decide_eq_true k2]; rfl
  rw [e]
  exact Ret.some hm
end
end Go.Proofs.Ytphjhelolaoihaa.R
