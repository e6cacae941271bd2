/- The ring framework, part D: states and memory. -/
import Derived.Test.YtphjhelolaoihaaRgA
import Derived.Laws.Cells
set_option linter.all false
namespace Rg
open Go

/-- What is known of memory beside a state: the shared blocks; where a key lies; which blocks are its own. -/
structure Gh where
  S : Nat → Prop
  at_ : Nat → Option (Nat × Nat × Nat)
  bl : Nat → List Nat

def hdrOf (G : Gh) (k n : Nat) : Value :=
  match G.at_ k with
  | none => .slice none n 0
  | some (b, o, c) => .slice (some ⟨b, o, none⟩) n c

def isLive : KV → Bool
  | .box _ => true
  | .ex _ _ => true
  | _ => false

/-- The length of a slice, and how many cells an element has. -/
def KV.len? : KV → Option (Nat × Nat)
  | .ex r xs => some (xs.length, r.size)
  | .fz r xs => some (xs.length, r.size)
  | .held r n => some (n, r.size)
  | _ => Option.none

/-- The row and the length of an exclusive slice, here or handed over. -/
def KV.ex? : KV → Option (Ty × Nat)
  | .ex r xs => some (r, xs.length)
  | .held r n => some (r, n)
  | _ => Option.none

def RelLC (w : World) (σ : Sg) (G : Gh) : LC → Value → Prop
  | .dat t x, v => ORep w G.S t x [v] []
  | .nl _, v => v = .slice none 0 0
  | .hdl e, v => σ (kX e) ≠ .none ∧ (∃ A n cap, v = .slice A n cap) ∧ ∀ n z, (σ (kX e)).len? = some (n, z) → v = hdrOf G (kX e) n

def RelCs (w : World) (σ : Sg) (G : Gh) : List LC → List Value → Prop
  | [], [] => True
  | c :: cs, v :: vs => RelLC w σ G c v ∧ RelCs w σ G cs vs
  | _, _ => False

def RelPtr (σ : Sg) (G : Gh) (b off : Nat) (v : Value) : Prop :=
  σ (kB b) ≠ .none ∧ ∃ bb o c, G.at_ (kB b) = some (bb, o, c) ∧ v = .pointer (some ⟨bb, o + off, none⟩)

def RelPs (σ : Sg) (G : Gh) : List Nat → List Value → Prop
  | [], [] => True
  | b :: bs, v :: vs => RelPtr σ G b 0 v ∧ RelPs σ G bs vs
  | _, _ => False

def RelSV (w : World) (σ : Sg) (G : Gh) : SV → Value → Prop
  | .undef, v => v = undef
  | .cell c, v => RelLC w σ G c v
  | .agg cs, v => ∃ vs : List Value, v = .agg vs.toArray ∧ RelCs w σ G cs vs
  | .ptr b off, v => RelPtr σ G b off v
  | .elP r x off, v => ∃ b o arr el fz cs, v = .pointer (some ⟨b, o + off, none⟩) ∧ G.S b ∧ w.heap[b]? = some (.cells arr el fz) ∧ rowAt' arr o cs ∧ ORep w G.S r x cs []
  | .elX e i off, v => σ (kX e) ≠ .none ∧ ∀ r n, (σ (kX e)).ex? = some (r, n) → 0 ≤ i ∧ i.toNat < n ∧
      ∃ b o c, G.at_ (kX e) = some (b, o, c) ∧ v = .pointer (some ⟨b, o + i.toNat * r.size + off, none⟩)
  | .clo f bs, v => ∃ ps : List Value, v = .func (.func f) #[] ps.toArray ∧ RelPs σ G bs ps

def RelSVs (w : World) (σ : Sg) (G : Gh) : List SV → List Value → Prop
  | [], [] => True
  | s :: l, v :: vs => RelSV w σ G s v ∧ RelSVs w σ G l vs
  | _, _ => False

def RelKV (w : World) (σ : Sg) (G : Gh) : KV → Value → Prop
  | .sv s, v => RelSV w σ G s v
  | .tup l, v => ∃ vs : List Value, v = .tuple vs.toArray ∧ RelSVs w σ G l vs
  | _, _ => True

/-- The streams are as they were. -/
structure Side (w w' : World) : Prop where
  os : w'.os = w.os
  tape : w'.tape = w.tape
  output : w'.output = w.output

theorem Side.trans {a b c : World} (h : Side a b) (k : Side b c) : Side a c := ⟨k.os.trans h.os, k.tape.trans h.tape, k.output.trans h.output⟩

/-- What was when a function (or a piece of it) began. -/
structure Base where
  w0 : World
  n0 : Nat
  W : Nat → Prop
  h0 : Array Obj
  S0 : Nat → Prop
  pin : Nat → Option (Option (Nat × Nat × Nat))
  plen : Nat → Nat
  pinB : ∀ k p, pin k = some p → 3000000000 ≤ k ∧ k < 6000000000

/-- Not a slot's key. -/
def isKey (k : Nat) : Prop := k % 3 ≠ 0

structure Hp (B : Base) (σ : Sg) (w : World) (G : Gh) : Prop where
  shared : ∀ b, G.S b → b < w.heap.size ∧ (B.n0 ≤ b ∨ B.S0 b ∨ B.W b)
  s0 : ∀ b, B.S0 b → G.S b
  box : ∀ n cs, σ (kB n) = .box cs → ∃ b o arr el fz, G.at_ (kB n) = some (b, o, 0) ∧ G.bl (kB n) = [b] ∧ w.heap[b]? = some (.cells arr el fz) ∧
    isFree fz arr.size ∧ o + cs.length ≤ arr.size ∧ ∃ vs, rowAt' arr o vs ∧ RelCs w σ G cs vs
  ex : ∀ n r xs, σ (kX n) = .ex r xs → ORep w G.S (.ow r) xs [hdrOf G (kX n) xs.length] (G.bl (kX n))
  fz : ∀ n r xs, σ (kX n) = .fz r xs → ORep w G.S (.sl r) xs [hdrOf G (kX n) xs.length] []
  own : ∀ k b, isKey k → isLive (σ k) = true → b ∈ G.bl k → b < w.heap.size ∧ ¬ G.S b ∧ (B.n0 ≤ b ∨ B.W b)
  nodup : ∀ k, isKey k → isLive (σ k) = true → (G.bl k).Nodup
  apart : ∀ k k' b, isKey k → isKey k' → isLive (σ k) = true → isLive (σ k') = true → b ∈ G.bl k → b ∈ G.bl k' → k = k'
  frame : ∀ b, b < B.n0 → ¬ B.W b → w.heap[b]? = B.h0[b]?
  size : B.n0 ≤ w.heap.size
  plain : ∀ n (r : Ty) xs, σ (kX n) = .ex r xs → r.plain = true
  pin : ∀ k p, isKey k → B.pin k = some p → σ k ≠ .none → G.at_ k = p ∧ ∀ n r m, k = kX n → (σ k).ex? = some (r, m) → m = B.plen n
  side : Side B.w0 w

theorem isKey_kB (n : Nat) : isKey (kB n) := by unfold isKey kB; omega
theorem isKey_kX (n : Nat) : isKey (kX n) := by unfold isKey kX; omega
theorem not_isKey_kS (n : Nat) : ¬ isKey (kS n) := by unfold isKey kS; omega
theorem kS_inj {m n : Nat} (h : kS m = kS n) : m = n := by unfold kS at h; omega
theorem kB_inj {m n : Nat} (h : kB m = kB n) : m = n := by unfold kB at h; omega
theorem kX_inj {m n : Nat} (h : kX m = kX n) : m = n := by unfold kX at h; omega
theorem kS_ne_kB (m n : Nat) : kS m ≠ kB n := by unfold kS kB; omega
theorem kS_ne_kX (m n : Nat) : kS m ≠ kX n := by unfold kS kX; omega
theorem kB_ne_kX (m n : Nat) : kB m ≠ kX n := by unfold kB kX; omega
theorem Base.low {B : Base} {k : Nat} (h : k < 3000000000) : B.pin k = none := by
  cases hp : B.pin k with
  | none => rfl
  | some p => exact absurd (B.pinB k p hp).1 (Nat.not_le.2 h)
theorem Base.high {B : Base} {k : Nat} (h : 6000000000 ≤ k) : B.pin k = none := by
  cases hp : B.pin k with
  | none => rfl
  | some p => exact absurd (B.pinB k p hp).2 (Nat.not_lt.2 h)
theorem kB_low {n : Nat} (h : n < 1000000000) : kB n < 3000000000 := by unfold kB; omega
theorem kX_low {n : Nat} (h : n < 1000000000) : kX n < 3000000000 := by unfold kX; omega
theorem isKey_ne_kS {k : Nat} (h : isKey k) (n : Nat) : k ≠ kS n := fun e => not_isKey_kS n (e ▸ h)

/-- A step leaves what is known of old keys: all that is shared stays; where keys lie; how long slices are. -/
structure Mon (w : World) (σ : Sg) (G : Gh) (w' : World) (σ' : Sg) (G' : Gh) : Prop where
  S : ∀ b, G.S b → G'.S b
  heap : ∀ b, G.S b → w'.heap[b]? = w.heap[b]?
  key : ∀ k, isKey k → σ k ≠ .none → σ' k ≠ .none ∧ G'.at_ k = G.at_ k
  len : ∀ n p, σ (kX n) ≠ .none → (σ' (kX n)).len? = some p → (σ (kX n)).len? = some p
  exx : ∀ n p, σ (kX n) ≠ .none → (σ' (kX n)).ex? = some p → (σ (kX n)).ex? = some p

section
variable {w w' : World} {σ σ' : Sg} {G G' : Gh}

theorem Mon.refl : Mon w σ G w σ G := ⟨fun _ h => h, fun _ _ => rfl, fun _ _ h => ⟨h, rfl⟩, fun _ _ _ h => h, fun _ _ _ h => h⟩

theorem RelLC.mon (m : Mon w σ G w' σ' G') : ∀ {c : LC} {v : Value}, RelLC w σ G c v → RelLC w' σ' G' c v
  | .dat t x, v, h => ORep.mono m.S h fun b hb => m.heap b (hb.resolve_right (by simp))
  | .nl _, _, h => h
  | .hdl e, v, h => by
    obtain ⟨h1, h2⟩ := m.key (kX e) (isKey_kX e) h.1
    refine ⟨h1, h.2.1, fun n z hn => ?_⟩
    have := h.2.2 n z (m.len e (n, z) h.1 hn)
    rw [this]
    unfold hdrOf
    rw [h2]

theorem RelCs.mon (m : Mon w σ G w' σ' G') : ∀ {cs : List LC} {vs : List Value}, RelCs w σ G cs vs → RelCs w' σ' G' cs vs
  | [], [], _ => trivial
  | _ :: _, _ :: _, h => ⟨h.1.mon m, RelCs.mon m h.2⟩

theorem RelPtr.mon (m : Mon w σ G w' σ' G') {b off : Nat} {v : Value} (h : RelPtr σ G b off v) : RelPtr σ' G' b off v := by
  obtain ⟨h0, bb, o, c, ha, hv⟩ := h
  obtain ⟨h1, h2⟩ := m.key (kB b) (isKey_kB b) h0
  exact ⟨h1, bb, o, c, by rw [h2]; exact ha, hv⟩

theorem RelPs.mon (m : Mon w σ G w' σ' G') : ∀ {bs : List Nat} {vs : List Value}, RelPs σ G bs vs → RelPs σ' G' bs vs
  | [], [], _ => trivial
  | _ :: _, _ :: _, h => ⟨h.1.mon m, RelPs.mon m h.2⟩

theorem RelSV.mon (m : Mon w σ G w' σ' G') : ∀ {s : SV} {v : Value}, RelSV w σ G s v → RelSV w' σ' G' s v
  | .undef, _, h => h
  | .cell _, _, h => RelLC.mon m h
  | .agg _, _, ⟨vs, hv, h⟩ => ⟨vs, hv, h.mon m⟩
  | .ptr _ _, _, h => RelPtr.mon m h
  | .elP r x off, _, ⟨b, o, arr, el, fz, cs, hv, hS, hh, hr, ho⟩ =>
    ⟨b, o, arr, el, fz, cs, hv, m.S b hS, by rw [m.heap b hS]; exact hh, hr, ho.mono m.S fun c hc => m.heap c (hc.resolve_right (by simp))⟩
  | .elX e i off, v, ⟨h0, h⟩ => by
    obtain ⟨h1, h2⟩ := m.key (kX e) (isKey_kX e) h0
    refine ⟨h1, fun r n hx => ?_⟩
    obtain ⟨hi, hi', b, o, c, ha, hv⟩ := h r n (m.exx e (r, n) h0 hx)
    exact ⟨hi, hi', b, o, c, by rw [h2]; exact ha, hv⟩
  | .clo _ _, _, ⟨ps, hv, h⟩ => ⟨ps, hv, h.mon m⟩

theorem RelSVs.mon (m : Mon w σ G w' σ' G') : ∀ {l : List SV} {vs : List Value}, RelSVs w σ G l vs → RelSVs w' σ' G' l vs
  | [], [], _ => trivial
  | _ :: _, _ :: _, h => ⟨h.1.mon m, RelSVs.mon m h.2⟩

theorem RelKV.mon (m : Mon w σ G w' σ' G') : ∀ {s : KV} {v : Value}, RelKV w σ G s v → RelKV w' σ' G' s v
  | .none, _, _ => trivial
  | .sv _, _, h => RelSV.mon m h
  | .tup _, _, ⟨vs, hv, h⟩ => ⟨vs, hv, h.mon m⟩
  | .box _, _, _ => trivial
  | .ex _ _, _, _ => trivial
  | .fz _ _, _, _ => trivial
  | .gone, _, _ => trivial
  | .held _ _, _, _ => trivial

theorem RelCs.length : ∀ {cs : List LC} {vs : List Value}, RelCs w σ G cs vs → cs.length = vs.length
  | [], [], _ => rfl
  | _ :: _, _ :: _, h => by simp [RelCs.length h.2]

theorem RelCs.append : ∀ {cs ds : List LC} {vs us : List Value}, RelCs w σ G cs vs → RelCs w σ G ds us → RelCs w σ G (cs ++ ds) (vs ++ us)
  | [], _, [], _, _, h => h
  | _ :: _, _, _ :: _, _, h, h' => ⟨h.1, RelCs.append h.2 h'⟩

theorem RelCs.take : ∀ {cs : List LC} {vs : List Value} (n : Nat), RelCs w σ G cs vs → RelCs w σ G (cs.take n) (vs.take n)
  | _, _, 0, _ => by simp [RelCs]
  | [], [], _ + 1, _ => by simp [RelCs]
  | _ :: _, _ :: _, n + 1, h => ⟨h.1, RelCs.take n h.2⟩

theorem RelCs.drop : ∀ {cs : List LC} {vs : List Value} (n : Nat), RelCs w σ G cs vs → RelCs w σ G (cs.drop n) (vs.drop n)
  | cs, vs, 0, h => by simpa using h
  | [], [], _ + 1, _ => by simp [RelCs]
  | _ :: _, _ :: _, n + 1, h => by simpa using RelCs.drop n h.2

theorem RelCs.get : ∀ {cs : List LC} {vs : List Value} {j : Nat} {c : LC}, RelCs w σ G cs vs → cs[j]? = some c → ∃ v, vs[j]? = some v ∧ RelLC w σ G c v
  | _ :: _, _ :: _, 0, _, h, hj => by simp at hj; subst hj; exact ⟨_, rfl, h.1⟩
  | _ :: _, _ :: _, j + 1, _, h, hj => by
    obtain ⟨v, hv, hr⟩ := RelCs.get h.2 (by simpa using hj)
    exact ⟨v, by simpa using hv, hr⟩

/-- The cells of data without blocks of their own. -/
theorem RelCs.lcs : ∀ {t : Ty} {x : t.Den} {vs : List Value}, ORep w G.S t x vs [] → RelCs w σ G (t.lcs x) vs
  | .int _, _, _, h => by rw [h.1]; exact ⟨⟨rfl, rfl⟩, trivial⟩
  | .bool, _, _, h => by rw [h.1]; exact ⟨⟨rfl, rfl⟩, trivial⟩
  | .str, _, _, h => by rw [h.1]; exact ⟨⟨rfl, rfl⟩, trivial⟩
  | .sl r, x, vs, h => by
    obtain ⟨hU, A, cap, hv, hl, hh⟩ := h
    subst hv
    exact ⟨⟨rfl, A, cap, rfl, hl, hh⟩, trivial⟩
  | .ow r, x, vs, h => by
    obtain ⟨A, cap, hv, hl, hh⟩ := h
    subst hv
    refine ⟨⟨rfl, A, cap, rfl, hl, ?_⟩, trivial⟩
    rcases hh with ⟨h1, h2, _⟩ | ⟨b, o, arr, el, fz, U', _, _, _, _, hU, _⟩
    · exact .inl ⟨h1, h2⟩
    · cases hU
  | .nil, _, _, h => by rw [h.1]; trivial
  | .cons t r, x, vs, h => by
    obtain ⟨v1, v2, U1, U2, hv, hU, h1, h2⟩ := h
    have hU' : U1 = [] ∧ U2 = [] := by simpa using hU.symm
    obtain ⟨rfl, rfl⟩ := hU'
    subst hv
    exact (RelCs.lcs (t := t) (x := x.1) h1).append (RelCs.lcs (t := r) (x := x.2) h2)

/-- The cells of the zero value. -/
def Ty.zvs : Ty → List Value
  | .int k => [.int k 0]
  | .bool => [.bool false]
  | .str => [.string ⟨#[]⟩]
  | .sl _ => [.slice none 0 0]
  | .ow _ => [.slice none 0 0]
  | .nil => []
  | .cons t r => t.zvs ++ r.zvs
  | .alt _ _ => []

theorem RelCs.zcs : ∀ {t : Ty}, RelCs w σ G t.zcs t.zvs
  | .int _ => ⟨⟨rfl, rfl⟩, trivial⟩
  | .bool => ⟨⟨rfl, rfl⟩, trivial⟩
  | .str => ⟨⟨rfl, rfl⟩, trivial⟩
  | .sl _ => ⟨rfl, trivial⟩
  | .ow _ => ⟨rfl, trivial⟩
  | .nil => trivial
  | .cons _ _ => RelCs.append RelCs.zcs RelCs.zcs
  | .alt _ _ => trivial

theorem Ty.zvs_length : ∀ {t : Ty}, t.zvs.length = t.size
  | .int _ => rfl
  | .bool => rfl
  | .str => rfl
  | .sl _ => rfl
  | .ow _ => rfl
  | .nil => rfl
  | .cons t r => by simp [Ty.zvs, Ty.size, Ty.zvs_length (t := t), Ty.zvs_length (t := r)]
  | .alt _ _ => rfl

theorem Ty.zero_rep {S : Nat → Prop} : ∀ {t : Ty}, t.plain = true → ORep w S t t.zero t.zvs []
  | .int _, _ => ⟨rfl, rfl⟩
  | .bool, _ => ⟨rfl, rfl⟩
  | .str, _ => ⟨rfl, rfl⟩
  | .sl _, _ => ⟨rfl, none, 0, rfl, Nat.le_refl _, .inl ⟨rfl, rfl⟩⟩
  | .nil, _ => ⟨rfl, rfl⟩
  | .cons t r, h => by
    simp [Ty.plain] at h
    exact ⟨_, _, [], [], rfl, rfl, Ty.zero_rep h.1, Ty.zero_rep h.2⟩
end

/-! ### states -/
/-- A state holds of slots and memory. -/
def Rel (B : Base) (N : Nat) (σ : Sg) (a : Act) (w : World) : Prop :=
  ∃ G, Hp B σ w G ∧ a.defers = [] ∧ a.tmps.size = N ∧ ∀ n, RelKV w σ G (σ (kS n)) (a.tmps.getD n undef)

theorem put_getD {a : Act} {d : Nat} {v : Value} (hd : d < a.tmps.size) (n : Nat) : (a.put (some d) v).tmps.getD n undef = if n = d then v else a.tmps.getD n undef := by
  simp only [Act.put]
  by_cases h : n = d
  · subst h
    simp [Array.getD_eq_getD_getElem?, hd]
  · simp [Array.getD_eq_getD_getElem?, Ne.symm h, h]

/-- The end of a step: what is known anew; the slots but one as they were. -/
theorem Rel.close {B : Base} {N : Nat} {σ σ' : Sg} {a : Act} {w w' : World} {G G' : Gh} {dst : Option Nat} {v : Value}
    (hd : a.defers = []) (hn : a.tmps.size = N) (hs : ∀ n, RelKV w σ G (σ (kS n)) (a.tmps.getD n undef)) (m : Mon w σ G w' σ' G') (hp : Hp B σ' w' G')
    (hlt : ∀ d, dst = some d → d < N) (hold : ∀ n, dst ≠ some n → σ' (kS n) = σ (kS n)) (hnew : ∀ d, dst = some d → RelKV w' σ' G' (σ' (kS d)) v) :
    Rel B N σ' (a.put dst v) w' := by
  refine ⟨G', hp, ?_, ?_, fun n => ?_⟩
  · cases dst <;> exact hd
  · cases dst
    · exact hn
    · simpa [Act.put] using hn
  · cases hdst : dst with
    | none => rw [hold n (by rw [hdst]; simp)]; exact (hs n).mon m
    | some d =>
      rw [put_getD (by rw [hn]; exact hlt d hdst)]
      by_cases hnd : n = d
      · subst hnd; rw [if_pos rfl]; exact hnew n hdst
      · rw [if_neg hnd, hold n (by rw [hdst]; simp; exact fun h => hnd h.symm)]; exact (hs n).mon m

/-- Slots alone are written: memory stays as it is known. -/
theorem Hp.slots {B : Base} {σ σ' : Sg} {w : World} {G : Gh} (h : Hp B σ w G) (he : ∀ k, isKey k → σ' k = σ k) : Hp B σ' w G := by
  have m : Mon w σ G w σ' G := ⟨fun _ h => h, fun _ _ => rfl, fun k hk hn => ⟨by rw [he k hk]; exact hn, rfl⟩,
    fun n p _ hp => by rw [he _ (isKey_kX n)] at hp; exact hp, fun n p _ hx => by rw [he _ (isKey_kX n)] at hx; exact hx⟩
  refine ⟨h.shared, h.s0, fun n cs hn => ?_, fun n r xs hn => ?_, fun n r xs hn => ?_, fun k b hk hl => ?_, fun k hk hl => ?_, fun k k' b hk hk' hl hl' => ?_, h.frame, h.size, fun n r xs hn => ?_, fun k p hk hp hn => by rw [he k hk] at hn ⊢; exact h.pin k p hk hp hn, h.side⟩
  · rw [he _ (isKey_kB n)] at hn
    obtain ⟨b, o, arr, el, fz, h1, h2, h3, h4, h5, vs, h6, h7⟩ := h.box n cs hn
    exact ⟨b, o, arr, el, fz, h1, h2, h3, h4, h5, vs, h6, h7.mon m⟩
  · rw [he _ (isKey_kX n)] at hn; exact h.ex n r xs hn
  · rw [he _ (isKey_kX n)] at hn; exact h.fz n r xs hn
  · rw [he k hk] at hl; exact h.own k b hk hl
  · rw [he k hk] at hl; exact h.nodup k hk hl
  · rw [he k hk] at hl; rw [he k' hk'] at hl'; exact h.apart k k' b hk hk' hl hl'
  · rw [he _ (isKey_kX n)] at hn; exact h.plain n r xs hn

theorem Mon.slots {σ σ' : Sg} {w : World} {G : Gh} (he : ∀ k, isKey k → σ' k = σ k) : Mon w σ G w σ' G :=
  ⟨fun _ h => h, fun _ _ => rfl, fun k hk hn => ⟨by rw [he k hk]; exact hn, rfl⟩,
    fun n p _ hp => by rw [he _ (isKey_kX n)] at hp; exact hp, fun n p _ hx => by rw [he _ (isKey_kX n)] at hx; exact hx⟩

end Rg

/- The ring framework, part E: steps of memory. -/
namespace Rg
open Go

theorem ORep.heapEq {w w' : World} {S : Nat → Prop} (h : w'.heap = w.heap) {t : Ty} {x : t.Den} {vs : List Value} {U : List Nat} (ho : ORep w S t x vs U) : ORep w' S t x vs U :=
  ho.mono (fun _ h => h) fun b _ => by rw [h]

section
variable {B : Base} {w w' : World} {σ σ' : Sg} {G G' : Gh}

/-- Memory and some keys change. -/
theorem Hp.change (h : Hp B σ w G) (m : Mon w σ G w' σ' G') (C : Nat → Prop)
    (hsame : ∀ k, isKey k → ¬ C k → σ' k = σ k ∧ G'.bl k = G.bl k ∧ G'.at_ k = G.at_ k)
    (hheap : ∀ k b, isKey k → ¬ C k → isLive (σ k) = true → b ∈ G.bl k → w'.heap[b]? = w.heap[b]? ∧ ¬ G'.S b)
    (hbox : ∀ n cs, C (kB n) → σ' (kB n) = .box cs → ∃ b o arr el fz, G'.at_ (kB n) = some (b, o, 0) ∧ G'.bl (kB n) = [b] ∧ w'.heap[b]? = some (.cells arr el fz) ∧
      isFree fz arr.size ∧ o + cs.length ≤ arr.size ∧ ∃ vs, rowAt' arr o vs ∧ RelCs w' σ' G' cs vs)
    (hex : ∀ n r xs, C (kX n) → σ' (kX n) = .ex r xs → ORep w' G'.S (.ow r) xs [hdrOf G' (kX n) xs.length] (G'.bl (kX n)))
    (hfz : ∀ n r xs, C (kX n) → σ' (kX n) = .fz r xs → ORep w' G'.S (.sl r) xs [hdrOf G' (kX n) xs.length] [])
    (hown : ∀ k b, isKey k → C k → isLive (σ' k) = true → b ∈ G'.bl k → b < w'.heap.size ∧ ¬ G'.S b ∧ (B.n0 ≤ b ∨ B.W b))
    (hnodup : ∀ k, isKey k → C k → isLive (σ' k) = true → (G'.bl k).Nodup)
    (hapart : ∀ k k' b, isKey k → isKey k' → C k → isLive (σ' k) = true → isLive (σ' k') = true → b ∈ G'.bl k → b ∈ G'.bl k' → k = k')
    (hS : ∀ b, G'.S b → b < w'.heap.size ∧ (B.n0 ≤ b ∨ B.S0 b ∨ B.W b))
    (hframe : ∀ b, b < B.n0 → ¬ B.W b → w'.heap[b]? = w.heap[b]?) (hgrow : w.heap.size ≤ w'.heap.size)
    (hplain : ∀ n (r : Ty) xs, C (kX n) → σ' (kX n) = .ex r xs → r.plain = true)
    (hpin : ∀ k p, isKey k → σ k = .none → σ' k ≠ .none → B.pin k = some p → G'.at_ k = p ∧ ∀ n r m, k = kX n → (σ' k).ex? = some (r, m) → m = B.plen n)
    (hside : Side w w' := by exact ⟨rfl, rfl, rfl⟩) : Hp B σ' w' G' := by
  refine ⟨hS, fun b hb => m.S b (h.s0 b hb), fun n cs hn => ?_, fun n r xs hn => ?_, fun n r xs hn => ?_, fun k b hk hl hb => ?_, fun k hk hl => ?_, fun k k' b hk hk' hl hl' hb hb' => ?_, fun b hb hW => ?_, Nat.le_trans h.size hgrow, fun n r xs hn => ?_, fun k p hk hp hn => ?_, h.side.trans hside⟩
  · by_cases hc : C (kB n)
    · exact hbox n cs hc hn
    · obtain ⟨e1, e2, e3⟩ := hsame _ (isKey_kB n) hc
      rw [e1] at hn
      obtain ⟨b, o, arr, el, fz, h1, h2, h3, h4, h5, vs, h6, h7⟩ := h.box n cs hn
      have := (hheap _ b (isKey_kB n) hc (by rw [hn]; rfl) (by rw [h2]; simp)).1
      exact ⟨b, o, arr, el, fz, by rw [e3]; exact h1, by rw [e2]; exact h2, by rw [this]; exact h3, h4, h5, vs, h6, h7.mon m⟩
  · by_cases hc : C (kX n)
    · exact hex n r xs hc hn
    · obtain ⟨e1, e2, e3⟩ := hsame _ (isKey_kX n) hc
      rw [e1] at hn
      have := h.ex n r xs hn
      rw [e2]
      have eh : hdrOf G' (kX n) xs.length = hdrOf G (kX n) xs.length := by unfold hdrOf; rw [e3]
      rw [eh]
      exact this.mono m.S fun b hb => hb.elim (m.heap b) fun hb => (hheap _ b (isKey_kX n) hc (by rw [hn]; rfl) hb).1
  · by_cases hc : C (kX n)
    · exact hfz n r xs hc hn
    · obtain ⟨e1, e2, e3⟩ := hsame _ (isKey_kX n) hc
      rw [e1] at hn
      have eh : hdrOf G' (kX n) xs.length = hdrOf G (kX n) xs.length := by unfold hdrOf; rw [e3]
      rw [eh]
      exact (h.fz n r xs hn).mono m.S fun b hb => hb.elim (m.heap b) fun hb => by simp at hb
  · by_cases hc : C k
    · exact hown k b hk hc hl hb
    · obtain ⟨e1, e2, e3⟩ := hsame _ hk hc
      rw [e1] at hl; rw [e2] at hb
      obtain ⟨h1, h2, h3⟩ := h.own k b hk hl hb
      exact ⟨Nat.lt_of_lt_of_le h1 hgrow, (hheap k b hk hc hl hb).2, h3⟩
  · by_cases hc : C k
    · exact hnodup k hk hc hl
    · obtain ⟨e1, e2, e3⟩ := hsame _ hk hc
      rw [e1] at hl; rw [e2]
      exact h.nodup k hk hl
  · by_cases hc : C k
    · exact hapart k k' b hk hk' hc hl hl' hb hb'
    · by_cases hc' : C k'
      · exact (hapart k' k b hk' hk hc' hl' hl hb' hb).symm
      · obtain ⟨e1, e2, e3⟩ := hsame _ hk hc
        obtain ⟨f1, f2, f3⟩ := hsame _ hk' hc'
        rw [e1] at hl; rw [f1] at hl'; rw [e2] at hb; rw [f2] at hb'
        exact h.apart k k' b hk hk' hl hl' hb hb'
  · rw [hframe b hb hW]; exact h.frame b hb hW
  · by_cases hc : C (kX n)
    · exact hplain n r xs hc hn
    · rw [(hsame _ (isKey_kX n) hc).1] at hn; exact h.plain n r xs hn
  · by_cases h0 : σ k = .none
    · exact hpin k p hk h0 hn hp
    · obtain ⟨h1, h2⟩ := h.pin k p hk hp h0
      refine ⟨by rw [(m.key k hk h0).2]; exact h1, fun n r l e hx => h2 n r l e ?_⟩
      subst e
      exact m.exx n (r, l) h0 hx

/-- What is to be said of a pinned key. -/
def PinOk (B : Base) (at_ : Nat → Option (Nat × Nat × Nat)) (k : Nat) (v : KV) (p : Option (Nat × Nat × Nat)) : Prop :=
  at_ k = p ∧ ∀ n r m, k = kX n → v.ex? = some (r, m) → m = B.plen n

omit G G' in
theorem pin_old {k0 : Nat} {v : KV} {at_ : Nat → Option (Nat × Nat × Nat)} (h0 : σ k0 ≠ .none) : ∀ k p, isKey k → σ k = .none → put σ k0 v k ≠ .none → B.pin k = some p → PinOk B at_ k (put σ k0 v k) p := by
  intro k p _ h1 h2 _
  by_cases e : k = k0
  · subst e; exact absurd h1 h0
  · rw [put_ne e] at h2; exact absurd h1 h2

omit G G' in
theorem pin_new {k0 : Nat} {v : KV} {at_ : Nat → Option (Nat × Nat × Nat)} (h0 : ∀ p, B.pin k0 = some p → PinOk B at_ k0 v p) : ∀ k p, isKey k → σ k = .none → put σ k0 v k ≠ .none → B.pin k = some p → PinOk B at_ k (put σ k0 v k) p := by
  intro k p _ h1 h2 hp
  by_cases e : k = k0
  · subst e; rw [put_eq]; exact h0 p hp
  · rw [put_ne e] at h2; exact absurd h1 h2

omit G G' in
theorem pin_none {k0 : Nat} {v : KV} {at_ : Nat → Option (Nat × Nat × Nat)} (h0 : B.pin k0 = none) : ∀ k p, isKey k → σ k = .none → put σ k0 v k ≠ .none → B.pin k = some p → PinOk B at_ k (put σ k0 v k) p :=
  pin_new fun p hp => by rw [h0] at hp; cases hp

/-- The number of draws alone has changed. -/
theorem Hp.heapEq (h : Hp B σ w G) (e : w'.heap = w.heap) (hside : Side w w' := by exact ⟨rfl, rfl, rfl⟩) : Hp B σ w' G := by
  have m : Mon w σ G w' σ G := ⟨fun _ h => h, fun _ _ => by rw [e], fun _ _ h => ⟨h, rfl⟩, fun _ _ _ h => h, fun _ _ _ h => h⟩
  exact h.change m (fun _ => False) (fun _ _ _ => ⟨rfl, rfl, rfl⟩) (fun k b hk _ hl hb => ⟨by rw [e], (h.own k b hk hl hb).2.1⟩) (fun _ _ h => h.elim) (fun _ _ _ h => h.elim)
    (fun _ _ _ h => h.elim) (fun _ _ _ h => h.elim) (fun _ _ h => h.elim) (fun _ _ _ _ _ h => h.elim) (fun b hb => by rw [e]; exact h.shared b hb) (fun _ _ _ => by rw [e]) (by rw [e]; exact Nat.le_refl _) (fun _ _ _ h => h.elim) (fun _ _ _ h1 h2 => absurd h1 h2) hside

theorem Mon.heapEq (e : w'.heap = w.heap) : Mon w σ G w' σ G :=
  ⟨fun _ h => h, fun _ _ => by rw [e], fun _ _ h => ⟨h, rfl⟩, fun _ _ _ h => h, fun _ _ _ h => h⟩

/-- What is known of one key anew. -/
def Gh.set (G : Gh) (k : Nat) (p : Option (Nat × Nat × Nat)) (bl : List Nat) : Gh :=
  { G with at_ := fun n => if n = k then p else G.at_ n, bl := fun n => if n = k then bl else G.bl n }

theorem Mon.new {k : Nat} {kv : KV} {p : Option (Nat × Nat × Nat)} {bl : List Nat} (hnone : σ k = .none) (hheap : ∀ b, G.S b → w'.heap[b]? = w.heap[b]?) :
    Mon w σ G w' (put σ k kv) (G.set k p bl) := by
  have ne : ∀ j, σ j ≠ .none → j ≠ k := fun j hj e => hj (e ▸ hnone)
  refine ⟨fun _ h => h, hheap, fun j _ hj => ⟨?_, ?_⟩, fun n p hn hp => ?_, fun n p hn hx => ?_⟩
  · rw [put_ne (ne j hj)]; exact hj
  · simp only [Gh.set]; rw [if_neg (ne j hj)]
  · rw [put_ne (ne _ hn)] at hp; exact hp
  · rw [put_ne (ne _ hn)] at hx; exact hx

/-- A new block, and a key for it: a struct. -/
theorem Hp.newBox (h : Hp B σ w G) {n : Nat} {cs : List LC} {vs : List Value} {arr : Array Value} {el : TypeId} (hlow : n < 1000000000) (hnone : σ (kB n) = .none) (hh : w'.heap = w.heap.push (.cells arr el))
    (hl : arr.toList = vs) (hr : RelCs w σ G cs vs) (hside : Side w w' := by exact ⟨rfl, rfl, rfl⟩) :
    Hp B (put σ (kB n) (.box cs)) w' (G.set (kB n) (some (w.heap.size, 0, 0)) [w.heap.size]) ∧ Mon w σ G w' (put σ (kB n) (.box cs)) (G.set (kB n) (some (w.heap.size, 0, 0)) [w.heap.size]) := by
  have old : ∀ b, b < w.heap.size → w'.heap[b]? = w.heap[b]? := fun b hb => by rw [hh, Array.getElem?_push_lt hb, Array.getElem?_eq_getElem hb]
  have m : Mon w σ G w' (put σ (kB n) (.box cs)) (G.set (kB n) (some (w.heap.size, 0, 0)) [w.heap.size]) := Mon.new hnone fun b hb => old b (h.shared b hb).1
  have hsz : w'.heap.size = w.heap.size + 1 := by rw [hh]; simp
  refine ⟨h.change m (fun k => k = kB n) ?_ ?_ ?_ ?_ ?_ ?_ ?_ ?_ ?_ ?_ ?_ (fun n' r xs hk => absurd hk.symm (kB_ne_kX _ _)) (pin_none (Base.low (kB_low hlow))) hside, m⟩
  · intro k _ hk
    exact ⟨put_ne hk, by simp only [Gh.set]; rw [if_neg hk], by simp only [Gh.set]; rw [if_neg hk]⟩
  · intro k b hk _ hlv hb
    obtain ⟨h1, h2, _⟩ := h.own k b hk hlv hb
    exact ⟨old b h1, h2⟩
  · intro n' cs' hn' hcs
    obtain rfl := kB_inj hn'
    rw [put_eq] at hcs; cases hcs
    refine ⟨w.heap.size, 0, arr, el, (0, 0), by simp [Gh.set], by simp [Gh.set], by rw [hh]; simp, fun j _ h => by omega, ?_, vs, fun j v hj => ?_, hr.mon m⟩
    · have := hr.length
      have : arr.size = vs.length := by rw [← hl]; simp
      omega
    · rw [← hl] at hj; simpa using hj
  · intro n' r xs hk; exact absurd hk.symm (kB_ne_kX _ _)
  · intro n' r xs hk; exact absurd hk.symm (kB_ne_kX _ _)
  · intro k b _ hk _ hb
    subst hk
    simp [Gh.set] at hb
    subst hb
    exact ⟨by omega, fun hs => by have := (h.shared _ hs).1; omega, .inl h.size⟩
  · intro k _ hk _; subst hk; simp [Gh.set]
  · intro k k' b hk hk' hc hlv hlv' hb hb'
    subst hc
    simp [Gh.set] at hb
    subst hb
    by_cases hc' : k' = kB n
    · exact hc'.symm
    · exfalso
      rw [put_ne hc'] at hlv'
      simp only [Gh.set, if_neg hc'] at hb'
      have := (h.own k' _ hk' hlv' hb').1
      omega
  · intro b hb
    obtain ⟨h1, h2⟩ := h.shared b hb
    exact ⟨by omega, h2⟩
  · intro b hb _
    exact old b (Nat.lt_of_lt_of_le hb h.size)
  · omega

/-- A new block, and a key for it: an exclusive slice of plain data. -/
theorem Hp.newXf (h : Hp B σ w G) {n : Nat} {r : Ty} {xs : List r.Den} {arr : Array Value} {el : TypeId} {fz : Nat × Nat} {cap : Nat} (hlow : n < 1000000000) (hfree : isFreeR r fz arr.size) (hnone : σ (kX n) = .none) (hh : w'.heap = w.heap.push (.cells arr el fz))
    (hpl : r.plain = true) (hc : xs.length ≤ cap) (hsz : cap * r.size ≤ arr.size) (hr : Rows (ORep w G.S r) arr r.size xs 0 []) (hside : Side w w' := by exact ⟨rfl, rfl, rfl⟩) :
    Hp B (put σ (kX n) (.ex r xs)) w' (G.set (kX n) (some (w.heap.size, 0, cap)) [w.heap.size]) ∧ Mon w σ G w' (put σ (kX n) (.ex r xs)) (G.set (kX n) (some (w.heap.size, 0, cap)) [w.heap.size]) := by
  have old : ∀ b, b < w.heap.size → w'.heap[b]? = w.heap[b]? := fun b hb => by rw [hh, Array.getElem?_push_lt hb, Array.getElem?_eq_getElem hb]
  have m : Mon w σ G w' (put σ (kX n) (.ex r xs)) (G.set (kX n) (some (w.heap.size, 0, cap)) [w.heap.size]) := Mon.new hnone fun b hb => old b (h.shared b hb).1
  have hsz' : w'.heap.size = w.heap.size + 1 := by rw [hh]; simp
  refine ⟨h.change m (fun k => k = kX n) ?_ ?_ ?_ ?_ ?_ ?_ ?_ ?_ ?_ ?_ ?_ (fun n' r' xs' hn' hx => by obtain rfl := kX_inj hn'; rw [put_eq] at hx; cases hx; exact hpl) (pin_none (Base.low (kX_low hlow))) hside, m⟩
  · intro k _ hk
    exact ⟨put_ne hk, by simp only [Gh.set]; rw [if_neg hk], by simp only [Gh.set]; rw [if_neg hk]⟩
  · intro k b hk _ hlv hb
    obtain ⟨h1, h2, _⟩ := h.own k b hk hlv hb
    exact ⟨old b h1, h2⟩
  · intro n' cs hk; exact absurd hk (kB_ne_kX _ _)
  · intro n' r' xs' hn' hx
    obtain rfl := kX_inj hn'
    rw [put_eq] at hx; cases hx
    refine ⟨some ⟨w.heap.size, 0, none⟩, cap, by simp [hdrOf, Gh.set], hc, .inr ⟨w.heap.size, 0, arr, el, fz, [], rfl, by rw [hh]; simp, hfree, by omega, by simp [Gh.set], ?_⟩⟩
    exact hr.mono fun x cs U' hs ha => ha.mono m.S fun b hb => hb.elim (fun hb => old b (h.shared b hb).1) fun hb => absurd (hs b hb) (by simp)
  · intro n' r' xs' hn' hx
    obtain rfl := kX_inj hn'
    rw [put_eq] at hx; cases hx
  · intro k b _ hk _ hb
    subst hk
    simp [Gh.set] at hb
    subst hb
    exact ⟨by omega, fun hs => by have := (h.shared _ hs).1; omega, .inl h.size⟩
  · intro k _ hk _; subst hk; simp [Gh.set]
  · intro k k' b hk hk' hc hlv hlv' hb hb'
    subst hc
    simp [Gh.set] at hb
    subst hb
    by_cases hc' : k' = kX n
    · exact hc'.symm
    · exfalso
      rw [put_ne hc'] at hlv'
      simp only [Gh.set, if_neg hc'] at hb'
      have := (h.own k' _ hk' hlv' hb').1
      omega
  · intro b hb
    obtain ⟨h1, h2⟩ := h.shared b hb
    exact ⟨by omega, h2⟩
  · intro b hb _
    exact old b (Nat.lt_of_lt_of_le hb h.size)
  · omega

theorem Hp.newX (h : Hp B σ w G) {n : Nat} {r : Ty} {xs : List r.Den} {arr : Array Value} {el : TypeId} {cap : Nat} (hlow : n < 1000000000) (hnone : σ (kX n) = .none) (hh : w'.heap = w.heap.push (.cells arr el))
    (hpl : r.plain = true) (hc : xs.length ≤ cap) (hsz : cap * r.size ≤ arr.size) (hr : Rows (ORep w G.S r) arr r.size xs 0 []) (hside : Side w w' := by exact ⟨rfl, rfl, rfl⟩) :
    Hp B (put σ (kX n) (.ex r xs)) w' (G.set (kX n) (some (w.heap.size, 0, cap)) [w.heap.size]) ∧ Mon w σ G w' (put σ (kX n) (.ex r xs)) (G.set (kX n) (some (w.heap.size, 0, cap)) [w.heap.size]) :=
  h.newXf (fz := (0, 0)) hlow ⟨fun j _ h => by omega, fun _ h => by omega⟩ hnone hh hpl hc hsz hr hside

/-- A key for a slice that is nil. -/
theorem Hp.nilX (h : Hp B σ w G) {n : Nat} {r : Ty} (hlow : n < 1000000000) (hpl : r.plain = true) (hnone : σ (kX n) = .none) :
    Hp B (put σ (kX n) (.ex r [])) w (G.set (kX n) none []) ∧ Mon w σ G w (put σ (kX n) (.ex r [])) (G.set (kX n) none []) := by
  have m : Mon w σ G w (put σ (kX n) (.ex r [])) (G.set (kX n) none []) := Mon.new hnone fun b hb => rfl
  refine ⟨h.change m (fun k => k = kX n) ?_ ?_ ?_ ?_ ?_ ?_ ?_ ?_ (fun b hb => h.shared b hb) (fun _ _ _ => rfl) (Nat.le_refl _) (fun n' r' xs' hn' hx => by obtain rfl := kX_inj hn'; rw [put_eq] at hx; cases hx; exact hpl) (pin_none (Base.low (kX_low hlow))), m⟩
  · intro k _ hk
    exact ⟨put_ne hk, by simp only [Gh.set]; rw [if_neg hk], by simp only [Gh.set]; rw [if_neg hk]⟩
  · intro k b hk _ hlv hb
    exact ⟨rfl, (h.own k b hk hlv hb).2.1⟩
  · intro n' cs hk; exact absurd hk (kB_ne_kX _ _)
  · intro n' r' xs' hn' hx
    obtain rfl := kX_inj hn'
    rw [put_eq] at hx; cases hx
    exact ⟨none, 0, by simp [hdrOf, Gh.set], Nat.le_refl _, .inl ⟨rfl, rfl, by simp [Gh.set]⟩⟩
  · intro n' r' xs' hn' hx
    obtain rfl := kX_inj hn'
    rw [put_eq] at hx; cases hx
  · intro k b _ hk _ hb; subst hk; simp [Gh.set] at hb
  · intro k _ hk _; subst hk; simp [Gh.set]
  · intro k k' b hk hk' hc hlv hlv' hb hb'; subst hc; simp [Gh.set] at hb

/-- A key is given away. -/
theorem Hp.gone (h : Hp B σ w G) {k : Nat} (hk : isKey k) (hs : σ k ≠ .none) : Hp B (put σ k .gone) w G ∧ Mon w σ G w (put σ k .gone) G := by
  have m : Mon w σ G w (put σ k .gone) G := by
    refine ⟨fun _ h => h, fun _ _ => rfl, fun j _ hj => ⟨?_, rfl⟩, fun n p hn hp => ?_, fun n p hn hx => ?_⟩
    · by_cases e : j = k
      · subst e; rw [put_eq]; simp
      · rw [put_ne e]; exact hj
    · by_cases e : kX n = k
      · rw [e, put_eq] at hp; cases hp
      · rw [put_ne e] at hp; exact hp
    · by_cases e : kX n = k
      · rw [e, put_eq] at hx; cases hx
      · rw [put_ne e] at hx; exact hx
  have dead : ∀ j, j = k → isLive (put σ k .gone j) = true → False := fun j e hl => by subst e; rw [put_eq] at hl; cases hl
  refine ⟨h.change m (fun j => j = k) (fun j _ hj => ⟨put_ne hj, rfl, rfl⟩) (fun j b hj _ hl hb => ⟨rfl, (h.own j b hj hl hb).2.1⟩) ?_ ?_ ?_ ?_ ?_ ?_ (fun b hb => h.shared b hb) (fun _ _ _ => rfl) (Nat.le_refl _) (fun n r xs e hx => by rw [e, put_eq] at hx; cases hx) (pin_old hs), m⟩
  · intro n cs e hx; rw [e, put_eq] at hx; cases hx
  · intro n r xs e hx; rw [e, put_eq] at hx; cases hx
  · intro n r xs e hx; rw [e, put_eq] at hx; cases hx
  · intro j b _ e hl _; exact (dead j e hl).elim
  · intro j _ e hl; exact (dead j e hl).elim
  · intro j j' b _ _ e hl; exact (dead j e hl).elim

/-- The same key is known by other blocks of memory where it is not used: nothing hangs on it. -/
theorem ORep.sl_of_ow {S S' : Nat → Prop} (hS : ∀ b, S b → S' b) {r : Ty} {xs : List r.Den} {vs : List Value} {U : List Nat} (h : ORep w S (.ow r) xs vs U) (hp : ∀ b, b ∈ U → S' b)
    {q : Ty} (hq : r.beqP q = true) : ORep w S' (.sl q) (cast (congrArg List (Ty.beqP_den hq)) xs) vs [] :=
  ORep.freeze (t := .ow r) (t' := .sl q) hS (by simpa [Ty.beqP] using hq) h hp

/-- An exclusive slice is shared from now on. -/
theorem Hp.freeze (h : Hp B σ w G) {n : Nat} {r q : Ty} {xs : List r.Den} (hx : σ (kX n) = .ex r xs) (hq : r.beqP q = true) :
    Hp B (put σ (kX n) (.fz q (cast (congrArg List (Ty.beqP_den hq)) xs))) w { G with S := fun b => G.S b ∨ b ∈ G.bl (kX n) } ∧
    Mon w σ G w (put σ (kX n) (.fz q (cast (congrArg List (Ty.beqP_den hq)) xs))) { G with S := fun b => G.S b ∨ b ∈ G.bl (kX n) } := by
  have hlen : (cast (congrArg List (Ty.beqP_den hq)) xs).length = xs.length := by rw [cast_list (Ty.beqP_den hq)]; simp
  have m : Mon w σ G w (put σ (kX n) (.fz q (cast (congrArg List (Ty.beqP_den hq)) xs))) { G with S := fun b => G.S b ∨ b ∈ G.bl (kX n) } := by
    refine ⟨fun _ h => .inl h, fun _ _ => rfl, fun j _ hj => ⟨?_, rfl⟩, fun n' p hn hp => ?_, fun n' p hn hx' => ?_⟩
    · by_cases e : j = kX n
      · subst e; rw [put_eq]; simp
      · rw [put_ne e]; exact hj
    · by_cases e : kX n' = kX n
      · obtain rfl := kX_inj e
        rw [put_eq] at hp
        rw [hx]
        simp only [KV.len?, hlen] at hp ⊢
        rw [← hp, Ty.beqP_size hq]
      · rw [put_ne e] at hp; exact hp
    · by_cases e : kX n' = kX n
      · rw [e, put_eq] at hx'; cases hx'
      · rw [put_ne e] at hx'; exact hx'
  have live : isLive (σ (kX n)) = true := by rw [hx]; rfl
  refine ⟨h.change m (fun j => j = kX n) (fun j _ hj => ⟨put_ne hj, rfl, rfl⟩) ?_ ?_ ?_ ?_ ?_ ?_ ?_ ?_ (fun _ _ _ => rfl) (Nat.le_refl _) (fun n' r' xs' e hx' => by rw [e, put_eq] at hx'; cases hx') (pin_old (by rw [hx]; simp)), m⟩
  · intro j b hj hne hl hb
    refine ⟨rfl, ?_⟩
    rintro (hs | hs)
    · exact (h.own j b hj hl hb).2.1 hs
    · exact hne (h.apart j (kX n) b hj (isKey_kX n) hl live hb hs)
  · intro n' cs e; exact absurd e (kB_ne_kX _ _)
  · intro n' r' xs' e hx'; rw [e, put_eq] at hx'; cases hx'
  · intro n' r' xs' e hx'
    obtain rfl := kX_inj e
    rw [put_eq] at hx'; cases hx'
    rw [hlen]
    exact ORep.sl_of_ow (fun _ h => .inl h) (h.ex n' r xs hx) (fun b hb => .inr hb) hq
  · intro j b _ e hl; subst e; rw [put_eq] at hl; cases hl
  · intro j _ e hl; subst e; rw [put_eq] at hl; cases hl
  · intro j j' b _ _ e hl; subst e; rw [put_eq] at hl; cases hl
  · rintro b (hs | hs)
    · exact h.shared b hs
    · obtain ⟨h1, _, h3⟩ := h.own (kX n) b (isKey_kX n) live hs
      exact ⟨h1, h3.elim .inl fun h => .inr (.inr h)⟩
end

end Rg

/- The ring framework, part F: operations that leave memory alone. -/
namespace Rg
open Go

/-- What the program says of a type's description. -/
def TyD (P : Program) (E : Env) (t : TypeId) : Ty → TypeDesc → Prop
  | .int k, d => d = .int k
  | .bool, d => d = .bool
  | .str, d => d = .string
  | .sl q, d => ∃ e ie z, d = .slice e ∧ P.info? e = some ie ∧ ie.size = q.size ∧ ie.bytes = E.eb t ∧ ie.zero = some z ∧ z.cells = q.zvs.toArray ∧ 1 ≤ q.size ∧
      (q = .int .u8 → P.underlying e = some (.int .u8)) ∧ 1 ≤ ie.bytes
  | .ow _, _ => False
  | .alt _ _, _ => False
  | r, d => ∃ fs : Array Field, d = .struct fs ∧ ∀ f : Nat, (fs[f]?).isSome = (fieldTy r f).isSome ∧ ∀ p, fieldTy r f = some p → ∃ fd i, fs[f]? = some fd ∧ fd.offset = p.1 ∧ P.info? fd.type = some i ∧ i.size = p.2.size ∧ i.size ≠ 0

/-- What the program says of a type. -/
structure TyF (P : Program) (E : Env) (t : TypeId) (r : Ty) : Prop where
  info : ∃ i z, P.info? t = some i ∧ i.size = r.size ∧ i.zero = some z ∧ z.cells = r.zvs.toArray ∧ (r.isAgg = true → z = .agg r.zvs.toArray)
  und : ∃ d, P.underlying t = some d ∧ TyD P E t r d
  plain : r.plain = true

theorem TyF.isAgg {P : Program} {E : Env} {t : TypeId} {r : Ty} (h : TyF P E t r) (w : World) : (isAgg t).run P w = .ok r.isAgg w := by
  obtain ⟨d, hd, ht⟩ := h.und
  have hp := h.plain
  unfold Go.isAgg underlying
  simp only [Sem.run_bind, run_program, Result.andThen_ok, hd, Sem.run_pure]
  cases r <;> simp only [TyD] at ht
  · subst ht; rfl
  · subst ht; rfl
  · subst ht; rfl
  · obtain ⟨e, _, _, rfl, _⟩ := ht; rfl
  · obtain ⟨fs, rfl, _⟩ := ht; rfl
  · obtain ⟨fs, rfl, _⟩ := ht; rfl

theorem TyF.sizeOf {P : Program} {E : Env} {t : TypeId} {r : Ty} (h : TyF P E t r) (w : World) : (Go.sizeOf t).run P w = .ok r.size w := by
  obtain ⟨i, z, hi, hs, _⟩ := h.info
  unfold Go.sizeOf typeInfo
  simp [hi, hs]

section
variable {P : Program} {E : Env} {B : Base} {N : Nat} {w : World} {σ : Sg} {G : Gh} {a : Act}

theorem lcConst_sound {t : TypeId} {v : Value} {c : LC} {rs rs' : List Nat} (h : (lcConst E t v).eval σ rs = some (c, rs')) : RelLC w σ G c v := by
  unfold lcConst at h
  split at h
  · simp [T.eval] at h; rw [← h.1]; exact ⟨rfl, rfl⟩
  · simp [T.eval] at h; rw [← h.1]; exact ⟨rfl, rfl⟩
  · simp [T.eval] at h; rw [← h.1]; exact ⟨rfl, rfl⟩
  · split at h
    · simp [T.eval] at h; rw [← h.1]; rfl
    · simp [T.eval] at h
  · simp [T.eval] at h

theorem opd_sound (hs : ∀ n, RelKV w σ G (σ (kS n)) (a.tmps.getD n undef)) {t : TypeId} {x : Operand} {s : SV} {rs rs' : List Nat}
    (h : (opd E t x).eval σ rs = some (s, rs')) : RelSV w σ G s (a.eval x) := by
  cases x with
  | tmp n =>
    simp only [opd, T.eval] at h
    have := hs n
    split at h
    · rename_i s' hk
      simp only [T.eval, Option.some.injEq, Prod.mk.injEq] at h
      rw [hk] at this
      rw [← h.1]; exact this
    · simp [T.eval] at h
  | const v =>
    obtain ⟨c, r1, h1, h2⟩ := T.eval_bind _ _ h
    simp only [T.eval, Option.some.injEq, Prod.mk.injEq] at h2
    rw [← h2.1]
    exact lcConst_sound h1
  | global g => simp [opd, T.eval] at h
  | func f => simp [opd, T.eval] at h

theorem ofO_eval {α : Type} {o : Option α} {x : α} {rs rs' : List Nat} (h : (T.ofO o).eval σ rs = some (x, rs')) : o = some x ∧ rs = rs' := by
  cases o with
  | none => simp [T.ofO, T.eval] at h
  | some y => simpa [T.ofO, T.eval] using h

theorem castL_some {t t' : Ty} {x : List t.Den} {y : List t'.Den} (h : castL t t' x = some y) : ∃ e : t = t', y = e ▸ x := by
  unfold castL at h
  split at h
  · rename_i hb
    simp only [Option.some.injEq] at h
    exact ⟨Ty.beq_eq hb, h.symm⟩
  · cases h

theorem castD_some {t t' : Ty} {x : t.Den} {y : t'.Den} (h : castD t t' x = some y) : ∃ e : t = t', y = e ▸ x := by
  unfold castD at h
  split at h
  · rename_i hb
    simp only [Option.some.injEq] at h
    exact ⟨Ty.beq_eq hb, h.symm⟩
  · cases h

/-- An operation that gives a value and leaves memory alone. -/
theorem good_value {o : Oper} {K : Act → World → Prop} {Q : Exit → Act → World → Prop} {s : SV} {v : Value} {ws : List (Nat × KV)}
    (hp : Hp B σ w G) (hd : a.defers = []) (hn : a.tmps.size = N) (hs : ∀ n, RelKV w σ G (σ (kS n)) (a.tmps.getD n undef)) (hlt : ∀ d, o.dst = some d → d < N)
    (hrun : (execOp a.eval o).run P w = .ok (.value v) w) (hv : RelSV w σ G s v) (hws : ws = wr o.dst s)
    (hK : ∀ a' w', Rel B N (puts σ ws) a' w' → K a' w') : o.wp P a w K Q := by
  unfold Oper.wp
  rw [hrun]
  show K (a.put o.dst v) w
  refine hK _ _ ?_
  subst hws
  have he : ∀ k, isKey k → puts σ (wr o.dst s) k = σ k := by
    intro k hk
    unfold wr
    cases o.dst with
    | none => rfl
    | some d => exact put_ne (isKey_ne_kS hk d)
  refine Rel.close hd hn hs (Mon.slots he) (hp.slots he) hlt (fun n hne => ?_) (fun d hdst => ?_)
  · unfold wr
    cases hdst : o.dst with
    | none => rfl
    | some d => exact put_ne fun e => hne (by rw [hdst, kS_inj e])
  · have hv' := RelSV.mon (Mon.slots he) hv
    rw [hdst] at hv' ⊢
    show RelKV w _ G (puts σ (wr (some d) s) (kS d)) v
    have : puts σ (wr (some d) s) (kS d) = .sv s := put_eq
    rw [this]
    exact hv'

/-! ### arithmetic -/
theorem run_binInt {op : BinOp} {t : TypeId} {x y : Operand} {k : IntKind} {m n : Int} {c : LC} {rs rs' : List Nat}
    (h : (intOp op k m n).eval σ rs = some (c, rs')) : ∃ v, RelLC w σ G c v ∧ (do eqGuard op t x y (.int k m) (.int k n); binOp op t (.int k m) (.int k n) : Sem Value).run P w = .ok v w := by
  have hz : ∀ b : Bool, b = true → ∀ (t : T LC), (T.chk b t).eval σ rs = t.eval σ rs := by intro b hb t; subst hb; rfl
  cases op <;> simp only [intOp, T.eval] at h <;>
    first
      | (cases h; done)
      | (obtain ⟨rfl, _⟩ : _ ∧ _ := by simpa using h
         refine ⟨_, ⟨rfl, rfl⟩, ?_⟩
         simp [eqGuard, binOp, Op.intArith, Op.intBits, Op.intCmp, sBit]
         done)
      | skip
  · cases hn : (n == 0)
    · rw [hn] at h
      obtain ⟨rfl, _⟩ : _ ∧ _ := by simpa using h
      refine ⟨_, ⟨rfl, rfl⟩, ?_⟩
      have : n ≠ 0 := by simpa using hn
      simp [eqGuard, binOp, Op.intDiv, this]
    · rw [hn] at h; simp at h
  · cases hn : (n == 0)
    · rw [hn] at h
      obtain ⟨rfl, _⟩ : _ ∧ _ := by simpa using h
      refine ⟨_, ⟨rfl, rfl⟩, ?_⟩
      have : n ≠ 0 := by simpa using hn
      simp [eqGuard, binOp, Op.intDiv, this]
    · rw [hn] at h; simp at h

theorem run_binStr {op : BinOp} {t : TypeId} {x y : Operand} {m n : ByteArray} {c : LC} {rs rs' : List Nat}
    (h : (strOp op m n).eval σ rs = some (c, rs')) : ∃ v, RelLC w σ G c v ∧ (do eqGuard op t x y (.string m) (.string n); binOp op t (.string m) (.string n) : Sem Value).run P w = .ok v w := by
  cases op <;> simp only [strOp, T.eval] at h <;>
    first
      | (cases h; done)
      | (obtain ⟨rfl, _⟩ : _ ∧ _ := by simpa using h
         refine ⟨_, ⟨rfl, rfl⟩, ?_⟩
         simp [eqGuard, binOp, Op.stringOp, sEq, sLt]
         done)
      | skip
  cases hf : catFits m.size n.size
  · rw [hf] at h; simp at h
  · rw [hf] at h
    obtain ⟨rfl, _⟩ : _ ∧ _ := by simpa using h
    refine ⟨_, ⟨rfl, rfl⟩, ?_⟩
    have h1 : m.size + n.size ≤ 9223372036854775807 := Nat.le_of_ble_eq_true hf
    have h2 : ¬ (((m.size + n.size : Nat) : Int) > IntKind.i64.max) := by
      have : IntKind.i64.max = 9223372036854775807 := by decide
      rw [this]; omega
    simp [eqGuard, binOp, Op.stringOp, -Int.natCast_add]
    omega

/-- Comparable structs are compared as their data. -/
def EqF (P : Program) (t : TypeId) (r : Ty) : Prop :=
  ∀ (w : World) (S S' : Nat → Prop) (x y : r.Den) (vs us : List Value) (op : BinOp) (a b : Operand), ORep w S r x vs [] → ORep w S' r y us [] →
    (op = .eql → (do eqGuard op t a b (.agg vs.toArray) (.agg us.toArray); binOp op t (.agg vs.toArray) (.agg us.toArray) : Sem Value).run P w = .ok (.bool (r.eqB x y)) w) ∧
    (op = .neq → (do eqGuard op t a b (.agg vs.toArray) (.agg us.toArray); binOp op t (.agg vs.toArray) (.agg us.toArray) : Sem Value).run P w = .ok (.bool (!r.eqB x y)) w)

/-! ### data out of cells -/
def blOf (G : Gh) (D : List Nat) : List Nat := D.flatMap fun e => G.bl (kX e)

/-- What is shared when the slices L are, too. -/
def SL (G : Gh) (L : List Nat) (b : Nat) : Prop := G.S b ∨ ∃ e, e ∈ L ∧ b ∈ G.bl (kX e)

theorem SL.mono {L L' : List Nat} (h : ∀ e, e ∈ L → e ∈ L') {b : Nat} (hb : SL G L b) : SL G L' b :=
  hb.imp id fun ⟨e, he, h'⟩ => ⟨e, h e he, h'⟩

/-- One thing that becomes of an exclusive slice. -/
def UpOk (w : World) (σ : Sg) (G : Gh) (L D : List Nat) (p : Nat × KV) : Prop :=
  ∃ e r xs, p.1 = kX e ∧ σ (kX e) = .ex r xs ∧ ((p.2 = .gone ∧ e ∈ D) ∨
    (e ∈ L ∧ ∃ q y, p.2 = .fz q y ∧ q.size = r.size ∧ y.length = xs.length ∧ ORep w (SL G L) (.sl q) y [hdrOf G (kX e) xs.length] []))

theorem UpOk.mono {L L' D D' : List Nat} (hL : ∀ e, e ∈ L → e ∈ L') (hD : ∀ e, e ∈ D → e ∈ D') {p : Nat × KV} : UpOk w σ G L D p → UpOk w σ G L' D' p := by
  rintro ⟨e, r, xs, h1, h2, h3⟩
  refine ⟨e, r, xs, h1, h2, h3.imp (fun h => ⟨h.1, hD e h.2⟩) ?_⟩
  rintro ⟨hl, q, y, hq, hs, hy, ho⟩
  exact ⟨hL e hl, q, y, hq, hs, hy, ho.mono (fun b hb => SL.mono hL hb) fun _ _ => rfl⟩

/-- What packing says: the data, with the slices L shared and the slices D given away. -/
structure Packed (len : Bool) (w : World) (σ : Sg) (G : Gh) (t : Ty) (x : t.Den) (vs : List Value) (ups : List (Nat × KV)) (L D : List Nat) : Prop where
  rep : ORep w (SL G L) t x vs (blOf G D)
  live : ∀ e, e ∈ L ∨ e ∈ D → isLive (σ (kX e)) = true
  ok : ∀ p, p ∈ ups → UpOk w σ G L D p
  gone : (ups.filter fun p => isGone p.2).map (·.1) = D.map kX
  fz : len = false → ∀ e, e ∈ L → ∃ p, p ∈ ups ∧ p.1 = kX e ∧ isGone p.2 = false

theorem Packed.dat {len : Bool} {t : Ty} {x : t.Den} {v : Value} (h : ORep w G.S t x [v] []) : Packed len w σ G t x [v] [] [] [] :=
  ⟨h.mono (fun _ h => .inl h) fun _ _ => rfl, fun e h => by simp at h, fun p h => by simp at h, rfl, fun _ e h => by simp at h⟩

theorem nodup_flat {G : Gh} {σ : Sg} {w : World} (hp : Hp B σ w G) : ∀ {D : List Nat}, D.Nodup → (∀ e, e ∈ D → isLive (σ (kX e)) = true) → (blOf G D).Nodup
  | [], _, _ => by simp [blOf]
  | e :: D, hn, hl => by
    have hn' := List.nodup_cons.1 hn
    show (G.bl (kX e) ++ blOf G D).Nodup
    rw [List.nodup_append]
    refine ⟨hp.nodup _ (isKey_kX e) (hl e (List.mem_cons_self ..)), nodup_flat hp hn'.2 fun e' h => hl e' (List.mem_cons_of_mem _ h), ?_⟩
    intro b hb b' hb' hbb
    subst hbb
    obtain ⟨e', he', hb'⟩ := List.mem_flatMap.1 hb'
    have := hp.apart _ _ b (isKey_kX e) (isKey_kX e') (hl e (List.mem_cons_self ..)) (hl e' (List.mem_cons_of_mem _ he')) hb hb'
    exact hn'.1 (kX_inj this ▸ he')

theorem Packed.cons {len : Bool} {t r : Ty} {x : t.Den} {y : r.Den} {v1 v2 : List Value} {u1 u2 : List (Nat × KV)} {L1 L2 D1 D2 : List Nat}
    (h1 : Packed len w σ G t x v1 u1 L1 D1) (h2 : Packed len w σ G r y v2 u2 L2 D2) : Packed len w σ G (.cons t r) (x, y) (v1 ++ v2) (u1 ++ u2) (L1 ++ L2) (D1 ++ D2) := by
  have l1 : ∀ e, e ∈ L1 → e ∈ L1 ++ L2 := fun e h => List.mem_append_left _ h
  have l2 : ∀ e, e ∈ L2 → e ∈ L1 ++ L2 := fun e h => List.mem_append_right _ h
  have d1 : ∀ e, e ∈ D1 → e ∈ D1 ++ D2 := fun e h => List.mem_append_left _ h
  have d2 : ∀ e, e ∈ D2 → e ∈ D1 ++ D2 := fun e h => List.mem_append_right _ h
  refine ⟨⟨v1, v2, blOf G D1, blOf G D2, rfl, by simp [blOf], h1.rep.mono (fun b hb => SL.mono l1 hb) fun _ _ => rfl, h2.rep.mono (fun b hb => SL.mono l2 hb) fun _ _ => rfl⟩, ?_, ?_, ?_, ?_⟩
  · rintro e (h | h)
    · rcases List.mem_append.1 h with h | h
      · exact h1.live e (.inl h)
      · exact h2.live e (.inl h)
    · rcases List.mem_append.1 h with h | h
      · exact h1.live e (.inr h)
      · exact h2.live e (.inr h)
  · intro p hp
    rcases List.mem_append.1 hp with h | h
    · exact (h1.ok p h).mono l1 d1
    · exact (h2.ok p h).mono l2 d2
  · simp [h1.gone, h2.gone]
  · intro hl e he
    rcases List.mem_append.1 he with h | h
    · obtain ⟨p, h3, h4⟩ := h1.fz hl e h
      exact ⟨p, List.mem_append_left _ h3, h4⟩
    · obtain ⟨p, h3, h4⟩ := h2.fz hl e h
      exact ⟨p, List.mem_append_right _ h3, h4⟩

theorem pack_dat {len : Bool} {t t' : Ty} {y : t'.Den} {l : List LC} {v : Value} {vs : List Value} {x : t.Den} {rest : List LC} {ups : List (Nat × KV)} {rs rs' : List Nat}
    (h : ((T.ofO (castD t' t y)).bind fun y => T.pure (y, l, ([] : List (Nat × KV)))).eval σ rs = some ((x, rest, ups), rs')) (hr : RelCs w σ G (.dat t' y :: l) (v :: vs)) :
    ∃ v1 v2 L D, v :: vs = v1 ++ v2 ∧ RelCs w σ G rest v2 ∧ Packed len w σ G t x v1 ups L D := by
  obtain ⟨z, r1, h1, h2⟩ := T.eval_bind _ _ h
  obtain ⟨h1', _⟩ := ofO_eval h1
  obtain ⟨e, hz⟩ := castD_some h1'
  subst e
  simp only [T.eval, Option.some.injEq, Prod.mk.injEq] at h2
  obtain ⟨⟨h3, h4, h5⟩, _⟩ := h2
  subst h3; subst h4; subst h5; subst hz
  exact ⟨[v], vs, [], [], rfl, hr.2, Packed.dat hr.1⟩

theorem castP_some {t t' : Ty} {x : List t.Den} {y : List t'.Den} (h : castP t t' x = some y) : ∃ hb : t.beqP t' = true, y = cast (congrArg List (Ty.beqP_den hb)) x := by
  unfold castP at h
  split at h
  · rename_i hb
    simp only [Option.some.injEq] at h
    exact ⟨hb, h.symm⟩
  · cases h

theorem hdl_len {e : Nat} {v : Value} (hr : RelLC w σ G (.hdl e) v) {r : Ty} {xs : List r.Den} (hx : σ (kX e) = .ex r xs) : v = hdrOf G (kX e) xs.length :=
  hr.2.2 xs.length r.size (by rw [hx]; rfl)

theorem hdl_len_fz {e : Nat} {v : Value} (hr : RelLC w σ G (.hdl e) v) {r : Ty} {xs : List r.Den} (hx : σ (kX e) = .fz r xs) : v = hdrOf G (kX e) xs.length :=
  hr.2.2 xs.length r.size (by rw [hx]; rfl)

theorem pack_sound (hp : Hp B σ w G) {len : Bool} : ∀ {t : Ty} {cs : List LC} {vs : List Value} {x : t.Den} {rest : List LC} {ups : List (Nat × KV)} {rs rs' : List Nat}, (t.pack len cs).eval σ rs = some ((x, rest, ups), rs') →
    RelCs w σ G cs vs → ∃ v1 v2 L D, vs = v1 ++ v2 ∧ RelCs w σ G rest v2 ∧ Packed len w σ G t x v1 ups L D
  | .cons t r, cs, vs, x, rest, ups, rs, rs', h, hr => by
    have h' : ((t.pack len cs).bind fun p => (r.pack len p.2.1).bind fun q => T.pure ((p.1, q.1), q.2.1, p.2.2 ++ q.2.2)).eval σ rs = some ((x, rest, ups), rs') := by
      cases cs <;> exact h
    obtain ⟨⟨x1, rest1, ups1⟩, r1, h1, h2⟩ := T.eval_bind _ _ h'
    obtain ⟨⟨x2, rest2, ups2⟩, r2, h3, h4⟩ := T.eval_bind _ _ h2
    simp only [T.eval, Option.some.injEq, Prod.mk.injEq] at h4
    obtain ⟨⟨e1, e2, e3⟩, _⟩ := h4
    subst e1; subst e2; subst e3
    obtain ⟨v1, v2, L1, D1, hv, hr1, p1⟩ := pack_sound hp h1 hr
    obtain ⟨v3, v4, L2, D2, hv2, hr2, p2⟩ := pack_sound hp h3 hr1
    exact ⟨v1 ++ v3, v4, L1 ++ L2, D1 ++ D2, by rw [hv, hv2, List.append_assoc], hr2, p1.cons p2⟩
  | .nil, cs, vs, x, rest, ups, rs, rs', h, hr => by
    have h' : (some (((), cs, []), rs) : Option ((Unit × List LC × List (Nat × KV)) × List Nat)) = some ((x, rest, ups), rs') := by
      cases cs <;> exact h
    simp only [Option.some.injEq, Prod.mk.injEq] at h'
    obtain ⟨⟨_, e2, e3⟩, _⟩ := h'
    subst e2; subst e3
    exact ⟨[], vs, [], [], rfl, hr, ⟨⟨rfl, rfl⟩, fun e h => by simp at h, fun p h => by simp at h, rfl, fun _ e h => by simp at h⟩⟩
  | .alt _ _, cs, vs, x, rest, ups, rs, rs', h, hr => by
    cases cs <;> simp [Ty.pack, T.eval] at h
  | .int k, cs, vs, x, rest, ups, rs, rs', h, hr => by
    cases cs with
    | nil => simp [Ty.pack, T.eval] at h
    | cons c l =>
      cases vs with
      | nil => exact hr.elim
      | cons v vs =>
        cases c with
        | dat t' y => exact pack_dat h hr
        | nl r => simp [Ty.pack, T.eval] at h
        | hdl e => simp [Ty.pack, T.eval] at h
  | .bool, cs, vs, x, rest, ups, rs, rs', h, hr => by
    cases cs with
    | nil => simp [Ty.pack, T.eval] at h
    | cons c l =>
      cases vs with
      | nil => exact hr.elim
      | cons v vs =>
        cases c with
        | dat t' y => exact pack_dat h hr
        | nl r => simp [Ty.pack, T.eval] at h
        | hdl e => simp [Ty.pack, T.eval] at h
  | .str, cs, vs, x, rest, ups, rs, rs', h, hr => by
    cases cs with
    | nil => simp [Ty.pack, T.eval] at h
    | cons c l =>
      cases vs with
      | nil => exact hr.elim
      | cons v vs =>
        cases c with
        | dat t' y => exact pack_dat h hr
        | nl r => simp [Ty.pack, T.eval] at h
        | hdl e => simp [Ty.pack, T.eval] at h
  | .sl r, cs, vs, x, rest, ups, rs, rs', h, hr => by
    cases cs with
    | nil => simp [Ty.pack, T.eval] at h
    | cons c l =>
      cases vs with
      | nil => exact hr.elim
      | cons v vs =>
        cases c with
        | dat t' y => exact pack_dat h hr
        | nl q =>
          simp only [Ty.pack, T.eval, Option.some.injEq, Prod.mk.injEq] at h
          obtain ⟨⟨e1, e2, e3⟩, _⟩ := h
          subst e1; subst e2; subst e3
          have hv : v = .slice none 0 0 := hr.1
          subst hv
          exact ⟨[_], vs, [], [], rfl, hr.2, Packed.dat ⟨rfl, none, 0, rfl, Nat.le_refl _, .inl ⟨rfl, rfl⟩⟩⟩
        | hdl e =>
          simp only [Ty.pack, T.eval] at h
          split at h
          · rename_i r' xs hx
            obtain ⟨z, r1, h1, h2⟩ := T.eval_bind _ _ h
            obtain ⟨h1', _⟩ := ofO_eval h1
            obtain ⟨hb, hz⟩ := castP_some h1'
            simp only [T.eval, Option.some.injEq, Prod.mk.injEq] at h2
            obtain ⟨⟨e1, e2, e3⟩, _⟩ := h2
            subst e1; subst e2; subst e3; subst hz
            have hv := hdl_len hr.1 hx
            subst hv
            have hex := hp.ex e r' xs hx
            have hlen : (cast (congrArg List (Ty.beqP_den hb)) xs).length = xs.length := by rw [cast_list (Ty.beqP_den hb)]; simp
            have hrep : ORep w (SL G [e]) (.sl r) (cast (congrArg List (Ty.beqP_den hb)) xs) [hdrOf G (kX e) xs.length] [] :=
              ORep.sl_of_ow (fun b h => .inl h) hex (fun b hb => .inr ⟨e, by simp, hb⟩) hb
            refine ⟨[hdrOf G (kX e) xs.length], vs, [e], [], rfl, hr.2, ⟨hrep, ?_, ?_, ?_, ?_⟩⟩
            · intro e' he'
              have : e' = e := by simpa using he'
              subst this; rw [hx]; rfl
            · intro p hp'
              cases len
              · simp only [cond_false, List.mem_singleton] at hp'
                subst hp'
                exact ⟨e, r', xs, rfl, hx, .inr ⟨by simp, r, _, rfl, (Ty.beqP_size hb).symm, hlen, hrep⟩⟩
              · simp at hp'
            · cases len <;> rfl
            · intro hl e' he'
              have : e' = e := by simpa using he'
              subst this; subst hl
              exact ⟨_, List.mem_singleton.2 rfl, rfl, rfl⟩
          · rename_i r' xs hx
            obtain ⟨z, r1, h1, h2⟩ := T.eval_bind _ _ h
            obtain ⟨h1', _⟩ := ofO_eval h1
            obtain ⟨eq, hz⟩ := castL_some h1'
            subst eq
            simp only [T.eval, Option.some.injEq, Prod.mk.injEq] at h2
            obtain ⟨⟨e1, e2, e3⟩, _⟩ := h2
            subst e1; subst e2; subst e3; subst hz
            have hv := hdl_len_fz hr.1 hx
            subst hv
            exact ⟨[_], vs, [], [], rfl, hr.2, Packed.dat (hp.fz e _ _ hx)⟩
          · simp [T.eval] at h
  | .ow r, cs, vs, x, rest, ups, rs, rs', h, hr => by
    cases cs with
    | nil => simp [Ty.pack, T.eval] at h
    | cons c l =>
      cases vs with
      | nil => exact hr.elim
      | cons v vs =>
        cases c with
        | dat t' y => simp [Ty.pack, T.eval] at h
        | nl q =>
          simp only [Ty.pack, T.eval, Option.some.injEq, Prod.mk.injEq] at h
          obtain ⟨⟨e1, e2, e3⟩, _⟩ := h
          subst e1; subst e2; subst e3
          have hv : v = .slice none 0 0 := hr.1
          subst hv
          exact ⟨[_], vs, [], [], rfl, hr.2, Packed.dat ⟨none, 0, rfl, Nat.le_refl _, .inl ⟨rfl, rfl, rfl⟩⟩⟩
        | hdl e =>
          simp only [Ty.pack, T.eval] at h
          split at h
          · rename_i r' xs hx
            obtain ⟨z, r1, h1, h2⟩ := T.eval_bind _ _ h
            obtain ⟨h1', _⟩ := ofO_eval h1
            obtain ⟨eq, hz⟩ := castL_some h1'
            subst eq
            simp only [T.eval, Option.some.injEq, Prod.mk.injEq] at h2
            obtain ⟨⟨e1, e2, e3⟩, _⟩ := h2
            subst e1; subst e2; subst e3; subst hz
            have hv := hdl_len hr.1 hx
            subst hv
            refine ⟨[_], vs, [], [e], rfl, hr.2, ⟨?_, ?_, ?_, rfl, ?_⟩⟩
            · have := hp.ex e _ _ hx
              simp only [blOf, List.flatMap_cons, List.flatMap_nil, List.append_nil]
              exact this.mono (fun b h => .inl h) fun _ _ => rfl
            · intro e' he'
              have : e' = e := by simpa using he'
              subst this; rw [hx]; rfl
            · intro p hp'
              simp only [List.mem_singleton] at hp'
              subst hp'
              exact ⟨e, _, _, rfl, hx, .inl ⟨rfl, by simp⟩⟩
            · intro _ e' he'; simp at he'
          · simp [T.eval] at h

end
end Rg

/- The ring framework, part G: operations that leave memory alone, each by itself. -/
namespace Rg
open Go

theorem puts_val {σ : Sg} : ∀ {ups : List (Nat × KV)} {k : Nat}, k ∈ ups.map (·.1) → ∃ p, p ∈ ups ∧ p.1 = k ∧ puts σ ups k = p.2 := by
  intro ups
  induction ups generalizing σ with
  | nil => intro k h; simp at h
  | cons q l ih =>
    intro k h
    obtain ⟨j, v⟩ := q
    show ∃ p, p ∈ (j, v) :: l ∧ p.1 = k ∧ puts (put σ j v) l k = p.2
    by_cases hl : k ∈ l.map (·.1)
    · obtain ⟨p, h1, h2, h3⟩ := ih (σ := put σ j v) hl
      exact ⟨p, List.mem_cons_of_mem _ h1, h2, h3⟩
    · have : k = j := by
        simp only [List.map_cons, List.mem_cons] at h
        exact h.resolve_right hl
      subst this
      exact ⟨(k, v), List.mem_cons_self .., rfl, by rw [puts_not hl, put_eq]⟩

theorem okUps_spec : ∀ {ups : List (Nat × KV)}, okUps ups = true → ((ups.filter fun p => isGone p.2).map (·.1)).Nodup ∧
    ∀ p p', p ∈ ups → p' ∈ ups → isGone p.2 = true → isGone p'.2 = false → p.1 ≠ p'.1
  | [], _ => ⟨by simp, fun p _ h => by simp at h⟩
  | (k, v) :: l, h => by
    simp only [okUps, Bool.and_eq_true, List.all_eq_true, Bool.or_eq_true, Bool.not_eq_true'] at h
    obtain ⟨h1, h2⟩ := h
    obtain ⟨i1, i2⟩ := okUps_spec h2
    have key : ∀ p, p ∈ l → isGone v = true ∨ isGone p.2 = true → p.1 ≠ k := by
      intro p hp hg e
      rcases h1 p hp with h | h
      · rw [e, Nat.beq_refl] at h; cases h
      · rcases hg with hg | hg
        · have hv := h.1; cases v <;> simp_all [isFz, isGone]
        · have hv := h.2; cases hh : p.2 <;> simp_all [isFz, isGone]
    constructor
    · cases hg : isGone v
      · simpa [List.filter_cons, hg] using i1
      · simp only [List.filter_cons, hg, if_true, List.map_cons, List.nodup_cons]
        refine ⟨?_, i1⟩
        intro hm
        obtain ⟨p, hp, hk⟩ := List.mem_map.1 hm
        have hp' := List.mem_filter.1 hp
        exact key p hp'.1 (.inl hg) hk
    · intro p p' hp hp' hg hg'
      rcases List.mem_cons.1 hp with e | hp
      · subst e
        rcases List.mem_cons.1 hp' with e | hp'
        · subst e; rw [hg] at hg'; cases hg'
        · exact fun e => key p' hp' (.inl hg) e.symm
      · rcases List.mem_cons.1 hp' with e | hp'
        · subst e; exact key p hp (.inr hg)
        · exact i2 p p' hp hp' hg hg'

section
variable {P : Program} {E : Env} {B : Base} {N : Nat} {w : World} {σ : Sg} {G : Gh} {a : Act}

/-- What becomes of exclusive slices when data are packed. -/
theorem ups_apply (hp : Hp B σ w G) {ups : List (Nat × KV)} {L D : List Nat} (hok : ∀ p, p ∈ ups → UpOk w σ G L D p) (hL : ∀ e, e ∈ L → ∃ p, p ∈ ups ∧ p.1 = kX e ∧ isGone p.2 = false)
    (hD : (ups.filter fun p => isGone p.2).map (·.1) = D.map kX) (hu : okUps ups = true) :
    Hp B (puts σ ups) w { G with S := SL G L } ∧ Mon w σ G w (puts σ ups) { G with S := SL G L } ∧ D.Nodup ∧ (∀ b, b ∈ blOf G D → ¬ SL G L b) ∧
    (∀ e, e ∈ D → puts σ ups (kX e) = .gone) := by
  obtain ⟨u1, u2⟩ := okUps_spec hu
  rw [hD] at u1
  have hnd : D.Nodup := by
    refine List.Pairwise.of_map kX ?_ u1
    intro x y h e; exact h (by rw [e])
  have live : ∀ p, p ∈ ups → ∃ e r xs, p.1 = kX e ∧ σ (kX e) = .ex r xs := fun p h => let ⟨e, r, xs, h1, h2, _⟩ := hok p h; ⟨e, r, xs, h1, h2⟩
  have hkey : ∀ k, k ∈ ups.map (·.1) → ∃ e r xs p, k = kX e ∧ σ k = .ex r xs ∧ p ∈ ups ∧ p.1 = k ∧ puts σ ups k = p.2 := by
    intro k hk
    obtain ⟨p, h1, h2, h3⟩ := puts_val (σ := σ) hk
    obtain ⟨e, r, xs, h4, h5⟩ := live p h1
    exact ⟨e, r, xs, p, by rw [← h2, h4], by rw [← h2, h4, h5], h1, h2, h3⟩
  -- what a frozen or given key is
  have fate : ∀ k, k ∈ ups.map (·.1) → ∃ e r xs, k = kX e ∧ σ (kX e) = .ex r xs ∧ (puts σ ups k = .gone ∨ (e ∈ L ∧ ∃ q y, puts σ ups k = .fz q y ∧ q.size = r.size ∧ y.length = xs.length ∧
      ORep w (SL G L) (.sl q) y [hdrOf G (kX e) xs.length] [])) := by
    intro k hk
    obtain ⟨p, h1, h2, h3⟩ := puts_val (σ := σ) hk
    obtain ⟨e, r, xs, h4, h5, h6⟩ := hok p h1
    refine ⟨e, r, xs, by rw [← h2, h4], h5, ?_⟩
    rcases h6 with ⟨h6, _⟩ | ⟨hl, q, y, h6, h7⟩
    · exact .inl (by rw [h3, h6])
    · exact .inr ⟨hl, q, y, by rw [h3, h6], h7⟩
  have memL : ∀ e, e ∈ L → kX e ∈ ups.map (·.1) := fun e he => let ⟨p, h1, h2, _⟩ := hL e he; List.mem_map.2 ⟨p, h1, h2⟩
  have liveL : ∀ e, e ∈ L → isLive (σ (kX e)) = true := by
    intro e he
    obtain ⟨p, h1, h2, _⟩ := hL e he
    obtain ⟨e', r, xs, h3, h4, _⟩ := hok p h1
    rw [h2] at h3
    rw [h3, h4]; rfl
  have m : Mon w σ G w (puts σ ups) { G with S := SL G L } := by
    refine ⟨fun _ h => .inl h, fun _ _ => rfl, fun k _ hk => ⟨?_, rfl⟩, fun n p hn hpp => ?_, fun n p hn hx => ?_⟩
    · by_cases hm : k ∈ ups.map (·.1)
      · obtain ⟨e, r, xs, _, _, h | ⟨_, q, y, h, _⟩⟩ := fate k hm <;> rw [h] <;> simp
      · rw [puts_not hm]; exact hk
    · by_cases hm : kX n ∈ ups.map (·.1)
      · obtain ⟨e, r, xs, he, hx, h | ⟨_, q, y, h, hs, hl, _⟩⟩ := fate _ hm
        · rw [h] at hpp; cases hpp
        · obtain rfl := kX_inj he
          rw [h] at hpp; rw [hx]
          simp only [KV.len?] at hpp ⊢
          rw [← hpp, hs, hl]
      · rw [puts_not hm] at hpp; exact hpp
    · by_cases hm : kX n ∈ ups.map (·.1)
      · obtain ⟨e, r', xs', he, _, h | ⟨_, q, y, h, _⟩⟩ := fate _ hm <;> rw [h] at hx <;> cases hx
      · rw [puts_not hm] at hx; exact hx
  have dead : ∀ k, k ∈ ups.map (·.1) → isLive (puts σ ups k) = true → False := by
    intro k hk hl
    obtain ⟨e, r, xs, _, _, h | ⟨_, q, y, h, _⟩⟩ := fate k hk <;> rw [h] at hl <;> cases hl
  refine ⟨hp.change m (fun k => k ∈ ups.map (·.1)) (fun k _ hk => ⟨puts_not hk, rfl, rfl⟩) ?_ ?_ ?_ ?_ ?_ ?_ ?_ ?_ (fun _ _ _ => rfl) (Nat.le_refl _) (fun n r xs hk hx => (dead _ hk (by rw [hx]; rfl)).elim)
    (fun k p _ h1 h2 _ => by
      by_cases hm : k ∈ ups.map (·.1)
      · obtain ⟨e, r, xs, he, hx, _⟩ := fate k hm
        rw [he, hx] at h1; cases h1
      · rw [puts_not hm] at h2; exact absurd h1 h2), m, hnd, ?_, ?_⟩
  · intro k b hk hne hl hb
    refine ⟨rfl, ?_⟩
    rintro (hs | ⟨e, he, hs⟩)
    · exact (hp.own k b hk hl hb).2.1 hs
    · have := hp.apart k (kX e) b hk (isKey_kX e) hl (liveL e he) hb hs
      exact hne (this ▸ memL e he)
  · intro n cs hk hx
    obtain ⟨e, r, xs, he, _⟩ := fate _ hk
    exact absurd he (kB_ne_kX _ _)
  · intro n r xs hk hx
    exact (dead _ hk (by rw [hx]; rfl)).elim
  · intro n r xs hk hx
    obtain ⟨e, r', xs', he, h5, h | ⟨_, q, y, h, hs, hl, ho⟩⟩ := fate _ hk
    · rw [h] at hx; cases hx
    · obtain rfl := kX_inj he
      rw [h] at hx
      cases hx
      rw [hl]; exact ho
  · intro k b _ hk hl; exact (dead k hk hl).elim
  · intro k _ hk hl; exact (dead k hk hl).elim
  · intro k k' b _ _ hk hl; exact (dead k hk hl).elim
  · rintro b (hs | ⟨e, he, hs⟩)
    · exact hp.shared b hs
    · obtain ⟨h1, _, h3⟩ := hp.own (kX e) b (isKey_kX e) (liveL e he) hs
      exact ⟨h1, h3.elim .inl fun h => .inr (.inr h)⟩
  · have liveD : ∀ e, e ∈ D → ∃ p, p ∈ ups ∧ p.1 = kX e ∧ isGone p.2 = true ∧ isLive (σ (kX e)) = true := by
      intro e he
      have : kX e ∈ (ups.filter fun p => isGone p.2).map (·.1) := by rw [hD]; exact List.mem_map.2 ⟨e, he, rfl⟩
      obtain ⟨p, hp', hk⟩ := List.mem_map.1 this
      have hpf := List.mem_filter.1 hp'
      obtain ⟨e', r, xs, h3, h4, _⟩ := hok p hpf.1
      rw [hk] at h3
      exact ⟨p, hpf.1, hk, hpf.2, by rw [h3, h4]; rfl⟩
    intro b hb
    obtain ⟨e, he, hbe⟩ := List.mem_flatMap.1 hb
    obtain ⟨p, h1, h2, h3, h4⟩ := liveD e he
    rintro (hs | ⟨e', he', hs⟩)
    · exact (hp.own _ b (isKey_kX e) h4 hbe).2.1 hs
    · have := hp.apart _ _ b (isKey_kX e) (isKey_kX e') h4 (liveL e' he') hbe hs
      obtain ⟨p', h5, h6, h7⟩ := hL e' he'
      exact u2 p p' h1 h5 h3 h7 (by rw [h2, h6, this])
  · intro e he
    have : kX e ∈ (ups.filter fun p => isGone p.2).map (·.1) := by rw [hD]; exact List.mem_map.2 ⟨e, he, rfl⟩
    obtain ⟨p, hp', hk⟩ := List.mem_map.1 this
    have hpf := List.mem_filter.1 hp'
    have hm : kX e ∈ ups.map (·.1) := List.mem_map.2 ⟨p, hpf.1, hk⟩
    obtain ⟨p2, h1, h2, h3⟩ := puts_val (σ := σ) hm
    rw [h3]
    cases hg : isGone p2.2
    · exact absurd (by rw [hk, h2]) (u2 p p2 hpf.1 h1 hpf.2 hg)
    · cases hh : p2.2 <;> simp_all [isGone]

/-- The ground on which an operation stands. -/
structure Cx (B : Base) (N : Nat) (σ : Sg) (a : Act) (w : World) (G : Gh) : Prop where
  hp : Hp B σ w G
  hd : a.defers = []
  hn : a.tmps.size = N
  hs : ∀ n, RelKV w σ G (σ (kS n)) (a.tmps.getD n undef)

/-- Exclusive slices hold plain data. -/
theorem Cx.plain (c : Cx B N σ a w G) (e : Nat) (r : Ty) (xs : List r.Den) (h : σ (kX e) = .ex r xs) : r.plain = true := c.hp.plain e r xs h

theorem good_kv {o : Oper} {K : Act → World → Prop} {Q : Exit → Act → World → Prop} {kv : KV} {v : Value} {ws : List (Nat × KV)} {d : Nat}
    (c : Cx B N σ a w G) (hdst : o.dst = some d) (hlt : d < N)
    (hrun : (execOp a.eval o).run P w = .ok (.value v) w) (hv : RelKV w σ G kv v) (hws : ws = [(kS d, kv)])
    (hK : ∀ a' w', Rel B N (puts σ ws) a' w' → K a' w') : o.wp P a w K Q := by
  unfold Oper.wp
  rw [hrun]
  show K (a.put o.dst v) w
  refine hK _ _ ?_
  subst hws
  have he : ∀ k, isKey k → puts σ [(kS d, kv)] k = σ k := fun k hk => put_ne (isKey_ne_kS hk d)
  refine Rel.close c.hd c.hn c.hs (Mon.slots he) (c.hp.slots he) (fun d' h => by rw [hdst] at h; cases h; exact hlt) (fun n hne => ?_) (fun d' h => ?_)
  · exact put_ne fun e => hne (by rw [hdst, kS_inj e])
  · rw [hdst] at h; cases h
    have : puts σ [(kS d, kv)] (kS d) = kv := put_eq
    rw [this]
    exact RelKV.mon (Mon.slots he) hv

theorem Cx.value (c : Cx B N σ a w G) {o : Oper} {K : Act → World → Prop} {Q : Exit → Act → World → Prop} {s : SV} {v : Value} {ws : List (Nat × KV)} (hlt : ∀ d, o.dst = some d → d < N)
    (hrun : (execOp a.eval o).run P w = .ok (.value v) w) (hv : RelSV w σ G s v) (hws : ws = wr o.dst s)
    (hK : ∀ a' w', Rel B N (puts σ ws) a' w' → K a' w') : o.wp P a w K Q :=
  good_value c.hp c.hd c.hn c.hs hlt hrun hv hws hK

theorem Cx.opd (c : Cx B N σ a w G) {t : TypeId} {x : Operand} {s : SV} {rs rs' : List Nat} (h : (opd E t x).eval σ rs = some (s, rs')) : RelSV w σ G s (a.eval x) := opd_sound c.hs h

theorem pure_eq {α : Type} {x y : α} {rs rs' : List Nat} (h : (T.pure x).eval σ rs = some (y, rs')) : x = y := by
  simp only [T.eval, Option.some.injEq, Prod.mk.injEq] at h; exact h.1

theorem chk_eval {α : Type} {b : Bool} {t : T α} {rs : List Nat} {y : α × List Nat} (h : (T.chk b t).eval σ rs = some y) : b = true ∧ t.eval σ rs = some y := by
  cases b
  · simp [T.eval] at h
  · exact ⟨rfl, by simpa [T.eval] using h⟩

theorem get_eval {α : Type} {k : Nat} {f : KV → T α} {rs : List Nat} {y : α × List Nat} (h : (T.get k f).eval σ rs = some y) : (f (σ k)).eval σ (k :: rs) = some y := h

theorem fail_eval {α : Type} {rs : List Nat} {y : α × List Nat} (h : (T.fail : T α).eval σ rs = some y) : False := by simp [T.eval] at h

variable {K : Act → World → Prop} {Q : Exit → Act → World → Prop} {ws : List (Nat × KV)} {rs0 rs : List Nat}

theorem good_move (c : Cx B N σ a w G) {o : Oper} {x : Operand} (ho : o.op = .move x ∨ o.op = .assign x) (hlt : ∀ d, o.dst = some d → d < N)
    (h : (lop E o).eval σ rs0 = some (ws, rs)) (hK : ∀ a' w', Rel B N (puts σ ws) a' w' → K a' w') : o.wp P a w K Q := by
  have hrun : (execOp a.eval o).run P w = .ok (.value (a.eval x)) w := by
    rcases ho with ho | ho <;> simp [execOp, ho]
  have h' : (lMove E o x).eval σ rs0 = some (ws, rs) := by
    rcases ho with ho | ho <;> (unfold lop at h; rw [ho] at h; exact h)
  clear h
  unfold lMove at h'
  have byOpd : ∀ {x : Operand}, (execOp a.eval o).run P w = .ok (.value (a.eval x)) w → ((opd E o.type x).bind fun s => T.pure (wr o.dst s)).eval σ rs0 = some (ws, rs) → o.wp P a w K Q := by
    intro x hrun h
    obtain ⟨s, r1, h1, h2⟩ := T.eval_bind _ _ h
    exact c.value hlt hrun (c.opd h1) (pure_eq h2).symm hK
  cases x with
  | tmp n =>
    have h2 := get_eval h'
    have hn := c.hs n
    split at h2
    · rename_i s hk
      rw [hk] at hn
      exact c.value hlt hrun hn (pure_eq h2).symm hK
    · rename_i l hk
      rw [hk] at hn
      split at h2
      · rename_i d hd
        exact good_kv c hd (hlt d hd) hrun hn (pure_eq h2).symm hK
      · exact (fail_eval h2).elim
    · exact (fail_eval h2).elim
  | const v =>
    split at h'
    · rename_i n hc; cases hc
    · split at h'
      · rename_i d hd
        exact good_kv c hd (hlt d hd) hrun (show RelKV w σ G .none _ from trivial) (pure_eq h').symm hK
      · exact (fail_eval h').elim
    · exact byOpd hrun h'
  | global g => exact byOpd hrun h'
  | func f => exact byOpd hrun h'

theorem good_pick (c : Cx B N σ a w G) {o : Oper} {x y z : Operand} (ho : o.op = .pick x y z) (hlt : ∀ d, o.dst = some d → d < N)
    (h : (lop E o).eval σ rs0 = some (ws, rs)) (hK : ∀ a' w', Rel B N (puts σ ws) a' w' → K a' w') : o.wp P a w K Q := by
  unfold lop at h; rw [ho] at h
  obtain ⟨s, r1, h1, h2⟩ := T.eval_bind _ _ h
  have hx := c.opd h1
  split at h2
  · rename_i b
    have hb : a.eval x = .bool b := by
      have := hx.1
      simpa using this
    cases b
    · simp only [T.eval, cond_false] at h2
      obtain ⟨s, r2, h3, h4⟩ := T.eval_bind _ _ h2
      exact c.value hlt (v := a.eval z) (by simp [execOp, ho, hb, asBool]) (c.opd h3) (pure_eq h4).symm hK
    · simp only [T.eval, cond_true] at h2
      obtain ⟨s, r2, h3, h4⟩ := T.eval_bind _ _ h2
      exact c.value hlt (v := a.eval y) (by simp [execOp, ho, hb, asBool]) (c.opd h3) (pure_eq h4).symm hK
  · exact (fail_eval h2).elim

/-- What a pointer that can be used is. -/
theorem usePtr_sound (c : Cx B N σ a w G) {s s' : SV} {v : Value} {rs rs' : List Nat} (hv : RelSV w σ G s v) (h : (usePtr s).eval σ rs = some (s', rs')) :
    s' = s ∧ ∃ b o, v = .pointer (some ⟨b, o, none⟩) ∧ ∀ k, RelSV w σ G (svAdd k s) (.pointer (some ⟨b, o + k, none⟩)) := by
  cases s with
  | ptr b off =>
    refine ⟨(pure_eq h).symm, ?_⟩
    obtain ⟨h0, bb, oo, cc, h1, h2⟩ := hv
    exact ⟨bb, oo + off, h2, fun k => ⟨h0, bb, oo, cc, h1, by rw [Nat.add_assoc]⟩⟩
  | elP r y off =>
    refine ⟨(pure_eq h).symm, ?_⟩
    obtain ⟨b, oo, arr, el, fz, cs, h1, h2⟩ := hv
    exact ⟨b, oo + off, h1, fun k => ⟨b, oo, arr, el, fz, cs, by rw [Nat.add_assoc], h2⟩⟩
  | elX e i off =>
    have h2 := get_eval h
    split at h2
    · rename_i r xs hx
      refine ⟨(pure_eq h2).symm, ?_⟩
      obtain ⟨h0, h3⟩ := hv
      obtain ⟨hi, hl, b, oo, cc, ha, hv⟩ := h3 r xs.length (by rw [hx]; rfl)
      refine ⟨b, oo + i.toNat * r.size + off, hv, fun k => ⟨h0, fun r' n' hx' => ?_⟩⟩
      rw [hx] at hx'
      cases hx'
      exact ⟨hi, hl, b, oo, cc, ha, by rw [Nat.add_assoc]⟩
    · exact (fail_eval h2).elim
  | undef => exact (fail_eval h).elim
  | cell c => exact (fail_eval h).elim
  | agg cs => exact (fail_eval h).elim
  | clo f bs => exact (fail_eval h).elim

theorem good_nilCheck (c : Cx B N σ a w G) {o : Oper} {x : Operand} (ho : o.op = .nilCheck x) (hlt : ∀ d, o.dst = some d → d < N)
    (h : (lop E o).eval σ rs0 = some (ws, rs)) (hK : ∀ a' w', Rel B N (puts σ ws) a' w' → K a' w') : o.wp P a w K Q := by
  unfold lop at h; rw [ho] at h
  obtain ⟨s, r1, h1, h2⟩ := T.eval_bind _ _ h
  obtain ⟨s', r2, h3, h4⟩ := T.eval_bind _ _ h2
  obtain ⟨rfl, b, oo, hv, _⟩ := usePtr_sound c (c.opd h1) h3
  exact c.value hlt (v := a.eval x) (by simp [execOp, ho, hv]) (c.opd h1) (pure_eq h4).symm hK

structure EnvTy (P : Program) (E : Env) : Prop where
  ty : ∀ t r, E.ty t = some r → TyF P E t r
  cmp : ∀ t r, E.ty t = some r → E.cmp t = true → EqF P t r

theorem addr_add (b o k : Nat) : (⟨b, o, none⟩ : Addr).add k = ⟨b, o + k, none⟩ := by
  unfold Addr.add; split <;> simp_all

theorem good_fieldAddr (hE : EnvTy P E) (c : Cx B N σ a w G) {o : Oper} {t : TypeId} {x : Operand} {f : Nat} (ho : o.op = .fieldAddr t x f) (hlt : ∀ d, o.dst = some d → d < N)
    (h : (lop E o).eval σ rs0 = some (ws, rs)) (hK : ∀ a' w', Rel B N (puts σ ws) a' w' → K a' w') : o.wp P a w K Q := by
  unfold lop at h; rw [ho] at h
  obtain ⟨s, r1, h1, h2⟩ := T.eval_bind _ _ h
  obtain ⟨s', r2, h3, h4⟩ := T.eval_bind _ _ h2
  obtain ⟨p, r3, h5, h6⟩ := T.eval_bind _ _ h4
  obtain ⟨h5, _⟩ := ofO_eval h5
  obtain ⟨rfl, b, oo, hv, hadd⟩ := usePtr_sound c (c.opd h1) h3
  cases ht : E.ty t with
  | none => rw [ht] at h5; simp at h5
  | some r =>
    rw [ht] at h5
    simp only [Option.bind_some] at h5
    obtain ⟨d, hd, htd⟩ := (hE.ty t r ht).und
    have hst : ∃ fs : Array Field, d = .struct fs ∧ ∃ fd i, fs[f]? = some fd ∧ fd.offset = p.1 ∧ P.info? fd.type = some i ∧ i.size = p.2.size ∧ i.size ≠ 0 := by
      cases r <;> simp only [TyD] at htd <;> try (simp [fieldTy] at h5; done)
      all_goals
        obtain ⟨fs, hd', hf⟩ := htd
        exact ⟨fs, hd', (hf f).2 p h5⟩
    obtain ⟨fs, rfl, fd, i, hf, hoff, hi, hs, hne⟩ := hst
    refine c.value hlt (v := .pointer (some ⟨b, oo + p.1, none⟩)) ?_ (hadd p.1) (pure_eq h6).symm hK
    have hz : (i.size == 0) = false := by simpa using hne
    simp [execOp, ho, Instr.fieldAt, underlying, hd, hf, hv, Instr.sureAddr, fieldPlace, Go.sizeOf, typeInfo, hi, hoff, addr_add, hne]
end
end Rg

/- The ring framework, part H: more operations that leave memory alone. -/
namespace Rg
open Go

section
variable {P : Program} {E : Env} {B : Base} {N : Nat} {w : World} {σ : Sg} {G : Gh} {a : Act}
variable {K : Act → World → Prop} {Q : Exit → Act → World → Prop} {ws : List (Nat × KV)} {rs0 rs : List Nat}

theorem cell_int {k : IntKind} {x : Int} {v : Value} (h : RelSV w σ G (.cell (.dat (.int k) x)) v) : v = .int k x := by
  have := h.1; simpa using this
theorem cell_bool {x : Bool} {v : Value} (h : RelSV w σ G (.cell (.dat .bool x)) v) : v = .bool x := by
  have := h.1; simpa using this
theorem cell_str {x : ByteArray} {v : Value} (h : RelSV w σ G (.cell (.dat .str x)) v) : v = .string x := by
  have := h.1; simpa using this

theorem rel_int {k : IntKind} {x : Int} : RelSV w σ G (.cell (.dat (.int k) x)) (.int k x) := ⟨rfl, rfl⟩
theorem rel_bool {x : Bool} : RelSV w σ G (.cell (.dat .bool x)) (.bool x) := ⟨rfl, rfl⟩
theorem rel_str {x : ByteArray} : RelSV w σ G (.cell (.dat .str x)) (.string x) := ⟨rfl, rfl⟩

theorem good_unOp (c : Cx B N σ a w G) {o : Oper} {op : UnOp} {t : TypeId} {x : Operand} (ho : o.op = .unOp op t x) (hlt : ∀ d, o.dst = some d → d < N)
    (h : (lop E o).eval σ rs0 = some (ws, rs)) (hK : ∀ a' w', Rel B N (puts σ ws) a' w' → K a' w') : o.wp P a w K Q := by
  unfold lop at h; rw [ho] at h
  obtain ⟨s, r1, h1, h2⟩ := T.eval_bind _ _ h
  have hx := c.opd h1
  split at h2
  · rename_i b
    have hv := cell_bool hx
    exact c.value hlt (v := .bool (!b)) (by simp [execOp, ho, hv, Op.unary]) rel_bool (pure_eq h2).symm hK
  · rename_i k n
    have hv := cell_int hx
    exact c.value hlt (v := .int k (k.wrap (0 - n))) (by simp [execOp, ho, hv, Op.unary, Op.intArith]) rel_int (pure_eq h2).symm hK
  · exact (fail_eval h2).elim

theorem good_extract (c : Cx B N σ a w G) {o : Oper} {x : Operand} {i : Nat} (ho : o.op = .extract x i) (hlt : ∀ d, o.dst = some d → d < N)
    (h : (lop E o).eval σ rs0 = some (ws, rs)) (hK : ∀ a' w', Rel B N (puts σ ws) a' w' → K a' w') : o.wp P a w K Q := by
  unfold lop at h; rw [ho] at h
  cases x with
  | tmp n =>
    have h2 := get_eval h
    have hn := c.hs n
    split at h2
    · rename_i l hk
      rw [hk] at hn
      obtain ⟨vs, hv, hr⟩ := hn
      split at h2
      · rename_i s hl
        have get : ∀ {l : List SV} {vs : List Value} {i : Nat} {s : SV}, RelSVs w σ G l vs → l[i]? = some s → ∃ v, vs[i]? = some v ∧ RelSV w σ G s v := by
          intro l
          induction l with
          | nil => intro vs i s _ h; simp at h
          | cons q l ih =>
            intro vs i s hr h
            cases vs with
            | nil => exact hr.elim
            | cons v vs =>
              cases i with
              | zero => simp at h; subst h; exact ⟨v, rfl, hr.1⟩
              | succ i => obtain ⟨u, h1, h2⟩ := ih hr.2 (by simpa using h); exact ⟨u, by simpa using h1, h2⟩
        obtain ⟨v, hvi, hrv⟩ := get hr hl
        have he : a.eval (.tmp n) = .tuple vs.toArray := hv
        exact c.value hlt (v := v) (by simp [execOp, ho, he, Instr.extract, hvi]) hrv (pure_eq h2).symm hK
      · exact (fail_eval h2).elim
    · exact (fail_eval h2).elim
  | const v => exact (fail_eval h).elim
  | global g => exact (fail_eval h).elim
  | func f => exact (fail_eval h).elim

theorem sv_agg {cs : List LC} {v : Value} (h : RelSV w σ G (.agg cs) v) : ∃ vs : List Value, v = .agg vs.toArray ∧ RelCs w σ G cs vs := h

theorem plain_ups (c : Cx B N σ a w G) {r : Ty} {cs : List LC} {vs : List Value} {x : r.Den} {rest : List LC} {rs rs' : List Nat}
    (h : (r.pack true cs).eval σ rs = some ((x, rest, []), rs')) (hr : RelCs w σ G cs vs) : ∃ v1 v2 S, vs = v1 ++ v2 ∧ RelCs w σ G rest v2 ∧ ORep w S r x v1 [] := by
  obtain ⟨v1, v2, L, D, hv, hr', hp⟩ := pack_sound c.hp h hr
  have hD : D = [] := by
    have := hp.gone
    simpa using this
  subst hD
  exact ⟨v1, v2, SL G L, hv, hr', hp.rep⟩

theorem run_eqBool' {t : TypeId} {m n : Bool} (hd : P.underlying t = some .bool) (k : Nat) : (Op.equalIn (k + 1) t (.bool m) (.bool n)).run P w = .ok (m == n) w := by
  simp only [Op.equalIn, underlying, Sem.run_bind, run_program, Result.andThen_ok, hd, Sem.run_pure]

theorem run_eqBool {t : TypeId} {m n : Bool} (hd : P.underlying t = some .bool) : (Op.equal t (.bool m) (.bool n)).run P w = .ok (m == n) w := run_eqBool' hd 9999

theorem good_binOp (hE : EnvTy P E) (c : Cx B N σ a w G) {o : Oper} {op : BinOp} {t yt : TypeId} {x y : Operand} (ho : o.op = .binOp op t x y yt) (hlt : ∀ d, o.dst = some d → d < N)
    (h : (lop E o).eval σ rs0 = some (ws, rs)) (hK : ∀ a' w', Rel B N (puts σ ws) a' w' → K a' w') : o.wp P a w K Q := by
  unfold lop at h; rw [ho] at h
  obtain ⟨s, r1, h1, h2⟩ := T.eval_bind _ _ h
  obtain ⟨s', r2, h3, h4⟩ := T.eval_bind _ _ h2
  obtain ⟨cc, r3, h5, h6⟩ := T.eval_bind _ _ h4
  have hx := c.opd h1
  have hy := c.opd h3
  have fin : ∀ v, RelLC w σ G cc v → (do eqGuard op t x y (a.eval x) (a.eval y); binOp op t (a.eval x) (a.eval y) : Sem Value).run P w = .ok v w → o.wp P a w K Q := by
    intro v hv hrun
    refine c.value hlt (v := v) ?_ (s := .cell cc) hv (pure_eq h6).symm hK
    simp only [execOp, ho]
    simp only [Sem.run_bind] at hrun ⊢
    rw [hrun]
    rfl
  unfold lBin at h5
  split at h5
  · rename_i k m k' n
    have e1 := cell_int hx
    have e2 := cell_int hy
    split at h5
    · obtain ⟨hb, h5⟩ := chk_eval h5
      have := pure_eq h5
      subst this
      refine fin (.int k (shL k m n)) ⟨rfl, rfl⟩ ?_
      rw [e1, e2]
      have hb' : (0 : Int) ≤ n := of_decide_eq_true hb
      have : ¬ (n : Int) < 0 := Int.not_lt.mpr hb'
      simp [eqGuard, binOp, Op.shift, this, shL]
    · obtain ⟨hb, h5⟩ := chk_eval h5
      have := pure_eq h5
      subst this
      refine fin (.int k (shR k m n)) ⟨rfl, rfl⟩ ?_
      rw [e1, e2]
      have hb' : (0 : Int) ≤ n := of_decide_eq_true hb
      have : ¬ (n : Int) < 0 := Int.not_lt.mpr hb'
      simp [eqGuard, binOp, Op.shift, this, shR]
    · cases hkk : kBeq k k'
      · rw [hkk] at h5; exact (fail_eval h5).elim
      · rw [hkk] at h5
        obtain rfl := kBeq_eq hkk
        obtain ⟨v, hv, hrun⟩ := run_binInt (P := P) (w := w) (G := G) (t := t) (x := x) (y := y) h5
        exact fin v hv (by rw [e1, e2]; exact hrun)
  · have e1 := cell_str hx
    have e2 := cell_str hy
    obtain ⟨v, hv, hrun⟩ := run_binStr (P := P) (w := w) (G := G) (t := t) (x := x) (y := y) h5
    exact fin v hv (by rw [e1, e2]; exact hrun)
  · rename_i m n
    have e1 := cell_bool hx
    have e2 := cell_bool hy
    split at h5
    · rename_i ht
      have := pure_eq h5
      subst this
      obtain ⟨d, hd, htd⟩ := (hE.ty t .bool ht).und
      simp only [TyD] at htd
      subst htd
      refine fin (.bool (m == n)) ⟨rfl, rfl⟩ ?_
      rw [e1, e2]
      simp only [eqGuard, binOp, Sem.run_bind, Sem.run_map, run_eqBool hd, Sem.run_pure, Result.andThen_ok, bind_pure_comp]
      rfl
    · rename_i ht
      have := pure_eq h5
      subst this
      obtain ⟨d, hd, htd⟩ := (hE.ty t .bool ht).und
      simp only [TyD] at htd
      subst htd
      refine fin (.bool (!(m == n))) ⟨rfl, rfl⟩ ?_
      rw [e1, e2]
      simp only [eqGuard, binOp, Sem.run_bind, Sem.run_map, run_eqBool hd, Sem.run_pure, Result.andThen_ok, bind_pure_comp]
      rfl
    · exact (fail_eval h5).elim
  · rename_i xs ys
    split at h5
    · rename_i r ht
      obtain ⟨hc, h5⟩ := chk_eval h5
      obtain ⟨⟨x1, rest1, u1⟩, r4, h7, h8⟩ := T.eval_bind _ _ h5
      obtain ⟨⟨y1, rest2, u2⟩, r5, h9, h10⟩ := T.eval_bind _ _ h8
      obtain ⟨vs, ev, hvs⟩ := sv_agg hx
      obtain ⟨us, eu, hus⟩ := sv_agg hy
      have key : (op = .eql ∨ op = .neq) ∧ rest1 = [] ∧ u1 = [] ∧ rest2 = [] ∧ u2 = [] := by
        cases rest1 with
        | cons _ _ => cases op <;> exact (fail_eval h10).elim
        | nil =>
          cases u1 with
          | cons _ _ => cases op <;> exact (fail_eval h10).elim
          | nil =>
            cases rest2 with
            | cons _ _ => cases op <;> exact (fail_eval h10).elim
            | nil =>
              cases u2 with
              | cons _ _ => cases op <;> exact (fail_eval h10).elim
              | nil => cases op <;> first | exact (fail_eval h10).elim | exact ⟨.inl rfl, rfl, rfl, rfl, rfl⟩ | exact ⟨.inr rfl, rfl, rfl, rfl, rfl⟩
      obtain ⟨hop, rfl, rfl, rfl, rfl⟩ := key
      obtain ⟨v1, v2, S1, hv1, hr1, ho1⟩ := plain_ups c h7 hvs
      obtain ⟨v3, v4, S2, hv2, hr2, ho2⟩ := plain_ups c h9 hus
      have e1 : v2 = [] := by cases v2 with | nil => rfl | cons _ _ => exact hr1.elim
      have e2 : v4 = [] := by cases v4 with | nil => rfl | cons _ _ => exact hr2.elim
      rw [e1, List.append_nil] at hv1
      rw [e2, List.append_nil] at hv2
      rw [← hv1] at ho1
      rw [← hv2] at ho2
      rcases hop with rfl | rfl
      · have := pure_eq h10
        subst this
        refine fin (.bool (r.eqB x1 y1)) ⟨rfl, rfl⟩ ?_
        rw [ev, eu]
        exact (hE.cmp t r ht hc w S1 S2 x1 y1 vs us .eql x y ho1 ho2).1 rfl
      · have := pure_eq h10
        subst this
        refine fin (.bool (!r.eqB x1 y1)) ⟨rfl, rfl⟩ ?_
        rw [ev, eu]
        exact (hE.cmp t r ht hc w S1 S2 x1 y1 vs us .neq x y ho1 ho2).2 rfl
    · exact (fail_eval h5).elim
  · exact (fail_eval h5).elim

/-! ### loads -/
theorem cell_at {b oo : Nat} {arr : Array Value} {el : TypeId} {fz : Nat × Nat} {v : Value} (hh : w.heap[b]? = some (.cells arr el fz)) (hv : arr[oo]? = some v) :
    w.cell? ⟨b, oo, none⟩ = some v := by
  simp [World.cell?, hh, hv]

/-- Where a pointer points: the cells of the whole, and where they lie. -/
theorem cellsAt_sound (c : Cx B N σ a w G) {s : SV} {v : Value} {cs : List LC} {off : Nat} {rs rs' : List Nat} (hv : RelSV w σ G s v) (h : (cellsAt s).eval σ rs = some ((cs, off), rs')) :
    ∃ b oo arr el fz vs, v = .pointer (some ⟨b, oo + off, none⟩) ∧ w.heap[b]? = some (.cells arr el fz) ∧ rowAt' arr oo vs ∧ RelCs w σ G cs vs := by
  cases s with
  | ptr b off' =>
    have h2 := get_eval h
    split at h2
    · rename_i cs' hk
      have := pure_eq h2
      simp only [Prod.mk.injEq] at this
      obtain ⟨rfl, rfl⟩ := this
      obtain ⟨h0, bb, oo, cc, ha, hv⟩ := hv
      obtain ⟨b', o', arr, el, fz, h3, _, h4, _, _, vs, h5, h6⟩ := c.hp.box b cs' hk
      rw [h3] at ha
      cases ha
      exact ⟨bb, oo, arr, el, fz, vs, hv, h4, h5, h6⟩
    · exact (fail_eval h2).elim
  | elP r x off' =>
    have := pure_eq h
    simp only [Prod.mk.injEq] at this
    obtain ⟨rfl, rfl⟩ := this
    obtain ⟨b, oo, arr, el, fz, vs, h1, _, h3, h4, h5⟩ := hv
    exact ⟨b, oo, arr, el, fz, vs, h1, h3, h4, RelCs.lcs h5⟩
  | elX e i off' =>
    have h2 := get_eval h
    split at h2
    · rename_i r xs hk
      have := pure_eq h2
      simp only [Prod.mk.injEq] at this
      obtain ⟨rfl, rfl⟩ := this
      obtain ⟨h0, h3⟩ := hv
      obtain ⟨hi, hl, b, oo, cc, ha, hv⟩ := h3 r xs.length (by rw [hk]; rfl)
      obtain ⟨A, cap, h4, _, h5⟩ := c.hp.ex e r xs hk
      unfold hdrOf at h4
      rw [ha] at h4
      simp only [List.cons.injEq, Value.slice.injEq, true_and, and_true] at h4
      obtain ⟨hA, hcap⟩ := h4
      rcases h5 with ⟨h6, _⟩ | ⟨b', o', arr, el, fz, U', h6, h7, _, _, hU, h8⟩
      · rw [h6] at hA; cases hA
      · rw [h6] at hA
        simp only [Option.some.injEq, Addr.mk.injEq, and_true] at hA
        obtain ⟨rfl, rfl⟩ := hA
        have hx : xs[i.toNat]? = some (xi r xs i) := by
          unfold xi
          rw [List.getD_eq_getElem?_getD, List.getElem?_eq_getElem hl]; rfl
        obtain ⟨vs, U1, U2, U3, hUU, hrow, ho⟩ := h8.get hx
        have hp := c.plain e r xs hk
        have hU2 : U2 = [] := ORep.plain hp ho
        subst hU2
        exact ⟨_, oo + i.toNat * r.size, arr, el, fz, vs, hv, h7, hrow, RelCs.lcs ho⟩
    · exact (fail_eval h2).elim
  | undef => exact (fail_eval h).elim
  | cell c => exact (fail_eval h).elim
  | agg cs => exact (fail_eval h).elim
  | clo f bs => exact (fail_eval h).elim

end
end Rg
