/- The ring framework, part Y: data laid out as a state. -/
import Derived.Test.YtphjhelolaoihaaRgD
set_option linter.all false
namespace Rg
open Go

section
variable {P : Program} {E : Env} {B : Base} {N : Nat} {w : World} {σ : Sg} {G : Gh}

/-- Blocks that nothing known uses. -/
structure Free (B : Base) (w : World) (σ : Sg) (G : Gh) (U : List Nat) : Prop where
  nodup : U.Nodup
  mem : ∀ b, b ∈ U → b < w.heap.size ∧ ¬ G.S b ∧ (B.n0 ≤ b ∨ B.W b)
  live : ∀ b k, b ∈ U → isKey k → isLive (σ k) = true → b ∉ G.bl k

theorem Hp.forget (h : Hp B σ w G) : Hp B empty w G := by
  refine ⟨h.shared, h.s0, ?_, ?_, ?_, ?_, ?_, ?_, h.frame, h.size, ?_, fun k p _ _ hn => absurd rfl hn, h.side⟩
  · intro n cs hn; cases hn
  · intro n r xs hn; cases hn
  · intro n r xs hn; cases hn
  · intro k b _ hl; cases hl
  · intro k _ hl; cases hl
  · intro k k' b _ _ hl; cases hl
  · intro n r xs hn; cases hn

/-- The value of a slice that lies at a place. -/
def hdrAt (p : Option (Nat × Nat × Nat)) (n : Nat) : Value :=
  match p with
  | none => .slice none n 0
  | some (b, o, c) => .slice (some ⟨b, o, none⟩) n c

theorem hdrOf_at (G : Gh) (k n : Nat) : hdrOf G k n = hdrAt (G.at_ k) n := by
  unfold hdrOf hdrAt
  cases G.at_ k <;> rfl

theorem hdrAt_inj {p q : Option (Nat × Nat × Nat)} {n m : Nat} (h : hdrAt p n = hdrAt q m) : p = q ∧ n = m := by
  cases p with
  | none =>
    cases q with
    | none => simp only [hdrAt, Value.slice.injEq] at h; exact ⟨rfl, h.2.1⟩
    | some q => obtain ⟨b, o, c⟩ := q; simp [hdrAt] at h
  | some p =>
    obtain ⟨b, o, c⟩ := p
    cases q with
    | none => simp [hdrAt] at h
    | some q =>
      obtain ⟨b', o', c'⟩ := q
      simp only [hdrAt, Value.slice.injEq, Option.some.injEq, Addr.mk.injEq, and_true] at h
      obtain ⟨⟨rfl, rfl⟩, rfl, rfl⟩ := h
      exact ⟨rfl, rfl⟩

/-- A key for an exclusive slice that lies in memory. -/
theorem Hp.putX (h : Hp B σ w G) {n : Nat} {r : Ty} {xs : List r.Den} {v : Value} {U : List Nat} (hnone : σ (kX n) = .none) (hpl : r.plain = true) (ho : ORep w G.S (.ow r) xs [v] U) (hU : Free B w σ G U)
    (hpin : ∀ p, B.pin (kX n) = some p → v = hdrAt p (B.plen n)) : ∃ p, Hp B (put σ (kX n) (.ex r xs)) w (G.set (kX n) p U) ∧ Mon w σ G w (put σ (kX n) (.ex r xs)) (G.set (kX n) p U) ∧ v = hdrOf (G.set (kX n) p U) (kX n) xs.length := by
  obtain ⟨A, cap, hv, hle, hx⟩ := id ho
  simp only [List.cons.injEq, and_true] at hv
  have main : ∀ p, v = hdrOf (G.set (kX n) p U) (kX n) xs.length → Hp B (put σ (kX n) (.ex r xs)) w (G.set (kX n) p U) ∧ Mon w σ G w (put σ (kX n) (.ex r xs)) (G.set (kX n) p U) := by
    intro p hvp
    have m : Mon w σ G w (put σ (kX n) (.ex r xs)) (G.set (kX n) p U) := Mon.new hnone fun b hb => rfl
    refine ⟨h.change m (fun k => k = kX n) ?_ ?_ ?_ ?_ ?_ ?_ ?_ ?_ (fun b hb => h.shared b hb) (fun _ _ _ => rfl) (Nat.le_refl _) (fun n' r' xs' hn' hx => by obtain rfl := kX_inj hn'; rw [put_eq] at hx; cases hx; exact hpl)
      (pin_new fun q hq => by
        have h1 := hpin q hq
        rw [hvp, hdrOf_at] at h1
        refine ⟨(hdrAt_inj h1).1, fun n' r' l e hx => ?_⟩
        obtain rfl := kX_inj e
        simp only [KV.ex?, Option.some.injEq, Prod.mk.injEq] at hx
        rw [← hx.2]; exact (hdrAt_inj h1).2), m⟩
    · intro k _ hk
      exact ⟨put_ne hk, by simp only [Gh.set]; rw [if_neg hk], by simp only [Gh.set]; rw [if_neg hk]⟩
    · intro k b hk _ hlv hb
      exact ⟨rfl, (h.own k b hk hlv hb).2.1⟩
    · intro n' cs hk; exact absurd hk (kB_ne_kX _ _)
    · intro n' r' xs' hn' hx
      obtain rfl := kX_inj hn'
      rw [put_eq] at hx; cases hx
      rw [← hvp]
      have : (G.set (kX n') p U).bl (kX n') = U := by simp [Gh.set]
      rw [this]; exact ho
    · intro n' r' xs' hn' hx
      obtain rfl := kX_inj hn'
      rw [put_eq] at hx; cases hx
    · intro k b _ hk _ hb
      subst hk
      simp [Gh.set] at hb
      exact hU.mem b hb
    · intro k _ hk _; subst hk; simp only [Gh.set, if_true]; exact hU.nodup
    · intro k k' b hk hk' hc hlv hlv' hb hb'
      subst hc
      simp [Gh.set] at hb
      by_cases hc' : k' = kX n
      · exact hc'.symm
      · exfalso
        rw [put_ne hc'] at hlv'
        simp only [Gh.set, if_neg hc'] at hb'
        exact hU.live b k' hb hk' hlv' hb'
  rcases hx with ⟨rfl, rfl, _⟩ | ⟨b, o, arr, el, fz, U', rfl, _⟩
  · have e : v = hdrOf (G.set (kX n) none U) (kX n) xs.length := by rw [hv]; simp [hdrOf, Gh.set]
    exact ⟨none, (main _ e).1, (main _ e).2, e⟩
  · have e : v = hdrOf (G.set (kX n) (some (b, o, cap)) U) (kX n) xs.length := by rw [hv]; simp [hdrOf, Gh.set]
    exact ⟨some (b, o, cap), (main _ e).1, (main _ e).2, e⟩

/-- A key for a struct that lies in memory. -/
theorem Hp.putB (h : Hp B σ w G) {n : Nat} {cs : List LC} {vs : List Value} {b o : Nat} {arr : Array Value} {el : TypeId} {fz : Nat × Nat} (hnone : σ (kB n) = .none ∨ (isLive (σ (kB n)) = false ∧ G.at_ (kB n) = some (b, o, 0))) (hU : Free B w σ G [b])
    (hh : w.heap[b]? = some (.cells arr el fz)) (hf : isFree fz arr.size) (hl : o + cs.length ≤ arr.size) (hrow : rowAt' arr o vs) (hr : RelCs w σ G cs vs)
    (hpin : ∀ p, B.pin (kB n) = some p → p = some (b, o, 0)) :
    Hp B (put σ (kB n) (.box cs)) w (G.set (kB n) (some (b, o, 0)) [b]) ∧ Mon w σ G w (put σ (kB n) (.box cs)) (G.set (kB n) (some (b, o, 0)) [b]) := by
  have m : Mon w σ G w (put σ (kB n) (.box cs)) (G.set (kB n) (some (b, o, 0)) [b]) := by
    refine ⟨fun _ h => h, fun _ _ => rfl, fun j _ hj => ⟨?_, ?_⟩, fun m p hm hp => ?_, fun m p hm hx => ?_⟩
    · by_cases e : j = kB n
      · subst e; rw [put_eq]; simp
      · rw [put_ne e]; exact hj
    · simp only [Gh.set]
      by_cases e : j = kB n
      · subst e; rw [if_pos rfl]; exact ((hnone.resolve_left hj).2).symm
      · rw [if_neg e]
    · rw [put_ne fun e => kB_ne_kX _ _ e.symm] at hp; exact hp
    · rw [put_ne fun e => kB_ne_kX _ _ e.symm] at hx; exact hx
  refine ⟨h.change m (fun k => k = kB n) ?_ ?_ ?_ ?_ ?_ ?_ ?_ ?_ (fun b hb => h.shared b hb) (fun _ _ _ => rfl) (Nat.le_refl _) (fun n' r xs hk => absurd hk.symm (kB_ne_kX _ _)) (pin_new fun q hq => ⟨by rw [hpin q hq]; simp [Gh.set], fun n' r' l e _ => absurd e (kB_ne_kX _ _)⟩), m⟩
  · intro k _ hk
    exact ⟨put_ne hk, by simp only [Gh.set]; rw [if_neg hk], by simp only [Gh.set]; rw [if_neg hk]⟩
  · intro k b' hk _ hlv hb
    exact ⟨rfl, (h.own k b' hk hlv hb).2.1⟩
  · intro n' cs' hn' hcs
    obtain rfl := kB_inj hn'
    rw [put_eq] at hcs; cases hcs
    exact ⟨b, o, arr, el, fz, by simp [Gh.set], by simp [Gh.set], hh, hf, hl, vs, hrow, hr.mon m⟩
  · intro n' r xs hk; exact absurd hk.symm (kB_ne_kX _ _)
  · intro n' r xs hk; exact absurd hk.symm (kB_ne_kX _ _)
  · intro k b' _ hk _ hb
    subst hk
    simp [Gh.set] at hb
    subst hb
    exact hU.mem _ (by simp)
  · intro k _ hk _; subst hk; simp [Gh.set]
  · intro k k' b' hk hk' hc hlv hlv' hb hb'
    subst hc
    simp [Gh.set] at hb
    subst hb
    by_cases hc' : k' = kB n
    · exact hc'.symm
    · exfalso
      rw [put_ne hc'] at hlv'
      simp only [Gh.set, if_neg hc'] at hb'
      exact hU.live _ k' (by simp) hk' hlv' hb'

theorem Ty.okeys_eq : ∀ {t : Ty} {x : t.Den} {id : Nat}, (t.oxs x id).map (·.1) = t.okeys id
  | .int _, _, _ => rfl
  | .bool, _, _ => rfl
  | .str, _, _ => rfl
  | .sl _, _, _ => rfl
  | .ow _, _, _ => rfl
  | .nil, _, _ => rfl
  | .alt _ _, _, _ => rfl
  | .cons t r, x, id => by
    show (t.oxs x.1 id ++ r.oxs x.2 (id + t.size)).map (·.1) = t.okeys id ++ r.okeys (id + t.size)
    rw [List.map_append, Ty.okeys_eq (t := t), Ty.okeys_eq (t := r)]

theorem Ty.okeys_mem : ∀ {t : Ty} {id k : Nat}, k ∈ t.okeys id → ∃ j, id ≤ j ∧ j < id + t.size ∧ k = kX j
  | .int _, _, _, h => by simp [Ty.okeys] at h
  | .bool, _, _, h => by simp [Ty.okeys] at h
  | .str, _, _, h => by simp [Ty.okeys] at h
  | .sl _, _, _, h => by simp [Ty.okeys] at h
  | .ow _, id, k, h => ⟨id, Nat.le_refl _, by simp [Ty.size], by simpa [Ty.okeys] using h⟩
  | .nil, _, _, h => by simp [Ty.okeys] at h
  | .alt _ _, _, _, h => by simp [Ty.okeys] at h
  | .cons t r, id, k, h => by
    rcases List.mem_append.1 h with h | h
    · obtain ⟨j, h1, h2, h3⟩ := Ty.okeys_mem (t := t) h
      exact ⟨j, h1, by simp only [Ty.size]; omega, h3⟩
    · obtain ⟨j, h1, h2, h3⟩ := Ty.okeys_mem (t := r) h
      exact ⟨j, by omega, by simp only [Ty.size]; omega, h3⟩

/-- What is known of new keys grows: ks are the keys, U the blocks that they take. -/
structure Grow (B : Base) (w : World) (σ : Sg) (G : Gh) (σ' : Sg) (G' : Gh) (ks U : List Nat) : Prop where
  hp : Hp B σ' w G'
  mon : Mon w σ G w σ' G'
  S : G'.S = G.S
  free : ∀ V, Free B w σ G V → (∀ b, b ∈ V → b ∉ U) → Free B w σ' G' V
  old : ∀ k, k ∉ ks → σ' k = σ k

theorem Grow.refl (h : Hp B σ w G) : Grow B w σ G σ G [] [] := ⟨h, Mon.refl, rfl, fun _ h _ => h, fun _ _ => rfl⟩

theorem Grow.trans {σ1 σ2 : Sg} {G1 G2 : Gh} {k1 k2 U1 U2 : List Nat} (h1 : Grow B w σ G σ1 G1 k1 U1) (h2 : Grow B w σ1 G1 σ2 G2 k2 U2) : Grow B w σ G σ2 G2 (k1 ++ k2) (U1 ++ U2) :=
  ⟨h2.hp, h1.mon.trans h2.mon, h2.S.trans h1.S, fun V hV hd => h2.free V (h1.free V hV fun b hb hb' => hd b hb (List.mem_append_left _ hb')) fun b hb hb' => hd b hb (List.mem_append_right _ hb'),
    fun k hk => (h2.old k fun h => hk (List.mem_append_right _ h)).trans (h1.old k fun h => hk (List.mem_append_left _ h))⟩

theorem Free.other {U V : List Nat} {n : Nat} {kv : KV} {p : Option (Nat × Nat × Nat)} (hV : Free B w σ G V) (hd : ∀ b, b ∈ V → b ∉ U) : Free B w (put σ n kv) (G.set n p U) V := by
  refine ⟨hV.nodup, hV.mem, fun b k hb hk hl hbk => ?_⟩
  by_cases e : k = n
  · subst e
    simp [Gh.set] at hbk
    exact hd b hb hbk
  · rw [put_ne e] at hl
    simp only [Gh.set, if_neg e] at hbk
    exact hV.live b k hb hk hl hbk

theorem Free.left {U V : List Nat} (h : Free B w σ G (U ++ V)) : Free B w σ G U :=
  ⟨(List.nodup_append.1 h.nodup).1, fun b hb => h.mem b (List.mem_append_left _ hb), fun b k hb => h.live b k (List.mem_append_left _ hb)⟩

theorem Free.right {U V : List Nat} (h : Free B w σ G (U ++ V)) : Free B w σ G V :=
  ⟨(List.nodup_append.1 h.nodup).2.1, fun b hb => h.mem b (List.mem_append_right _ hb), fun b k hb => h.live b k (List.mem_append_right _ hb)⟩

theorem Free.apart {U V : List Nat} (h : Free B w σ G (U ++ V)) : ∀ b, b ∈ V → b ∉ U := fun b hb hb' => (List.nodup_append.1 h.nodup).2.2 b hb' b hb rfl

/-- A slot is written. -/
theorem Grow.slot (h : Hp B σ w G) (n : Nat) (s : KV) : Grow B w σ G (put σ (kS n) s) G [kS n] [] := by
  have he : ∀ k, isKey k → put σ (kS n) s k = σ k := fun k hk => put_ne (isKey_ne_kS hk n)
  refine ⟨h.slots he, Mon.slots he, rfl, fun V hV _ => ⟨hV.nodup, hV.mem, fun b k hb hk hl => hV.live b k hb hk (by rw [← he k hk]; exact hl)⟩, fun k hk => put_ne (by simpa using hk)⟩

/-- Where pinned slices of data lie is as it is pinned. -/
def PinX (B : Base) : Ty → Nat → List Value → Prop
  | .ow _, id, vs => ∀ p, B.pin (kX id) = some p → ∀ v, vs = [v] → v = hdrAt p (B.plen id)
  | .cons t r, id, vs => PinX B t id (vs.take t.size) ∧ PinX B r (id + t.size) (vs.drop t.size)
  | _, _, _ => True

theorem PinX.none : ∀ {t : Ty} {id : Nat} {vs : List Value}, (∀ k, k ∈ t.okeys id → B.pin k = none) → PinX B t id vs
  | .int _, _, _, _ => trivial
  | .bool, _, _, _ => trivial
  | .str, _, _, _ => trivial
  | .sl _, _, _, _ => trivial
  | .nil, _, _, _ => trivial
  | .alt _ _, _, _, _ => trivial
  | .ow _, id, vs, h => fun p hp => by rw [h _ (List.mem_singleton.2 rfl)] at hp; cases hp
  | .cons _ _, _, _, h => ⟨PinX.none fun k hk => h k (List.mem_append_left _ hk), PinX.none fun k hk => h k (List.mem_append_right _ hk)⟩

theorem Hp.unpack : ∀ {t : Ty} {x : t.Den} {vs : List Value} {U : List Nat} {id : Nat} {σ : Sg} {G : Gh}, Hp B σ w G → t.owPlain = true → ORep w G.S t x vs U → Free B w σ G U →
    (∀ k, k ∈ t.okeys id → σ k = .none) → PinX B t id vs → ∃ G', Grow B w σ G (puts σ (t.oxs x id)) G' (t.okeys id) U ∧ RelCs w (puts σ (t.oxs x id)) G' (t.ocs x id) vs
  | .int k, x, vs, U, id, σ, G, hp, _, ho, _, _, _ => ⟨G, by rw [ho.2]; exact Grow.refl hp, by rw [ho.1]; exact ⟨⟨rfl, rfl⟩, trivial⟩⟩
  | .bool, x, vs, U, id, σ, G, hp, _, ho, _, _, _ => ⟨G, by rw [ho.2]; exact Grow.refl hp, by rw [ho.1]; exact ⟨⟨rfl, rfl⟩, trivial⟩⟩
  | .str, x, vs, U, id, σ, G, hp, _, ho, _, _, _ => ⟨G, by rw [ho.2]; exact Grow.refl hp, by rw [ho.1]; exact ⟨⟨rfl, rfl⟩, trivial⟩⟩
  | .sl r, x, vs, U, id, σ, G, hp, _, ho, _, _, _ => by
    have ho' := ho
    obtain ⟨hU, A, cap, hv, hx⟩ := ho'
    subst hU
    subst hv
    exact ⟨G, Grow.refl hp, ho, trivial⟩
  | .nil, x, vs, U, id, σ, G, hp, _, ho, _, _, _ => ⟨G, by rw [ho.2]; exact Grow.refl hp, by rw [ho.1]; trivial⟩
  | .alt _ _, _, _, _, _, _, _, _, h, _, _, _, _ => by cases h
  | .ow r, x, vs, U, id, σ, G, hp, hw, ho, hU, hn, hpin => by
    have ho' := ho
    obtain ⟨A, cap, hv, _⟩ := ho'
    have hlen : ∀ p, B.pin (kX id) = some p → Value.slice A x.length cap = hdrAt p (B.plen id) := fun p hp => hpin p hp _ hv
    subst hv
    obtain ⟨p, h1, h2, h3⟩ := hp.putX (n := id) (hn _ (List.mem_singleton.2 rfl)) hw ho hU hlen
    exact ⟨G.set (kX id) p U, ⟨h1, h2, rfl, fun V hV hd => hV.other hd, fun k hk => put_ne (by simpa [Ty.okeys] using hk)⟩, ⟨hdl_new (w := w) h3, trivial⟩⟩
  | .cons t r, x, vs, U, id, σ, G, hp, hw, ho, hU, hn, hpin => by
    simp only [Ty.owPlain, Bool.and_eq_true] at hw
    obtain ⟨v1, v2, U1, U2, hv, hUU, o1, o2⟩ := ho
    subst hv; subst hUU
    have hl1 := o1.length
    obtain ⟨pin1, pin2⟩ := hpin
    rw [← hl1] at pin1 pin2
    rw [List.take_left] at pin1
    rw [List.drop_left] at pin2
    rw [hl1] at pin2
    obtain ⟨G1, g1, r1⟩ := Hp.unpack (t := t) (id := id) hp hw.1 o1 hU.left (fun k hk => hn k (List.mem_append_left _ hk)) pin1
    obtain ⟨G2, g2, r2⟩ := Hp.unpack (t := r) (id := id + t.size) g1.hp hw.2 (by rw [g1.S]; exact o2) (g1.free U2 hU.right hU.apart) (fun k hk => by
      rw [g1.old k fun hk' => ?_]
      · exact hn k (List.mem_append_right _ hk)
      · obtain ⟨j, h1, h2, h3⟩ := Ty.okeys_mem hk
        obtain ⟨j', h4, h5, h6⟩ := Ty.okeys_mem hk'
        have := kX_inj (h3.symm.trans h6)
        omega) pin2
    refine ⟨G2, ?_, ?_⟩
    · show Grow B w σ G (puts σ (t.oxs x.1 id ++ r.oxs x.2 (id + t.size))) G2 (t.okeys id ++ r.okeys (id + t.size)) (U1 ++ U2)
      rw [puts_append]; exact g1.trans g2
    · show RelCs w (puts σ (t.oxs x.1 id ++ r.oxs x.2 (id + t.size))) G2 (t.ocs x.1 id ++ r.ocs x.2 (id + t.size)) (v1 ++ v2)
      rw [puts_append]; exact (r1.mon g2.mon).append r2

theorem put_comm {k j : Nat} {u v : KV} (h : k ≠ j) : put (put σ k u) j v = put (put σ j v) k u := by
  funext n
  by_cases h1 : n = j
  · subst h1; rw [put_eq, put_ne (Ne.symm h), put_eq]
  · rw [put_ne h1]
    by_cases h2 : n = k
    · subst h2; rw [put_eq, put_eq]
    · rw [put_ne h2, put_ne h2, put_ne h1]

theorem puts_put {k : Nat} {v : KV} : ∀ {l : List (Nat × KV)} {σ : Sg}, k ∉ l.map (·.1) → puts (put σ k v) l = put (puts σ l) k v
  | [], _, _ => rfl
  | (j, u) :: l, σ, h => by
    simp only [List.map_cons, List.mem_cons, not_or] at h
    show puts (put (put σ k v) j u) l = put (puts (put σ j u) l) k v
    rw [put_comm h.1, puts_put h.2]

/-- A struct of its own, in memory. -/
def BoxAt (w : World) (S : Nat → Prop) (r : Ty) (x : r.Den) (b o : Nat) (U : List Nat) : Prop :=
  ∃ arr el fz vs U', U = b :: U' ∧ w.heap[b]? = some (.cells arr el fz) ∧ isFree fz arr.size ∧ o + r.size ≤ arr.size ∧ rowAt' arr o vs ∧ ORep w S r x vs U'

theorem Ty.ocs_length : ∀ {t : Ty} {x : t.Den} {id : Nat}, (t.ocs x id).length = t.size
  | .int _, _, _ => rfl
  | .bool, _, _ => rfl
  | .str, _, _ => rfl
  | .sl _, _, _ => rfl
  | .ow _, _, _ => rfl
  | .nil, _, _ => rfl
  | .alt _ _, _, _ => rfl
  | .cons t r, x, id => by
    show (t.ocs x.1 id ++ r.ocs x.2 (id + t.size)).length = _
    rw [List.length_append, Ty.ocs_length (t := t), Ty.ocs_length (t := r)]; rfl

theorem kB_not_okeys {t : Ty} {id n : Nat} : kB n ∉ t.okeys id := by
  intro h
  obtain ⟨j, _, _, h3⟩ := Ty.okeys_mem h
  exact kB_ne_kX _ _ h3

theorem okeys_oxs {t : Ty} {x : t.Den} {id k : Nat} (h : k ∈ t.okeys id) : k ∈ (t.oxs x id).map (·.1) := by rw [Ty.okeys_eq]; exact h

theorem oxs_okeys {t : Ty} {x : t.Den} {id k : Nat} (h : k ∈ (t.oxs x id).map (·.1)) : k ∈ t.okeys id := by rw [Ty.okeys_eq] at h; exact h

theorem kB_not_oxs {t : Ty} {x : t.Den} {id n : Nat} : kB n ∉ (t.oxs x id).map (·.1) := by rw [Ty.okeys_eq]; exact kB_not_okeys

theorem boxKeysEq {r : Ty} {x : r.Den} {id n : Nat} {cs : List LC} : ((kB n, KV.box cs) :: r.oxs x id).map (·.1) = kB n :: r.okeys id := by rw [List.map_cons, Ty.okeys_eq]

theorem boxThere {r : Ty} {x : r.Den} {id n : Nat} {cs : List LC} : puts (put σ (kB n) (.box cs)) (r.oxs x id) (kB n) ≠ .none := by
  rw [puts_not kB_not_oxs, put_eq]; simp

theorem kS_not_okeys {t : Ty} {id n : Nat} : kS n ∉ t.okeys id := by
  intro h
  obtain ⟨j, _, _, h3⟩ := Ty.okeys_mem h
  exact kS_ne_kX _ _ h3

theorem Hp.unbox {r : Ty} {x : r.Den} {b o n id : Nat} {U : List Nat} (hp : Hp B σ w G) (hw : r.owPlain = true) (hb : BoxAt w G.S r x b o U) (hU : Free B w σ G U)
    (hn : σ (kB n) = .none ∨ (isLive (σ (kB n)) = false ∧ G.at_ (kB n) = some (b, o, 0))) (hk : ∀ k, k ∈ r.okeys id → σ k = .none) (hpk : ∀ k, k ∈ r.okeys id → B.pin k = none) (hpin : ∀ p, B.pin (kB n) = some p → p = some (b, o, 0)) :
    ∃ G', Grow B w σ G (puts σ ((kB n, .box (r.ocs x id)) :: r.oxs x id)) G' (kB n :: r.okeys id) U ∧ G'.at_ (kB n) = some (b, o, 0) := by
  obtain ⟨arr, el, fz, vs, U', rfl, hh, hf, hl, hrow, ho⟩ := hb
  have hU1 : Free B w σ G [b] := Free.left (U := [b]) (V := U') hU
  have hU2 : Free B w σ G U' := Free.right (U := [b]) (V := U') hU
  obtain ⟨G1, g1, r1⟩ := Hp.unpack hp hw ho hU2 hk (PinX.none hpk)
  have hF : Free B w (puts σ (r.oxs x id)) G1 [b] := g1.free [b] hU1 fun c hc hc' => (Free.apart (U := [b]) (V := U') hU) c hc' hc
  obtain ⟨h1, h2⟩ := g1.hp.putB (n := n) (by
    rw [g1.old _ kB_not_okeys]
    by_cases hk0 : σ (kB n) = .none
    · exact .inl hk0
    · exact hn.imp (fun h => h) fun h => ⟨h.1, by rw [(g1.mon.key _ (isKey_kB n) hk0).2]; exact h.2⟩) hF hh hf (by rw [Ty.ocs_length]; exact hl) hrow r1 hpin
  refine ⟨G1.set (kB n) (some (b, o, 0)) [b], ?_, by simp [Gh.set]⟩
  have e : puts σ ((kB n, .box (r.ocs x id)) :: r.oxs x id) = put (puts σ (r.oxs x id)) (kB n) (.box (r.ocs x id)) := by
    show puts (put σ (kB n) _) (r.oxs x id) = _
    exact puts_put (by rw [Ty.okeys_eq]; exact kB_not_okeys)
  rw [e]
  refine ⟨h1, g1.mon.trans h2, g1.S, fun V hV hd => ?_, fun k hk' => ?_⟩
  · exact (g1.free V hV fun c hc hc' => hd c hc (List.mem_cons_of_mem _ hc')).other fun c hc hc' => hd c hc (by
      have : c = b := by simpa using hc'
      rw [this]; exact List.mem_cons_self ..)
  · rw [put_ne fun e => hk' (by rw [e]; exact List.mem_cons_self ..)]
    exact g1.old k fun h => hk' (List.mem_cons_of_mem _ h)

end
end Rg

/- The ring framework, part Z: data taken out of a state. -/
namespace Rg
open Go

theorem memK_iff {n : Nat} : ∀ {l : List Nat}, memK n l = true ↔ n ∈ l
  | [] => by simp [memK]
  | m :: l => by
    simp only [memK, Bool.or_eq_true, List.mem_cons, memK_iff (l := l)]
    exact ⟨fun h => h.imp Nat.eq_of_beq_eq_true id, fun h => h.imp (fun e => by rw [e]; exact Nat.beq_refl _) id⟩

theorem nodupK_iff : ∀ {l : List Nat}, nodupK l = true ↔ l.Nodup
  | [] => by simp [nodupK]
  | m :: l => by
    simp only [nodupK, Bool.and_eq_true, Bool.not_eq_true', List.nodup_cons, nodupK_iff (l := l)]
    refine ⟨fun h => ⟨fun hm => ?_, h.2⟩, fun h => ⟨?_, h.2⟩⟩
    · rw [memK_iff.2 hm] at h; exact absurd h.1 (by simp)
    · cases hm : memK m l
      · rfl
      · exact absurd (memK_iff.1 hm) h.1

section
variable {P : Program} {E : Env} {B : Base} {N : Nat} {w : World} {σ : Sg} {G : Gh}

/-- One thing that becomes of a key when data are taken. -/
def UpK (w : World) (σ : Sg) (G : Gh) (L D : List Nat) (p : Nat × KV) : Prop :=
  isKey p.1 ∧ isLive (σ p.1) = true ∧ ((p.2 = .gone ∧ p.1 ∈ D) ∨
    (∃ e r xs, p.1 = kX e ∧ σ (kX e) = .ex r xs ∧ e ∈ L ∧ ∃ q y, p.2 = .fz q y ∧ q.size = r.size ∧ y.length = xs.length ∧ ORep w (SL G L) (.sl q) y [hdrOf G (kX e) xs.length] []))

theorem UpK.mono {L L' D D' : List Nat} (hL : ∀ e, e ∈ L → e ∈ L') (hD : ∀ e, e ∈ D → e ∈ D') {p : Nat × KV} : UpK w σ G L D p → UpK w σ G L' D' p := by
  rintro ⟨h1, h2, h3⟩
  refine ⟨h1, h2, h3.imp (fun h => ⟨h.1, hD _ h.2⟩) ?_⟩
  rintro ⟨e, r, xs, he, hx, hl, q, y, hq, hs, hy, ho⟩
  exact ⟨e, r, xs, he, hx, hL e hl, q, y, hq, hs, hy, ho.mono (fun b hb => SL.mono hL hb) fun _ _ => rfl⟩

/-- What taking data says: R of the shared blocks and of the blocks that go; the slices L are shared, the keys D are given away. -/
structure Taken (w : World) (σ : Sg) (G : Gh) (R : (Nat → Prop) → List Nat → Prop) (ups : List (Nat × KV)) (L D : List Nat) : Prop where
  rep : R (SL G L) (D.flatMap G.bl)
  mono : ∀ S S' U, (∀ b, S b → S' b) → R S U → R S' U
  liveL : ∀ e, e ∈ L → isLive (σ (kX e)) = true
  liveD : ∀ k, k ∈ D → isKey k ∧ isLive (σ k) = true
  ok : ∀ p, p ∈ ups → UpK w σ G L D p
  gone : (ups.filter fun p => isGone p.2).map (·.1) = D
  fz : ∀ e, e ∈ L → ∃ p, p ∈ ups ∧ p.1 = kX e ∧ isGone p.2 = false

theorem blOf_map (G : Gh) (D : List Nat) : (D.map kX).flatMap G.bl = blOf G D := by
  unfold blOf
  rw [List.flatMap_map]

theorem Packed.taken {t : Ty} {x : t.Den} {vs : List Value} {ups : List (Nat × KV)} {L D : List Nat} (h : Packed false w σ G t x vs ups L D) :
    Taken w σ G (fun S U => ORep w S t x vs U) ups L (D.map kX) := by
  refine ⟨by rw [blOf_map]; exact h.rep, fun S S' U hS ho => ho.mono hS fun _ _ => rfl, fun e he => h.live e (.inl he), fun k hk => ?_, fun p hp => ?_, h.gone, h.fz rfl⟩
  · obtain ⟨e, he, rfl⟩ := List.mem_map.1 hk
    exact ⟨isKey_kX e, h.live e (.inr he)⟩
  · obtain ⟨e, r, xs, h1, h2, h3⟩ := h.ok p hp
    refine ⟨by rw [h1]; exact isKey_kX e, by rw [h1, h2]; rfl, ?_⟩
    rcases h3 with ⟨h3, h4⟩ | ⟨hl, q, y, h3⟩
    · exact .inl ⟨h3, by rw [h1]; exact List.mem_map.2 ⟨e, h4, rfl⟩⟩
    · exact .inr ⟨e, r, xs, h1, h2, hl, q, y, h3⟩

theorem Taken.nil {R : (Nat → Prop) → List Nat → Prop} (h : ∀ S, R S []) (hm : ∀ S S' U, (∀ b, S b → S' b) → R S U → R S' U) : Taken w σ G R [] [] [] :=
  ⟨h _, hm, fun _ h => by simp at h, fun _ h => by simp at h, fun _ h => by simp at h, rfl, fun _ h => by simp at h⟩

theorem Taken.imp {R R' : (Nat → Prop) → List Nat → Prop} {ups : List (Nat × KV)} {L D : List Nat} (h : Taken w σ G R ups L D) (hi : ∀ S U, R S U → R' S U)
    (hm : ∀ S S' U, (∀ b, S b → S' b) → R' S U → R' S' U) : Taken w σ G R' ups L D := ⟨hi _ _ h.rep, hm, h.liveL, h.liveD, h.ok, h.gone, h.fz⟩

theorem Taken.append {R1 R2 R : (Nat → Prop) → List Nat → Prop} {u1 u2 : List (Nat × KV)} {L1 L2 D1 D2 : List Nat} (h1 : Taken w σ G R1 u1 L1 D1) (h2 : Taken w σ G R2 u2 L2 D2)
    (hR : ∀ S U1 U2, R1 S U1 → R2 S U2 → R S (U1 ++ U2)) (hm : ∀ S S' U, (∀ b, S b → S' b) → R S U → R S' U) : Taken w σ G R (u1 ++ u2) (L1 ++ L2) (D1 ++ D2) := by
  have l1 : ∀ e, e ∈ L1 → e ∈ L1 ++ L2 := fun e h => List.mem_append_left _ h
  have l2 : ∀ e, e ∈ L2 → e ∈ L1 ++ L2 := fun e h => List.mem_append_right _ h
  have d1 : ∀ e, e ∈ D1 → e ∈ D1 ++ D2 := fun e h => List.mem_append_left _ h
  have d2 : ∀ e, e ∈ D2 → e ∈ D1 ++ D2 := fun e h => List.mem_append_right _ h
  refine ⟨?_, hm, ?_, ?_, ?_, ?_, ?_⟩
  · rw [List.flatMap_append]
    exact hR _ _ _ (h1.mono _ _ _ (fun b hb => SL.mono l1 hb) h1.rep) (h2.mono _ _ _ (fun b hb => SL.mono l2 hb) h2.rep)
  · intro e he; exact (List.mem_append.1 he).elim (h1.liveL e) (h2.liveL e)
  · intro e he; exact (List.mem_append.1 he).elim (h1.liveD e) (h2.liveD e)
  · intro p hp
    rcases List.mem_append.1 hp with h | h
    · exact (h1.ok p h).mono l1 d1
    · exact (h2.ok p h).mono l2 d2
  · simp [h1.gone, h2.gone]
  · intro e he
    rcases List.mem_append.1 he with h | h
    · obtain ⟨p, h3, h4⟩ := h1.fz e h
      exact ⟨p, List.mem_append_left _ h3, h4⟩
    · obtain ⟨p, h3, h4⟩ := h2.fz e h
      exact ⟨p, List.mem_append_right _ h3, h4⟩

theorem BoxAt.mono {S S' : Nat → Prop} {r : Ty} {x : r.Den} {b o : Nat} {U : List Nat} (hS : ∀ b, S b → S' b) (h : BoxAt w S r x b o U) : BoxAt w S' r x b o U := by
  obtain ⟨arr, el, fz, vs, U', h1, h2, h3, h4, h5, h6⟩ := h
  exact ⟨arr, el, fz, vs, U', h1, h2, h3, h4, h5, h6.mono hS fun _ _ => rfl⟩

/-- A struct is taken, with all that is in it. -/
theorem Taken.box (hp : Hp B σ w G) {n : Nat} {cs : List LC} {r : Ty} {x : r.Den} {ups : List (Nat × KV)} {rs rs' : List Nat} (hb : σ (kB n) = .box cs)
    (h : (r.pack false cs).eval σ rs = some ((x, [], ups), rs')) : ∃ b o L D, G.at_ (kB n) = some (b, o, 0) ∧ Taken w σ G (fun S U => BoxAt w S r x b o U) ((kB n, .gone) :: ups) L (kB n :: D) := by
  obtain ⟨b, o, arr, el, fz, h1, h2, h3, h4, h5, vs, h6, h7⟩ := hp.box n cs hb
  obtain ⟨v1, v2, L, D, hv, hr, hpk⟩ := pack_sound hp h h7
  have hv2 : v2 = [] := by
    cases v2 with
    | nil => rfl
    | cons _ _ => exact hr.elim
  subst hv2
  rw [List.append_nil] at hv
  subst hv
  have ht := hpk.taken
  have hlen : cs.length = r.size := by rw [h7.length, ht.rep.length]
  refine ⟨b, o, L, D.map kX, h1, ⟨?_, fun S S' U hS h => h.mono hS, ht.liveL, ?_, ?_, ?_, ?_⟩⟩
  · refine ⟨arr, el, fz, vs, (D.map kX).flatMap G.bl, ?_, h3, h4, by rw [← hlen]; exact h5, h6, ht.rep⟩
    rw [List.flatMap_cons, h2]; rfl
  · intro k hk
    rcases List.mem_cons.1 hk with rfl | hk
    · exact ⟨isKey_kB n, by rw [hb]; rfl⟩
    · exact ht.liveD k hk
  · intro p hp'
    rcases List.mem_cons.1 hp' with rfl | hp'
    · exact ⟨isKey_kB n, by rw [hb]; rfl, .inl ⟨rfl, List.mem_cons_self ..⟩⟩
    · exact (ht.ok p hp').mono (fun _ h => h) fun e h => List.mem_cons_of_mem _ h
  · have := ht.gone
    rw [List.filter_cons, if_pos (show isGone (kB n, KV.gone).2 = true from rfl), List.map_cons, this]
  · intro e he
    obtain ⟨p, h8, h9⟩ := ht.fz e he
    exact ⟨p, List.mem_cons_of_mem _ h8, h9⟩

theorem nodup_keys (hp : Hp B σ w G) : ∀ {D : List Nat}, D.Nodup → (∀ k, k ∈ D → isKey k ∧ isLive (σ k) = true) → (D.flatMap G.bl).Nodup
  | [], _, _ => by simp
  | e :: D, hn, hl => by
    have hn' := List.nodup_cons.1 hn
    have he := hl e (List.mem_cons_self ..)
    rw [List.flatMap_cons, List.nodup_append]
    refine ⟨hp.nodup _ he.1 he.2, nodup_keys hp hn'.2 fun e' h => hl e' (List.mem_cons_of_mem _ h), ?_⟩
    intro b hb b' hb' hbb
    subst hbb
    obtain ⟨e', he', hb'⟩ := List.mem_flatMap.1 hb'
    have hl' := hl e' (List.mem_cons_of_mem _ he')
    have := hp.apart _ _ b he.1 hl'.1 he.2 hl'.2 hb hb'
    exact hn'.1 (this ▸ he')

variable {R : (Nat → Prop) → List Nat → Prop} {ups : List (Nat × KV)} {L D : List Nat}

theorem Taken.nodup (h : Taken w σ G R ups L D) (hu : okUps ups = true) : D.Nodup := by rw [← h.gone]; exact (okUps_spec hu).1

/-- Nothing that goes is shared. -/
theorem Taken.apart (hp : Hp B σ w G) (h : Taken w σ G R ups L D) (hu : okUps ups = true) : ∀ b, b ∈ D.flatMap G.bl → ¬ SL G L b := by
  intro b hb
  obtain ⟨k, hk, hbk⟩ := List.mem_flatMap.1 hb
  obtain ⟨h1, h2⟩ := h.liveD k hk
  rintro (hs | ⟨e, he, hs⟩)
  · exact (hp.own k b h1 h2 hbk).2.1 hs
  · have e1 := hp.apart _ _ b h1 (isKey_kX e) h2 (h.liveL e he) hbk hs
    obtain ⟨p, h3, h4, h5⟩ := h.fz e he
    have : k ∈ (ups.filter fun p => isGone p.2).map (·.1) := by rw [h.gone]; exact hk
    obtain ⟨p', hp', hk'⟩ := List.mem_map.1 this
    have hpf := List.mem_filter.1 hp'
    exact (okUps_spec hu).2 p' p hpf.1 h3 hpf.2 h5 (by rw [hk', h4, e1])

/-- The blocks that go. -/
theorem Taken.blocks (hp : Hp B σ w G) (h : Taken w σ G R ups L D) : ∀ b, b ∈ D.flatMap G.bl → b < w.heap.size ∧ (B.n0 ≤ b ∨ B.W b) := by
  intro b hb
  obtain ⟨k, hk, hbk⟩ := List.mem_flatMap.1 hb
  obtain ⟨h1, h2⟩ := h.liveD k hk
  exact ⟨(hp.own k b h1 h2 hbk).1, (hp.own k b h1 h2 hbk).2.2⟩

/-- Data are taken: what is shared is frozen, what is given away is gone. -/
theorem Taken.apply (hp : Hp B σ w G) (h : Taken w σ G R ups L D) (hu : okUps ups = true) :
    Hp B (puts σ ups) w { G with S := SL G L } ∧ Mon w σ G w (puts σ ups) { G with S := SL G L } ∧ Free B w (puts σ ups) { G with S := SL G L } (D.flatMap G.bl) ∧ (∀ k, k ∈ D → puts σ ups k = .gone) := by
  obtain ⟨u1, u2⟩ := okUps_spec hu
  -- what becomes of a key
  have fate : ∀ k, k ∈ ups.map (·.1) → isKey k ∧ isLive (σ k) = true ∧ (puts σ ups k = .gone ∨ ∃ e r xs, k = kX e ∧ σ (kX e) = .ex r xs ∧ e ∈ L ∧
      ∃ q y, puts σ ups k = .fz q y ∧ q.size = r.size ∧ y.length = xs.length ∧ ORep w (SL G L) (.sl q) y [hdrOf G (kX e) xs.length] []) := by
    intro k hk
    obtain ⟨p, h1, h2, h3⟩ := puts_val (σ := σ) hk
    obtain ⟨h4, h5, h6⟩ := h.ok p h1
    rw [h2] at h4 h5 h6
    refine ⟨h4, h5, ?_⟩
    rcases h6 with ⟨h6, _⟩ | ⟨e, r, xs, h7, h8, hl, q, y, h9, h10⟩
    · exact .inl (by rw [h3, h6])
    · exact .inr ⟨e, r, xs, h7, h8, hl, q, y, by rw [h3, h9], h10⟩
  have memL : ∀ e, e ∈ L → kX e ∈ ups.map (·.1) := fun e he => let ⟨p, h1, h2, _⟩ := h.fz e he; List.mem_map.2 ⟨p, h1, h2⟩
  have dead : ∀ k, k ∈ ups.map (·.1) → isLive (puts σ ups k) = true → False := by
    intro k hk hl
    obtain ⟨_, _, h | ⟨e, r, xs, _, _, _, q, y, h, _⟩⟩ := fate k hk <;> rw [h] at hl <;> cases hl
  have m : Mon w σ G w (puts σ ups) { G with S := SL G L } := by
    refine ⟨fun _ h => .inl h, fun _ _ => rfl, fun k _ hk => ⟨?_, rfl⟩, fun n p hn hpp => ?_, fun n p hn hx => ?_⟩
    · by_cases hm : k ∈ ups.map (·.1)
      · obtain ⟨_, _, h | ⟨e, r, xs, _, _, _, q, y, h, _⟩⟩ := fate k hm <;> rw [h] <;> simp
      · rw [puts_not hm]; exact hk
    · by_cases hm : kX n ∈ ups.map (·.1)
      · obtain ⟨_, _, h | ⟨e, r, xs, he, hx, _, q, y, h, hs, hl, _⟩⟩ := fate _ hm
        · rw [h] at hpp; cases hpp
        · obtain rfl := kX_inj he
          rw [h] at hpp; rw [hx]
          simp only [KV.len?] at hpp ⊢
          rw [← hpp, hs, hl]
      · rw [puts_not hm] at hpp; exact hpp
    · by_cases hm : kX n ∈ ups.map (·.1)
      · obtain ⟨_, _, h | ⟨e, r, xs, _, _, _, q, y, h, _⟩⟩ := fate _ hm <;> rw [h] at hx <;> cases hx
      · rw [puts_not hm] at hx; exact hx
  have hgone : ∀ k, k ∈ D → puts σ ups k = .gone := by
    intro k hk
    have : k ∈ (ups.filter fun p => isGone p.2).map (·.1) := by rw [h.gone]; exact hk
    obtain ⟨p, hp', hk'⟩ := List.mem_map.1 this
    have hpf := List.mem_filter.1 hp'
    have hm : k ∈ ups.map (·.1) := List.mem_map.2 ⟨p, hpf.1, hk'⟩
    obtain ⟨p2, h1, h2, h3⟩ := puts_val (σ := σ) hm
    rw [h3]
    cases hg : isGone p2.2
    · exact absurd (by rw [hk', h2]) (u2 p p2 hpf.1 h1 hpf.2 hg)
    · cases hh : p2.2 <;> simp_all [isGone]
  have memD : ∀ k, k ∈ D → k ∈ ups.map (·.1) := by
    intro k hk
    have : k ∈ (ups.filter fun p => isGone p.2).map (·.1) := by rw [h.gone]; exact hk
    obtain ⟨p, hp', hk'⟩ := List.mem_map.1 this
    exact List.mem_map.2 ⟨p, (List.mem_filter.1 hp').1, hk'⟩
  have hHp : Hp B (puts σ ups) w { G with S := SL G L } := by
    refine hp.change m (fun k => k ∈ ups.map (·.1)) (fun k _ hk => ⟨puts_not hk, rfl, rfl⟩) ?_ ?_ ?_ ?_ ?_ ?_ ?_ ?_ (fun _ _ _ => rfl) (Nat.le_refl _) (fun n r xs hk hx => (dead _ hk (by rw [hx]; rfl)).elim)
      (fun k p _ h1 h2 _ => by
        by_cases hm : k ∈ ups.map (·.1)
        · have := (fate k hm).2.1
          rw [h1] at this; cases this
        · rw [puts_not hm] at h2; exact absurd h1 h2)
    · intro k b hk hne hl hb
      refine ⟨rfl, ?_⟩
      rintro (hs | ⟨e, he, hs⟩)
      · exact (hp.own k b hk hl hb).2.1 hs
      · have := hp.apart k (kX e) b hk (isKey_kX e) hl (h.liveL e he) hb hs
        exact hne (this ▸ memL e he)
    · intro n cs hk hx; exact (dead _ hk (by rw [hx]; rfl)).elim
    · intro n r xs hk hx; exact (dead _ hk (by rw [hx]; rfl)).elim
    · intro n r xs hk hx
      obtain ⟨_, _, h | ⟨e, r', xs', he, h5, _, q, y, h, hs, hl, ho⟩⟩ := fate _ hk
      · rw [h] at hx; cases hx
      · obtain rfl := kX_inj he
        rw [h] at hx
        cases hx
        rw [hl]; exact ho
    · intro k b _ hk hl; exact (dead k hk hl).elim
    · intro k _ hk hl; exact (dead k hk hl).elim
    · intro k k' b _ _ hk hl; exact (dead k hk hl).elim
    · rintro b (hs | ⟨e, he, hs⟩)
      · exact hp.shared b hs
      · obtain ⟨h1, _, h3⟩ := hp.own (kX e) b (isKey_kX e) (h.liveL e he) hs
        exact ⟨h1, h3.elim .inl fun h => .inr (.inr h)⟩
  refine ⟨hHp, m, ⟨nodup_keys hp (h.nodup hu) h.liveD, fun b hb => ⟨(h.blocks hp b hb).1, h.apart hp hu b hb, (h.blocks hp b hb).2⟩, ?_⟩, hgone⟩
  intro b k hb hk hl hbk
  obtain ⟨k0, hk0, hbk0⟩ := List.mem_flatMap.1 hb
  obtain ⟨h1, h2⟩ := h.liveD k0 hk0
  by_cases hm : k ∈ ups.map (·.1)
  · exact dead k hm hl
  · rw [puts_not hm] at hl
    have := hp.apart k0 k b h1 hk h2 hl hbk0 hbk
    exact hm (this ▸ memD k0 hk0)

/-- Keys are given away, and nothing else. -/
theorem Hp.drop (hp : Hp B σ w G) {ks : List (Nat × KV)} (hk : ∀ p, p ∈ ks → p.2 = .gone ∧ isKey p.1 ∧ isLive (σ p.1) = true) :
    Hp B (puts σ ks) w G ∧ Mon w σ G w (puts σ ks) G ∧ (∀ k, k ∈ ks.map (·.1) → puts σ ks k = .gone) := by
  induction ks generalizing σ with
  | nil => exact ⟨hp, Mon.refl, fun k h => by simp at h⟩
  | cons p l ih =>
    obtain ⟨k, v⟩ := p
    obtain ⟨h1, h2, h3⟩ := hk (k, v) (List.mem_cons_self ..)
    simp only at h1 h2 h3
    subst h1
    by_cases hm : k ∈ l.map (·.1)
    · obtain ⟨i1, i2, i3⟩ := ih hp fun p hp' => hk p (List.mem_cons_of_mem _ hp')
      have e : puts σ ((k, .gone) :: l) = puts σ l := by
        funext j
        show puts (put σ k .gone) l j = _
        by_cases hj : j ∈ l.map (·.1)
        · exact puts_mem hj
        · rw [puts_not hj, puts_not hj, put_ne fun e => hj (by rw [e]; exact hm)]
      rw [e]
      refine ⟨i1, i2, fun j hj => ?_⟩
      rcases List.mem_cons.1 (by simpa using hj : j ∈ k :: l.map (·.1)) with rfl | hj
      · exact i3 _ hm
      · exact i3 _ hj
    · have e : puts σ ((k, .gone) :: l) = put (puts σ l) k .gone := puts_put hm
      obtain ⟨i1, i2, i3⟩ := ih hp fun p hp' => hk p (List.mem_cons_of_mem _ hp')
      have hl : puts σ l k = σ k := puts_not hm
      obtain ⟨g1, g2⟩ := i1.gone (k := k) h2 (by rw [hl]; intro e; rw [e] at h3; cases h3)
      rw [e]
      refine ⟨g1, i2.trans g2, fun j hj => ?_⟩
      by_cases hjk : j = k
      · subst hjk; rw [put_eq]
      · rw [put_ne hjk]
        refine i3 j ?_
        rcases List.mem_cons.1 (by simpa using hj : j ∈ k :: l.map (·.1)) with h | h
        · exact absurd h hjk
        · exact h
end
end Rg

/- The ring framework, part Za: a loop's pattern, taken and laid out anew. -/
namespace Rg
open Go

/-- Pointers to the begin of structs. -/
def PtrsAt (at_ : Nat → Option (Nat × Nat × Nat)) : List Nat → List Value → Prop
  | [], [] => True
  | b :: bs, v :: vs => (∃ bb o c, at_ (kB b) = some (bb, o, c) ∧ v = .pointer (some ⟨bb, o + 0, none⟩)) ∧ PtrsAt at_ bs vs
  | _, _ => False

def aggV (r : Ty) (vs : List Value) : Value := bif r.isAgg then .agg vs.toArray else vs.getD 0 undef

/-- The data of a pattern, in memory. -/
def PatR (w : World) (B : Base) (tm : Nat → Value) (at_ : Nat → Option (Nat × Nat × Nat)) (S : Nat → Prop) : (p : Pat) → (Pat.ty p).Den → List Nat → Prop
  | [], _, U => U = []
  | (n, .ptr b off) :: l, x, U => (∃ bb o c, at_ (kB b) = some (bb, o, c) ∧ tm n = .pointer (some ⟨bb, o + off, none⟩)) ∧ PatR w B tm at_ S l x.2 U
  | (n, .clo f bs) :: l, x, U => (∃ ps : List Value, tm n = .func (.func f) #[] ps.toArray ∧ PtrsAt at_ bs ps) ∧ PatR w B tm at_ S l x.2 U
  | (n, .val t) :: l, x, U => ∃ U1 U2, U = U1 ++ U2 ∧ ORep w S t x.1 [tm n] U1 ∧ PatR w B tm at_ S l x.2 U2
  | (n, .agg r) :: l, x, U => ∃ U1 U2, ∃ vs : List Value, U = U1 ++ U2 ∧ tm n = .agg vs.toArray ∧ ORep w S r x.1 vs U1 ∧ PatR w B tm at_ S l x.2 U2
  | (n, .mut r) :: l, x, U => ∃ U1 U2 vs, U = U1 ++ U2 ∧ tm n = aggV r vs ∧ ORep w S r x.1 vs U1 ∧ PinX B r (homeId n) vs ∧ PatR w B tm at_ S l x.2 U2
  | (n, .box r) :: l, x, U => ∃ U1 U2 b o, U = U1 ++ U2 ∧ at_ (kB n) = some (b, o, 0) ∧ (∀ q, B.pin (kB n) = some q → q = some (b, o, 0)) ∧ BoxAt w S r x.1 b o U1 ∧ PatR w B tm at_ S l x.2 U2

section
variable {P : Program} {E : Env} {B : Base} {N : Nat} {w : World} {σ : Sg} {G : Gh} {tm : Nat → Value} {at_ : Nat → Option (Nat × Nat × Nat)}

theorem PatR.mono {S S' : Nat → Prop} (hS : ∀ b, S b → S' b) : ∀ {p : Pat} {x : (Pat.ty p).Den} {U : List Nat}, PatR w B tm at_ S p x U → PatR w B tm at_ S' p x U
  | [], _, _, h => h
  | (_, .ptr _ _) :: _, _, _, h => ⟨h.1, PatR.mono hS h.2⟩
  | (_, .clo _ _) :: _, _, _, h => ⟨h.1, PatR.mono hS h.2⟩
  | (_, .val _) :: _, _, _, ⟨U1, U2, h1, h2, h3⟩ => ⟨U1, U2, h1, h2.mono hS fun _ _ => rfl, PatR.mono hS h3⟩
  | (_, .agg _) :: _, _, _, ⟨U1, U2, vs, h1, h0, h2, h3⟩ => ⟨U1, U2, vs, h1, h0, h2.mono hS fun _ _ => rfl, PatR.mono hS h3⟩
  | (_, .mut _) :: _, _, _, ⟨U1, U2, vs, h1, h0, h2, h4, h3⟩ => ⟨U1, U2, vs, h1, h0, h2.mono hS fun _ _ => rfl, h4, PatR.mono hS h3⟩
  | (_, .box _) :: _, _, _, ⟨U1, U2, b, o, h1, h0, h4, h2, h3⟩ => ⟨U1, U2, b, o, h1, h0, h4, h2.mono hS, PatR.mono hS h3⟩

/-- Data of what was handed over to be written. -/
theorem packH_sound (hp : Hp B σ w G) : ∀ {t : Ty} {id : Nat} {cs : List LC} {vs : List Value} {x : t.Den} {rest : List LC} {ups : List (Nat × KV)} {rs rs' : List Nat},
    (t.packH id cs).eval σ rs = some ((x, rest, ups), rs') → RelCs w σ G cs vs → ∃ v1 v2 L D, vs = v1 ++ v2 ∧ RelCs w σ G rest v2 ∧ Packed false w σ G t x v1 ups L D ∧ PinX B t id v1
  | .cons t r, id, cs, vs, x, rest, ups, rs, rs', h, hr => by
    have h' : ((t.packH id cs).bind fun p => (r.packH (id + t.size) p.2.1).bind fun q => T.pure ((p.1, q.1), q.2.1, p.2.2 ++ q.2.2)).eval σ rs = some ((x, rest, ups), rs') := by
      cases cs <;> exact h
    obtain ⟨⟨x1, rest1, ups1⟩, r1, h1, h2⟩ := T.eval_bind _ _ h'
    obtain ⟨⟨x2, rest2, ups2⟩, r2, h3, h4⟩ := T.eval_bind _ _ h2
    cases pure_eq h4
    obtain ⟨v1, v2, L1, D1, hv, hr1, p1, q1⟩ := packH_sound hp h1 hr
    obtain ⟨v3, v4, L2, D2, hv2, hr2, p2, q2⟩ := packH_sound hp h3 hr1
    refine ⟨v1 ++ v3, v4, L1 ++ L2, D1 ++ D2, by rw [hv, hv2, List.append_assoc], hr2, p1.cons p2, ?_⟩
    have hl := p1.rep.length
    show PinX B t id ((v1 ++ v3).take t.size) ∧ PinX B r (id + t.size) ((v1 ++ v3).drop t.size)
    rw [← hl, List.take_left, List.drop_left, hl]
    exact ⟨q1, q2⟩
  | .nil, id, cs, vs, x, rest, ups, rs, rs', h, hr => by
    have h' : (some (((), cs, []), rs) : Option ((Unit × List LC × List (Nat × KV)) × List Nat)) = some ((x, rest, ups), rs') := by
      cases cs <;> exact h
    cases h'
    exact ⟨[], vs, [], [], rfl, hr, ⟨⟨rfl, rfl⟩, fun e h => by simp at h, fun p h => by simp at h, rfl, fun _ e h => by simp at h⟩, trivial⟩
  | .ow r, id, cs, vs, x, rest, ups, rs, rs', h, hr => by
    cases cs with
    | nil => simp [Ty.packH, T.eval] at h
    | cons c l =>
      cases vs with
      | nil => exact hr.elim
      | cons v vs =>
        cases c with
        | dat t' y => simp [Ty.packH, T.eval] at h
        | nl q => simp [Ty.packH, T.eval] at h
        | hdl e =>
          simp only [Ty.packH] at h
          obtain ⟨he, h9⟩ := chk_eval h
          have he := Nat.eq_of_beq_eq_true he
          subst he
          clear h
          simp only [T.eval] at h9
          split at h9
          · rename_i r' xs hx
            have hpk : (Ty.pack false (.ow r) (.hdl e :: l)).eval σ rs = some ((x, rest, ups), rs') := by
              simp only [Ty.pack, T.eval, hx]
              exact h9
            obtain ⟨v1, v2, L, D, hv, hr2, hP⟩ := pack_sound hp hpk hr
            refine ⟨v1, v2, L, D, hv, hr2, hP, fun q hq v' hv' => ?_⟩
            subst hv'
            have : v = v' := by simpa using (List.cons.inj hv).1
            subst this
            obtain ⟨hat, hlen⟩ := hp.pin (kX e) q (isKey_kX e) hq (by rw [hx]; simp)
            rw [hdl_len hr.1 hx, hdrOf_at, hat, hlen e r' xs.length rfl (by rw [hx]; rfl)]
          · simp [T.eval] at h9
  | .int k, id, cs, vs, x, rest, ups, rs, rs', h, hr => by
    have h' : (Ty.pack false (.int k) cs).eval σ rs = some ((x, rest, ups), rs') := by cases cs <;> exact h
    obtain ⟨v1, v2, L, D, hv, hr2, hP⟩ := pack_sound hp h' hr
    exact ⟨v1, v2, L, D, hv, hr2, hP, trivial⟩
  | .bool, id, cs, vs, x, rest, ups, rs, rs', h, hr => by
    have h' : (Ty.pack false .bool cs).eval σ rs = some ((x, rest, ups), rs') := by cases cs <;> exact h
    obtain ⟨v1, v2, L, D, hv, hr2, hP⟩ := pack_sound hp h' hr
    exact ⟨v1, v2, L, D, hv, hr2, hP, trivial⟩
  | .str, id, cs, vs, x, rest, ups, rs, rs', h, hr => by
    have h' : (Ty.pack false .str cs).eval σ rs = some ((x, rest, ups), rs') := by cases cs <;> exact h
    obtain ⟨v1, v2, L, D, hv, hr2, hP⟩ := pack_sound hp h' hr
    exact ⟨v1, v2, L, D, hv, hr2, hP, trivial⟩
  | .sl r, id, cs, vs, x, rest, ups, rs, rs', h, hr => by
    have h' : (Ty.pack false (.sl r) cs).eval σ rs = some ((x, rest, ups), rs') := by cases cs <;> exact h
    obtain ⟨v1, v2, L, D, hv, hr2, hP⟩ := pack_sound hp h' hr
    exact ⟨v1, v2, L, D, hv, hr2, hP, trivial⟩
  | .alt a b, id, cs, vs, x, rest, ups, rs, rs', h, hr => by
    have h' : (Ty.pack false (.alt a b) cs).eval σ rs = some ((x, rest, ups), rs') := by cases cs <;> exact h
    obtain ⟨v1, v2, L, D, hv, hr2, hP⟩ := pack_sound hp h' hr
    exact ⟨v1, v2, L, D, hv, hr2, hP, trivial⟩

theorem RelPs.ptrsAt : ∀ {bs : List Nat} {ps : List Value}, RelPs σ G bs ps → PtrsAt G.at_ bs ps
  | [], [], _ => trivial
  | _ :: _, _ :: _, h => ⟨h.1.2, RelPs.ptrsAt h.2⟩

theorem relCs_nil {vs : List Value} (h : RelCs w σ G [] vs) : vs = [] := by
  cases vs with
  | nil => rfl
  | cons _ _ => exact h.elim

theorem ext_sound (hp : Hp B σ w G) (hs : ∀ n, RelKV w σ G (σ (kS n)) (tm n)) {bs : List Nat} : ∀ {p : Pat} {x : (Pat.ty p).Den} {ups : List (Nat × KV)} {rs rs' : List Nat}, Pat.okIn bs p = true →
    (ext p).eval σ rs = some ((x, ups), rs') → ∃ L D, Taken w σ G (fun S U => PatR w B tm G.at_ S p x U) ups L D
  | [], x, ups, rs, rs', _, h => by
    cases pure_eq h
    exact ⟨[], [], Taken.nil (fun _ => rfl) fun _ _ _ _ h => h⟩
  | (n, .ptr b off) :: l, x, ups, rs, rs', ho, h => by
    simp only [Pat.okIn, Bool.and_eq_true] at ho
    have h2 := get_eval h
    have hn := hs n
    split at h2
    · rename_i b' off' hk
      rw [hk] at hn
      obtain ⟨hc, h3⟩ := chk_eval h2
      simp only [Bool.and_eq_true] at hc
      have e1 := Nat.eq_of_beq_eq_true hc.1
      have e2 := Nat.eq_of_beq_eq_true hc.2
      subst e1; subst e2
      obtain ⟨⟨y, u⟩, r1, h4, h5⟩ := T.eval_bind _ _ h3
      cases pure_eq h5
      obtain ⟨L, D, ht⟩ := ext_sound hp hs ho.2 h4
      exact ⟨L, D, ht.imp (fun S U hU => ⟨hn.2, hU⟩) fun S S' U hS hU => PatR.mono hS hU⟩
    · exact (fail_eval h2).elim
  | (n, .clo f cs) :: l, x, ups, rs, rs', ho, h => by
    simp only [Pat.okIn, Bool.and_eq_true] at ho
    have h2 := get_eval h
    have hn := hs n
    split at h2
    · rename_i f' cs' hk
      rw [hk] at hn
      obtain ⟨hc, h3⟩ := chk_eval h2
      simp only [Bool.and_eq_true] at hc
      have e1 := Nat.eq_of_beq_eq_true hc.1
      have e2 := eq_of_beq hc.2
      subst e1; subst e2
      obtain ⟨⟨y, u⟩, r1, h4, h5⟩ := T.eval_bind _ _ h3
      cases pure_eq h5
      obtain ⟨L, D, ht⟩ := ext_sound hp hs ho.2 h4
      obtain ⟨ps, hv, hps⟩ := hn
      exact ⟨L, D, ht.imp (fun S U hU => ⟨⟨ps, hv, hps.ptrsAt⟩, hU⟩) fun S S' U hS hU => PatR.mono hS hU⟩
    · exact (fail_eval h2).elim
  | (n, .val t) :: l, x, ups, rs, rs', ho, h => by
    simp only [Pat.okIn, Bool.and_eq_true] at ho
    have h2 := get_eval h
    have hn := hs n
    split at h2
    · rename_i c hk
      rw [hk] at hn
      obtain ⟨⟨y, rest, u⟩, r1, h4, h5⟩ := T.eval_bind _ _ h2
      obtain ⟨⟨z, u'⟩, r2, h6, h7⟩ := T.eval_bind _ _ h5
      cases pure_eq h7
      obtain ⟨v1, v2, L, D, hv, hr, hP⟩ := pack_sound hp h4 (show RelCs w σ G [c] [tm n] from ⟨hn, trivial⟩)
      have hl : v1.length = 1 := by rw [hP.rep.length]; exact Nat.eq_of_beq_eq_true ho.1.1.1
      have hv1 : v1 = [tm n] := by
        cases v1 with
        | nil => simp at hl
        | cons a v1 =>
          cases v1 with
          | nil => simp only [List.cons_append, List.nil_append, List.cons.injEq] at hv; rw [hv.1]
          | cons _ _ => simp at hl
      subst hv1
      obtain ⟨L2, D2, ht⟩ := ext_sound hp hs ho.2 h6
      exact ⟨L ++ L2, D.map kX ++ D2, hP.taken.append ht (fun S U1 U2 a b => ⟨U1, U2, rfl, a, b⟩) fun S S' U hS hU => PatR.mono hS hU⟩
    · exact (fail_eval h2).elim
  | (n, .agg r) :: l, x, ups, rs, rs', ho, h => by
    simp only [Pat.okIn, Bool.and_eq_true] at ho
    have h2 := get_eval h
    have hn := hs n
    split at h2
    · rename_i cs hk
      rw [hk] at hn
      obtain ⟨vs, hvs, hrel⟩ := hn
      obtain ⟨⟨y, rest, u⟩, r1, h4, h5⟩ := T.eval_bind _ _ h2
      obtain ⟨v1, v2, L, D, hv, hr, hP⟩ := pack_sound hp h4 hrel
      split at h5
      · rename_i hrest
        simp only at hrest
        subst hrest
        obtain rfl := relCs_nil hr
        rw [List.append_nil] at hv
        subst hv
        obtain ⟨⟨z, u'⟩, r2, h6, h7⟩ := T.eval_bind _ _ h5
        cases pure_eq h7
        obtain ⟨L2, D2, ht⟩ := ext_sound hp hs ho.2 h6
        exact ⟨L ++ L2, D.map kX ++ D2, hP.taken.append ht (fun S U1 U2 a b => ⟨U1, U2, vs, rfl, hvs, a, b⟩) fun S S' U hS hU => PatR.mono hS hU⟩
      · exact (fail_eval h5).elim
    · exact (fail_eval h2).elim
  | (n, .mut r) :: l, x, ups, rs, rs', ho, h => by
    simp only [Pat.okIn, Bool.and_eq_true] at ho
    have h2 := get_eval h
    have hn := hs n
    split at h2
    · rename_i s hk
      rw [hk] at hn
      obtain ⟨hagg, h2⟩ := chk_eval h2
      obtain ⟨cs, r0, h3, h2⟩ := T.eval_bind _ _ h2
      obtain ⟨⟨y, rest, u⟩, r1, h4, h5⟩ := T.eval_bind _ _ h2
      have hvs : ∃ vs, RelCs w σ G cs vs ∧ (vs.length = r.size → tm n = aggV r vs) := by
        cases s with
        | cell c =>
          have := pure_eq h3
          subst this
          refine ⟨[tm n], ⟨hn, trivial⟩, fun _ => ?_⟩
          have : r.isAgg = false := by simpa [aggOk] using hagg
          simp [aggV, this]
        | agg ds =>
          have := pure_eq h3
          subst this
          obtain ⟨vs, hvs, hrel⟩ := hn
          refine ⟨vs, hrel, fun _ => ?_⟩
          have : r.isAgg = true := by simpa [aggOk] using hagg
          simp [aggV, this, hvs]
        | undef => exact (fail_eval h3).elim
        | ptr _ _ => exact (fail_eval h3).elim
        | elP _ _ _ => exact (fail_eval h3).elim
        | elX _ _ _ => exact (fail_eval h3).elim
        | clo _ _ => exact (fail_eval h3).elim
      obtain ⟨vs, hrel, hagg⟩ := hvs
      obtain ⟨v1, v2, L, D, hv, hr, hP, hpin⟩ := packH_sound hp h4 hrel
      split at h5
      · rename_i hrest
        simp only at hrest
        subst hrest
        obtain rfl := relCs_nil hr
        rw [List.append_nil] at hv
        subst hv
        obtain ⟨⟨z, u'⟩, r2, h6, h7⟩ := T.eval_bind _ _ h5
        cases pure_eq h7
        obtain ⟨L2, D2, ht⟩ := ext_sound hp hs ho.2 h6
        exact ⟨L ++ L2, D.map kX ++ D2, hP.taken.append ht (fun S U1 U2 a b => ⟨U1, U2, vs, rfl, hagg hP.rep.length, a, hpin, b⟩) fun S S' U hS hU => PatR.mono hS hU⟩
      · exact (fail_eval h5).elim
    · exact (fail_eval h2).elim
  | (n, .box r) :: l, x, ups, rs, rs', ho, h => by
    simp only [Pat.okIn, Bool.and_eq_true] at ho
    have h2 := get_eval h
    split at h2
    · rename_i cs hk
      obtain ⟨⟨y, rest, u⟩, r1, h4, h5⟩ := T.eval_bind _ _ h2
      split at h5
      · rename_i hrest
        simp only at hrest
        subst hrest
        obtain ⟨⟨z, u'⟩, r2, h6, h7⟩ := T.eval_bind _ _ h5
        cases pure_eq h7
        obtain ⟨b, o, L, D, hat, hT⟩ := Taken.box hp hk h4
        obtain ⟨L2, D2, ht⟩ := ext_sound hp hs ho.2 h6
        have hpin : ∀ q, B.pin (kB n) = some q → q = some (b, o, 0) := fun q hq => by
          rw [← (hp.pin (kB n) q (isKey_kB n) hq (by rw [hk]; simp)).1, hat]
        exact ⟨L ++ L2, (kB n :: D) ++ D2, hT.append ht (fun S U1 U2 a c => ⟨U1, U2, b, o, rfl, hat, hpin, a, c⟩) fun S S' U hS hU => PatR.mono hS hU⟩
      · exact (fail_eval h5).elim
    · exact (fail_eval h2).elim

/-! ### laid out anew -/
/-- An item that is laid out with a slot. -/
theorem Hp.item {n id : Nat} {t : Ty} {x : t.Den} {vs : List Value} {v : Value} {U : List Nat} {kv : KV} (hp : Hp B σ w G) (hw : t.owPlain = true) (ho : ORep w G.S t x vs U) (hF : Free B w σ G U)
    (hk : ∀ k, k ∈ t.okeys id → σ k = .none) (hpin : PinX B t id vs) (hkv : ∀ σ' G', RelCs w σ' G' (t.ocs x id) vs → RelKV w σ' G' kv v) :
    ∃ G', Grow B w σ G (puts σ ((kS n, kv) :: t.oxs x id)) G' (kS n :: t.okeys id) U ∧ puts σ ((kS n, kv) :: t.oxs x id) (kS n) = kv ∧ RelKV w (puts σ ((kS n, kv) :: t.oxs x id)) G' kv v := by
  have g0 := Grow.slot hp n kv
  obtain ⟨G', g, hr⟩ := g0.hp.unpack (id := id) hw ho (g0.free U hF fun b _ h => by simp at h) (fun k hk' => by
    rw [put_ne fun e => kS_not_okeys (e ▸ hk')]; exact hk k hk') hpin
  refine ⟨G', ?_, ?_, hkv _ _ hr⟩
  · exact g0.trans g
  · show puts (put σ (kS n) kv) (t.oxs x id) (kS n) = kv
    rw [puts_not (by rw [Ty.okeys_eq]; exact kS_not_okeys), put_eq]

/-- What is known of an item of a pattern that was laid out. -/
def ItemR (w : World) (σ' : Sg) (G' : Gh) (tm : Nat → Value) (at_ : Nat → Option (Nat × Nat × Nat)) : Nat × Sh → Prop
  | (n, .ptr b off) => σ' (kS n) = .sv (.ptr b off) ∧ ∃ bb o c, at_ (kB b) = some (bb, o, c) ∧ tm n = .pointer (some ⟨bb, o + off, none⟩)
  | (n, .clo f bs) => σ' (kS n) = .sv (.clo f bs) ∧ ∃ ps : List Value, tm n = .func (.func f) #[] ps.toArray ∧ PtrsAt at_ bs ps
  | (n, .box _) => σ' (kB n) ≠ .none ∧ G'.at_ (kB n) = at_ (kB n)
  | (n, _) => RelKV w σ' G' (σ' (kS n)) (tm n)

def itemKey : Nat × Sh → Nat
  | (n, .box _) => kB n
  | (n, _) => kS n

theorem ItemR.grow {σ' : Sg} {G' : Gh} {ks U : List Nat} (g : Grow B w σ G σ' G' ks U) : ∀ {it : Nat × Sh}, itemKey it ∉ ks → ItemR w σ G tm at_ it → ItemR w σ' G' tm at_ it
  | (n, .ptr b off), hk, h => ⟨by rw [g.old (kS n) hk]; exact h.1, h.2⟩
  | (n, .clo f bs), hk, h => ⟨by rw [g.old (kS n) hk]; exact h.1, h.2⟩
  | (n, .box _), hk, h => by
    obtain ⟨h1, h2⟩ := g.mon.key (kB n) (isKey_kB n) h.1
    exact ⟨h1, h2.trans h.2⟩
  | (n, .val _), hk, h => by
    show RelKV w σ' G' (σ' (kS n)) (tm n)
    rw [g.old (kS n) hk]; exact RelKV.mon g.mon h
  | (n, .agg _), hk, h => by
    show RelKV w σ' G' (σ' (kS n)) (tm n)
    rw [g.old (kS n) hk]; exact RelKV.mon g.mon h
  | (n, .mut _), hk, h => by
    show RelKV w σ' G' (σ' (kS n)) (tm n)
    rw [g.old (kS n) hk]; exact RelKV.mon g.mon h

theorem kX_high {n j : Nat} (h : loopId n ≤ j) : 6000000000 ≤ kX j := by unfold loopId at h; unfold kX; omega

theorem ocs_one {t : Ty} (h : t.size = 1) (x : t.Den) (id : Nat) : ∃ c, t.ocs x id = [c] := by
  have := Ty.ocs_length (t := t) (x := x) (id := id)
  rw [h] at this
  cases hc : t.ocs x id with
  | nil => rw [hc] at this; simp at this
  | cons c l =>
    cases l with
    | nil => exact ⟨c, rfl⟩
    | cons _ _ => rw [hc] at this; simp at this

theorem inj_grow {bs : List Nat} : ∀ {p : Pat} {x : (Pat.ty p).Den} {σ : Sg} {G : Gh} {U : List Nat}, Hp B σ w G → Pat.okIn bs p = true → (Pat.keys p).Nodup → (∀ k, k ∈ Pat.keys p → σ k = .none) →
    PatR w B tm at_ G.S p x U → Free B w σ G U → ∃ G', Grow B w σ G (inj p x σ) G' (Pat.keys p) U ∧ ∀ it, it ∈ p → ItemR w (inj p x σ) G' tm at_ it
  | [], x, σ, G, U, hp, _, _, _, hR, _ => ⟨G, by have : U = [] := hR; subst this; exact Grow.refl hp, fun it h => by simp at h⟩
  | (n, .ptr b off) :: l, x, σ, G, U, hp, ho, hn, hk, hR, hF => by
    simp only [Pat.okIn, Bool.and_eq_true] at ho
    have hn' := List.nodup_cons.1 hn
    have g0 := Grow.slot hp n (.sv (.ptr b off))
    obtain ⟨G', g, hi⟩ := inj_grow (p := l) (x := x.2) g0.hp ho.2 hn'.2 (fun k hk' => by
      rw [put_ne fun e => hn'.1 (by rw [← e]; exact hk')]; exact hk k (List.mem_cons_of_mem _ hk')) (by rw [g0.S]; exact hR.2) (g0.free U hF fun _ _ h => by simp at h)
    refine ⟨G', g0.trans g, fun it hit => ?_⟩
    rcases List.mem_cons.1 hit with rfl | hit
    · exact ⟨by
        show inj l x.2 _ (kS n) = _
        rw [g.old _ hn'.1, put_eq], hR.1⟩
    · exact hi it hit
  | (n, .clo f cs) :: l, x, σ, G, U, hp, ho, hn, hk, hR, hF => by
    simp only [Pat.okIn, Bool.and_eq_true] at ho
    have hn' := List.nodup_cons.1 hn
    have g0 := Grow.slot hp n (.sv (.clo f cs))
    obtain ⟨G', g, hi⟩ := inj_grow (p := l) (x := x.2) g0.hp ho.2 hn'.2 (fun k hk' => by
      rw [put_ne fun e => hn'.1 (by rw [← e]; exact hk')]; exact hk k (List.mem_cons_of_mem _ hk')) (by rw [g0.S]; exact hR.2) (g0.free U hF fun _ _ h => by simp at h)
    refine ⟨G', g0.trans g, fun it hit => ?_⟩
    rcases List.mem_cons.1 hit with rfl | hit
    · exact ⟨by
        show inj l x.2 _ (kS n) = _
        rw [g.old _ hn'.1, put_eq], hR.1⟩
    · exact hi it hit
  | (n, .val t) :: l, x, σ, G, U, hp, ho, hn, hk, hR, hF => by
    simp only [Pat.okIn, Bool.and_eq_true] at ho
    obtain ⟨U1, U2, hU, hR1, hR2⟩ := hR
    subst hU
    have hks : Pat.keys ((n, .val t) :: l) = (kS n :: t.okeys (loopId n)) ++ Pat.keys l := rfl
    rw [hks] at hn hk ⊢
    have hnd := List.nodup_append.1 hn
    obtain ⟨c, hc⟩ := ocs_one (Nat.eq_of_beq_eq_true ho.1.1.1) x.1 (loopId n)
    obtain ⟨G1, g1, h1, h2⟩ := hp.item (n := n) (id := loopId n) (kv := .sv (.cell c)) (v := tm n) ho.1.2 hR1 hF.left (fun k hk' => hk k (List.mem_append_left _ (List.mem_cons_of_mem _ hk')))
      (PinX.none fun k hk' => by obtain ⟨j, h1, _, rfl⟩ := Ty.okeys_mem hk'; exact Base.high (kX_high h1)) (fun σ' G' hr => by rw [hc] at hr; exact hr.1)
    have e : inj ((n, .val t) :: l) x σ = inj l x.2 (puts σ ((kS n, .sv (.cell c)) :: t.oxs x.1 (loopId n))) := by
      show inj l x.2 (puts σ ((kS n, match t.ocs x.1 (loopId n) with | [c] => .sv (.cell c) | _ => .none) :: t.oxs x.1 (loopId n))) = _
      rw [hc]
    rw [e]
    obtain ⟨G', g, hi⟩ := inj_grow (p := l) (x := x.2) g1.hp ho.2 hnd.2.1 (fun k hk' => by
      rw [g1.old k fun h => hnd.2.2 k h k hk' rfl]; exact hk k (List.mem_append_right _ hk')) (by rw [g1.S]; exact hR2) (g1.free U2 hF.right hF.apart)
    refine ⟨G', g1.trans g, fun it hit => ?_⟩
    rcases List.mem_cons.1 hit with rfl | hit
    · exact ItemR.grow (tm := tm) (at_ := at_) (it := (n, .val t)) g (fun h => hnd.2.2 _ (List.mem_cons_self ..) _ h rfl) (by
        show RelKV w _ G1 (_ : KV) (tm n)
        rw [h1]; exact h2)
    · exact hi it hit
  | (n, .agg r) :: l, x, σ, G, U, hp, ho, hn, hk, hR, hF => by
    simp only [Pat.okIn, Bool.and_eq_true] at ho
    obtain ⟨U1, U2, vs, hU, hv, hR1, hR2⟩ := hR
    subst hU
    have hks : Pat.keys ((n, .agg r) :: l) = (kS n :: r.okeys (loopId n)) ++ Pat.keys l := rfl
    rw [hks] at hn hk ⊢
    have hnd := List.nodup_append.1 hn
    obtain ⟨G1, g1, h1, h2⟩ := hp.item (n := n) (id := loopId n) (kv := .sv (.agg (r.ocs x.1 (loopId n)))) (v := tm n) ho.1 hR1 hF.left (fun k hk' => hk k (List.mem_append_left _ (List.mem_cons_of_mem _ hk')))
      (PinX.none fun k hk' => by obtain ⟨j, h1, _, rfl⟩ := Ty.okeys_mem hk'; exact Base.high (kX_high h1)) (fun σ' G' hr => ⟨vs, hv, hr⟩)
    obtain ⟨G', g, hi⟩ := inj_grow (p := l) (x := x.2) g1.hp ho.2 hnd.2.1 (fun k hk' => by
      rw [g1.old k fun h => hnd.2.2 k h k hk' rfl]; exact hk k (List.mem_append_right _ hk')) (by rw [g1.S]; exact hR2) (g1.free U2 hF.right hF.apart)
    refine ⟨G', g1.trans g, fun it hit => ?_⟩
    rcases List.mem_cons.1 hit with rfl | hit
    · exact ItemR.grow (tm := tm) (at_ := at_) (it := (n, .agg r)) g (fun h => hnd.2.2 _ (List.mem_cons_self ..) _ h rfl) (by
        show RelKV w _ G1 (_ : KV) (tm n)
        rw [h1]; exact h2)
    · exact hi it hit
  | (n, .mut r) :: l, x, σ, G, U, hp, ho, hn, hk, hR, hF => by
    simp only [Pat.okIn, Bool.and_eq_true] at ho
    obtain ⟨U1, U2, vs, hU, hv, hR1, hpin, hR2⟩ := hR
    subst hU
    have hks : Pat.keys ((n, .mut r) :: l) = (kS n :: r.okeys (homeId n)) ++ Pat.keys l := rfl
    rw [hks] at hn hk ⊢
    have hnd := List.nodup_append.1 hn
    obtain ⟨kv, hkv, hrel⟩ : ∃ kv, (bif r.isAgg then .sv (.agg (r.ocs x.1 (homeId n))) else match r.ocs x.1 (homeId n) with | [c] => .sv (.cell c) | _ => .none) = kv ∧
        ∀ σ' G', RelCs w σ' G' (r.ocs x.1 (homeId n)) vs → RelKV w σ' G' kv (tm n) := by
      cases ha : r.isAgg
      · rw [ha] at ho
        obtain ⟨c, hc⟩ := ocs_one (t := r) (Nat.eq_of_beq_eq_true (by simpa using ho.1.1)) x.1 (homeId n)
        refine ⟨.sv (.cell c), by rw [hc]; rfl, fun σ' G' hr => ?_⟩
        rw [hc] at hr
        rw [hv]
        simp only [aggV, ha, cond_false]
        cases vs with
        | nil => exact hr.elim
        | cons v vs => exact hr.1
      · refine ⟨.sv (.agg (r.ocs x.1 (homeId n))), rfl, fun σ' G' hr => ?_⟩
        rw [hv]
        simp only [aggV, ha, cond_true]
        exact ⟨vs, rfl, hr⟩
    obtain ⟨G1, g1, h1, h2⟩ := hp.item (n := n) (id := homeId n) (kv := kv) (v := tm n) ho.1.2 hR1 hF.left (fun k hk' => hk k (List.mem_append_left _ (List.mem_cons_of_mem _ hk')))
      hpin hrel
    have e : inj ((n, .mut r) :: l) x σ = inj l x.2 (puts σ ((kS n, kv) :: r.oxs x.1 (homeId n))) := by
      rw [← hkv]; rfl
    rw [e]
    obtain ⟨G', g, hi⟩ := inj_grow (p := l) (x := x.2) g1.hp ho.2 hnd.2.1 (fun k hk' => by
      rw [g1.old k fun h => hnd.2.2 k h k hk' rfl]; exact hk k (List.mem_append_right _ hk')) (by rw [g1.S]; exact hR2) (g1.free U2 hF.right hF.apart)
    refine ⟨G', g1.trans g, fun it hit => ?_⟩
    rcases List.mem_cons.1 hit with rfl | hit
    · exact ItemR.grow (tm := tm) (at_ := at_) (it := (n, .mut r)) g (fun h => hnd.2.2 _ (List.mem_cons_self ..) _ h rfl) (by
        show RelKV w _ G1 (_ : KV) (tm n)
        rw [h1]; exact h2)
    · exact hi it hit
  | (n, .box r) :: l, x, σ, G, U, hp, ho, hn, hk, hR, hF => by
    simp only [Pat.okIn, Bool.and_eq_true] at ho
    obtain ⟨U1, U2, b, o, hU, hat, hpin, hR1, hR2⟩ := hR
    subst hU
    have hks : Pat.keys ((n, .box r) :: l) = (kB n :: r.okeys (loopId n + 50)) ++ Pat.keys l := rfl
    rw [hks] at hn hk ⊢
    have hnd := List.nodup_append.1 hn
    obtain ⟨G1, g1, h1⟩ := hp.unbox (n := n) (id := loopId n + 50) ho.1 hR1 hF.left (.inl (hk _ (List.mem_append_left _ (List.mem_cons_self ..)))) (fun k hk' => hk k (List.mem_append_left _ (List.mem_cons_of_mem _ hk')))
      (fun k hk' => by obtain ⟨j, h1, _, rfl⟩ := Ty.okeys_mem hk'; exact Base.high (kX_high (n := n) (by omega))) hpin
    obtain ⟨G', g, hi⟩ := inj_grow (p := l) (x := x.2) g1.hp ho.2 hnd.2.1 (fun k hk' => by
      rw [g1.old k fun h => hnd.2.2 k h k hk' rfl]; exact hk k (List.mem_append_right _ hk')) (by rw [g1.S]; exact hR2) (g1.free U2 hF.right hF.apart)
    refine ⟨G', g1.trans g, fun it hit => ?_⟩
    rcases List.mem_cons.1 hit with rfl | hit
    · refine ItemR.grow (tm := tm) (at_ := at_) (it := (n, .box r)) g (fun h => hnd.2.2 _ (List.mem_cons_self ..) _ h rfl) ⟨?_, h1.trans hat.symm⟩
      have hb : ∀ y : r.Den, puts (put σ (kB n) (.box (r.ocs y (loopId n + 50)))) (r.oxs y (loopId n + 50)) (kB n) ≠ .none := fun y => by
        rw [puts_not (kB_not_oxs (t := r)), put_eq]; simp
      exact hb x.1
    · exact hi it hit

theorem Pat.boxes_mem : ∀ {p : Pat} {b : Nat}, b ∈ Pat.boxes p → ∃ r, (b, Sh.box r) ∈ p
  | (n, .box r) :: l, b, h => by
    rcases List.mem_cons.1 h with rfl | h
    · exact ⟨r, List.mem_cons_self ..⟩
    · obtain ⟨r', hr⟩ := Pat.boxes_mem h; exact ⟨r', List.mem_cons_of_mem _ hr⟩
  | (n, .ptr _ _) :: l, b, h => by obtain ⟨r', hr⟩ := Pat.boxes_mem (p := l) h; exact ⟨r', List.mem_cons_of_mem _ hr⟩
  | (n, .clo _ _) :: l, b, h => by obtain ⟨r', hr⟩ := Pat.boxes_mem (p := l) h; exact ⟨r', List.mem_cons_of_mem _ hr⟩
  | (n, .val _) :: l, b, h => by obtain ⟨r', hr⟩ := Pat.boxes_mem (p := l) h; exact ⟨r', List.mem_cons_of_mem _ hr⟩
  | (n, .agg _) :: l, b, h => by obtain ⟨r', hr⟩ := Pat.boxes_mem (p := l) h; exact ⟨r', List.mem_cons_of_mem _ hr⟩
  | (n, .mut _) :: l, b, h => by obtain ⟨r', hr⟩ := Pat.boxes_mem (p := l) h; exact ⟨r', List.mem_cons_of_mem _ hr⟩
  | [], b, h => by simp [Pat.boxes] at h

theorem Pat.okIn_ptr {bs : List Nat} : ∀ {p : Pat} {n b off : Nat}, Pat.okIn bs p = true → (n, Sh.ptr b off) ∈ p → b ∈ bs
  | [], _, _, _, _, h => by simp at h
  | (m, s) :: l, n, b, off, ho, h => by
    rcases List.mem_cons.1 h with e | h
    · cases e
      simp only [Pat.okIn, Bool.and_eq_true] at ho
      exact memK_iff.1 ho.1
    · refine Pat.okIn_ptr (p := l) ?_ h
      cases s <;> simp only [Pat.okIn, Bool.and_eq_true] at ho <;> exact ho.2

theorem Pat.okIn_clo {bs : List Nat} : ∀ {p : Pat} {n f : Nat} {cs : List Nat}, Pat.okIn bs p = true → (n, Sh.clo f cs) ∈ p → ∀ b, b ∈ cs → b ∈ bs
  | [], _, _, _, _, h => by simp at h
  | (m, s) :: l, n, f, cs, ho, h => by
    rcases List.mem_cons.1 h with e | h
    · cases e
      simp only [Pat.okIn, Bool.and_eq_true, List.all_eq_true] at ho
      exact fun b hb => memK_iff.1 (ho.1 b hb)
    · refine Pat.okIn_clo (p := l) ?_ h
      cases s <;> simp only [Pat.okIn, Bool.and_eq_true] at ho <;> exact ho.2

theorem Pat.keys_slot : ∀ {p : Pat} {n : Nat}, kS n ∈ Pat.keys p → ∃ s, (n, s) ∈ p ∧ itemKey (n, s) = kS n := by
  intro p
  induction p with
  | nil => intro n h; simp [Pat.keys] at h
  | cons it l ih =>
    intro n h
    obtain ⟨m, s⟩ := it
    have tail : kS n ∈ Pat.keys l → ∃ s', (n, s') ∈ (m, s) :: l ∧ itemKey (n, s') = kS n := fun h => by
      obtain ⟨s', h1, h2⟩ := ih h
      exact ⟨s', List.mem_cons_of_mem _ h1, h2⟩
    have hd : m = n → itemKey (n, s) = kS n → ∃ s', (n, s') ∈ (m, s) :: l ∧ itemKey (n, s') = kS n := fun e h => ⟨s, by rw [e]; exact List.mem_cons_self .., h⟩
    cases s with
    | ptr b off =>
      rcases List.mem_cons.1 h with h | h
      · exact hd (kS_inj h).symm rfl
      · exact tail h
    | clo f bs =>
      rcases List.mem_cons.1 h with h | h
      · exact hd (kS_inj h).symm rfl
      · exact tail h
    | val t =>
      rcases List.mem_cons.1 h with h | h
      · exact hd (kS_inj h).symm rfl
      · exact (List.mem_append.1 h).elim (fun h => (kS_not_okeys h).elim) tail
    | agg t =>
      rcases List.mem_cons.1 h with h | h
      · exact hd (kS_inj h).symm rfl
      · exact (List.mem_append.1 h).elim (fun h => (kS_not_okeys h).elim) tail
    | «mut» t =>
      rcases List.mem_cons.1 h with h | h
      · exact hd (kS_inj h).symm rfl
      · exact (List.mem_append.1 h).elim (fun h => (kS_not_okeys h).elim) tail
    | box t =>
      rcases List.mem_cons.1 h with h | h
      · exact absurd h (kS_ne_kB _ _)
      · exact (List.mem_append.1 h).elim (fun h => (kS_not_okeys h).elim) tail

theorem PtrsAt.rel {at_ : Nat → Option (Nat × Nat × Nat)} : ∀ {bs : List Nat} {ps : List Value}, PtrsAt at_ bs ps → (∀ b, b ∈ bs → σ (kB b) ≠ .none ∧ G.at_ (kB b) = at_ (kB b)) → RelPs σ G bs ps
  | [], [], _, _ => trivial
  | b :: bs, v :: vs, h, hb => by
    obtain ⟨h1, h2⟩ := hb b (List.mem_cons_self ..)
    refine ⟨⟨h1, ?_⟩, PtrsAt.rel h.2 fun c hc => hb c (List.mem_cons_of_mem _ hc)⟩
    rw [h2]; exact h.1

/-- Slots of a state that was laid out. -/
theorem items_slots {p : Pat} {σ' : Sg} {G' : Gh} (hok : Pat.okIn (Pat.boxes p) p = true) (hi : ∀ it, it ∈ p → ItemR w σ' G' tm at_ it) (hold : ∀ k, k ∉ Pat.keys p → σ' k = .none) :
    ∀ n, RelKV w σ' G' (σ' (kS n)) (tm n) := by
  intro n
  by_cases hk : kS n ∈ Pat.keys p
  · obtain ⟨s, h1, h2⟩ := Pat.keys_slot hk
    have hit := hi _ h1
    have box : ∀ b, b ∈ Pat.boxes p → σ' (kB b) ≠ .none ∧ G'.at_ (kB b) = at_ (kB b) := by
      intro b hb
      obtain ⟨r, hr⟩ := Pat.boxes_mem hb
      exact hi _ hr
    cases s with
    | ptr b off =>
      obtain ⟨e, bb, o, c, h3, h4⟩ := hit
      rw [e]
      obtain ⟨h5, h6⟩ := box b (Pat.okIn_ptr hok h1)
      exact ⟨h5, bb, o, c, h6.trans h3, h4⟩
    | clo f bs =>
      obtain ⟨e, ps, h3, h4⟩ := hit
      rw [e]
      exact ⟨ps, h3, h4.rel fun b hb => box b (Pat.okIn_clo hok h1 b hb)⟩
    | val t => exact hit
    | agg t => exact hit
    | «mut» t => exact hit
    | box t => exact absurd h2.symm (kS_ne_kB _ _)
  · rw [hold _ hk]; trivial

theorem pat_sound (p : Pat) (σ : Sg) (x : (Pat.ty p).Den) (ups : List (Nat × KV)) (rs : List Nat) (a : Act) (w : World) (hok : Pat.ok p = true) (h : (ext p).eval σ [] = some ((x, ups), rs))
    (hu : okUps ups = true) (hR : Rel B N σ a w) : Rel B N (inj p x empty) a w := by
  obtain ⟨G, hp, hd, hn, hs⟩ := hR
  simp only [Pat.ok, Bool.and_eq_true] at hok
  obtain ⟨L, D, ht⟩ := ext_sound hp hs hok.2 h
  obtain ⟨h1, _, h3, _⟩ := ht.apply hp hu
  obtain ⟨G', g, hi⟩ := inj_grow (p := p) (x := x) (σ := empty) h1.forget hok.2 (nodupK_iff.1 hok.1) (fun _ _ => rfl) ht.rep ⟨h3.nodup, h3.mem, fun _ _ _ _ hl => by cases hl⟩
  exact ⟨G', g.hp, hd, hn, items_slots hok.2 hi fun k hk => g.old k hk⟩
end
end Rg

/- The ring framework, part Zb: what a function is handed and what it hands back, in memory. -/
namespace Rg
open Go

/-- Structs behind pointers. -/
def BoxesR (w : World) (S : Nat → Prop) : (rs : List Ty) → (consAll rs).Den → List Value → List Nat → Prop
  | [], _, vs, U => vs = [] ∧ U = []
  | r :: rs, x, vs, U => ∃ vs' U1 U2 b o, vs = .pointer (some ⟨b, o, none⟩) :: vs' ∧ U = U1 ++ U2 ∧ BoxAt w S r x.1 b o U1 ∧ BoxesR w S rs x.2 vs' U2

/-- The slices of what was handed over to be written. -/
def MutR (w : World) (S : Nat → Prop) : (t : Ty) → t.Den → List Value → List Nat → Prop
  | .ow r, x, vs, U => ORep w S (.ow r) x vs U
  | .cons t r, x, vs, U => ∃ v1 v2 U1 U2, vs = v1 ++ v2 ∧ U = U1 ++ U2 ∧ v1.length = t.size ∧ MutR w S t x.1 v1 U1 ∧ MutR w S r x.2 v2 U2
  | _, _, _, U => U = []

/-- What is handed over, in memory. -/
def ArgR (w : World) (S : Nat → Prop) : (p : PK) → p.ty.Den → Value → List Nat → Prop
  | .val t, x, v, U => ORep w S t x [v] U
  | .agg r, x, v, U => ∃ vs : List Value, v = .agg vs.toArray ∧ ORep w S r x vs U
  | .ptr r, x, v, U => ∃ b o, v = .pointer (some ⟨b, o, none⟩) ∧ BoxAt w S r x b o U
  | .mut r, x, v, U => ∃ vs, v = aggV r vs ∧ ORep w S r x vs U
  | .clo f rs, x, v, U => ∃ ps : List Value, v = .func (.func f) #[] ps.toArray ∧ BoxesR w S rs x ps U

/-- What is handed back, in memory. -/
def OutR (w : World) (S : Nat → Prop) : (p : PK) → p.ty.Den → Value → List Nat → Prop
  | .val t, x, v, U => ORep w S t x [v] U
  | .agg r, x, v, U => ∃ vs : List Value, v = .agg vs.toArray ∧ ORep w S r x vs U
  | .ptr r, x, v, U => ∃ b o, v = .pointer (some ⟨b, o, none⟩) ∧ BoxAt w S r x b o U
  | .mut r, x, v, U => ∃ vs, v = aggV r vs ∧ vs.length = r.size ∧ MutR w S r x vs U
  | .clo f rs, x, v, U => ∃ ps : List Value, v = .func (.func f) #[] ps.toArray ∧ BoxesR w S rs x ps U

def ArgsR (w : World) (S : Nat → Prop) : (ps : List PK) → (rowOf ps).Den → List Value → List Nat → Prop
  | [], _, vs, U => vs = [] ∧ U = []
  | p :: ps, x, vs, U => ∃ v vs' U1 U2, vs = v :: vs' ∧ U = U1 ++ U2 ∧ ArgR w S p x.1 v U1 ∧ ArgsR w S ps x.2 vs' U2

def OutsR (w : World) (S : Nat → Prop) : (ps : List PK) → (rowOf ps).Den → List Value → List Nat → Prop
  | [], _, vs, U => vs = [] ∧ U = []
  | p :: ps, x, vs, U => ∃ v vs' U1 U2, vs = v :: vs' ∧ U = U1 ++ U2 ∧ OutR w S p x.1 v U1 ∧ OutsR w S ps x.2 vs' U2

/-- The values of what is handed back, too. -/
def ptrVals : List PK → List Value → List Value
  | p :: ps, v :: vs => if p.isPtr then v :: ptrVals ps vs else ptrVals ps vs
  | _, _ => []

/-- What a call leaves of memory. -/
structure Post (w : World) (S : Nat → Prop) (U : List Nat) (w' : World) (S' : Nat → Prop) (U' : List Nat) : Prop where
  nodup : U'.Nodup
  mem : ∀ b, b ∈ U' → b < w'.heap.size ∧ ¬ S' b ∧ (w.heap.size ≤ b ∨ b ∈ U)
  keep : ∀ b, S b → S' b
  shared : ∀ b, S' b → b < w'.heap.size ∧ (w.heap.size ≤ b ∨ S b ∨ b ∈ U)
  frame : ∀ b, b < w.heap.size → b ∉ U → w'.heap[b]? = w.heap[b]?
  size : w.heap.size ≤ w'.heap.size
  side : Side w w'

def retV : List Value → Value
  | [v] => v
  | vs => .tuple vs.toArray

/-- A function does what its model says. -/
def Refines (P : Program) (f : FuncId) (m : Mdl) : Prop :=
  ∀ (w : World) (S : Nat → Prop) (x : (rowOf m.ps).Den) (y : (outOf m.ps m.rs).Den) (vs : List Value) (U : List Nat), m.fn x = some y → ArgsR w S m.ps x vs U → U.Nodup → (∀ b, b ∈ U → b < w.heap.size ∧ ¬ S b) →
    (∀ b, S b → b < w.heap.size) → Calls P f vs.toArray w fun e w' => ∃ rvs S' U', e = .returned (retV rvs) ∧ rvs.length = m.rs.length ∧
      OutsR w' S' (m.rs ++ ptrsOf m.ps) y (rvs ++ ptrVals m.ps vs) U' ∧ Post w S U w' S' U'

/-- A function can be called. -/
def Callable (P : Program) (f : FuncId) : Prop := ∃ fn c, P.funcs[f]? = some fn ∧ fn.body = some c ∧ (fn.name == "runtime.NumGoroutine") = false

def PK.okA : PK → Bool
  | .val t => Nat.beq t.size 1 && t.owPlain
  | .agg r => r.owPlain
  | .ptr r => r.owPlain
  | .mut r => (r.isAgg || Nat.beq r.size 1) && r.owPlain
  | .clo _ rs => rs.all Ty.owPlain

def PK.okR : PK → Bool
  | .val t => Nat.beq t.size 1 && t.owPlain
  | .agg r => r.owPlain
  | .ptr r => r.owPlain
  | _ => false

def Mdl.ok (m : Mdl) : Bool := m.ps.all PK.okA && m.rs.all PK.okR

section
variable {P : Program} {E : Env} {B : Base} {N : Nat} {w : World} {σ : Sg} {G : Gh}

theorem BoxesR.mono {S S' : Nat → Prop} (hS : ∀ b, S b → S' b) : ∀ {rs : List Ty} {x : (consAll rs).Den} {vs : List Value} {U : List Nat}, BoxesR w S rs x vs U → BoxesR w S' rs x vs U
  | [], _, _, _, h => h
  | _ :: _, _, _, _, ⟨vs', U1, U2, b, o, h1, h2, h3, h4⟩ => ⟨vs', U1, U2, b, o, h1, h2, h3.mono hS, BoxesR.mono hS h4⟩

theorem MutR.mono {S S' : Nat → Prop} (hS : ∀ b, S b → S' b) : ∀ {t : Ty} {x : t.Den} {vs : List Value} {U : List Nat}, MutR w S t x vs U → MutR w S' t x vs U
  | .int _, _, _, _, h => h
  | .bool, _, _, _, h => h
  | .str, _, _, _, h => h
  | .sl _, _, _, _, h => h
  | .nil, _, _, _, h => h
  | .alt _ _, _, _, _, h => h
  | .ow _, _, _, _, h => ORep.mono hS h fun _ _ => rfl
  | .cons _ _, _, _, _, ⟨v1, v2, U1, U2, h1, h2, h3, h4, h5⟩ => ⟨v1, v2, U1, U2, h1, h2, h3, MutR.mono hS h4, MutR.mono hS h5⟩

theorem ArgR.mono {S S' : Nat → Prop} (hS : ∀ b, S b → S' b) : ∀ {p : PK} {x : p.ty.Den} {v : Value} {U : List Nat}, ArgR w S p x v U → ArgR w S' p x v U
  | .val _, _, _, _, h => ORep.mono hS h fun _ _ => rfl
  | .agg _, _, _, _, ⟨vs, h1, h2⟩ => ⟨vs, h1, h2.mono hS fun _ _ => rfl⟩
  | .ptr _, _, _, _, ⟨b, o, h1, h2⟩ => ⟨b, o, h1, h2.mono hS⟩
  | .mut _, _, _, _, ⟨vs, h1, h2⟩ => ⟨vs, h1, h2.mono hS fun _ _ => rfl⟩
  | .clo _ _, _, _, _, ⟨ps, h1, h2⟩ => ⟨ps, h1, BoxesR.mono hS h2⟩

theorem OutR.mono {S S' : Nat → Prop} (hS : ∀ b, S b → S' b) : ∀ {p : PK} {x : p.ty.Den} {v : Value} {U : List Nat}, OutR w S p x v U → OutR w S' p x v U
  | .val _, _, _, _, h => ORep.mono hS h fun _ _ => rfl
  | .agg _, _, _, _, ⟨vs, h1, h2⟩ => ⟨vs, h1, h2.mono hS fun _ _ => rfl⟩
  | .ptr _, _, _, _, ⟨b, o, h1, h2⟩ => ⟨b, o, h1, h2.mono hS⟩
  | .mut _, _, _, _, ⟨vs, h1, h0, h2⟩ => ⟨vs, h1, h0, h2.mono hS⟩
  | .clo _ _, _, _, _, ⟨ps, h1, h2⟩ => ⟨ps, h1, BoxesR.mono hS h2⟩

theorem ArgsR.mono {S S' : Nat → Prop} (hS : ∀ b, S b → S' b) : ∀ {ps : List PK} {x : (rowOf ps).Den} {vs : List Value} {U : List Nat}, ArgsR w S ps x vs U → ArgsR w S' ps x vs U
  | [], _, _, _, h => h
  | _ :: _, _, _, _, ⟨v, vs', U1, U2, h1, h2, h3, h4⟩ => ⟨v, vs', U1, U2, h1, h2, h3.mono hS, ArgsR.mono hS h4⟩

theorem OutsR.mono {S S' : Nat → Prop} (hS : ∀ b, S b → S' b) : ∀ {ps : List PK} {x : (rowOf ps).Den} {vs : List Value} {U : List Nat}, OutsR w S ps x vs U → OutsR w S' ps x vs U
  | [], _, _, _, h => h
  | _ :: _, _, _, _, ⟨v, vs', U1, U2, h1, h2, h3, h4⟩ => ⟨v, vs', U1, U2, h1, h2, h3.mono hS, OutsR.mono hS h4⟩

theorem BoxAt.noSl {S S' : Nat → Prop} {r : Ty} {x : r.Den} {b o : Nat} {U : List Nat} (hn : r.noSl = true) (h : BoxAt w S r x b o U) : BoxAt w S' r x b o U := by
  obtain ⟨arr, el, fz, vs, U', h1, h2, h3, h4, h5, h6⟩ := h
  exact ⟨arr, el, fz, vs, U', h1, h2, h3, h4, h5, h6.noSl hn⟩

theorem BoxesR.noSl {S S' : Nat → Prop} : ∀ {rs : List Ty} {x : (consAll rs).Den} {vs : List Value} {U : List Nat}, (consAll rs).noSl = true → BoxesR w S rs x vs U → BoxesR w S' rs x vs U
  | [], _, _, _, _, h => h
  | r :: rs, _, _, _, hn, ⟨vs', U1, U2, b, o, h1, h2, h3, h4⟩ => by
    have hn' : r.noSl = true ∧ (consAll rs).noSl = true := by simpa [consAll, Ty.noSl] using hn
    exact ⟨vs', U1, U2, b, o, h1, h2, h3.noSl hn'.1, BoxesR.noSl hn'.2 h4⟩

theorem MutR.noSl {S S' : Nat → Prop} : ∀ {t : Ty} {x : t.Den} {vs : List Value} {U : List Nat}, t.noSl = true → MutR w S t x vs U → MutR w S' t x vs U
  | .int _, _, _, _, _, h => h
  | .bool, _, _, _, _, h => h
  | .str, _, _, _, _, h => h
  | .sl _, _, _, _, _, h => h
  | .nil, _, _, _, _, h => h
  | .alt _ _, _, _, _, _, h => h
  | .ow _, _, _, _, hn, h => ORep.noSl hn h
  | .cons t r, _, _, _, hn, ⟨v1, v2, U1, U2, h1, h2, h3, h4, h5⟩ => by
    have hn' : t.noSl = true ∧ r.noSl = true := by simpa [Ty.noSl] using hn
    exact ⟨v1, v2, U1, U2, h1, h2, h3, MutR.noSl hn'.1 h4, MutR.noSl hn'.2 h5⟩

theorem OutR.noSl {S S' : Nat → Prop} : ∀ {p : PK} {x : p.ty.Den} {v : Value} {U : List Nat}, p.ty.noSl = true → OutR w S p x v U → OutR w S' p x v U
  | .val _, _, _, _, hn, h => ORep.noSl hn h
  | .agg _, _, _, _, hn, ⟨vs, h1, h2⟩ => ⟨vs, h1, h2.noSl hn⟩
  | .ptr _, _, _, _, hn, ⟨b, o, h1, h2⟩ => ⟨b, o, h1, h2.noSl hn⟩
  | .mut _, _, _, _, hn, ⟨vs, h1, h0, h2⟩ => ⟨vs, h1, h0, h2.noSl hn⟩
  | .clo _ _, _, _, _, hn, ⟨ps, h1, h2⟩ => ⟨ps, h1, BoxesR.noSl hn h2⟩

theorem OutsR.noSl {S S' : Nat → Prop} : ∀ {ps : List PK} {x : (rowOf ps).Den} {vs : List Value} {U : List Nat}, (rowOf ps).noSl = true → OutsR w S ps x vs U → OutsR w S' ps x vs U
  | [], _, _, _, _, h => h
  | p :: ps, _, _, _, hn, ⟨v, vs', U1, U2, h1, h2, h3, h4⟩ => by
    have hn' : p.ty.noSl = true ∧ (rowOf ps).noSl = true := by simpa [rowOf, Ty.noSl] using hn
    exact ⟨v, vs', U1, U2, h1, h2, h3.noSl hn'.1, OutsR.noSl hn'.2 h4⟩

/-! ### what is handed over is taken -/
/-- The keys of what will be written anew. -/
def tgtKeys : List Tgt → List Nat
  | [] => []
  | .box b :: l => kB b :: tgtKeys l
  | .hds es :: l => es.map kX ++ tgtKeys l
  | .boxes bs :: l => bs.map kB ++ tgtKeys l

/-- Slices that are handed over to be written, by their keys. -/
def HdsR (σ : Sg) (G : Gh) : Ty → List Value → List Nat → Prop
  | .ow r, vs, es => ∃ e xs, es = [e] ∧ σ (kX e) = .ex r xs ∧ vs = [hdrOf G (kX e) xs.length]
  | .cons t r, vs, es => ∃ v1 v2 e1 e2, vs = v1 ++ v2 ∧ es = e1 ++ e2 ∧ v1.length = t.size ∧ HdsR σ G t v1 e1 ∧ HdsR σ G r v2 e2
  | _, _, es => es = []

def BoxTg (G : Gh) : List Nat → List Value → Prop
  | [], [] => True
  | b :: bs, v :: vs => (∃ bb o, G.at_ (kB b) = some (bb, o, 0) ∧ v = .pointer (some ⟨bb, o, none⟩)) ∧ BoxTg G bs vs
  | _, _ => False

/-- What is handed over to be written, by its keys. -/
def TgtsR (σ : Sg) (G : Gh) : List PK → List Tgt → List Value → Prop
  | [], [], [] => True
  | .ptr _ :: ps, .box b :: ts, v :: vs => (∃ bb o, G.at_ (kB b) = some (bb, o, 0) ∧ v = .pointer (some ⟨bb, o, none⟩)) ∧ TgtsR σ G ps ts vs
  | .mut r :: ps, .hds es :: ts, v :: vs => (∃ us, v = aggV r us ∧ us.length = r.size ∧ HdsR σ G r us es) ∧ TgtsR σ G ps ts vs
  | .clo f rs :: ps, .boxes bs :: ts, v :: vs => (∃ us : List Value, v = .func (.func f) #[] us.toArray ∧ BoxTg G bs us ∧ bs.length = rs.length) ∧ TgtsR σ G ps ts vs
  | _, _, _ => False

theorem packM_sound (hp : Hp B σ w G) : ∀ {t : Ty} {cs : List LC} {vs : List Value} {x : t.Den} {rest : List LC} {ups : List (Nat × KV)} {es : List Nat} {rs rs' : List Nat},
    (t.packM cs).eval σ rs = some ((x, rest, ups, es), rs') → RelCs w σ G cs vs → ∃ v1 v2 L D, vs = v1 ++ v2 ∧ RelCs w σ G rest v2 ∧ Packed false w σ G t x v1 ups L D ∧ HdsR σ G t v1 es ∧ es.Sublist D
  | .cons t r, cs, vs, x, rest, ups, es, rs, rs', h, hr => by
    have h' : ((t.packM cs).bind fun p => (r.packM p.2.1).bind fun q => T.pure ((p.1, q.1), q.2.1, p.2.2.1 ++ q.2.2.1, p.2.2.2 ++ q.2.2.2)).eval σ rs = some ((x, rest, ups, es), rs') := by
      cases cs <;> exact h
    obtain ⟨⟨x1, rest1, ups1, es1⟩, r1, h1, h2⟩ := T.eval_bind _ _ h'
    obtain ⟨⟨x2, rest2, ups2, es2⟩, r2, h3, h4⟩ := T.eval_bind _ _ h2
    cases pure_eq h4
    obtain ⟨v1, v2, L1, D1, hv, hr1, p1, q1, s1⟩ := packM_sound hp h1 hr
    obtain ⟨v3, v4, L2, D2, hv2, hr2, p2, q2, s2⟩ := packM_sound hp h3 hr1
    exact ⟨v1 ++ v3, v4, L1 ++ L2, D1 ++ D2, by rw [hv, hv2, List.append_assoc], hr2, p1.cons p2, ⟨v1, v3, es1, es2, rfl, rfl, p1.rep.length, q1, q2⟩, s1.append s2⟩
  | .nil, cs, vs, x, rest, ups, es, rs, rs', h, hr => by
    have h' : (some (((), cs, [], []), rs) : Option ((Unit × List LC × List (Nat × KV) × List Nat) × List Nat)) = some ((x, rest, ups, es), rs') := by
      cases cs <;> exact h
    cases h'
    exact ⟨[], vs, [], [], rfl, hr, ⟨⟨rfl, rfl⟩, fun e h => by simp at h, fun p h => by simp at h, rfl, fun _ e h => by simp at h⟩, rfl, List.Sublist.refl _⟩
  | .ow r, cs, vs, x, rest, ups, es, rs, rs', h, hr => by
    cases cs with
    | nil => simp [Ty.packM, T.eval] at h
    | cons c l =>
      cases vs with
      | nil => exact hr.elim
      | cons v vs =>
        cases c with
        | dat t' y => simp [Ty.packM, T.eval] at h
        | nl q => simp [Ty.packM, T.eval] at h
        | hdl e =>
          simp only [Ty.packM, T.eval] at h
          split at h
          · rename_i r' xs hx
            obtain ⟨z, r1, h1, h2⟩ := T.eval_bind _ _ h
            have h1c := h1
            obtain ⟨h1', _⟩ := ofO_eval h1
            obtain ⟨eq, hz⟩ := castL_some h1'
            subst eq
            cases pure_eq h2
            have hpk : (Ty.pack false (.ow r') (.hdl e :: rest)).eval σ rs = some ((x, rest, [(kX e, .gone)]), kX e :: rs) := by
              simp only [Ty.pack, T.eval, hx, h1', T.ofO, T.bind]
            obtain ⟨v1, v2, L, D, hv, hr2, hP⟩ := pack_sound hp hpk hr
            have hv1 : v1 = [v] := by
              have hl := hP.rep.length
              cases v1 with
              | nil => simp [Ty.size] at hl
              | cons a v1 =>
                cases v1 with
                | nil => simp only [List.cons_append, List.nil_append, List.cons.injEq] at hv; rw [hv.1]
                | cons _ _ => simp [Ty.size] at hl
            have hD : D.map kX = [kX e] := by rw [← hP.gone]; rfl
            have hD' : D = [e] := by
              cases D with
              | nil => simp at hD
              | cons a D =>
                simp only [List.map_cons, List.cons.injEq, List.map_eq_nil_iff] at hD
                rw [kX_inj hD.1, hD.2]
            refine ⟨v1, v2, L, D, hv, hr2, hP, ⟨e, xs, rfl, hx, by rw [hv1, hdl_len hr.1 hx]⟩, by rw [hD']; exact List.Sublist.refl _⟩
          · simp [T.eval] at h
  | .int k, cs, vs, x, rest, ups, es, rs, rs', h, hr => by
    have h' : ((Ty.pack false (.int k) cs).bind fun p => T.pure (p.1, p.2.1, p.2.2, ([] : List Nat))).eval σ rs = some ((x, rest, ups, es), rs') := by cases cs <;> exact h
    obtain ⟨⟨x1, rest1, ups1⟩, r1, h1, h2⟩ := T.eval_bind _ _ h'
    cases pure_eq h2
    obtain ⟨v1, v2, L, D, hv, hr2, hP⟩ := pack_sound hp h1 hr
    exact ⟨v1, v2, L, D, hv, hr2, hP, rfl, List.nil_sublist _⟩
  | .bool, cs, vs, x, rest, ups, es, rs, rs', h, hr => by
    have h' : ((Ty.pack false .bool cs).bind fun p => T.pure (p.1, p.2.1, p.2.2, ([] : List Nat))).eval σ rs = some ((x, rest, ups, es), rs') := by cases cs <;> exact h
    obtain ⟨⟨x1, rest1, ups1⟩, r1, h1, h2⟩ := T.eval_bind _ _ h'
    cases pure_eq h2
    obtain ⟨v1, v2, L, D, hv, hr2, hP⟩ := pack_sound hp h1 hr
    exact ⟨v1, v2, L, D, hv, hr2, hP, rfl, List.nil_sublist _⟩
  | .str, cs, vs, x, rest, ups, es, rs, rs', h, hr => by
    have h' : ((Ty.pack false .str cs).bind fun p => T.pure (p.1, p.2.1, p.2.2, ([] : List Nat))).eval σ rs = some ((x, rest, ups, es), rs') := by cases cs <;> exact h
    obtain ⟨⟨x1, rest1, ups1⟩, r1, h1, h2⟩ := T.eval_bind _ _ h'
    cases pure_eq h2
    obtain ⟨v1, v2, L, D, hv, hr2, hP⟩ := pack_sound hp h1 hr
    exact ⟨v1, v2, L, D, hv, hr2, hP, rfl, List.nil_sublist _⟩
  | .sl r, cs, vs, x, rest, ups, es, rs, rs', h, hr => by
    have h' : ((Ty.pack false (.sl r) cs).bind fun p => T.pure (p.1, p.2.1, p.2.2, ([] : List Nat))).eval σ rs = some ((x, rest, ups, es), rs') := by cases cs <;> exact h
    obtain ⟨⟨x1, rest1, ups1⟩, r1, h1, h2⟩ := T.eval_bind _ _ h'
    cases pure_eq h2
    obtain ⟨v1, v2, L, D, hv, hr2, hP⟩ := pack_sound hp h1 hr
    exact ⟨v1, v2, L, D, hv, hr2, hP, rfl, List.nil_sublist _⟩
  | .alt a b, cs, vs, x, rest, ups, es, rs, rs', h, hr => by
    cases cs <;> simp [Ty.packM, Ty.pack, T.bind, T.eval] at h

/-- Operands and their values. -/
def OpdsR (w : World) (σ : Sg) (G : Gh) : List (T SV) → List Value → Prop
  | [], [] => True
  | t :: ts, v :: vs => (∀ s rs rs', t.eval σ rs = some (s, rs') → RelSV w σ G s v) ∧ OpdsR w σ G ts vs
  | _, _ => False

theorem packBoxes_sound (hp : Hp B σ w G) : ∀ {rs : List Ty} {bs : List Nat} {vs : List Value} {x : (consAll rs).Den} {ups : List (Nat × KV)} {k k' : List Nat}, RelPs σ G bs vs →
    (packBoxes rs bs).eval σ k = some ((x, ups), k') → ∃ L D, Taken w σ G (fun S U => BoxesR w S rs x vs U) ups L D ∧ BoxTg G bs vs ∧ bs.length = rs.length ∧ (bs.map kB).Sublist D
  | [], [], vs, x, ups, k, k', hr, h => by
    cases pure_eq h
    cases vs with
    | nil => exact ⟨[], [], Taken.nil (fun _ => ⟨rfl, rfl⟩) fun _ _ _ hS h => BoxesR.mono hS h, trivial, rfl, List.Sublist.refl _⟩
    | cons _ _ => exact hr.elim
  | [], _ :: _, _, _, _, _, _, _, h => (fail_eval h).elim
  | _ :: _, [], _, _, _, _, _, _, h => (fail_eval h).elim
  | r :: rs, b :: bs, vs, x, ups, k, k', hr, h => by
    cases vs with
    | nil => exact hr.elim
    | cons v vs =>
    have h2 := get_eval h
    split at h2
    · rename_i cs hk
      obtain ⟨hlen, h3⟩ := chk_eval h2
      obtain ⟨⟨x1, rest, u1⟩, r1, h4, h5⟩ := T.eval_bind _ _ h3
      obtain ⟨⟨x2, u2⟩, r2, h6, h7⟩ := T.eval_bind _ _ h5
      cases pure_eq h7
      have hrest : rest = [] := by
        obtain ⟨bb, o, arr, el, fz, _, _, _, _, _, us, _, h8⟩ := hp.box b cs hk
        obtain ⟨v1, v2, _, _, hv, hr2, hP⟩ := pack_sound hp h4 h8
        have e1 := hP.rep.length
        have e2 := h8.length
        rw [Nat.eq_of_beq_eq_true hlen, hv, List.length_append, e1] at e2
        have : v2 = [] := List.eq_nil_of_length_eq_zero (by omega)
        subst this
        cases rest with
        | nil => rfl
        | cons _ _ => exact hr2.elim
      subst hrest
      obtain ⟨bb, o, L, D, hat, hT⟩ := Taken.box hp hk h4
      obtain ⟨L2, D2, hT2, ht, hl, hs⟩ := packBoxes_sound hp hr.2 h6
      obtain ⟨h0, b', o', c', hat', hv⟩ := hr.1
      rw [hat] at hat'
      cases hat'
      have hv' : v = .pointer (some ⟨bb, o, none⟩) := hv
      refine ⟨L ++ L2, (kB b :: D) ++ D2, hT.append hT2 (fun S U1 U2 a c => ⟨vs, U1, U2, bb, o, by rw [hv'], rfl, a, c⟩) (fun _ _ _ hS h => BoxesR.mono hS h), ⟨⟨bb, o, hat, hv'⟩, ht⟩, by simp [hl], ?_⟩
      simp only [List.map_cons, List.cons_append]
      exact (List.Sublist.trans hs (List.sublist_append_right D D2)).cons_cons _
    · exact (fail_eval h2).elim

theorem packArgs_sound (hp : Hp B σ w G) : ∀ {ps : List PK} {ts : List (T SV)} {vs : List Value} {x : (rowOf ps).Den} {ups : List (Nat × KV)} {tg : List Tgt} {rs rs' : List Nat}, ps.all PK.okA = true → OpdsR w σ G ts vs →
    (packArgs ps ts).eval σ rs = some ((x, ups, tg), rs') → ∃ L D, Taken w σ G (fun S U => ArgsR w S ps x vs U) ups L D ∧ TgtsR σ G (ptrsOf ps) tg (ptrVals ps vs) ∧ (tgtKeys tg).Sublist D
  | [], [], vs, x, ups, tg, rs, rs', _, hv, h => by
    cases pure_eq h
    cases vs with
    | nil => exact ⟨[], [], Taken.nil (fun _ => ⟨rfl, rfl⟩) fun _ _ _ hS h => ArgsR.mono hS h, trivial, List.Sublist.refl _⟩
    | cons _ _ => exact hv.elim
  | [], _ :: _, _, _, _, _, _, _, _, _, h => (fail_eval h).elim
  | p :: _, [], _, _, _, _, _, _, _, _, h => by cases p <;> exact (fail_eval h).elim
  | p :: ps, t :: ts, [], x, ups, tg, rs, rs', _, hv, h => hv.elim
  | p :: ps, t :: ts, v :: vs, x, ups, tg, rs, rs', hok, hv, h => by
    simp only [List.all_cons, Bool.and_eq_true] at hok
    cases p with
    | val ty =>
      obtain ⟨s, r1, h1, h2⟩ := T.eval_bind _ _ h
      have hs := hv.1 s _ _ h1
      split at h2
      · rename_i c
        obtain ⟨⟨x1, rest, u1⟩, r2, h3, h4⟩ := T.eval_bind _ _ h2
        obtain ⟨⟨x2, u2, tg2⟩, r3, h5, h6⟩ := T.eval_bind _ _ h4
        cases pure_eq h6
        obtain ⟨v1, v2, L, D, hvv, hr, hP⟩ := pack_sound hp h3 (show RelCs w σ G [c] [v] from ⟨hs, trivial⟩)
        have hv1 : v1 = [v] := by
          have hl := hP.rep.length
          have : ty.size = 1 := by
            have := hok.1
            simp only [PK.okA, Bool.and_eq_true] at this
            exact Nat.eq_of_beq_eq_true this.1
          rw [this] at hl
          cases v1 with
          | nil => simp at hl
          | cons a v1 =>
            cases v1 with
            | nil => simp only [List.cons_append, List.nil_append, List.cons.injEq] at hvv; rw [hvv.1]
            | cons _ _ => simp at hl
        subst hv1
        obtain ⟨L2, D2, hT, htg, hsub⟩ := packArgs_sound hp hok.2 hv.2 h5
        exact ⟨L ++ L2, D.map kX ++ D2, hP.taken.append hT (fun S U1 U2 a b => ⟨v, vs, U1, U2, rfl, rfl, a, b⟩) (fun _ _ _ hS h => ArgsR.mono hS h), htg, List.Sublist.trans hsub (List.sublist_append_right _ _)⟩
      · exact (fail_eval h2).elim
    | agg ty =>
      obtain ⟨s, r1, h1, h2⟩ := T.eval_bind _ _ h
      have hs := hv.1 s _ _ h1
      split at h2
      · rename_i cs
        obtain ⟨us, hus, hrel⟩ := hs
        obtain ⟨⟨x1, rest, u1⟩, r2, h3, h4⟩ := T.eval_bind _ _ h2
        obtain ⟨v1, v2, L, D, hvv, hr, hP⟩ := pack_sound hp h3 hrel
        split at h4
        · rename_i hrest
          simp only at hrest
          subst hrest
          obtain rfl := relCs_nil hr
          rw [List.append_nil] at hvv
          subst hvv
          obtain ⟨⟨x2, u2, tg2⟩, r3, h5, h6⟩ := T.eval_bind _ _ h4
          cases pure_eq h6
          obtain ⟨L2, D2, hT, htg, hsub⟩ := packArgs_sound hp hok.2 hv.2 h5
          exact ⟨L ++ L2, D.map kX ++ D2, hP.taken.append hT (fun S U1 U2 a b => ⟨v, vs, U1, U2, rfl, rfl, ⟨us, hus, a⟩, b⟩) (fun _ _ _ hS h => ArgsR.mono hS h), htg, List.Sublist.trans hsub (List.sublist_append_right _ _)⟩
        · exact (fail_eval h4).elim
      · exact (fail_eval h2).elim
    | ptr ty =>
      obtain ⟨s, r1, h1, h2⟩ := T.eval_bind _ _ h
      have hs := hv.1 s _ _ h1
      split at h2
      · rename_i b off
        have h3 := get_eval h2
        split at h3
        · rename_i cs hk
          obtain ⟨hc, h4⟩ := chk_eval h3
          simp only [Bool.and_eq_true] at hc
          have hoff := Nat.eq_of_beq_eq_true hc.2
          subst hoff
          obtain ⟨⟨x1, rest, u1⟩, r2, h5, h6⟩ := T.eval_bind _ _ h4
          obtain ⟨⟨x2, u2, tg2⟩, r3, h7, h8⟩ := T.eval_bind _ _ h6
          cases pure_eq h8
          have hrest : rest = [] := by
            obtain ⟨bb, o, arr, el, fz, _, _, _, _, _, us, _, h8⟩ := hp.box b cs hk
            obtain ⟨v1, v2, _, _, hvv, hr2, hP⟩ := pack_sound hp h5 h8
            have e1 := hP.rep.length
            have e2 := h8.length
            rw [Nat.eq_of_beq_eq_true hc.1, hvv, List.length_append, e1] at e2
            have : v2 = [] := List.eq_nil_of_length_eq_zero (by omega)
            subst this
            cases rest with
            | nil => rfl
            | cons _ _ => exact hr2.elim
          subst hrest
          obtain ⟨bb, o, L, D, hat, hT1⟩ := Taken.box hp hk h5
          obtain ⟨L2, D2, hT, htg, hsub⟩ := packArgs_sound hp hok.2 hv.2 h7
          obtain ⟨h0, b', o', c', hat', hvp⟩ := hs
          rw [hat] at hat'
          cases hat'
          have hvp' : v = .pointer (some ⟨bb, o, none⟩) := hvp
          refine ⟨L ++ L2, (kB b :: D) ++ D2, hT1.append hT (fun S U1 U2 a c => ⟨v, vs, U1, U2, rfl, rfl, ⟨bb, o, hvp', a⟩, c⟩) (fun _ _ _ hS h => ArgsR.mono hS h), ⟨⟨bb, o, hat, hvp'⟩, htg⟩, ?_⟩
          simp only [tgtKeys, List.cons_append]
          exact (List.Sublist.trans hsub (List.sublist_append_right D D2)).cons_cons _
        · exact (fail_eval h3).elim
      · exact (fail_eval h2).elim
    | «mut» ty =>
      obtain ⟨s, r1, h1, h2⟩ := T.eval_bind _ _ h
      have hs := hv.1 s _ _ h1
      obtain ⟨hagg, h2⟩ := chk_eval h2
      obtain ⟨cs, r0, h3, h4⟩ := T.eval_bind _ _ h2
      obtain ⟨hlen, h4⟩ := chk_eval h4
      obtain ⟨⟨x1, rest, u1, es⟩, r2, h5, h6⟩ := T.eval_bind _ _ h4
      obtain ⟨⟨x2, u2, tg2⟩, r3, h7, h8⟩ := T.eval_bind _ _ h6
      cases pure_eq h8
      have hlen := Nat.eq_of_beq_eq_true hlen
      have hvs : ∃ us, RelCs w σ G cs us ∧ v = aggV ty us := by
        cases s with
        | cell c =>
          have := pure_eq h3
          subst this
          refine ⟨[v], ⟨hs, trivial⟩, ?_⟩
          have : ty.isAgg = false := by simpa [aggOk] using hagg
          simp [aggV, this]
        | agg ds =>
          have := pure_eq h3
          subst this
          obtain ⟨us, hus, hrel⟩ := hs
          refine ⟨us, hrel, ?_⟩
          have : ty.isAgg = true := by simpa [aggOk] using hagg
          simp [aggV, this, hus]
        | undef => exact (fail_eval h3).elim
        | ptr _ _ => exact (fail_eval h3).elim
        | elP _ _ _ => exact (fail_eval h3).elim
        | elX _ _ _ => exact (fail_eval h3).elim
        | clo _ _ => exact (fail_eval h3).elim
      obtain ⟨us, hrel, hus⟩ := hvs
      obtain ⟨v1, v2, L, D, hvv, hr, hP, hH, hsub1⟩ := packM_sound hp h5 hrel
      have hv2 : v2 = [] := by
        have e1 := hP.rep.length
        have e2 := hrel.length
        rw [hlen, hvv, List.length_append, e1] at e2
        exact List.eq_nil_of_length_eq_zero (by omega)
      subst hv2
      rw [List.append_nil] at hvv
      subst hvv
      obtain ⟨L2, D2, hT, htg, hsub⟩ := packArgs_sound hp hok.2 hv.2 h7
      exact ⟨L ++ L2, D.map kX ++ D2, hP.taken.append hT (fun S U1 U2 a b => ⟨v, vs, U1, U2, rfl, rfl, ⟨us, hus, a⟩, b⟩) (fun _ _ _ hS h => ArgsR.mono hS h), ⟨⟨us, hus, hP.rep.length, hH⟩, htg⟩, (hsub1.map kX).append hsub⟩
    | clo f trs =>
      obtain ⟨s, r1, h1, h2⟩ := T.eval_bind _ _ h
      have hs := hv.1 s _ _ h1
      split at h2
      · rename_i g bs
        obtain ⟨hc, h3⟩ := chk_eval h2
        have hfg := Nat.eq_of_beq_eq_true hc
        subst hfg
        obtain ⟨⟨x1, u1⟩, r2, h5, h6⟩ := T.eval_bind _ _ h3
        obtain ⟨⟨x2, u2, tg2⟩, r3, h7, h8⟩ := T.eval_bind _ _ h6
        cases pure_eq h8
        obtain ⟨us, hus, hps⟩ := hs
        obtain ⟨L, D, hT1, hbt, hbl, hsub1⟩ := packBoxes_sound hp hps h5
        obtain ⟨L2, D2, hT, htg, hsub⟩ := packArgs_sound hp hok.2 hv.2 h7
        exact ⟨L ++ L2, D ++ D2, hT1.append hT (fun S U1 U2 a b => ⟨v, vs, U1, U2, rfl, rfl, ⟨us, hus, a⟩, b⟩) (fun _ _ _ hS h => ArgsR.mono hS h), ⟨⟨us, hus, hbt, hbl⟩, htg⟩, hsub1.append hsub⟩
      · exact (fail_eval h2).elim
end
end Rg
