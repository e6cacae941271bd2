/- The ring framework, part Zc: memory around a call. -/
import Derived.Test.YtphjhelolaoihaaRgE
set_option linter.all false
namespace Rg
open Go

section
variable {P : Program} {E : Env} {B : Base} {N : Nat} {w w' : World} {σ : Sg} {G : Gh}

theorem SL_nil : SL G [] = G.S := by
  funext b
  exact propext ⟨fun h => h.resolve_right fun ⟨_, h, _⟩ => by simp at h, .inl⟩

/-- Keys go, are handed over, or are frozen. -/
theorem Hp.take (hp : Hp B σ w G) {us : List (Nat × KV)} {L : List Nat}
    (hus : ∀ p, p ∈ us → isKey p.1 ∧ isLive (σ p.1) = true ∧ (p.2 = .gone ∨ (∃ e r xs, p.1 = kX e ∧ σ (kX e) = .ex r xs ∧ p.2 = .held r xs.length) ∨
      (∃ e r xs, p.1 = kX e ∧ σ (kX e) = .ex r xs ∧ ∃ q y, p.2 = .fz q y ∧ q.size = r.size ∧ y.length = xs.length ∧ ORep w (SL G L) (.sl q) y [hdrOf G (kX e) xs.length] [])))
    (hL : ∀ e, e ∈ L → isLive (σ (kX e)) = true ∧ ∃ p, p ∈ us ∧ p.1 = kX e) :
    Hp B (puts σ us) w { G with S := SL G L } ∧ Mon w σ G w (puts σ us) { G with S := SL G L } ∧ (∀ k, k ∈ us.map (·.1) → isLive (puts σ us k) = false) := by
  have fate : ∀ k, k ∈ us.map (·.1) → isKey k ∧ isLive (σ k) = true ∧ (puts σ us k = .gone ∨ (∃ e r xs, k = kX e ∧ σ (kX e) = .ex r xs ∧ puts σ us k = .held r xs.length) ∨
      (∃ e r xs, k = kX e ∧ σ (kX e) = .ex r xs ∧ ∃ q y, puts σ us k = .fz q y ∧ q.size = r.size ∧ y.length = xs.length ∧ ORep w (SL G L) (.sl q) y [hdrOf G (kX e) xs.length] [])) := by
    intro k hk
    obtain ⟨p, h1, h2, h3⟩ := puts_val (σ := σ) hk
    have := hus p h1
    rw [h2] at this
    rw [h3]; exact this
  have dead : ∀ k, k ∈ us.map (·.1) → isLive (puts σ us k) = false := by
    intro k hk
    obtain ⟨_, _, h | ⟨e, r, xs, _, _, h⟩ | ⟨e, r, xs, _, _, q, y, h, _⟩⟩ := fate k hk <;> rw [h] <;> rfl
  have memL : ∀ e, e ∈ L → kX e ∈ us.map (·.1) := fun e he => let ⟨_, p, h1, h2⟩ := hL e he; List.mem_map.2 ⟨p, h1, h2⟩
  have m : Mon w σ G w (puts σ us) { G with S := SL G L } := by
    refine ⟨fun _ h => .inl h, fun _ _ => rfl, fun k _ hk => ⟨?_, rfl⟩, fun n p hn hpp => ?_, fun n p hn hx => ?_⟩
    · by_cases hm : k ∈ us.map (·.1)
      · obtain ⟨_, _, h | ⟨e, r, xs, _, _, h⟩ | ⟨e, r, xs, _, _, q, y, h, _⟩⟩ := fate k hm <;> rw [h] <;> simp
      · rw [puts_not hm]; exact hk
    · by_cases hm : kX n ∈ us.map (·.1)
      · obtain ⟨_, _, h | ⟨e, r, xs, he, hx, h⟩ | ⟨e, r, xs, he, hx, q, y, h, hs, hl, _⟩⟩ := fate _ hm
        · rw [h] at hpp; cases hpp
        · obtain rfl := kX_inj he
          rw [h] at hpp; rw [hx]; exact hpp
        · obtain rfl := kX_inj he
          rw [h] at hpp; rw [hx]
          simp only [KV.len?] at hpp ⊢
          rw [← hpp, hs, hl]
      · rw [puts_not hm] at hpp; exact hpp
    · by_cases hm : kX n ∈ us.map (·.1)
      · obtain ⟨_, _, h | ⟨e, r, xs, he, hx', h⟩ | ⟨e, r, xs, he, hx', q, y, h, hs, hl, _⟩⟩ := fate _ hm
        · rw [h] at hx; cases hx
        · obtain rfl := kX_inj he
          rw [h] at hx; rw [hx']; exact hx
        · rw [h] at hx; cases hx
      · rw [puts_not hm] at hx; exact hx
  refine ⟨?_, m, dead⟩
  refine hp.change m (fun k => k ∈ us.map (·.1)) (fun k _ hk => ⟨puts_not hk, rfl, rfl⟩) ?_ ?_ ?_ ?_ ?_ ?_ ?_ ?_ (fun _ _ _ => rfl) (Nat.le_refl _) (fun n r xs hk hx => by have := dead _ hk; rw [hx] at this; cases this)
    (fun k p _ h1 h2 _ => by
      by_cases hm : k ∈ us.map (·.1)
      · have := (fate k hm).2.1
        rw [h1] at this; cases this
      · rw [puts_not hm] at h2; exact absurd h1 h2)
  · intro k b hk hne hl hb
    refine ⟨rfl, ?_⟩
    rintro (hs | ⟨e, he, hs⟩)
    · exact (hp.own k b hk hl hb).2.1 hs
    · have := hp.apart k (kX e) b hk (isKey_kX e) hl (hL e he).1 hb hs
      exact hne (this ▸ memL e he)
  · intro n cs hk hx; have := dead _ hk; rw [hx] at this; cases this
  · intro n r xs hk hx; have := dead _ hk; rw [hx] at this; cases this
  · intro n r xs hk hx
    obtain ⟨_, _, h | ⟨e, r', xs', he, h5, h⟩ | ⟨e, r', xs', he, h5, q, y, h, hs, hl, ho⟩⟩ := fate _ hk
    · rw [h] at hx; cases hx
    · rw [h] at hx; cases hx
    · obtain rfl := kX_inj he
      rw [h] at hx
      cases hx
      rw [hl]; exact ho
  · intro k b _ hk hl; rw [dead k hk] at hl; cases hl
  · intro k _ hk hl; rw [dead k hk] at hl; cases hl
  · intro k k' b _ _ hk hl; rw [dead k hk] at hl; cases hl
  · rintro b (hs | ⟨e, he, hs⟩)
    · exact hp.shared b hs
    · obtain ⟨h1, _, h3⟩ := hp.own (kX e) b (isKey_kX e) (hL e he).1 hs
      exact ⟨h1, h3.elim .inl fun h => .inr (.inr h)⟩

/-- Memory changes where nothing that is known lies; more is shared. -/
theorem Hp.world (hp : Hp B σ w G) {S' : Nat → Prop} (hS : ∀ b, G.S b → S' b ∧ w'.heap[b]? = w.heap[b]?) (hsh : ∀ b, S' b → b < w'.heap.size ∧ (B.n0 ≤ b ∨ B.S0 b ∨ B.W b))
    (hlive : ∀ k b, isKey k → isLive (σ k) = true → b ∈ G.bl k → w'.heap[b]? = w.heap[b]? ∧ ¬ S' b) (hframe : ∀ b, b < B.n0 → ¬ B.W b → w'.heap[b]? = w.heap[b]?) (hsize : w.heap.size ≤ w'.heap.size) (hside : Side w w') :
    Hp B σ w' { G with S := S' } ∧ Mon w σ G w' σ { G with S := S' } := by
  have m : Mon w σ G w' σ { G with S := S' } := ⟨fun b h => (hS b h).1, fun b h => (hS b h).2, fun k _ h => ⟨h, rfl⟩, fun _ _ _ h => h, fun _ _ _ h => h⟩
  exact ⟨hp.change m (fun _ => False) (fun _ _ _ => ⟨rfl, rfl, rfl⟩) (fun k b hk _ hl hb => hlive k b hk hl hb) (fun _ _ h => h.elim) (fun _ _ _ h => h.elim)
    (fun _ _ _ h => h.elim) (fun _ _ _ h => h.elim) (fun _ _ h => h.elim) (fun _ _ _ _ _ h => h.elim) hsh hframe hsize (fun _ _ _ h => h.elim) (fun _ _ _ h1 h2 => absurd h1 h2) hside, m⟩

/-! ### what is handed back is laid out -/
/-- A slice that was handed over comes back. -/
theorem Hp.backX (h : Hp B σ w G) {n : Nat} {r : Ty} {xs : List r.Den} {l : Nat} {U : List Nat} (hx : σ (kX n) = .held r l) (hpl : r.plain = true) (ho : ORep w G.S (.ow r) xs [hdrOf G (kX n) l] U) (hU : Free B w σ G U) :
    ∃ G', Grow B w σ G (put σ (kX n) (.ex r xs)) G' [kX n] U := by
  obtain ⟨A, cap, hv, hle, hxx⟩ := id ho
  simp only [List.cons.injEq, and_true] at hv
  have hlen : xs.length = l ∧ ∀ m, hdrOf (G.set (kX n) (G.at_ (kX n)) U) (kX n) m = hdrOf G (kX n) m := by
    refine ⟨?_, fun m => by rw [hdrOf_at, hdrOf_at]; simp [Gh.set]⟩
    rw [hdrOf_at] at hv
    cases hat : G.at_ (kX n) with
    | none => rw [hat] at hv; simp only [hdrAt, Value.slice.injEq] at hv; exact hv.2.1.symm
    | some p => obtain ⟨b, o, c⟩ := p; rw [hat] at hv; simp only [hdrAt, Value.slice.injEq] at hv; exact hv.2.1.symm
  obtain ⟨hlen, hhdr⟩ := hlen
  have m : Mon w σ G w (put σ (kX n) (.ex r xs)) (G.set (kX n) (G.at_ (kX n)) U) := by
    refine ⟨fun _ h => h, fun _ _ => rfl, fun j _ hj => ⟨?_, ?_⟩, fun m p hm hp => ?_, fun m p hm hp => ?_⟩
    · by_cases e : j = kX n
      · subst e; rw [put_eq]; simp
      · rw [put_ne e]; exact hj
    · simp only [Gh.set]
      by_cases e : j = kX n
      · subst e; rw [if_pos rfl]
      · rw [if_neg e]
    · by_cases e : kX m = kX n
      · rw [e, put_eq] at hp
        rw [e, hx]
        simp only [KV.len?] at hp ⊢
        rw [← hp, hlen]
      · rw [put_ne e] at hp; exact hp
    · by_cases e : kX m = kX n
      · rw [e, put_eq] at hp
        rw [e, hx]
        simp only [KV.ex?] at hp ⊢
        rw [← hp, hlen]
      · rw [put_ne e] at hp; exact hp
  refine ⟨G.set (kX n) (G.at_ (kX n)) U, ⟨?_, m, rfl, fun V hV hd => hV.other hd, fun k hk => put_ne (by simpa using hk)⟩⟩
  refine h.change m (fun k => k = kX n) ?_ ?_ ?_ ?_ ?_ ?_ ?_ ?_ (fun b hb => h.shared b hb) (fun _ _ _ => rfl) (Nat.le_refl _) (fun n' r' xs' hn' hx => by obtain rfl := kX_inj hn'; rw [put_eq] at hx; cases hx; exact hpl)
    (pin_old (by rw [hx]; simp))
  · intro k _ hk
    exact ⟨put_ne hk, by simp only [Gh.set]; rw [if_neg hk], by simp only [Gh.set]; rw [if_neg hk]⟩
  · intro k b hk _ hlv hb
    exact ⟨rfl, (h.own k b hk hlv hb).2.1⟩
  · intro n' cs hk; exact absurd hk (kB_ne_kX _ _)
  · intro n' r' xs' hn' hx'
    obtain rfl := kX_inj hn'
    rw [put_eq] at hx'; cases hx'
    rw [hhdr, hlen]
    have : (G.set (kX n') (G.at_ (kX n')) U).bl (kX n') = U := by simp [Gh.set]
    rw [this]; exact ho
  · intro n' r' xs' hn' hx'
    obtain rfl := kX_inj hn'
    rw [put_eq] at hx'; cases hx'
  · intro k b _ hk _ hb
    subst hk
    simp [Gh.set] at hb
    exact hU.mem b hb
  · intro k _ hk _; subst hk; simp only [Gh.set, if_true]; exact hU.nodup
  · intro k k' b hk hk' hc hlv hlv' hb hb'
    subst hc
    simp [Gh.set] at hb
    by_cases hc' : k' = kX n
    · exact hc'.symm
    · exfalso
      rw [put_ne hc'] at hlv'
      simp only [Gh.set, if_neg hc'] at hb'
      exact hU.live b k' hb hk' hlv' hb'

theorem Grow.oxsKeys {t : Ty} {x : t.Den} {id : Nat} {σ1 σ2 : Sg} {G1 G2 : Gh} {U : List Nat} (g : Grow B w σ1 G1 σ2 G2 (t.okeys id) U) : Grow B w σ1 G1 σ2 G2 ((t.oxs x id).map (·.1)) U := by
  rw [Ty.okeys_eq]; exact g

/-- The results of a call are laid out. -/
theorem unRes_grow {d : Nat} : ∀ {rs tl : List PK} {j : Nat} {y : (rowOf (rs ++ tl)).Den} {vs : List Value} {U : List Nat} {σ : Sg} {G : Gh}, rs.all PK.okR = true → Hp B σ w G → OutsR w G.S (rs ++ tl) y vs U →
    Free B w σ G U → (∀ k, k ∈ (unRes d j rs tl y).2.1.map (·.1) → σ k = .none ∧ B.pin k = none) → ((unRes d j rs tl y).2.1.map (·.1)).Nodup →
    ∃ G' vs1 vs2 U1 U2, vs = vs1 ++ vs2 ∧ vs1.length = rs.length ∧ U = U1 ++ U2 ∧ Grow B w σ G (puts σ (unRes d j rs tl y).2.1) G' ((unRes d j rs tl y).2.1.map (·.1)) U1 ∧
      RelSVs w (puts σ (unRes d j rs tl y).2.1) G' (unRes d j rs tl y).1 vs1 ∧ OutsR w G.S tl (unRes d j rs tl y).2.2 vs2 U2
  | [], tl, j, y, vs, U, σ, G, _, hp, hR, _, _, _ => ⟨G, [], vs, [], U, rfl, rfl, rfl, Grow.refl hp, trivial, hR⟩
  | .val t :: rs, tl, j, y, vs, U, σ, G, hok, hp, hR, hF, hk, hn => by
    simp only [List.all_cons, Bool.and_eq_true, PK.okR] at hok
    obtain ⟨v, vs', U1, U2, rfl, rfl, h1, h2⟩ := hR
    obtain ⟨c, hc⟩ := ocs_one (Nat.eq_of_beq_eq_true hok.1.1) y.1 (callId d j)
    have e : (unRes d j (.val t :: rs) tl y).2.1 = t.oxs y.1 (callId d j) ++ (unRes d (j + 1) rs tl y.2).2.1 := rfl
    have e1 : (unRes d j (.val t :: rs) tl y).1 = (match t.ocs y.1 (callId d j) with | [c] => SV.cell c | _ => .undef) :: (unRes d (j + 1) rs tl y.2).1 := rfl
    rw [hc] at e1
    simp only at e1
    rw [e] at hk hn ⊢
    rw [e1]
    rw [List.map_append] at hk hn ⊢
    have hn' := List.nodup_append.1 hn
    obtain ⟨G1, g1, r1⟩ := hp.unpack (id := callId d j) hok.1.2 h1 hF.left (fun k hk' => (hk k (List.mem_append_left _ (okeys_oxs (by exact hk')))).1)
      (PinX.none fun k hk' => (hk k (List.mem_append_left _ (okeys_oxs (by exact hk')))).2)
    replace g1 := Grow.oxsKeys (x := y.1) g1
    obtain ⟨G2, vs1, vs2, V1, V2, rfl, hl, rfl, g2, r2, hT⟩ := unRes_grow (d := d) (rs := rs) (tl := tl) (j := j + 1) (y := y.2) hok.2 g1.hp (by rw [g1.S]; exact h2) (g1.free U2 hF.right hF.apart)
      (fun k hk' => ⟨by rw [g1.old k fun h => hn'.2.2 k h k hk' rfl]; exact (hk k (List.mem_append_right _ hk')).1, (hk k (List.mem_append_right _ hk')).2⟩) hn'.2.1
    refine ⟨G2, v :: vs1, vs2, U1 ++ V1, V2, rfl, by simp [hl], by simp, ?_, ?_, by rw [← g1.S]; exact hT⟩
    · rw [puts_append]; exact g1.trans g2
    · rw [puts_append]
      refine ⟨?_, r2⟩
      rw [hc] at r1
      exact RelSV.mon g2.mon (s := .cell c) r1.1
  | .agg r :: rs, tl, j, y, vs, U, σ, G, hok, hp, hR, hF, hk, hn => by
    simp only [List.all_cons, Bool.and_eq_true, PK.okR] at hok
    obtain ⟨v, vs', U1, U2, rfl, rfl, ⟨us, hus, h1⟩, h2⟩ := hR
    have e : (unRes d j (.agg r :: rs) tl y).2.1 = r.oxs y.1 (callId d j) ++ (unRes d (j + 1) rs tl y.2).2.1 := rfl
    have e1 : (unRes d j (.agg r :: rs) tl y).1 = .agg (r.ocs y.1 (callId d j)) :: (unRes d (j + 1) rs tl y.2).1 := rfl
    rw [e] at hk hn ⊢
    rw [e1]
    rw [List.map_append] at hk hn ⊢
    have hn' := List.nodup_append.1 hn
    obtain ⟨G1, g1, r1⟩ := hp.unpack (id := callId d j) hok.1 h1 hF.left (fun k hk' => (hk k (List.mem_append_left _ (okeys_oxs (by exact hk')))).1)
      (PinX.none fun k hk' => (hk k (List.mem_append_left _ (okeys_oxs (by exact hk')))).2)
    replace g1 := Grow.oxsKeys (x := y.1) g1
    obtain ⟨G2, vs1, vs2, V1, V2, rfl, hl, rfl, g2, r2, hT⟩ := unRes_grow (d := d) (rs := rs) (tl := tl) (j := j + 1) (y := y.2) hok.2 g1.hp (by rw [g1.S]; exact h2) (g1.free U2 hF.right hF.apart)
      (fun k hk' => ⟨by rw [g1.old k fun h => hn'.2.2 k h k hk' rfl]; exact (hk k (List.mem_append_right _ hk')).1, (hk k (List.mem_append_right _ hk')).2⟩) hn'.2.1
    refine ⟨G2, v :: vs1, vs2, U1 ++ V1, V2, rfl, by simp [hl], by simp, ?_, ?_, by rw [← g1.S]; exact hT⟩
    · rw [puts_append]; exact g1.trans g2
    · rw [puts_append]
      exact ⟨RelSV.mon g2.mon (s := .agg _) ⟨us, hus, r1⟩, r2⟩
  | .ptr r :: rs, tl, j, y, vs, U, σ, G, hok, hp, hR, hF, hk, hn => by
    simp only [List.all_cons, Bool.and_eq_true, PK.okR] at hok
    obtain ⟨v, vs', U1, U2, rfl, rfl, ⟨b, o, hvv, h1⟩, h2⟩ := hR
    have e : (unRes d j (.ptr r :: rs) tl y).2.1 = ((kB (callId d j), .box (r.ocs y.1 (callId d j))) :: r.oxs y.1 (callId d j)) ++ (unRes d (j + 1) rs tl y.2).2.1 := rfl
    have e1 : (unRes d j (.ptr r :: rs) tl y).1 = .ptr (callId d j) 0 :: (unRes d (j + 1) rs tl y.2).1 := rfl
    rw [e] at hk hn ⊢
    rw [e1]
    rw [List.map_append] at hk hn ⊢
    have hn' := List.nodup_append.1 hn
    have hkeys : ((kB (callId d j), KV.box (r.ocs y.1 (callId d j))) :: r.oxs y.1 (callId d j)).map (·.1) = kB (callId d j) :: r.okeys (callId d j) := boxKeysEq
    rw [hkeys] at hk hn hn' ⊢
    obtain ⟨G1, g1, r1⟩ := hp.unbox (n := callId d j) (id := callId d j) hok.1 h1 hF.left (.inl (hk _ (List.mem_append_left _ (List.mem_cons_self ..))).1) (fun k hk' => (hk k (List.mem_append_left _ (List.mem_cons_of_mem _ hk'))).1)
      (fun k hk' => (hk k (List.mem_append_left _ (List.mem_cons_of_mem _ hk'))).2) (fun p hp' => by rw [(hk _ (List.mem_append_left _ (List.mem_cons_self ..))).2] at hp'; cases hp')
    obtain ⟨G2, vs1, vs2, V1, V2, rfl, hl, rfl, g2, r2, hT⟩ := unRes_grow (d := d) (rs := rs) (tl := tl) (j := j + 1) (y := y.2) hok.2 g1.hp (by rw [g1.S]; exact h2) (g1.free U2 hF.right hF.apart)
      (fun k hk' => ⟨by rw [g1.old k fun h => hn'.2.2 k h k hk' rfl]; exact (hk k (List.mem_append_right _ hk')).1, (hk k (List.mem_append_right _ hk')).2⟩) hn'.2.1
    refine ⟨G2, v :: vs1, vs2, U1 ++ V1, V2, rfl, by simp [hl], by simp, ?_, ?_, by rw [← g1.S]; exact hT⟩
    · rw [puts_append]; exact g1.trans g2
    · rw [puts_append]
      refine ⟨RelSV.mon g2.mon (s := .ptr _ _) ⟨?_, b, o, 0, r1, hvv⟩, r2⟩
      show puts (put σ (kB (callId d j)) (.box (r.ocs y.1 (callId d j)))) (r.oxs y.1 (callId d j)) (kB (callId d j)) ≠ .none
      exact boxThere (r := r)
  | .mut r :: rs, tl, j, y, vs, U, σ, G, hok, _, _, _, _, _ => by simp [PK.okR] at hok
  | .clo f r :: rs, tl, j, y, vs, U, σ, G, hok, _, _, _, _, _ => by simp [PK.okR] at hok

/-- Held slices and boxes, by keys. -/
def HeldR (σ : Sg) (G : Gh) : Ty → List Value → List Nat → Prop
  | .ow r, vs, es => ∃ e l, es = [e] ∧ σ (kX e) = .held r l ∧ vs = [hdrOf G (kX e) l]
  | .cons t r, vs, es => ∃ v1 v2 e1 e2, vs = v1 ++ v2 ∧ es = e1 ++ e2 ∧ v1.length = t.size ∧ HeldR σ G t v1 e1 ∧ HeldR σ G r v2 e2
  | _, _, es => es = []

def BoxHeld (σ : Sg) (G : Gh) : List Nat → List Value → Prop
  | [], [] => True
  | b :: bs, v :: vs => (σ (kB b) = .gone ∧ ∃ bb o, G.at_ (kB b) = some (bb, o, 0) ∧ v = .pointer (some ⟨bb, o, none⟩)) ∧ BoxHeld σ G bs vs
  | _, _ => False

def BackR (σ : Sg) (G : Gh) : List PK → List Tgt → List Value → Prop
  | [], [], [] => True
  | .ptr _ :: ps, .box b :: ts, v :: vs => (σ (kB b) = .gone ∧ ∃ bb o, G.at_ (kB b) = some (bb, o, 0) ∧ v = .pointer (some ⟨bb, o, none⟩)) ∧ BackR σ G ps ts vs
  | .mut r :: ps, .hds es :: ts, v :: vs => (∃ us, v = aggV r us ∧ us.length = r.size ∧ HeldR σ G r us es) ∧ BackR σ G ps ts vs
  | .clo f rs :: ps, .boxes bs :: ts, v :: vs => (∃ us : List Value, v = .func (.func f) #[] us.toArray ∧ BoxHeld σ G bs us ∧ bs.length = rs.length) ∧ BackR σ G ps ts vs
  | _, _, _ => False
end
end Rg

/- The ring framework, part Zd: what was handed over to be written comes back. -/
namespace Rg
open Go

section
variable {P : Program} {E : Env} {B : Base} {N : Nat} {w w' : World} {σ σ' : Sg} {G G' : Gh} {ks U : List Nat}

theorem Grow.hdr (g : Grow B w σ G σ' G' ks U) {k n : Nat} (hk : isKey k) (h : σ k ≠ .none) : hdrOf G' k n = hdrOf G k n := by
  rw [hdrOf_at, hdrOf_at, (g.mon.key k hk h).2]

theorem HeldR.grow (g : Grow B w σ G σ' G' ks U) : ∀ {t : Ty} {vs : List Value} {es : List Nat}, (∀ e, e ∈ es → kX e ∉ ks) → HeldR σ G t vs es → HeldR σ' G' t vs es
  | .int _, _, _, _, h => h
  | .bool, _, _, _, h => h
  | .str, _, _, _, h => h
  | .sl _, _, _, _, h => h
  | .nil, _, _, _, h => h
  | .alt _ _, _, _, _, h => h
  | .ow r, vs, es, hk, ⟨e, l, h1, h2, h3⟩ => by
    refine ⟨e, l, h1, by rw [g.old _ (hk e (by rw [h1]; simp))]; exact h2, ?_⟩
    rw [g.hdr (isKey_kX e) (by rw [h2]; simp)]; exact h3
  | .cons t r, vs, es, hk, ⟨v1, v2, e1, e2, h1, h2, h3, h4, h5⟩ =>
    ⟨v1, v2, e1, e2, h1, h2, h3, HeldR.grow g (fun e he => hk e (by rw [h2]; exact List.mem_append_left _ he)) h4, HeldR.grow g (fun e he => hk e (by rw [h2]; exact List.mem_append_right _ he)) h5⟩

theorem BoxHeld.grow (g : Grow B w σ G σ' G' ks U) : ∀ {bs : List Nat} {vs : List Value}, (∀ b, b ∈ bs → kB b ∉ ks) → BoxHeld σ G bs vs → BoxHeld σ' G' bs vs
  | [], [], _, _ => trivial
  | b :: bs, v :: vs, hk, ⟨⟨h1, bb, o, h2, h3⟩, h4⟩ => by
    refine ⟨⟨by rw [g.old _ (hk b (List.mem_cons_self ..))]; exact h1, bb, o, ?_, h3⟩, BoxHeld.grow g (fun c hc => hk c (List.mem_cons_of_mem _ hc)) h4⟩
    rw [(g.mon.key _ (isKey_kB b) (by rw [h1]; simp)).2]; exact h2

theorem BackR.grow (g : Grow B w σ G σ' G' ks U) : ∀ {ps : List PK} {ts : List Tgt} {vs : List Value}, (∀ k, k ∈ tgtKeys ts → k ∉ ks) → BackR σ G ps ts vs → BackR σ' G' ps ts vs
  | [], [], [], _, _ => trivial
  | .ptr _ :: ps, .box b :: ts, v :: vs, hk, ⟨⟨h1, bb, o, h2, h3⟩, h4⟩ => by
    refine ⟨⟨by rw [g.old _ (hk _ (List.mem_cons_self ..))]; exact h1, bb, o, ?_, h3⟩, BackR.grow g (fun k hk' => hk k (List.mem_cons_of_mem _ hk')) h4⟩
    rw [(g.mon.key _ (isKey_kB b) (by rw [h1]; simp)).2]; exact h2
  | .mut r :: ps, .hds es :: ts, v :: vs, hk, ⟨⟨us, h1, h2, h3⟩, h4⟩ =>
    ⟨⟨us, h1, h2, h3.grow g fun e he => hk _ (List.mem_append_left _ (List.mem_map.2 ⟨e, he, rfl⟩))⟩, BackR.grow g (fun k hk' => hk k (List.mem_append_right _ hk')) h4⟩
  | .clo f rs :: ps, .boxes bs :: ts, v :: vs, hk, ⟨⟨us, h1, h2, h3⟩, h4⟩ =>
    ⟨⟨us, h1, h2.grow g fun e he => hk _ (List.mem_append_left _ (List.mem_map.2 ⟨e, he, rfl⟩)), h3⟩, BackR.grow g (fun k hk' => hk k (List.mem_append_right _ hk')) h4⟩

theorem HeldR.oexs : ∀ {t : Ty} {vs : List Value} {es : List Nat} {x : t.Den} (rest : List Nat), HeldR σ G t vs es → t.oexs x (es ++ rest) = ((t.oexs x es).1, rest) ∧ (t.oexs x es).1.map (·.1) = es.map kX ∧ (t.oexs x es).2 = []
  | .int _, _, es, _, rest, h => by have h : es = [] := h; subst h; exact ⟨rfl, rfl, rfl⟩
  | .bool, _, es, _, rest, h => by have h : es = [] := h; subst h; exact ⟨rfl, rfl, rfl⟩
  | .str, _, es, _, rest, h => by have h : es = [] := h; subst h; exact ⟨rfl, rfl, rfl⟩
  | .sl _, _, es, _, rest, h => by have h : es = [] := h; subst h; exact ⟨rfl, rfl, rfl⟩
  | .nil, _, es, _, rest, h => by have h : es = [] := h; subst h; exact ⟨rfl, rfl, rfl⟩
  | .alt _ _, _, es, _, rest, h => by have h : es = [] := h; subst h; exact ⟨rfl, rfl, rfl⟩
  | .ow r, vs, es, x, rest, ⟨e, l, h1, h2, h3⟩ => by subst h1; exact ⟨rfl, rfl, rfl⟩
  | .cons t r, vs, es, x, rest, ⟨v1, v2, e1, e2, h1, h2, h3, h4, h5⟩ => by
    subst h2
    obtain ⟨a1, a2, a3⟩ := HeldR.oexs (x := x.1) (e2 ++ rest) h4
    obtain ⟨b1, b2, b3⟩ := HeldR.oexs (x := x.2) rest h5
    obtain ⟨c1, _, _⟩ := HeldR.oexs (x := x.1) e2 h4
    have e0 : ∀ l, (Ty.cons t r).oexs x l = ((t.oexs x.1 l).1 ++ (r.oexs x.2 (t.oexs x.1 l).2).1, (r.oexs x.2 (t.oexs x.1 l).2).2) := fun l => by cases l <;> rfl
    rw [e0, e0, List.append_assoc, a1, c1]
    simp only
    rw [b1]
    exact ⟨rfl, by rw [List.map_append, List.map_append, a2, b2], b3⟩

theorem mut_grow : ∀ {t : Ty} {vs : List Value} {es : List Nat} {x : t.Den} {U : List Nat} {σ : Sg} {G : Gh}, Hp B σ w G → t.owPlain = true → HeldR σ G t vs es → MutR w G.S t x vs U → Free B w σ G U → (es.map kX).Nodup →
    ∃ G', Grow B w σ G (puts σ (t.oexs x es).1) G' (es.map kX) U
  | .int _, _, es, _, U, σ, G, hp, _, h, hm, _, _ => by have h : es = [] := h; have hm : U = [] := hm; subst h; subst hm; exact ⟨G, Grow.refl hp⟩
  | .bool, _, es, _, U, σ, G, hp, _, h, hm, _, _ => by have h : es = [] := h; have hm : U = [] := hm; subst h; subst hm; exact ⟨G, Grow.refl hp⟩
  | .str, _, es, _, U, σ, G, hp, _, h, hm, _, _ => by have h : es = [] := h; have hm : U = [] := hm; subst h; subst hm; exact ⟨G, Grow.refl hp⟩
  | .sl _, _, es, _, U, σ, G, hp, _, h, hm, _, _ => by have h : es = [] := h; have hm : U = [] := hm; subst h; subst hm; exact ⟨G, Grow.refl hp⟩
  | .nil, _, es, _, U, σ, G, hp, _, h, hm, _, _ => by have h : es = [] := h; have hm : U = [] := hm; subst h; subst hm; exact ⟨G, Grow.refl hp⟩
  | .alt _ _, _, es, _, U, σ, G, hp, ho, h, hm, _, _ => by cases ho
  | .ow r, vs, es, x, U, σ, G, hp, ho, ⟨e, l, h1, h2, h3⟩, hm, hF, hn => by
    subst h1; subst h3
    exact hp.backX h2 ho hm hF
  | .cons t r, vs, es, x, U, σ, G, hp, ho, ⟨v1, v2, e1, e2, h1, h2, h3, h4, h5⟩, ⟨u1, u2, U1, U2, m1, m2, m3, m4, m5⟩, hF, hn => by
    simp only [Ty.owPlain, Bool.and_eq_true] at ho
    subst h2; subst m2
    obtain ⟨rfl, rfl⟩ : v1 = u1 ∧ v2 = u2 := List.append_inj (h1.symm.trans m1) (h3.trans m3.symm)
    rw [List.map_append] at hn ⊢
    have hn' := List.nodup_append.1 hn
    obtain ⟨G1, g1⟩ := mut_grow hp ho.1 h4 m4 hF.left hn'.1
    have hd : ∀ e, e ∈ e2 → kX e ∉ e1.map kX := fun e he hm => hn'.2.2 _ hm _ (List.mem_map.2 ⟨e, he, rfl⟩) rfl
    obtain ⟨G2, g2⟩ := mut_grow g1.hp ho.2 (h5.grow g1 hd) (by rw [g1.S]; exact m5) (g1.free U2 hF.right hF.apart) hn'.2.1
    refine ⟨G2, ?_⟩
    obtain ⟨c1, _, _⟩ := HeldR.oexs (x := x.1) e2 h4
    have e0 : ((Ty.cons t r).oexs x (e1 ++ e2)).1 = (t.oexs x.1 e1).1 ++ (r.oexs x.2 e2).1 := by
      have : (Ty.cons t r).oexs x (e1 ++ e2) = ((t.oexs x.1 (e1 ++ e2)).1 ++ (r.oexs x.2 (t.oexs x.1 (e1 ++ e2)).2).1, (r.oexs x.2 (t.oexs x.1 (e1 ++ e2)).2).2) := by cases (e1 ++ e2) <;> rfl
      rw [this, c1]
    rw [e0, puts_append]
    exact g1.trans g2

theorem unBoxes_perm : ∀ {rs : List Ty} {bs : List Nat} {id : Nat} {x : (consAll rs).Den}, bs.length = rs.length → ((unBoxes id rs bs x).map (·.1)).Perm (bs.map kB ++ ((consAll rs).oxs x id).map (·.1))
  | [], [], _, _, _ => List.Perm.refl _
  | [], _ :: _, _, _, hl => by simp at hl
  | _ :: _, [], _, _, hl => by simp at hl
  | r :: rs, b :: bs, id, x, hl => by
    have e : unBoxes id (r :: rs) (b :: bs) x = ((kB b, .box (r.ocs x.1 id)) :: r.oxs x.1 id) ++ unBoxes (id + r.size) rs bs x.2 := rfl
    have ek : (consAll (r :: rs)).oxs x id = r.oxs x.1 id ++ (consAll rs).oxs x.2 (id + r.size) := rfl
    rw [e, ek]
    simp only [List.map_append, List.map_cons, List.cons_append]
    refine List.Perm.cons _ ?_
    refine (List.Perm.append_left _ (unBoxes_perm (id := id + r.size) (x := x.2) (by simpa using hl))).trans ?_
    exact List.perm_append_comm_assoc _ _ _

theorem unBoxes_mem {rs : List Ty} {bs : List Nat} {id : Nat} {x : (consAll rs).Den} (hl : bs.length = rs.length) {c : Nat} (hc : c ∈ bs) : kB c ∈ (unBoxes id rs bs x).map (·.1) :=
  (unBoxes_perm hl).mem_iff.2 (List.mem_append_left _ (List.mem_map.2 ⟨c, hc, rfl⟩))

theorem unBoxes_grow : ∀ {rs : List Ty} {bs : List Nat} {id : Nat} {x : (consAll rs).Den} {vs : List Value} {U : List Nat} {σ : Sg} {G : Gh}, rs.all Ty.owPlain = true → Hp B σ w G → BoxHeld σ G bs vs → bs.length = rs.length →
    BoxesR w G.S rs x vs U → Free B w σ G U → (∀ k, k ∈ ((consAll rs).oxs x id).map (·.1) → σ k = .none ∧ B.pin k = none) → ((unBoxes id rs bs x).map (·.1)).Nodup →
    ∃ G', Grow B w σ G (puts σ (unBoxes id rs bs x)) G' ((unBoxes id rs bs x).map (·.1)) U
  | [], [], id, x, vs, U, σ, G, _, hp, _, _, hR, _, _, _ => by obtain ⟨_, hU⟩ := hR; subst hU; exact ⟨G, Grow.refl hp⟩
  | [], _ :: _, _, _, _, _, _, _, _, _, _, hl, _, _, _, _ => by simp at hl
  | _ :: _, [], _, _, _, _, _, _, _, _, _, hl, _, _, _, _ => by simp at hl
  | r :: rs, b :: bs, id, x, vs, U, σ, G, hok, hp, hH, hl, hR, hF, hk, hn => by
    simp only [List.all_cons, Bool.and_eq_true] at hok
    obtain ⟨vs', U1, U2, b', o', rfl, rfl, h1, h2⟩ := hR
    obtain ⟨⟨hg, bb, o, hat, hv⟩, hH2⟩ := hH
    simp only [Value.pointer.injEq, Option.some.injEq, Addr.mk.injEq, and_true] at hv
    obtain ⟨rfl, rfl⟩ := hv
    have e : unBoxes id (r :: rs) (b :: bs) x = ((kB b, .box (r.ocs x.1 id)) :: r.oxs x.1 id) ++ unBoxes (id + r.size) rs bs x.2 := rfl
    have ek : (consAll (r :: rs)).oxs x id = r.oxs x.1 id ++ (consAll rs).oxs x.2 (id + r.size) := rfl
    rw [e] at hn ⊢
    rw [ek, List.map_append] at hk
    rw [List.map_append] at hn ⊢
    have hkeys : ((kB b, KV.box (r.ocs x.1 id)) :: r.oxs x.1 id).map (·.1) = kB b :: r.okeys id := boxKeysEq
    rw [hkeys] at hn ⊢
    have hn' := List.nodup_append.1 hn
    obtain ⟨G1, g1, _⟩ := hp.unbox (n := b) (id := id) hok.1 h1 hF.left (.inr ⟨by rw [hg]; rfl, hat⟩) (fun k hk' => (hk k (List.mem_append_left _ (okeys_oxs (by exact hk')))).1)
      (fun k hk' => (hk k (List.mem_append_left _ (okeys_oxs (by exact hk')))).2) (fun p hp' => by
        rw [← (hp.pin (kB b) p (isKey_kB b) hp' (by rw [hg]; simp)).1, hat])
    have hkb : ∀ c, c ∈ bs → kB c ∉ kB b :: r.okeys id := fun c hc hm => hn'.2.2 _ hm (kB c) (unBoxes_mem (by simpa using hl) hc) rfl
    obtain ⟨G2, g2⟩ := unBoxes_grow (id := id + r.size) (x := x.2) hok.2 g1.hp (hH2.grow g1 hkb) (by simpa using hl) (by rw [g1.S]; exact h2) (g1.free U2 hF.right hF.apart) (fun k hk' => by
      refine ⟨?_, (hk k (List.mem_append_right _ hk')).2⟩
      rw [g1.old k fun hm => ?_]
      · exact (hk k (List.mem_append_right _ hk')).1
      · rw [Ty.okeys_eq] at hk'
        obtain ⟨j, h3, h4, rfl⟩ := Ty.okeys_mem hk'
        rcases List.mem_cons.1 hm with hm | hm
        · exact kB_ne_kX _ _ hm.symm
        · obtain ⟨j', h5, h6, h7⟩ := Ty.okeys_mem hm
          have := kX_inj h7
          omega) hn'.2.1
    exact ⟨G2, by rw [puts_append]; exact g1.trans g2⟩

theorem unPtrs_perm {d : Nat} : ∀ {ps : List PK} {ts : List Tgt} {j : Nat} {x : (rowOf ps).Den} {vs : List Value}, BackR σ G ps ts vs →
    ((unPtrs d j ps ts x).map (·.1)).Perm (tgtKeys ts ++ (newOf d j ps ts x).map (·.1))
  | [], [], _, _, [], _ => List.Perm.refl _
  | .ptr r :: ps, .box b :: ts, j, x, v :: vs, h => by
    have e : unPtrs d j (.ptr r :: ps) (.box b :: ts) x = ((kB b, .box (r.ocs x.1 (callId d j))) :: r.oxs x.1 (callId d j)) ++ unPtrs d (j + 1) ps ts x.2 := rfl
    have en : newOf d j (.ptr r :: ps) (.box b :: ts) x = r.oxs x.1 (callId d j) ++ newOf d (j + 1) ps ts x.2 := rfl
    rw [e, en]
    simp only [List.map_append, List.map_cons, List.cons_append, tgtKeys]
    refine List.Perm.cons _ ?_
    refine (List.Perm.append_left _ (unPtrs_perm (j := j + 1) (x := x.2) h.2)).trans ?_
    exact List.perm_append_comm_assoc _ _ _
  | .mut r :: ps, .hds es :: ts, j, x, v :: vs, h => by
    have e : unPtrs d j (.mut r :: ps) (.hds es :: ts) x = (r.oexs x.1 es).1 ++ unPtrs d (j + 1) ps ts x.2 := rfl
    have en : newOf d j (.mut r :: ps) (.hds es :: ts) x = newOf d (j + 1) ps ts x.2 := rfl
    obtain ⟨⟨us, _, _, h1⟩, h2⟩ := h
    rw [e, en, List.map_append, (HeldR.oexs (t := r) (x := x.1) [] h1).2.1]
    simp only [tgtKeys, List.append_assoc]
    exact List.Perm.append_left _ (unPtrs_perm (j := j + 1) (x := x.2) h2)
  | .clo f rs :: ps, .boxes bs :: ts, j, x, v :: vs, h => by
    have e : unPtrs d j (.clo f rs :: ps) (.boxes bs :: ts) x = unBoxes (callId d j) rs bs x.1 ++ unPtrs d (j + 1) ps ts x.2 := rfl
    have en : newOf d j (.clo f rs :: ps) (.boxes bs :: ts) x = (consAll rs).oxs x.1 (callId d j) ++ newOf d (j + 1) ps ts x.2 := rfl
    obtain ⟨⟨us, _, _, h1⟩, h2⟩ := h
    rw [e, en]
    simp only [List.map_append, tgtKeys, List.append_assoc]
    refine (List.Perm.append (unBoxes_perm (id := callId d j) (x := x.1) h1) (unPtrs_perm (j := j + 1) (x := x.2) h2)).trans ?_
    simp only [List.append_assoc]
    exact List.Perm.append_left _ (List.perm_append_comm_assoc _ _ _)

theorem aggV_inj {r : Ty} (hok : (r.isAgg || Nat.beq r.size 1) = true) {us vs : List Value} (h1 : us.length = r.size) (h2 : vs.length = r.size) (h : aggV r us = aggV r vs) : us = vs := by
  unfold aggV at h
  cases ha : r.isAgg
  · rw [ha] at hok h
    have h3 := Nat.eq_of_beq_eq_true (by simpa using hok : Nat.beq r.size 1 = true)
    rw [h3] at h1 h2
    simp only [cond_false] at h
    cases us with
    | nil => simp at h1
    | cons u us =>
      cases vs with
      | nil => simp at h2
      | cons v vs =>
        simp only [List.length_cons, Nat.add_eq_right, List.length_eq_zero_iff] at h1 h2
        subst h1; subst h2
        simp only [List.getD_cons_zero] at h
        rw [h]
  · rw [ha] at h
    simp only [cond_true, Value.agg.injEq] at h
    exact List.toArray_inj h

theorem unPtrs_grow {d : Nat} : ∀ {ps : List PK} {ts : List Tgt} {j : Nat} {x : (rowOf ps).Den} {vs : List Value} {U : List Nat} {σ : Sg} {G : Gh}, ps.all PK.okA = true → Hp B σ w G → BackR σ G ps ts vs →
    OutsR w G.S ps x vs U → Free B w σ G U → (∀ k, k ∈ (newOf d j ps ts x).map (·.1) → σ k = .none ∧ B.pin k = none) → ((unPtrs d j ps ts x).map (·.1)).Nodup →
    ∃ G', Grow B w σ G (puts σ (unPtrs d j ps ts x)) G' ((unPtrs d j ps ts x).map (·.1)) U
  | [], [], _, _, [], U, σ, G, _, hp, _, hR, _, _, _ => by obtain ⟨_, hU⟩ := hR; subst hU; exact ⟨G, Grow.refl hp⟩
  | .ptr r :: ps, .box b :: ts, j, x, v :: vs, U, σ, G, hok, hp, hB, hR, hF, hk, hn => by
    simp only [List.all_cons, Bool.and_eq_true, PK.okA] at hok
    obtain ⟨v', vs', U1, U2, hvv, rfl, ⟨b', o', hv', h1⟩, h2⟩ := hR
    simp only [List.cons.injEq] at hvv
    obtain ⟨rfl, rfl⟩ := hvv
    have hperm := unPtrs_perm (d := d) (j := j + 1) (x := x.2) hB.2
    obtain ⟨⟨hg, bb, o, hat, hv⟩, hB2⟩ := hB
    rw [hv] at hv'
    simp only [Value.pointer.injEq, Option.some.injEq, Addr.mk.injEq, and_true] at hv'
    obtain ⟨rfl, rfl⟩ := hv'
    have e : unPtrs d j (.ptr r :: ps) (.box b :: ts) x = ((kB b, .box (r.ocs x.1 (callId d j))) :: r.oxs x.1 (callId d j)) ++ unPtrs d (j + 1) ps ts x.2 := rfl
    have en : newOf d j (.ptr r :: ps) (.box b :: ts) x = r.oxs x.1 (callId d j) ++ newOf d (j + 1) ps ts x.2 := rfl
    rw [e] at hn ⊢
    rw [en, List.map_append] at hk
    rw [List.map_append] at hn ⊢
    have hkeys : ((kB b, KV.box (r.ocs x.1 (callId d j))) :: r.oxs x.1 (callId d j)).map (·.1) = kB b :: r.okeys (callId d j) := boxKeysEq
    rw [hkeys] at hn ⊢
    have hn' := List.nodup_append.1 hn
    obtain ⟨G1, g1, _⟩ := hp.unbox (n := b) (id := callId d j) hok.1 h1 hF.left (.inr ⟨by rw [hg]; rfl, hat⟩) (fun k hk' => (hk k (List.mem_append_left _ (okeys_oxs (by exact hk')))).1)
      (fun k hk' => (hk k (List.mem_append_left _ (okeys_oxs (by exact hk')))).2) (fun p hp' => by
        rw [← (hp.pin (kB b) p (isKey_kB b) hp' (by rw [hg]; simp)).1, hat])
    obtain ⟨G2, g2⟩ := unPtrs_grow (d := d) (j := j + 1) (x := x.2) hok.2 g1.hp (hB2.grow g1 fun k hk' hm => hn'.2.2 _ hm _ (hperm.mem_iff.2 (List.mem_append_left _ hk')) rfl) (by rw [g1.S]; exact h2) (g1.free U2 hF.right hF.apart)
      (fun k hk' => ⟨by
        rw [g1.old k fun hm => hn'.2.2 _ hm _ (hperm.mem_iff.2 (List.mem_append_right _ hk')) rfl]
        exact (hk k (List.mem_append_right _ hk')).1, (hk k (List.mem_append_right _ hk')).2⟩) hn'.2.1
    exact ⟨G2, by rw [puts_append]; exact g1.trans g2⟩
  | .mut r :: ps, .hds es :: ts, j, x, v :: vs, U, σ, G, hok, hp, hB, hR, hF, hk, hn => by
    simp only [List.all_cons, Bool.and_eq_true, PK.okA] at hok
    obtain ⟨v', vs', U1, U2, hvv, rfl, ⟨us', hv', hl', h1⟩, h2⟩ := hR
    simp only [List.cons.injEq] at hvv
    obtain ⟨rfl, rfl⟩ := hvv
    have hperm := unPtrs_perm (d := d) (j := j + 1) (x := x.2) hB.2
    obtain ⟨⟨us, hv, hl, hH⟩, hB2⟩ := hB
    have hus := aggV_inj (by simpa using hok.1.1) hl hl' (hv.symm.trans hv')
    subst hus
    have e : unPtrs d j (.mut r :: ps) (.hds es :: ts) x = (r.oexs x.1 es).1 ++ unPtrs d (j + 1) ps ts x.2 := rfl
    have en : newOf d j (.mut r :: ps) (.hds es :: ts) x = newOf d (j + 1) ps ts x.2 := rfl
    rw [e] at hn ⊢
    rw [en] at hk
    rw [List.map_append, (HeldR.oexs (t := r) (x := x.1) [] hH).2.1] at hn ⊢
    have hn' := List.nodup_append.1 hn
    obtain ⟨G1, g1⟩ := mut_grow hp hok.1.2 hH h1 hF.left hn'.1
    obtain ⟨G2, g2⟩ := unPtrs_grow (d := d) (j := j + 1) (x := x.2) hok.2 g1.hp (hB2.grow g1 fun k hk' hm => hn'.2.2 _ hm _ (hperm.mem_iff.2 (List.mem_append_left _ hk')) rfl) (by rw [g1.S]; exact h2) (g1.free U2 hF.right hF.apart)
      (fun k hk' => ⟨by
        rw [g1.old k fun hm => hn'.2.2 _ hm _ (hperm.mem_iff.2 (List.mem_append_right _ hk')) rfl]
        exact (hk k hk').1, (hk k hk').2⟩) hn'.2.1
    exact ⟨G2, by rw [puts_append]; exact g1.trans g2⟩
  | .clo f rs :: ps, .boxes bs :: ts, j, x, v :: vs, U, σ, G, hok, hp, hB, hR, hF, hk, hn => by
    simp only [List.all_cons, Bool.and_eq_true] at hok
    obtain ⟨v', vs', U1, U2, hvv, rfl, ⟨us', hv', h1⟩, h2⟩ := hR
    simp only [List.cons.injEq] at hvv
    obtain ⟨rfl, rfl⟩ := hvv
    have hperm := unPtrs_perm (d := d) (j := j + 1) (x := x.2) hB.2
    obtain ⟨⟨us, hv, hH, hl⟩, hB2⟩ := hB
    have hus : us = us' := by
      rw [hv] at hv'
      simp only [Value.func.injEq, true_and] at hv'
      exact List.toArray_inj hv'
    subst hus
    have e : unPtrs d j (.clo f rs :: ps) (.boxes bs :: ts) x = unBoxes (callId d j) rs bs x.1 ++ unPtrs d (j + 1) ps ts x.2 := rfl
    have en : newOf d j (.clo f rs :: ps) (.boxes bs :: ts) x = (consAll rs).oxs x.1 (callId d j) ++ newOf d (j + 1) ps ts x.2 := rfl
    rw [e] at hn ⊢
    rw [en, List.map_append] at hk
    rw [List.map_append] at hn ⊢
    have hn' := List.nodup_append.1 hn
    obtain ⟨G1, g1⟩ := unBoxes_grow (id := callId d j) (x := x.1) hok.1 hp hH hl h1 hF.left (fun k hk' => hk k (List.mem_append_left _ hk')) hn'.1
    obtain ⟨G2, g2⟩ := unPtrs_grow (d := d) (j := j + 1) (x := x.2) hok.2 g1.hp (hB2.grow g1 fun k hk' hm => hn'.2.2 _ hm _ (hperm.mem_iff.2 (List.mem_append_left _ hk')) rfl) (by rw [g1.S]; exact h2) (g1.free U2 hF.right hF.apart)
      (fun k hk' => ⟨by
        rw [g1.old k fun hm => hn'.2.2 _ hm _ (hperm.mem_iff.2 (List.mem_append_right _ hk')) rfl]
        exact (hk k (List.mem_append_right _ hk')).1, (hk k (List.mem_append_right _ hk')).2⟩) hn'.2.1
    exact ⟨G2, by rw [puts_append]; exact g1.trans g2⟩
end
end Rg

/- The ring framework, part Ze: calls of functions. -/
namespace Rg
open Go

section
variable {P : Program} {E : Env} {B : Base} {N : Nat} {w w' : World} {σ σ' : Sg} {G G' : Gh} {a : Act}

theorem allNew_eval {α : Type} : ∀ {ks : List Nat} {t : T α} {rs : List Nat} {z : α × List Nat}, (allNew ks t).eval σ rs = some z → (∀ k, k ∈ ks → k < 3000000000 ∧ σ k = .none) ∧ ∃ rs', t.eval σ rs' = some z
  | [], t, rs, z, h => ⟨fun k h => by simp at h, rs, h⟩
  | k :: ks, t, rs, z, h => by
    obtain ⟨hb, h1⟩ := chk_eval h
    have h2 := get_eval h1
    split at h2
    · rename_i hk
      obtain ⟨h3, h4⟩ := allNew_eval h2
      refine ⟨fun k' hk' => ?_, h4⟩
      rcases List.mem_cons.1 hk' with rfl | hk'
      · exact ⟨Nat.blt_eq ▸ hb, hk⟩
      · exact h3 k' hk'
    · exact (fail_eval h2).elim

def heldOf : KV → KV
  | .ex r xs => .held r xs.length
  | v => v

theorem HdsR.keys : ∀ {t : Ty} {vs : List Value} {es : List Nat}, HdsR σ G t vs es → ∀ e, e ∈ es → ∃ r xs, σ (kX e) = .ex r xs
  | .int _, _, es, h, e, he => by have h : es = [] := h; subst h; simp at he
  | .bool, _, es, h, e, he => by have h : es = [] := h; subst h; simp at he
  | .str, _, es, h, e, he => by have h : es = [] := h; subst h; simp at he
  | .sl _, _, es, h, e, he => by have h : es = [] := h; subst h; simp at he
  | .nil, _, es, h, e, he => by have h : es = [] := h; subst h; simp at he
  | .alt _ _, _, es, h, e, he => by have h : es = [] := h; subst h; simp at he
  | .ow r, vs, es, ⟨e', xs, h1, h2, h3⟩, e, he => by
    subst h1
    have : e = e' := by simpa using he
    subst this
    exact ⟨r, xs, h2⟩
  | .cons t r, vs, es, ⟨v1, v2, e1, e2, h1, h2, h3, h4, h5⟩, e, he => by
    subst h2
    exact (List.mem_append.1 he).elim (h4.keys e) (h5.keys e)

theorem TgtsR.muts : ∀ {ps : List PK} {ts : List Tgt} {vs : List Value}, TgtsR σ G ps ts vs → ∀ k, k ∈ mutKeys ts → ∃ e r xs, k = kX e ∧ σ (kX e) = .ex r xs
  | [], [], [], _, k, hk => by simp [mutKeys] at hk
  | .ptr _ :: ps, .box b :: ts, v :: vs, h, k, hk => TgtsR.muts h.2 k hk
  | .mut r :: ps, .hds es :: ts, v :: vs, ⟨⟨us, _, _, h1⟩, h2⟩, k, hk => by
    rcases List.mem_append.1 hk with hk | hk
    · obtain ⟨e, he, rfl⟩ := List.mem_map.1 hk
      obtain ⟨r, xs, hx⟩ := h1.keys e he
      exact ⟨e, r, xs, rfl, hx⟩
    · exact TgtsR.muts h2 k hk
  | .clo f rs :: ps, .boxes bs :: ts, v :: vs, h, k, hk => TgtsR.muts h.2 k hk

theorem mutKeys_tgt : ∀ {ts : List Tgt} {k : Nat}, k ∈ mutKeys ts → k ∈ tgtKeys ts
  | [], k, h => by simp [mutKeys] at h
  | .box b :: ts, k, h => List.mem_cons_of_mem _ (mutKeys_tgt (ts := ts) h)
  | .hds es :: ts, k, h => (List.mem_append.1 h).elim (fun h => List.mem_append_left _ h) fun h => List.mem_append_right _ (mutKeys_tgt (ts := ts) h)
  | .boxes bs :: ts, k, h => List.mem_append_right _ (mutKeys_tgt (ts := ts) h)

theorem HdsR.held {S' : Nat → Prop} : ∀ {t : Ty} {vs : List Value} {es : List Nat}, HdsR σ G t vs es → (∀ e, e ∈ es → σ' (kX e) = heldOf (σ (kX e))) → HeldR σ' { G with S := S' } t vs es
  | .int _, _, _, h, _ => h
  | .bool, _, _, h, _ => h
  | .str, _, _, h, _ => h
  | .sl _, _, _, h, _ => h
  | .nil, _, _, h, _ => h
  | .alt _ _, _, _, h, _ => h
  | .ow r, vs, es, ⟨e, xs, h1, h2, h3⟩, h => ⟨e, xs.length, h1, by rw [h e (by rw [h1]; simp), h2]; rfl, h3⟩
  | .cons t r, vs, es, ⟨v1, v2, e1, e2, h1, h2, h3, h4, h5⟩, h =>
    ⟨v1, v2, e1, e2, h1, h2, h3, HdsR.held h4 fun e he => h e (by rw [h2]; exact List.mem_append_left _ he), HdsR.held h5 fun e he => h e (by rw [h2]; exact List.mem_append_right _ he)⟩

theorem BoxTg.held {S' : Nat → Prop} : ∀ {bs : List Nat} {vs : List Value}, BoxTg G bs vs → (∀ b, b ∈ bs → σ' (kB b) = .gone) → BoxHeld σ' { G with S := S' } bs vs
  | [], [], _, _ => trivial
  | b :: bs, v :: vs, h, hb => ⟨⟨hb b (List.mem_cons_self ..), h.1⟩, BoxTg.held h.2 fun c hc => hb c (List.mem_cons_of_mem _ hc)⟩

theorem TgtsR.back {S' : Nat → Prop} : ∀ {ps : List PK} {ts : List Tgt} {vs : List Value}, TgtsR σ G ps ts vs → (∀ b, kB b ∈ tgtKeys ts → σ' (kB b) = .gone) → (∀ e, kX e ∈ mutKeys ts → σ' (kX e) = heldOf (σ (kX e))) →
    BackR σ' { G with S := S' } ps ts vs
  | [], [], [], _, _, _ => trivial
  | .ptr _ :: ps, .box b :: ts, v :: vs, h, hb, hm => ⟨⟨hb b (List.mem_cons_self ..), h.1⟩, TgtsR.back h.2 (fun c hc => hb c (List.mem_cons_of_mem _ hc)) hm⟩
  | .mut r :: ps, .hds es :: ts, v :: vs, ⟨⟨us, h0, h1, h2⟩, h3⟩, hb, hm =>
    ⟨⟨us, h0, h1, h2.held fun e he => hm e (List.mem_append_left _ (List.mem_map.2 ⟨e, he, rfl⟩))⟩, TgtsR.back h3 (fun c hc => hb c (List.mem_append_right _ hc)) fun e he => hm e (List.mem_append_right _ he)⟩
  | .clo f rs :: ps, .boxes bs :: ts, v :: vs, ⟨⟨us, h0, h1, h2⟩, h3⟩, hb, hm =>
    ⟨⟨us, h0, h1.held fun b hb' => hb b (List.mem_append_left _ (List.mem_map.2 ⟨b, hb', rfl⟩)), h2⟩, TgtsR.back h3 (fun c hc => hb c (List.mem_append_right _ hc)) hm⟩

theorem okeys_isKey {t : Ty} {id k : Nat} (h : k ∈ t.okeys id) : isKey k := by
  obtain ⟨j, _, _, rfl⟩ := Ty.okeys_mem h
  exact isKey_kX j

theorem unRes_isKey {d : Nat} : ∀ {rs tl : List PK} {j : Nat} {y : (rowOf (rs ++ tl)).Den}, ∀ k, k ∈ (unRes d j rs tl y).2.1.map (·.1) → isKey k
  | [], _, _, _, k, h => by simp [unRes] at h
  | .val t :: rs, tl, j, y, k, h => by
    have e : (unRes d j (.val t :: rs) tl y).2.1 = t.oxs y.1 (callId d j) ++ (unRes d (j + 1) rs tl y.2).2.1 := rfl
    rw [e, List.map_append] at h
    exact (List.mem_append.1 h).elim (fun h => okeys_isKey (oxs_okeys (by exact h))) (unRes_isKey k)
  | .agg t :: rs, tl, j, y, k, h => by
    have e : (unRes d j (.agg t :: rs) tl y).2.1 = t.oxs y.1 (callId d j) ++ (unRes d (j + 1) rs tl y.2).2.1 := rfl
    rw [e, List.map_append] at h
    exact (List.mem_append.1 h).elim (fun h => okeys_isKey (oxs_okeys (by exact h))) (unRes_isKey k)
  | .mut t :: rs, tl, j, y, k, h => by
    have e : (unRes d j (.mut t :: rs) tl y).2.1 = t.oxs y.1 (callId d j) ++ (unRes d (j + 1) rs tl y.2).2.1 := rfl
    rw [e, List.map_append] at h
    exact (List.mem_append.1 h).elim (fun h => okeys_isKey (oxs_okeys (by exact h))) (unRes_isKey k)
  | .clo f t :: rs, tl, j, y, k, h => by
    have e : (unRes d j (.clo f t :: rs) tl y).2.1 = (consAll t).oxs y.1 (callId d j) ++ (unRes d (j + 1) rs tl y.2).2.1 := rfl
    rw [e, List.map_append] at h
    exact (List.mem_append.1 h).elim (fun h => okeys_isKey (oxs_okeys (by exact h))) (unRes_isKey k)
  | .ptr r :: rs, tl, j, y, k, h => by
    have e : (unRes d j (.ptr r :: rs) tl y).2.1 = ((kB (callId d j), .box (r.ocs y.1 (callId d j))) :: r.oxs y.1 (callId d j)) ++ (unRes d (j + 1) rs tl y.2).2.1 := rfl
    rw [e, List.map_append, List.map_cons] at h
    rcases List.mem_append.1 h with h | h
    · rcases List.mem_cons.1 h with rfl | h
      · exact isKey_kB _
      · exact okeys_isKey (oxs_okeys (by exact h))
    · exact unRes_isKey k h

theorem newOf_isKey {d : Nat} : ∀ {ps : List PK} {ts : List Tgt} {j : Nat} {x : (rowOf ps).Den}, ∀ k, k ∈ (newOf d j ps ts x).map (·.1) → isKey k := by
  intro ps
  induction ps with
  | nil => intro ts j x k h; simp [newOf] at h
  | cons p ps ih =>
    intro ts j x k h
    cases ts with
    | nil => cases p <;> simp [newOf] at h
    | cons t ts =>
      cases p <;> cases t <;> try (simp [newOf] at h; done)
      · rename_i r b
        have e : newOf d j (.ptr r :: ps) (.box b :: ts) x = r.oxs x.1 (callId d j) ++ newOf d (j + 1) ps ts x.2 := rfl
        rw [e, List.map_append] at h
        exact (List.mem_append.1 h).elim (fun h => okeys_isKey (oxs_okeys (by exact h))) (ih k)
      · exact ih (x := x.2) k h
      · rename_i f rs bs
        have e : newOf d j (.clo f rs :: ps) (.boxes bs :: ts) x = (consAll rs).oxs x.1 (callId d j) ++ newOf d (j + 1) ps ts x.2 := rfl
        rw [e, List.map_append] at h
        exact (List.mem_append.1 h).elim (fun h => okeys_isKey (oxs_okeys (by exact h))) (ih k)

theorem tgt_isKey : ∀ {ts : List Tgt} {k : Nat}, k ∈ tgtKeys ts → isKey k
  | [], k, h => by simp [tgtKeys] at h
  | .box b :: ts, k, h => by
    rcases List.mem_cons.1 h with rfl | h
    · exact isKey_kB b
    · exact tgt_isKey (ts := ts) h
  | .hds es :: ts, k, h => by
    rcases List.mem_append.1 h with h | h
    · obtain ⟨e, _, rfl⟩ := List.mem_map.1 h; exact isKey_kX e
    · exact tgt_isKey (ts := ts) h
  | .boxes bs :: ts, k, h => by
    rcases List.mem_append.1 h with h | h
    · obtain ⟨e, _, rfl⟩ := List.mem_map.1 h; exact isKey_kB e
    · exact tgt_isKey (ts := ts) h

theorem puts_over {τ : Sg} {hs l1 l2 : List (Nat × KV)} (h : ∀ k, k ∈ hs.map (·.1) → k ∈ l2.map (·.1)) : puts (puts (puts τ hs) l1) l2 = puts (puts τ l1) l2 := by
  funext k
  by_cases h2 : k ∈ l2.map (·.1)
  · exact puts_mem h2
  · rw [puts_not h2, puts_not h2]
    by_cases h1 : k ∈ l1.map (·.1)
    · exact puts_mem h1
    · rw [puts_not h1, puts_not h1, puts_not fun hk => h2 (h k hk)]

theorem call_sound {m : Mdl} {f : FuncId} (hok : m.ok = true) (hR : Refines P f m) (c : Cx B N σ a w G) {o : Oper} {args : List Value} {ts : List (T SV)} (hop : OpdsR w σ G ts args) (hfm : E.fns f = some m)
    {ws : List (Nat × KV)} {rs0 rs' : List Nat} {K : Act → World → Prop} {Q : Exit → Act → World → Prop} (h : (lCall E o.dst f ts).eval σ rs0 = some (ws, rs')) (hexec : (execOp a.eval o).run P w = .ok (.enter f args.toArray) w)
    (hlt : ∀ d, o.dst = some d → d < N) (hK : ∀ a' w', Rel B N (puts σ ws) a' w' → K a' w') : o.wp P a w K Q := by
  unfold lCall at h
  rw [hfm] at h
  split at h
  case h_2 => exact (fail_eval h).elim
  rename_i d m' hdst hm'
  cases hm'
  simp only [Mdl.ok, Bool.and_eq_true] at hok
  obtain ⟨⟨x, ups, tg⟩, r1, h1, h2⟩ := T.eval_bind _ _ h
  obtain ⟨hu, h3⟩ := chk_eval h2
  simp only [T.eval] at h3
  cases hy : m.fn x with
  | none => simp only [hy] at h3; cases h3
  | some y =>
  simp only [hy] at h3
  obtain ⟨hnd, h4⟩ := chk_eval h3
  obtain ⟨hnew, rs2, h5⟩ := allNew_eval h4
  have hws := (pure_eq h5).symm
  clear h h2 h3 h4 h5
  obtain ⟨L, D, ht, htg, hsub⟩ := packArgs_sound c.hp hok.1 hop h1
  simp only at hu
  have hDn := ht.nodup hu
  have htk := hDn.sublist hsub
  have hnd := nodupK_iff.1 hnd
  -- the keys that are held
  generalize hlend : (outOf m.ps m.rs).noSl = lend at hws
  have hms := htg.muts
  have hmD : ∀ k, k ∈ mutKeys tg → k ∈ D := fun k hk => hsub.subset (mutKeys_tgt hk)
  have hDu : ∀ k, k ∈ D → ∃ p, p ∈ ups ∧ p.1 = k ∧ isGone p.2 = true := by
    intro k hk
    have : k ∈ (ups.filter fun p => isGone p.2).map (·.1) := by rw [ht.gone]; exact hk
    obtain ⟨p, hp', hk'⟩ := List.mem_map.1 this
    exact ⟨p, (List.mem_filter.1 hp').1, hk', (List.mem_filter.1 hp').2⟩
  let upsF := upsOf lend (mutKeys tg) ups
  let helds := (mutKeys tg).map fun k => (k, heldOf (σ k))
  let us := upsF ++ helds
  let L1 := if lend then [] else L
  have hL1 : ∀ e, e ∈ L1 → e ∈ L := by
    intro e he
    cases lend
    · simpa [L1] using he
    · simp [L1] at he
  have memF : ∀ p, p ∈ upsF → p ∈ ups ∧ p.1 ∉ mutKeys tg ∧ (lend = true → isGone p.2 = true) := by
    intro p hp
    have hp' := List.mem_filter.1 hp
    simp only [Bool.and_eq_true, Bool.not_eq_true', Bool.or_eq_true] at hp'
    refine ⟨hp'.1, fun hm => ?_, fun hl => ?_⟩
    · rw [memK_iff.2 hm] at hp'; exact absurd hp'.2.1 (by simp)
    · rcases hp'.2.2 with h | h
      · rw [hl] at h; simp at h
      · exact h
  have memF' : ∀ p, p ∈ ups → p.1 ∉ mutKeys tg → (lend = true → isGone p.2 = true) → p ∈ upsF := by
    intro p hp hm hl
    refine List.mem_filter.2 ⟨hp, ?_⟩
    simp only [Bool.and_eq_true, Bool.not_eq_true', Bool.or_eq_true]
    constructor
    · cases hk : memK p.1 (mutKeys tg)
      · rfl
      · exact absurd (memK_iff.1 hk) hm
    · cases lend
      · exact .inl rfl
      · exact .inr (hl rfl)
  have hkeysD : ∀ k, k ∈ D → k ∈ us.map (·.1) := by
    intro k hk
    obtain ⟨p, h6, h7, h8⟩ := hDu k hk
    by_cases hm : k ∈ mutKeys tg
    · exact List.mem_map.2 ⟨(k, heldOf (σ k)), List.mem_append_right _ (List.mem_map.2 ⟨k, hm, rfl⟩), rfl⟩
    · exact List.mem_map.2 ⟨p, List.mem_append_left _ (memF' p h6 (by rw [h7]; exact hm) fun _ => h8), h7⟩
  have hus : ∀ p, p ∈ us → isKey p.1 ∧ isLive (σ p.1) = true ∧ (p.2 = .gone ∨ (∃ e r xs, p.1 = kX e ∧ σ (kX e) = .ex r xs ∧ p.2 = .held r xs.length) ∨
      (∃ e r xs, p.1 = kX e ∧ σ (kX e) = .ex r xs ∧ ∃ q y, p.2 = .fz q y ∧ q.size = r.size ∧ y.length = xs.length ∧ ORep w (SL G L1) (.sl q) y [hdrOf G (kX e) xs.length] [])) := by
    intro p hp
    rcases List.mem_append.1 hp with hp | hp
    · obtain ⟨h6, h7, h8⟩ := memF p hp
      obtain ⟨i1, i2, i3⟩ := ht.ok p h6
      refine ⟨i1, i2, ?_⟩
      rcases i3 with ⟨i3, _⟩ | ⟨e, r, xs, i4, i5, i6, q, z, i7, i8⟩
      · exact .inl i3
      · have hl : lend = false := by
          cases lend
          · rfl
          · have := h8 rfl
            rw [i7] at this; cases this
        have : L1 = L := by simp [L1, hl]
        rw [this]
        exact .inr (.inr ⟨e, r, xs, i4, i5, q, z, i7, i8⟩)
    · obtain ⟨k, hk, rfl⟩ := List.mem_map.1 hp
      obtain ⟨e, r, xs, rfl, hx⟩ := hms k hk
      exact ⟨isKey_kX e, by rw [hx]; rfl, .inr (.inl ⟨e, r, xs, rfl, hx, by simp only [hx]; rfl⟩)⟩
  have hLu : ∀ e, e ∈ L1 → isLive (σ (kX e)) = true ∧ ∃ p, p ∈ us ∧ p.1 = kX e := by
    intro e he
    have heL := hL1 e he
    refine ⟨ht.liveL e heL, ?_⟩
    obtain ⟨p, h6, h7, h8⟩ := ht.fz e heL
    by_cases hm : kX e ∈ mutKeys tg
    · exact ⟨(kX e, heldOf (σ (kX e))), List.mem_append_right _ (List.mem_map.2 ⟨kX e, hm, rfl⟩), rfl⟩
    · refine ⟨p, List.mem_append_left _ (memF' p h6 (by rw [h7]; exact hm) fun hl => ?_), h7⟩
      simp [L1, hl] at he
  obtain ⟨hp1, m1, dead1⟩ := c.hp.take hus hLu
  have hap := ht.apart c.hp hu
  have hap1 : ∀ b, b ∈ D.flatMap G.bl → ¬ SL G L1 b := fun b hb hs => hap b hb (SL.mono hL1 hs)
  have hbl := ht.blocks c.hp
  have hUn : (D.flatMap G.bl).Nodup := nodup_keys c.hp hDn ht.liveD
  have hlive1 : ∀ b k, b ∈ D.flatMap G.bl → isKey k → isLive (puts σ us k) = true → b ∉ G.bl k := by
    intro b k hb hk hl hbk
    obtain ⟨k0, hk0, hbk0⟩ := List.mem_flatMap.1 hb
    obtain ⟨i1, i2⟩ := ht.liveD k0 hk0
    by_cases hm : k ∈ us.map (·.1)
    · rw [dead1 k hm] at hl; cases hl
    · rw [puts_not hm] at hl
      have := c.hp.apart k0 k b i1 hk i2 hl hbk0 hbk
      exact hm (this ▸ hkeysD k0 hk0)
  -- the call itself
  unfold Oper.wp
  rw [hexec]
  show Calls P f args.toArray w _
  refine (hR w (SL G L) x y args (D.flatMap G.bl) hy ht.rep hUn (fun b hb => ⟨(hbl b hb).1, hap b hb⟩) fun b hb => ?_).mono ?_
  · rcases hb with hb | ⟨e, he, hb⟩
    · exact (c.hp.shared b hb).1
    · exact (c.hp.own _ b (isKey_kX e) (ht.liveL e he) hb).1
  rintro e w' ⟨rvs, S', U', rfl, hrl, hout, hpost⟩
  show K (a.put o.dst (retV rvs)) w'
  refine hK _ _ ?_
  -- what is shared behind it
  let S2 : Nat → Prop := if lend then G.S else S'
  have heq : ∀ b, b < w.heap.size → b ∉ D.flatMap G.bl → w'.heap[b]? = w.heap[b]? := hpost.frame
  have hS2 : ∀ b, SL G L1 b → S2 b ∧ w'.heap[b]? = w.heap[b]? := by
    intro b hb
    refine ⟨?_, heq b (hp1.shared b hb).1 fun hm => hap1 b hm hb⟩
    cases hl : lend
    · have : L1 = L := by simp [L1, hl]
      rw [this] at hb
      simpa [S2, hl] using hpost.keep b hb
    · have : L1 = [] := by simp [L1, hl]
      rw [this, SL_nil] at hb
      simpa [S2, hl] using hb
  have hW : ∀ b, w.heap.size ≤ b ∨ SL G L b ∨ b ∈ D.flatMap G.bl → B.n0 ≤ b ∨ B.S0 b ∨ B.W b := by
    rintro b (hb | hb | hb)
    · exact .inl (Nat.le_trans c.hp.size hb)
    · rcases hb with hb | ⟨e, he, hb⟩
      · exact (c.hp.shared b hb).2
      · exact (c.hp.own _ b (isKey_kX e) (ht.liveL e he) hb).2.2.imp id .inr
    · exact (hbl b hb).2.imp id .inr
  obtain ⟨hp2, m2⟩ := hp1.world (w' := w') (S' := S2) hS2 (fun b hb => by
      cases hl : lend
      · have hb : S' b := by simpa [S2, hl] using hb
        exact ⟨(hpost.shared b hb).1, hW b (hpost.shared b hb).2⟩
      · have hb : G.S b := by simpa [S2, hl] using hb
        exact ⟨Nat.lt_of_lt_of_le (c.hp.shared b hb).1 hpost.size, (c.hp.shared b hb).2⟩)
    (fun k b hk hl hb => by
      obtain ⟨i1, i2, i3⟩ := hp1.own k b hk hl hb
      have hnU : b ∉ D.flatMap G.bl := fun hm => hlive1 b k hm hk hl hb
      refine ⟨heq b i1 hnU, fun hs => ?_⟩
      cases hl' : lend
      · have hs : S' b := by simpa [S2, hl'] using hs
        have hLL : L1 = L := by simp [L1, hl']
        rcases (hpost.shared b hs).2 with h | h | h
        · omega
        · rw [← hLL] at h; exact i2 h
        · exact hnU h
      · have hs : G.S b := by simpa [S2, hl'] using hs
        exact i2 (.inl hs))
    (fun b hb hnW => heq b (Nat.lt_of_lt_of_le hb c.hp.size) fun hm => by
      rcases (hbl b hm).2 with h | h
      · omega
      · exact hnW h) hpost.size hpost.side
  have hout2 : OutsR w' S2 (m.rs ++ ptrsOf m.ps) y (rvs ++ ptrVals m.ps args) U' := by
    cases hl : lend
    · simpa [S2, hl] using hout
    · rw [hl] at hlend
      exact hout.noSl hlend
  have hF2 : Free B w' (puts σ us) { { G with S := SL G L1 } with S := S2 } U' := by
    refine ⟨hpost.nodup, fun b hb => ?_, fun b k hb hk hl hbk => ?_⟩
    · obtain ⟨i1, i2, i3⟩ := hpost.mem b hb
      refine ⟨i1, fun hs => ?_, ?_⟩
      · cases hl : lend
        · have hs : S' b := by simpa [S2, hl] using hs
          exact i2 hs
        · have hs : G.S b := by simpa [S2, hl] using hs
          exact i2 (hpost.keep b (.inl hs))
      · rcases i3 with h | h
        · exact .inl (Nat.le_trans c.hp.size h)
        · exact (hbl b h).2
    · obtain ⟨i1, i2, i3⟩ := hp1.own k b hk hl hbk
      rcases (hpost.mem b hb).2.2 with h | h
      · omega
      · exact hlive1 b k h hk hl hbk
  -- new keys
  have hnew1 : ∀ k, k ∈ ((unRes d 0 m.rs (ptrsOf m.ps) y).2.1 ++ newOf d m.rs.length (ptrsOf m.ps) tg (unRes d 0 m.rs (ptrsOf m.ps) y).2.2).map (·.1) → puts σ us k = .none ∧ B.pin k = none := by
    intro k hk
    obtain ⟨i1, i2⟩ := hnew k hk
    refine ⟨?_, Base.low i1⟩
    rw [puts_not fun hm => ?_]
    · exact i2
    · obtain ⟨p, h6, h7⟩ := List.mem_map.1 hm
      have := (hus p h6).2.1
      rw [h7, i2] at this; cases this
  rw [List.map_append] at hnd hnew1
  have hnd' := List.nodup_append.1 hnd
  obtain ⟨G3, vs1, vs2, U1, U2, hvs, hvl, rfl, g3, r3, hout3⟩ := unRes_grow hok.2 hp2 hout2 hF2 (fun k hk => hnew1 k (List.mem_append_left _ hk)) hnd'.1
  obtain ⟨rfl, rfl⟩ : rvs = vs1 ∧ ptrVals m.ps args = vs2 := List.append_inj hvs (by rw [hrl, hvl])
  have hback : BackR (puts σ us) { { G with S := SL G L1 } with S := S2 } (ptrsOf m.ps) tg (ptrVals m.ps args) := by
    refine TgtsR.back (G := G) htg (fun b hb => ?_) fun e he => ?_
    · have hbD := hsub.subset hb
      obtain ⟨p, h6, h7, h8⟩ := puts_val (σ := σ) (hkeysD _ hbD)
      rw [h8]
      rcases (hus p h6).2.2 with h | ⟨e, r, xs, h, _⟩ | ⟨e, r, xs, h, _⟩
      · exact h
      · exact absurd (h7.symm.trans h) (kB_ne_kX _ _)
      · exact absurd (h7.symm.trans h) (kB_ne_kX _ _)
    · have hm : kX e ∈ helds.map (·.1) := List.mem_map.2 ⟨(kX e, heldOf (σ (kX e))), List.mem_map.2 ⟨kX e, he, rfl⟩, rfl⟩
      show puts σ (upsF ++ helds) (kX e) = _
      rw [puts_append]
      obtain ⟨p, h6, h7, h8⟩ := puts_val (σ := puts σ upsF) hm
      rw [h8]
      obtain ⟨k, hk, rfl⟩ := List.mem_map.1 h6
      simp only at h7 ⊢
      rw [h7]
  have htnew : ∀ k, k ∈ tgtKeys tg → k ∉ (unRes d 0 m.rs (ptrsOf m.ps) y).2.1.map (·.1) := by
    intro k hk hm
    have h6 := (hnew k (by rw [List.map_append]; exact List.mem_append_left _ hm)).2
    have h7 := (ht.liveD k (hsub.subset hk)).2
    rw [h6] at h7; cases h7
  have hback3 := hback.grow g3 htnew
  have hokp : (ptrsOf m.ps).all PK.okA = true := by
    rw [List.all_eq_true]
    intro p hp
    have : ∀ {l : List PK}, p ∈ ptrsOf l → p ∈ l := by
      intro l
      induction l with
      | nil => intro h; simp [ptrsOf] at h
      | cons q l ih =>
        intro h
        unfold ptrsOf at h
        split at h
        · rcases List.mem_cons.1 h with rfl | h
          · exact List.mem_cons_self ..
          · exact List.mem_cons_of_mem _ (ih h)
        · exact List.mem_cons_of_mem _ (ih h)
    exact (List.all_eq_true.1 hok.1) p (this hp)
  have hperm := unPtrs_perm (d := d) (j := m.rs.length) (x := (unRes d 0 m.rs (ptrsOf m.ps) y).2.2) hback3
  have hnd4 : ((unPtrs d m.rs.length (ptrsOf m.ps) tg (unRes d 0 m.rs (ptrsOf m.ps) y).2.2).map (·.1)).Nodup := by
    rw [hperm.nodup_iff, List.nodup_append]
    refine ⟨htk, hnd'.2.1, fun k hk k' hk' e => ?_⟩
    subst e
    have h6 := (hnew k (by rw [List.map_append]; exact List.mem_append_right _ hk')).2
    have h7 := (ht.liveD k (hsub.subset hk)).2
    rw [h6] at h7; cases h7
  obtain ⟨G4, g4⟩ := unPtrs_grow hokp g3.hp hback3 (by rw [g3.S]; exact hout3) (g3.free U2 hF2.right hF2.apart) (fun k hk => ⟨by
      rw [g3.old k fun hm => hnd'.2.2 k hm k hk rfl]
      exact (hnew1 k (List.mem_append_right _ hk)).1, (hnew1 k (List.mem_append_right _ hk)).2⟩) hnd4
  have mm : Mon w σ G w' (puts (puts (puts σ us) (unRes d 0 m.rs (ptrsOf m.ps) y).2.1) (unPtrs d m.rs.length (ptrsOf m.ps) tg (unRes d 0 m.rs (ptrsOf m.ps) y).2.2)) G4 := m1.trans (m2.trans (g3.mon.trans g4.mon))
  have hover : puts (puts (puts σ us) (unRes d 0 m.rs (ptrsOf m.ps) y).2.1) (unPtrs d m.rs.length (ptrsOf m.ps) tg (unRes d 0 m.rs (ptrsOf m.ps) y).2.2) =
      puts (puts (puts σ upsF) (unRes d 0 m.rs (ptrsOf m.ps) y).2.1) (unPtrs d m.rs.length (ptrsOf m.ps) tg (unRes d 0 m.rs (ptrsOf m.ps) y).2.2) := by
    show puts (puts (puts σ (upsF ++ helds)) _) _ = _
    rw [puts_append]
    refine puts_over fun k hk => ?_
    obtain ⟨p, h6, rfl⟩ := List.mem_map.1 hk
    obtain ⟨k', hk', rfl⟩ := List.mem_map.1 h6
    exact hperm.mem_iff.2 (List.mem_append_left _ (mutKeys_tgt hk'))
  rw [hover] at mm
  have g4hp := g4.hp
  rw [hover] at g4hp
  have r4 := r3.mon g4.mon
  rw [hover] at r4
  generalize hσ4 : puts (puts (puts σ upsF) (unRes d 0 m.rs (ptrsOf m.ps) y).2.1) (unPtrs d m.rs.length (ptrsOf m.ps) tg (unRes d 0 m.rs (ptrsOf m.ps) y).2.2) = σ4 at mm g4hp r4
  have hslot : ∀ n, σ4 (kS n) = σ (kS n) := by
    intro n
    rw [← hσ4, puts_not, puts_not, puts_not]
    · intro hm
      obtain ⟨p, h6, h7⟩ := List.mem_map.1 hm
      have := (hus p (List.mem_append_left _ h6)).1
      rw [h7] at this
      exact not_isKey_kS n this
    · exact fun hm => not_isKey_kS n (unRes_isKey _ hm)
    · intro hm
      rcases List.mem_append.1 (hperm.mem_iff.1 hm) with hm | hm
      · exact not_isKey_kS n (tgt_isKey hm)
      · exact not_isKey_kS n (newOf_isKey _ hm)
  have hwsE : puts σ ws = put σ4 (kS d) (match (unRes d 0 m.rs (ptrsOf m.ps) y).1 with | [s] => .sv s | l => .tup l) := by
    rw [hws, puts_append, puts_append, puts_append, hσ4]
    rfl
  rw [hwsE]
  have he : ∀ kv k, isKey k → put σ4 (kS d) kv k = σ4 k := fun kv k hk => put_ne (isKey_ne_kS hk d)
  have mfin : ∀ kv, Mon w σ G w' (put σ4 (kS d) kv) G4 := fun kv => mm.trans (Mon.slots (he kv))
  refine Rel.close c.hd c.hn c.hs (mfin _) (g4hp.slots (he _)) hlt (fun n hne => ?_) (fun d' hd' => ?_)
  · rw [put_ne fun e => hne (by rw [hdst, kS_inj e])]; exact hslot n
  · rw [hdst] at hd'; cases hd'
    rw [put_eq]
    refine RelKV.mon (Mon.slots (he _)) ?_
    generalize (unRes d 0 m.rs (ptrsOf m.ps) y).1 = svs at r4 ⊢
    cases svs with
    | nil =>
      cases rvs with
      | nil => exact ⟨[], rfl, trivial⟩
      | cons _ _ => exact r4.elim
    | cons s svs =>
      cases rvs with
      | nil => exact r4.elim
      | cons v rvs =>
        cases svs with
        | nil =>
          cases rvs with
          | nil => exact r4.1
          | cons _ _ => exact r4.2.elim
        | cons s' svs =>
          cases rvs with
          | nil => exact r4.2.elim
          | cons v' rvs => exact ⟨v :: v' :: rvs, rfl, r4⟩
end
end Rg
