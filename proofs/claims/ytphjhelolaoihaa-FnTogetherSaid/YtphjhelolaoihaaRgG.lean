/- The ring framework, part Zf: operations that call; how a function begins. -/
import Derived.Test.YtphjhelolaoihaaRgF
import Derived.BigCall
set_option linter.all false
namespace Rg
open Go

section
variable {P : Program} {E : Env} {B : Base} {N : Nat} {w w' : World} {σ σ' : Sg} {G G' : Gh} {a : Act}


theorem packArgs_nofail : ∀ {ps : List PK} {ts : List (T SV)} {z : ((rowOf ps).Den × List (Nat × KV) × List Tgt) × List Nat} {rs : List Nat}, (packArgs ps ts).eval σ rs = some z → T.fail ∉ ts
  | [], [], _, _, _ => by simp
  | [], _ :: _, _, _, h => (fail_eval h).elim
  | p :: _, [], _, _, h => by simp
  | p :: ps, t :: ts, z, rs, h => by
    intro hm
    have first : t ≠ T.fail := by
      intro e
      subst e
      cases p <;> exact (fail_eval h).elim
    have hm' : T.fail ∈ ts := by
      rcases List.mem_cons.1 hm with e | hm
      · exact absurd e.symm first
      · exact hm
    cases p with
    | val ty =>
      obtain ⟨s, r1, h1, h2⟩ := T.eval_bind _ _ h
      split at h2
      · obtain ⟨p1, r2, h3, h4⟩ := T.eval_bind _ _ h2
        obtain ⟨p2, r3, h5, h6⟩ := T.eval_bind _ _ h4
        exact packArgs_nofail h5 hm'
      · exact (fail_eval h2).elim
    | agg ty =>
      obtain ⟨s, r1, h1, h2⟩ := T.eval_bind _ _ h
      split at h2
      · obtain ⟨p1, r2, h3, h4⟩ := T.eval_bind _ _ h2
        split at h4
        · obtain ⟨p2, r3, h5, h6⟩ := T.eval_bind _ _ h4
          exact packArgs_nofail h5 hm'
        · exact (fail_eval h4).elim
      · exact (fail_eval h2).elim
    | ptr ty =>
      obtain ⟨s, r1, h1, h2⟩ := T.eval_bind _ _ h
      split at h2
      · have h3 := get_eval h2
        split at h3
        · obtain ⟨_, h4⟩ := chk_eval h3
          obtain ⟨p1, r2, h5, h6⟩ := T.eval_bind _ _ h4
          obtain ⟨p2, r3, h7, h8⟩ := T.eval_bind _ _ h6
          exact packArgs_nofail h7 hm'
        · exact (fail_eval h3).elim
      · exact (fail_eval h2).elim
    | «mut» ty =>
      obtain ⟨s, r1, h1, h2⟩ := T.eval_bind _ _ h
      obtain ⟨_, h2⟩ := chk_eval h2
      obtain ⟨cs, r0, h3, h4⟩ := T.eval_bind _ _ h2
      obtain ⟨_, h4⟩ := chk_eval h4
      obtain ⟨p1, r2, h5, h6⟩ := T.eval_bind _ _ h4
      obtain ⟨p2, r3, h7, h8⟩ := T.eval_bind _ _ h6
      exact packArgs_nofail h7 hm'
    | clo f trs =>
      obtain ⟨s, r1, h1, h2⟩ := T.eval_bind _ _ h
      split at h2
      · obtain ⟨_, h3⟩ := chk_eval h2
        obtain ⟨p1, r2, h5, h6⟩ := T.eval_bind _ _ h3
        obtain ⟨p2, r3, h7, h8⟩ := T.eval_bind _ _ h6
        exact packArgs_nofail h7 hm'
      · exact (fail_eval h2).elim

theorem opdsT_R (hs : ∀ n, RelKV w σ G (σ (kS n)) (a.tmps.getD n undef)) {ext : List (T SV)} {ev : List Value} (he : OpdsR w σ G ext ev) : ∀ {l : List Operand} {ts : List TypeId}, T.fail ∉ opdsT E l ts ++ ext →
    OpdsR w σ G (opdsT E l ts ++ ext) (l.map a.eval ++ ev)
  | [], [], _ => he
  | [], _ :: _, h => by simp [opdsT] at h
  | _ :: _, [], h => by simp [opdsT] at h
  | o :: l, t :: ts, h => by
    refine ⟨fun s rs rs' hev => opd_sound hs hev, opdsT_R hs he fun hm => h ?_⟩
    exact List.mem_cons_of_mem _ hm

theorem ptrs_R : ∀ {bs : List Nat} {ps : List Value}, RelPs σ G bs ps → OpdsR w σ G (bs.map fun b => T.pure (.ptr b 0)) ps
  | [], [], _ => trivial
  | b :: bs, v :: vs, h => ⟨fun s rs rs' hev => by rw [← pure_eq hev]; exact h.1, ptrs_R h.2⟩

theorem lCall_nofail {d : Option Tmp} {f : FuncId} {ts : List (T SV)} {z : List (Nat × KV) × List Nat} {rs : List Nat} (h : (lCall E d f ts).eval σ rs = some z) : T.fail ∉ ts ∧ ∃ m, E.fns f = some m := by
  unfold lCall at h
  split at h
  · rename_i d m hm
    obtain ⟨p, r1, h1, h2⟩ := T.eval_bind _ _ h
    exact ⟨packArgs_nofail h1, m, hm⟩
  · exact (fail_eval h).elim

theorem run_callFunc {f : FuncId} (hc : Callable P f) (args : Array Value) : (callFunc f args).run P w = .ok (.enter f args) w := by
  obtain ⟨fn, c, hf, hb, hn⟩ := hc
  have hn' : ¬ fn.name = "runtime.NumGoroutine" := by simpa using hn
  simp [callFunc, hf, hb, hn']

/-- What a walk takes from the program's functions. -/
def FnsOK (P : Program) (E : Env) : Prop := ∀ f m, E.fns f = some m → m.ok = true ∧ Refines P f m ∧ Callable P f

theorem callOK (hF : FnsOK P E) : CallOK P E B N := by
  intro σ a w G o cl fo ws rs rs' K Q c ho hcl h hlt hK
  unfold lop at h
  rw [ho] at h
  simp only [hcl] at h
  cases fo with
  | func f =>
    simp only at h
    obtain ⟨h1, m, hm⟩ := lCall_nofail h
    obtain ⟨hok, hR, hC⟩ := hF f m hm
    have hop := opdsT_R (E := E) c.hs (ext := []) (ev := []) trivial (by simpa using h1)
    simp only [List.append_nil] at hop
    refine call_sound hok hR c hop hm h ?_ hlt hK
    have : execOp a.eval o = callFunc f (#[] ++ cl.args.map a.eval ++ #[]) := by
      obtain ⟨dst, op, type, pos, after, guard⟩ := o
      simp only at ho
      subst ho
      obtain ⟨callee, args, argTypes⟩ := cl
      simp only at hcl
      subst hcl
      rfl
    rw [this, run_callFunc hC]
    simp [← Array.toList_map]
  | tmp n =>
    simp only at h
    have h2 := get_eval h
    have hn := c.hs n
    split at h2
    · rename_i f bs hk
      rw [hk] at hn
      obtain ⟨ps, hv, hps⟩ := hn
      obtain ⟨h1, m, hm⟩ := lCall_nofail h2
      obtain ⟨hok, hR, hC⟩ := hF f m hm
      have hop := opdsT_R (E := E) c.hs (ptrs_R (w := w) hps) h1
      refine call_sound hok hR c hop hm h2 ?_ hlt hK
      have : execOp a.eval o = callFunc f (#[] ++ cl.args.map a.eval ++ ps.toArray) := by
        have e : a.eval (.tmp n) = .func (.func f) #[] ps.toArray := hv
        obtain ⟨dst, op, type, pos, after, guard⟩ := o
        simp only at ho
        subst ho
        obtain ⟨callee, args, argTypes⟩ := cl
        simp only at hcl
        subst hcl
        show (do let d ← Deferred.ofValue (a.eval (.tmp n)) (args.map a.eval); invoke d.target d.args) = _
        rw [e]
        rfl
      rw [this, run_callFunc hC]
      simp [← Array.toList_map]
    · exact (fail_eval h2).elim
  | const v => exact (fail_eval h).elim
  | global g => exact (fail_eval h).elim

/-! ### how a function begins -/
def boxKeys : Nat → List Ty → List Nat
  | _, [] => []
  | id, r :: rs => kB id :: r.okeys id ++ boxKeys (id + r.size) rs

def startKeys : Nat → List PK → List Nat
  | _, [] => []
  | n, .val t :: ps => kS n :: t.okeys (homeId n) ++ startKeys (n + 1) ps
  | n, .agg r :: ps => kS n :: r.okeys (homeId n) ++ startKeys (n + 1) ps
  | n, .ptr r :: ps => kS n :: kB (homeId n) :: r.okeys (homeId n) ++ startKeys (n + 1) ps
  | n, .mut r :: ps => kS n :: r.okeys (homeId n) ++ startKeys (n + 1) ps
  | n, .clo _ rs :: ps => boxKeys (homeId n) rs ++ [kS n] ++ startKeys (n + 1) ps

/-- The keys of what is handed back. -/
def pinKeys : Nat → List PK → List Nat
  | _, [] => []
  | n, .val _ :: ps => pinKeys (n + 1) ps
  | n, .agg _ :: ps => pinKeys (n + 1) ps
  | n, .ptr _ :: ps => kB (homeId n) :: pinKeys (n + 1) ps
  | n, .mut r :: ps => r.okeys (homeId n) ++ pinKeys (n + 1) ps
  | n, .clo _ rs :: ps => (boxIds (homeId n) rs).map kB ++ pinKeys (n + 1) ps

def slotKV (n : Nat) : (p : PK) → p.ty.Den → KV
  | .val t, x => match t.ocs x (homeId n) with | [c] => .sv (.cell c) | _ => .none
  | .agg r, x => .sv (.agg (r.ocs x (homeId n)))
  | .ptr _, _ => .sv (.ptr (homeId n) 0)
  | .mut r, x => bif r.isAgg then .sv (.agg (r.ocs x (homeId n))) else match r.ocs x (homeId n) with | [c] => .sv (.cell c) | _ => .none
  | .clo f rs, _ => .sv (.clo f (boxIds (homeId n) rs))

def MutEx (σ : Sg) (n : Nat) : (p : PK) → p.ty.Den → Prop
  | .mut r, x => ∀ q, q ∈ r.oxs x (homeId n) → σ q.1 = q.2
  | _, _ => True

/-- What is known where a function begins. -/
def StartR (w : World) (σ : Sg) (G : Gh) : Nat → (ps : List PK) → (rowOf ps).Den → List Value → Prop
  | _, [], _, vs => vs = []
  | n, p :: ps, x, v :: vs => (σ (kS n) = slotKV n p x.1 ∧ RelKV w σ G (slotKV n p x.1) v ∧ MutEx σ n p x.1) ∧ StartR w σ G (n + 1) ps x.2 vs
  | _, _ :: _, _, [] => False

/-- The keys of what a function may write through a slice. -/
def mutOf (n : Nat) : PK → List Nat
  | .mut r => r.okeys (homeId n)
  | _ => []

theorem slotNodup {r : Ty} {x : r.Den} {id n : Nat} {kv : KV} (h : (kS n :: r.okeys id).Nodup) : (((kS n, kv) :: r.oxs x id).map (·.1)).Nodup := by
  rw [List.map_cons, Ty.okeys_eq]; exact h

theorem puts_get {x : Nat × KV} : ∀ {l : List (Nat × KV)} {σ : Sg}, (l.map (·.1)).Nodup → x ∈ l → puts σ l x.1 = x.2 := by
  intro l σ hn hx
  obtain ⟨p, h1, h2, h3⟩ := puts_val (σ := σ) (List.mem_map.2 ⟨x, hx, rfl⟩)
  rw [h3]
  have : p = x := by
    clear h3
    induction l with
    | nil => simp at hx
    | cons q l ih =>
      have hn' := List.nodup_cons.1 hn
      have hnq : ∀ z, z ∈ l → z.1 ≠ q.1 := fun z hz e => hn'.1 (List.mem_map.2 ⟨z, hz, e⟩)
      rcases List.mem_cons.1 hx with e1 | hx'
      · rcases List.mem_cons.1 h1 with e2 | h1'
        · rw [e1, e2]
        · exact absurd (by rw [h2, e1]) (hnq p h1')
      · rcases List.mem_cons.1 h1 with e2 | h1'
        · exact absurd (by rw [← h2, e2]) (hnq x hx')
        · exact ih hn'.2 hx' h1'
  rw [this]

theorem startBoxes_grow (hB : ∀ k, B.pin k = none) : ∀ {rs : List Ty} {id : Nat} {x : (consAll rs).Den} {vs : List Value} {U : List Nat} {σ : Sg} {G : Gh}, rs.all Ty.owPlain = true → Hp B σ w G → (boxKeys id rs).Nodup →
    (∀ k, k ∈ boxKeys id rs → σ k = .none) → BoxesR w G.S rs x vs U → Free B w σ G U → ∃ G', Grow B w σ G (startBoxes id rs x σ) G' (boxKeys id rs) U ∧ RelPs (startBoxes id rs x σ) G' (boxIds id rs) vs
  | [], id, x, vs, U, σ, G, _, hp, _, _, hR, _ => by
    obtain ⟨rfl, rfl⟩ := hR
    exact ⟨G, Grow.refl hp, trivial⟩
  | r :: rs, id, x, vs, U, σ, G, hok, hp, hn, hk, hR, hF => by
    simp only [List.all_cons, Bool.and_eq_true] at hok
    obtain ⟨vs', U1, U2, b, o, rfl, rfl, h1, h2⟩ := hR
    have hks : boxKeys id (r :: rs) = (kB id :: r.okeys id) ++ boxKeys (id + r.size) rs := rfl
    rw [hks] at hn hk ⊢
    have hn' := List.nodup_append.1 hn
    obtain ⟨G1, g1, ha⟩ := hp.unbox (n := id) (id := id) hok.1 h1 hF.left (.inl (hk _ (List.mem_append_left _ (List.mem_cons_self ..)))) (fun k hk' => hk k (List.mem_append_left _ (List.mem_cons_of_mem _ hk')))
      (fun k _ => hB k) (fun p hp' => by rw [hB] at hp'; cases hp')
    obtain ⟨G2, g2, hr⟩ := startBoxes_grow hB (x := x.2) hok.2 g1.hp hn'.2.1 (fun k hk' => by
      rw [g1.old k fun hm => hn'.2.2 k hm k hk' rfl]; exact hk k (List.mem_append_right _ hk')) (by rw [g1.S]; exact h2) (g1.free U2 hF.right hF.apart)
    refine ⟨G2, g1.trans g2, ?_, hr⟩
    have : RelPtr (puts σ ((kB id, .box (r.ocs x.1 id)) :: r.oxs x.1 id)) G1 id 0 (.pointer (some ⟨b, o, none⟩)) := by
      refine ⟨?_, b, o, 0, ha, rfl⟩
      show puts (put σ (kB id) (.box (r.ocs x.1 id))) (r.oxs x.1 id) (kB id) ≠ .none
      exact boxThere (r := r)
    exact this.mon g2.mon

theorem start_grow (hB : ∀ k, B.pin k = none) : ∀ {ps : List PK} {n : Nat} {x : (rowOf ps).Den} {vs : List Value} {U : List Nat} {σ : Sg} {G : Gh}, ps.all PK.okA = true → Hp B σ w G → (startKeys n ps).Nodup →
    (∀ k, k ∈ startKeys n ps → σ k = .none) → ArgsR w G.S ps x vs U → Free B w σ G U → ∃ G', Grow B w σ G (startAt n ps x σ) G' (startKeys n ps) U ∧ StartR w (startAt n ps x σ) G' n ps x vs := by
  -- what is known stays
  have keep : ∀ {ps : List PK} {n : Nat} {p : PK} {x : p.ty.Den} {v : Value} {σ σ' : Sg} {G G' : Gh} {ks U : List Nat}, Grow B w σ G σ' G' ks U → kS n ∉ ks → (∀ k, k ∈ mutOf n p → k ∉ ks) →
      (σ (kS n) = slotKV n p x ∧ RelKV w σ G (slotKV n p x) v ∧ MutEx σ n p x) → (σ' (kS n) = slotKV n p x ∧ RelKV w σ' G' (slotKV n p x) v ∧ MutEx σ' n p x) := by
    intro ps n p x v σ σ' G G' ks U g h1 h2 h3
    refine ⟨by rw [g.old _ h1]; exact h3.1, RelKV.mon g.mon h3.2.1, ?_⟩
    cases p with
    | «mut» r =>
      intro q hq
      rw [g.old q.1 (h2 _ (oxs_okeys (x := x) (List.mem_map.2 ⟨q, hq, rfl⟩)))]
      exact h3.2.2 q hq
    | _ => trivial
  intro ps
  induction ps with
  | nil =>
    intro n x vs U σ G _ hp _ _ hR _
    obtain ⟨rfl, rfl⟩ := hR
    exact ⟨G, Grow.refl hp, rfl⟩
  | cons p ps ih =>
    intro n x vs U σ G hok hp hn hk hR hF
    simp only [List.all_cons, Bool.and_eq_true] at hok
    obtain ⟨v, vs', U1, U2, rfl, rfl, h1, h2⟩ := hR
    -- one item, then the rest
    have go : ∀ {σ1 : Sg} {G1 : Gh} {ks1 : List Nat}, startKeys n (p :: ps) = ks1 ++ startKeys (n + 1) ps → startAt n (p :: ps) x σ = startAt (n + 1) ps x.2 σ1 → Grow B w σ G σ1 G1 ks1 U1 → kS n ∈ ks1 →
        (∀ k, k ∈ mutOf n p → k ∈ ks1) → (σ1 (kS n) = slotKV n p x.1 ∧ RelKV w σ1 G1 (slotKV n p x.1) v ∧ MutEx σ1 n p x.1) →
        ∃ G', Grow B w σ G (startAt n (p :: ps) x σ) G' (startKeys n (p :: ps)) (U1 ++ U2) ∧ StartR w (startAt n (p :: ps) x σ) G' n (p :: ps) x (v :: vs') := by
      intro σ1 G1 ks1 e1 e2 g1 hm hm2 hfact
      rw [e1] at hn hk ⊢
      rw [e2]
      have hn' := List.nodup_append.1 hn
      obtain ⟨G2, g2, hr⟩ := ih (n := n + 1) (x := x.2) hok.2 g1.hp hn'.2.1 (fun k hk' => by
        rw [g1.old k fun hm => hn'.2.2 k hm k hk' rfl]; exact hk k (List.mem_append_right _ hk')) (by rw [g1.S]; exact h2) (g1.free U2 hF.right hF.apart)
      refine ⟨G2, g1.trans g2, keep (ps := ps) g2 (fun h => hn'.2.2 _ hm _ h rfl) (fun k hk' h => hn'.2.2 _ (hm2 k hk') _ h rfl) hfact, hr⟩
    cases p with
    | val t =>
      simp only [PK.okA, Bool.and_eq_true] at hok
      obtain ⟨c, hc⟩ := ocs_one (Nat.eq_of_beq_eq_true hok.1.1) x.1 (homeId n)
      have hs : slotKV n (.val t) x.1 = .sv (.cell c) := by simp only [slotKV, hc]
      have hks : startKeys n (.val t :: ps) = (kS n :: t.okeys (homeId n)) ++ startKeys (n + 1) ps := rfl
      obtain ⟨G1, g1, f1, f2⟩ := hp.item (n := n) (id := homeId n) (kv := .sv (.cell c)) (v := v) hok.1.2 h1 hF.left (fun k hk' => hk k (by rw [hks]; exact List.mem_append_left _ (List.mem_cons_of_mem _ hk')))
        (PinX.none fun k _ => hB k) (fun σ' G' hr => by rw [hc] at hr; exact hr.1)
      refine go hks ?_ g1 (List.mem_cons_self ..) (fun k h => by simp [mutOf] at h) ⟨f1.trans hs.symm, by rw [hs]; exact f2, trivial⟩
      show startAt (n + 1) ps x.2 (puts σ ((kS n, match t.ocs x.1 (homeId n) with | [c] => .sv (.cell c) | _ => .none) :: t.oxs x.1 (homeId n))) = _
      rw [hc]
    | agg r =>
      simp only [PK.okA] at hok
      obtain ⟨us, hus, h1⟩ := h1
      have hks : startKeys n (.agg r :: ps) = (kS n :: r.okeys (homeId n)) ++ startKeys (n + 1) ps := rfl
      obtain ⟨G1, g1, f1, f2⟩ := hp.item (n := n) (id := homeId n) (kv := .sv (.agg (r.ocs x.1 (homeId n)))) (v := v) hok.1 h1 hF.left (fun k hk' => hk k (by rw [hks]; exact List.mem_append_left _ (List.mem_cons_of_mem _ hk')))
        (PinX.none fun k _ => hB k) (fun σ' G' hr => ⟨us, hus, hr⟩)
      exact go hks rfl g1 (List.mem_cons_self ..) (fun k h => by simp [mutOf] at h) ⟨f1, f2, trivial⟩
    | ptr r =>
      simp only [PK.okA] at hok
      obtain ⟨b, o, hv, h1⟩ := h1
      have hks : startKeys n (.ptr r :: ps) = (kS n :: kB (homeId n) :: r.okeys (homeId n)) ++ startKeys (n + 1) ps := rfl
      have g0 := Grow.slot hp n (.sv (.ptr (homeId n) 0))
      have hn1 := hn
      rw [hks] at hn1
      obtain ⟨G1, g1, ha⟩ := g0.hp.unbox (n := homeId n) (id := homeId n) hok.1 h1 (g0.free U1 hF.left fun _ _ h => by simp at h)
        (.inl (by rw [put_ne fun e => kS_ne_kB _ _ e.symm]; exact hk _ (by rw [hks]; exact List.mem_append_left _ (List.mem_cons_of_mem _ (List.mem_cons_self ..)))))
        (fun k hk' => by rw [put_ne fun e => kS_not_okeys (e ▸ hk')]; exact hk k (by rw [hks]; exact List.mem_append_left _ (List.mem_cons_of_mem _ (List.mem_cons_of_mem _ hk'))))
        (fun k _ => hB k) (fun p hp' => by rw [hB] at hp'; cases hp')
      have hkk : kS n ∉ kB (homeId n) :: r.okeys (homeId n) := by
        intro h
        rcases List.mem_cons.1 h with h | h
        · exact kS_ne_kB _ _ h
        · exact kS_not_okeys h
      refine go hks rfl (g0.trans g1) (List.mem_cons_self ..) (fun k h => by simp [mutOf] at h) ⟨?_, ?_, trivial⟩
      · have := g1.old _ hkk
        rw [put_eq] at this
        exact this
      · refine ⟨?_, b, o, 0, ha, hv⟩
        show puts (put (put σ (kS n) _) (kB (homeId n)) (.box (r.ocs x.1 (homeId n)))) (r.oxs x.1 (homeId n)) (kB (homeId n)) ≠ .none
        exact boxThere (r := r)
    | «mut» r =>
      simp only [PK.okA, Bool.and_eq_true] at hok
      obtain ⟨us, hus, h1⟩ := h1
      have hks : startKeys n (.mut r :: ps) = (kS n :: r.okeys (homeId n)) ++ startKeys (n + 1) ps := rfl
      have hrel : ∀ σ' G', RelCs w σ' G' (r.ocs x.1 (homeId n)) us → RelKV w σ' G' (slotKV n (.mut r) x.1) v := by
        intro σ' G' hr
        simp only [slotKV]
        cases ha : r.isAgg
        · have hsz : r.size = 1 := by
            have := hok.1.1
            rw [ha] at this
            exact Nat.eq_of_beq_eq_true (by simpa using this)
          obtain ⟨c, hc⟩ := ocs_one hsz x.1 (homeId n)
          rw [hc] at hr ⊢
          rw [hus]
          simp only [aggV, ha, cond_false]
          cases us with
          | nil => exact hr.elim
          | cons u us => exact hr.1
        · rw [hus]
          simp only [aggV, ha, cond_true]
          exact ⟨us, rfl, hr⟩
      obtain ⟨G1, g1, f1, f2⟩ := hp.item (n := n) (id := homeId n) (kv := slotKV n (.mut r) x.1) (v := v) hok.1.2 h1 hF.left (fun k hk' => hk k (by rw [hks]; exact List.mem_append_left _ (List.mem_cons_of_mem _ hk')))
        (PinX.none fun k _ => hB k) hrel
      refine go hks rfl g1 (List.mem_cons_self ..) (fun k h => List.mem_cons_of_mem _ h) ⟨f1, f2, ?_⟩
      intro q hq
      rw [hks] at hn
      have hnd : (((kS n, slotKV n (.mut r) x.1) :: r.oxs x.1 (homeId n)).map (·.1)).Nodup := slotNodup (List.nodup_append.1 hn).1
      exact puts_get hnd (List.mem_cons_of_mem _ hq)
    | clo f rs =>
      simp only [PK.okA] at hok
      obtain ⟨us, hus, h1⟩ := h1
      have hks : startKeys n (.clo f rs :: ps) = (boxKeys (homeId n) rs ++ [kS n]) ++ startKeys (n + 1) ps := rfl
      have hn1 := hn
      rw [hks] at hn1
      have hn2 := List.nodup_append.1 (List.nodup_append.1 hn1).1
      obtain ⟨G1, g1, hr⟩ := startBoxes_grow hB (x := x.1) hok.1 hp hn2.1 (fun k hk' => hk k (by rw [hks]; exact List.mem_append_left _ (List.mem_append_left _ hk'))) h1 hF.left
      have g2 := Grow.slot g1.hp n (.sv (.clo f (boxIds (homeId n) rs)))
      have g12 := g1.trans g2
      rw [List.append_nil] at g12
      refine go hks rfl g12 (List.mem_append_right _ (List.mem_singleton.2 rfl)) (fun k h => by simp [mutOf] at h) ⟨put_eq, ⟨us, hus, hr.mon g2.mon⟩, trivial⟩
end
end Rg

/- The ring framework, part Zg: how a function ends; a function does what its model says. -/
namespace Rg
open Go

section
variable {P : Program} {E : Env} {B : Base} {N : Nat} {w w' ws : World} {σ σ' σs : Sg} {G G' Gs : Gh} {a : Act}

/-- The pins are those of the begin. -/
def PinsOf (B : Base) (σs : Sg) (Gs : Gh) (ks : List Nat) : Prop :=
  ∀ k, k ∈ ks → B.pin k = some (Gs.at_ k) ∧ ∀ n r l, k = kX n → (σs k).ex? = some (r, l) → B.plen n = l

theorem finHds_sound (hp : Hp B σ w G) : ∀ {t : Ty} {id : Nat} {x0 x : t.Den} {us : List Value} {ups : List (Nat × KV)} {rs rs' : List Nat}, (finHds t id).eval σ rs = some ((x, ups), rs') →
    PinsOf B σs Gs (t.okeys id) → RelCs ws σs Gs (t.ocs x0 id) us → (∀ q, q ∈ t.oxs x0 id → σs q.1 = q.2) → ∃ L D, Taken w σ G (fun S U => MutR w S t x us U) ups L D
  | .ow r, id, x0, x, us, ups, rs, rs', h, hpin, hrel, hex => by
    have h2 := get_eval h
    split at h2
    · rename_i r' xs hx
      obtain ⟨z, r1, h3, h4⟩ := T.eval_bind _ _ h2
      obtain ⟨h3', _⟩ := ofO_eval h3
      obtain ⟨eq, hz⟩ := castL_some h3'
      subst eq
      have hz' : xs = z := hz.symm
      subst hz'
      cases pure_eq h4
      refine ⟨[], [kX id], ⟨?_, fun _ _ _ hS h => MutR.mono hS h, fun e h => by simp at h, ?_, ?_, rfl, fun e h => by simp at h⟩⟩
      · have ho := hp.ex id r' xs hx
        obtain ⟨p1, p2⟩ := hpin (kX id) (List.mem_singleton.2 rfl)
        have hs := hex (kX id, .ex r' x0) (List.mem_singleton.2 rfl)
        obtain ⟨q1, q2⟩ := hp.pin (kX id) _ (isKey_kX id) p1 (by rw [hx]; simp)
        have hl : xs.length = x0.length := by
          rw [q2 id r' xs.length rfl (by rw [hx]; rfl), p2 id r' x0.length rfl (by rw [hs]; rfl)]
        cases us with
        | nil => exact hrel.elim
        | cons v us =>
          have := relCs_nil hrel.2
          subst this
          have hv := hdl_len hrel.1 hs
          have e : hdrOf G (kX id) xs.length = v := by rw [hv, hdrOf_at, hdrOf_at, q1, hl]
          show ORep w (SL G []) (.ow r') _ [v] _
          rw [← e, SL_nil]
          simpa using ho
      · intro k hk
        have : k = kX id := by simpa using hk
        subst this
        exact ⟨isKey_kX id, by rw [hx]; rfl⟩
      · intro p hp'
        have : p = (kX id, .gone) := by simpa using hp'
        subst this
        exact ⟨isKey_kX id, by rw [hx]; rfl, .inl ⟨rfl, by simp⟩⟩
    · exact (fail_eval h2).elim
  | .cons t r, id, x0, x, us, ups, rs, rs', h, hpin, hrel, hex => by
    obtain ⟨⟨x1, u1⟩, r1, h1, h2⟩ := T.eval_bind _ _ h
    obtain ⟨⟨x2, u2⟩, r2, h3, h4⟩ := T.eval_bind _ _ h2
    cases pure_eq h4
    have hrel' : RelCs ws σs Gs (t.ocs x0.1 id ++ r.ocs x0.2 (id + t.size)) us := hrel
    have hl := hrel'.length
    rw [List.length_append, Ty.ocs_length, Ty.ocs_length] at hl
    have ht := hrel'.take t.size
    have hd := hrel'.drop t.size
    have hlen1 : (t.ocs x0.1 id).length = t.size := Ty.ocs_length
    rw [← hlen1, List.take_left] at ht
    rw [← hlen1, List.drop_left] at hd
    rw [hlen1] at ht hd
    obtain ⟨L1, D1, t1⟩ := finHds_sound hp h1 (fun k hk => hpin k (List.mem_append_left _ hk)) ht (fun q hq => hex q (List.mem_append_left _ hq))
    obtain ⟨L2, D2, t2⟩ := finHds_sound hp h3 (fun k hk => hpin k (List.mem_append_right _ hk)) hd (fun q hq => hex q (List.mem_append_right _ hq))
    refine ⟨L1 ++ L2, D1 ++ D2, t1.append t2 (fun S U1 U2 a b => ⟨us.take t.size, us.drop t.size, U1, U2, (List.take_append_drop _ _).symm, rfl, ?_, a, b⟩) fun _ _ _ hS h => MutR.mono hS h⟩
    rw [List.length_take]; omega
  | .int _, id, x0, x, us, ups, rs, rs', h, _, _, _ => by
    have h' : (some (((0 : Int), []), rs) : Option ((Int × List (Nat × KV)) × List Nat)) = some ((x, ups), rs') := h
    cases h'
    exact ⟨[], [], Taken.nil (fun _ => rfl) fun _ _ _ _ h => h⟩
  | .bool, id, x0, x, us, ups, rs, rs', h, _, _, _ => by
    have h' : (some ((false, []), rs) : Option ((Bool × List (Nat × KV)) × List Nat)) = some ((x, ups), rs') := h
    cases h'
    exact ⟨[], [], Taken.nil (fun _ => rfl) fun _ _ _ _ h => h⟩
  | .str, id, x0, x, us, ups, rs, rs', h, _, _, _ => by
    have h' : (some (((⟨#[]⟩ : ByteArray), []), rs) : Option ((ByteArray × List (Nat × KV)) × List Nat)) = some ((x, ups), rs') := h
    cases h'
    exact ⟨[], [], Taken.nil (fun _ => rfl) fun _ _ _ _ h => h⟩
  | .sl r, id, x0, x, us, ups, rs, rs', h, _, _, _ => by
    have h' : (some ((([] : List r.Den), []), rs) : Option ((List r.Den × List (Nat × KV)) × List Nat)) = some ((x, ups), rs') := h
    cases h'
    exact ⟨[], [], Taken.nil (fun _ => rfl) fun _ _ _ _ h => h⟩
  | .nil, id, x0, x, us, ups, rs, rs', h, _, _, _ => by
    have h' : (some (((), []), rs) : Option ((Unit × List (Nat × KV)) × List Nat)) = some ((x, ups), rs') := h
    cases h'
    exact ⟨[], [], Taken.nil (fun _ => rfl) fun _ _ _ _ h => h⟩
  | .alt a b, id, x0, x, us, ups, rs, rs', h, _, _, _ => by
    have h' : (some ((Ty.zero (.alt a b), []), rs) : Option (((Ty.alt a b).Den × List (Nat × KV)) × List Nat)) = some ((x, ups), rs') := h
    cases h'
    exact ⟨[], [], Taken.nil (fun _ => rfl) fun _ _ _ _ h => h⟩

/-- A pinned box, at the end, is where it was. -/
theorem pin_box (hp : Hp B σ w G) {n : Nat} {cs : List LC} (hk : σ (kB n) = .box cs) {b o : Nat} (hat : G.at_ (kB n) = some (b, o, 0)) (hpin : B.pin (kB n) = some (Gs.at_ (kB n))) {v : Value} (hr : RelPtr σs Gs n 0 v) :
    v = .pointer (some ⟨b, o, none⟩) := by
  obtain ⟨q1, _⟩ := hp.pin (kB n) _ (isKey_kB n) hpin (by rw [hk]; simp)
  obtain ⟨_, bb, oo, c, h1, h2⟩ := hr
  rw [hat] at q1
  rw [← q1] at h1
  cases h1
  exact h2

theorem finBoxes_sound (hp : Hp B σ w G) : ∀ {rs : List Ty} {id : Nat} {x : (consAll rs).Den} {vs : List Value} {ups : List (Nat × KV)} {k k' : List Nat}, (finBoxes id rs).eval σ k = some ((x, ups), k') →
    PinsOf B σs Gs ((boxIds id rs).map kB) → RelPs σs Gs (boxIds id rs) vs → ∃ L D, Taken w σ G (fun S U => BoxesR w S rs x vs U) ups L D
  | [], id, x, vs, ups, k, k', h, _, hr => by
    cases pure_eq h
    cases vs with
    | nil => exact ⟨[], [], Taken.nil (fun _ => ⟨rfl, rfl⟩) fun _ _ _ hS h => BoxesR.mono hS h⟩
    | cons _ _ => exact hr.elim
  | r :: rs, id, x, vs, ups, k, k', h, hpin, hr => by
    have h2 := get_eval h
    split at h2
    · rename_i cs hk
      obtain ⟨⟨y, rest, u⟩, r1, h4, h5⟩ := T.eval_bind _ _ h2
      split at h5
      · rename_i hrest
        simp only at hrest
        subst hrest
        obtain ⟨⟨z, u'⟩, r2, h6, h7⟩ := T.eval_bind _ _ h5
        cases pure_eq h7
        cases vs with
        | nil => exact hr.elim
        | cons v vs =>
          obtain ⟨b, o, L, D, hat, hT⟩ := Taken.box hp hk h4
          have hv := pin_box hp hk hat (hpin (kB id) (List.mem_cons_self ..)).1 hr.1
          obtain ⟨L2, D2, ht⟩ := finBoxes_sound hp h6 (fun k hk => hpin k (List.mem_cons_of_mem _ hk)) hr.2
          exact ⟨L ++ L2, (kB id :: D) ++ D2, hT.append ht (fun S U1 U2 a c => ⟨vs, U1, U2, b, o, by rw [hv], rfl, a, c⟩) fun S S' U hS hU => BoxesR.mono hS hU⟩
      · exact (fail_eval h5).elim
    · exact (fail_eval h2).elim

theorem finPtrs_sound (hp : Hp B σ w G) : ∀ {ps : List PK} {n : Nat} {x0 : (rowOf ps).Den} {x : (rowOf (ptrsOf ps)).Den} {vs : List Value} {ups : List (Nat × KV)} {k k' : List Nat}, ps.all PK.okA = true → (finPtrs n ps).eval σ k = some ((x, ups), k') →
    PinsOf B σs Gs (pinKeys n ps) → StartR ws σs Gs n ps x0 vs → ∃ L D, Taken w σ G (fun S U => OutsR w S (ptrsOf ps) x (ptrVals ps vs) U) ups L D
  | [], n, x0, x, vs, ups, k, k', _, h, _, hs => by
    have h' : (some (((), []), k) : Option ((Unit × List (Nat × KV)) × List Nat)) = some ((x, ups), k') := h
    cases h'
    have : vs = [] := hs
    subst this
    exact ⟨[], [], Taken.nil (fun _ => ⟨rfl, rfl⟩) fun _ _ _ hS h => OutsR.mono hS h⟩
  | p :: ps, n, x0, x, [], ups, k, k', _, _, _, hs => hs.elim
  | .val t :: ps, n, x0, x, v :: vs, ups, k, k', hok, h, hpin, hs => by
    simp only [List.all_cons, Bool.and_eq_true] at hok
    exact finPtrs_sound (ps := ps) (n := n + 1) hp hok.2 h hpin hs.2
  | .agg t :: ps, n, x0, x, v :: vs, ups, k, k', hok, h, hpin, hs => by
    simp only [List.all_cons, Bool.and_eq_true] at hok
    exact finPtrs_sound (ps := ps) (n := n + 1) hp hok.2 h hpin hs.2
  | .ptr r :: ps, n, x0, x, v :: vs, ups, k, k', hok, h, hpin, hs => by
    simp only [List.all_cons, Bool.and_eq_true] at hok
    have h2 := get_eval h
    split at h2
    · rename_i cs hk
      obtain ⟨⟨y, rest, u⟩, r1, h4, h5⟩ := T.eval_bind _ _ h2
      split at h5
      · rename_i hrest
        simp only at hrest
        subst hrest
        obtain ⟨⟨z, u'⟩, r2, h6, h7⟩ := T.eval_bind _ _ h5
        cases pure_eq h7
        obtain ⟨b, o, L, D, hat, hT⟩ := Taken.box hp hk h4
        have hv := pin_box hp hk hat (hpin _ (List.mem_cons_self ..)).1 hs.1.2.1
        obtain ⟨L2, D2, ht⟩ := finPtrs_sound (ps := ps) (n := n + 1) hp hok.2 h6 (fun k hk => hpin k (List.mem_cons_of_mem _ hk)) hs.2
        exact ⟨L ++ L2, (kB (homeId n) :: D) ++ D2, hT.append ht (fun S U1 U2 a c => ⟨v, ptrVals ps vs, U1, U2, rfl, rfl, ⟨b, o, hv, a⟩, c⟩) fun S S' U hS hU => OutsR.mono hS hU⟩
      · exact (fail_eval h5).elim
    · exact (fail_eval h2).elim
  | .mut r :: ps, n, x0, x, v :: vs, ups, k, k', hok, h, hpin, hs => by
    simp only [List.all_cons, Bool.and_eq_true, PK.okA] at hok
    obtain ⟨⟨x1, u1⟩, r1, h1, h2⟩ := T.eval_bind _ _ h
    obtain ⟨⟨x2, u2⟩, r2, h3, h4⟩ := T.eval_bind _ _ h2
    cases pure_eq h4
    obtain ⟨⟨_, hrel, hex⟩, hs2⟩ := hs
    have hus : ∃ us, v = aggV r us ∧ us.length = r.size ∧ RelCs ws σs Gs (r.ocs x0.1 (homeId n)) us := by
      simp only [slotKV] at hrel
      cases ha : r.isAgg
      · have hsz : r.size = 1 := by
          have := hok.1.1
          rw [ha] at this
          exact Nat.eq_of_beq_eq_true (by simpa using this)
        obtain ⟨c, hc⟩ := ocs_one hsz x0.1 (homeId n)
        rw [ha, hc] at hrel
        rw [hc]
        exact ⟨[v], by simp [aggV, ha], by rw [hsz]; rfl, hrel, trivial⟩
      · rw [ha] at hrel
        obtain ⟨us, hv, hr⟩ := hrel
        exact ⟨us, by simp [aggV, ha, hv], hr.length.symm.trans Ty.ocs_length, hr⟩
    obtain ⟨us, hv, hl, hr⟩ := hus
    obtain ⟨L, D, hT⟩ := finHds_sound hp h1 (fun k hk => hpin k (List.mem_append_left _ hk)) hr hex
    obtain ⟨L2, D2, ht⟩ := finPtrs_sound (ps := ps) (n := n + 1) hp hok.2 h3 (fun k hk => hpin k (List.mem_append_right _ hk)) hs2
    exact ⟨L ++ L2, D ++ D2, hT.append ht (fun S U1 U2 a c => ⟨v, ptrVals ps vs, U1, U2, rfl, rfl, ⟨us, hv, hl, a⟩, c⟩) fun S S' U hS hU => OutsR.mono hS hU⟩
  | .clo f rs :: ps, n, x0, x, v :: vs, ups, k, k', hok, h, hpin, hs => by
    simp only [List.all_cons, Bool.and_eq_true] at hok
    obtain ⟨⟨x1, u1⟩, r1, h1, h2⟩ := T.eval_bind _ _ h
    obtain ⟨⟨x2, u2⟩, r2, h3, h4⟩ := T.eval_bind _ _ h2
    cases pure_eq h4
    obtain ⟨⟨_, ⟨us, hv, hps⟩, _⟩, hs2⟩ := hs
    obtain ⟨L, D, hT⟩ := finBoxes_sound hp h1 (fun k hk => hpin k (List.mem_append_left _ hk)) hps
    obtain ⟨L2, D2, ht⟩ := finPtrs_sound (ps := ps) (n := n + 1) hp hok.2 h3 (fun k hk => hpin k (List.mem_append_right _ hk)) hs2
    exact ⟨L ++ L2, D ++ D2, hT.append ht (fun S U1 U2 a c => ⟨v, ptrVals ps vs, U1, U2, rfl, rfl, ⟨us, hv, a⟩, c⟩) fun S S' U hS hU => OutsR.mono hS hU⟩

/-- What a result is. -/
def resRun (tmps : Array Value) : ResultVar → Sem Value
  | .tmp t => pure (tmps.getD t undef)
  | .cell a t => do loadVar t (← asAddr (tmps.getD a undef))

theorem resRun_load {tmps : Array Value} {b : Nat} {t : TypeId} {bb o : Nat} {u : Value} (hv : tmps.getD b undef = .pointer (some ⟨bb, o, none⟩)) (h : (Instr.loadAt t (tmps.getD b undef)).run P w = .ok u w) :
    (resRun tmps (.cell b t)).run P w = .ok u w := by
  show (do loadVar t (← asAddr (tmps.getD b undef)) : Sem Value).run P w = _
  rw [hv] at h ⊢
  simpa [Instr.loadAt, Instr.sureAddr, asAddr] using h

/-- What can be loaded is a pointer. -/
theorem lLoad_ptr (hp : Hp B σ w G) {s s' : SV} {t : TypeId} {v : Value} {rs rs' : List Nat} (hv : RelSV w σ G s v) (h : (lLoad E t s).eval σ rs = some (s', rs')) : ∃ b o, v = .pointer (some ⟨b, o, none⟩) := by
  unfold lLoad at h
  split at h
  · exact (fail_eval h).elim
  · obtain ⟨p, r1, h1, h2⟩ := T.eval_bind _ _ h
    cases s with
    | ptr b off => obtain ⟨_, bb, o, c, _, h3⟩ := hv; exact ⟨bb, _, h3⟩
    | elP r x off => obtain ⟨b, o, _, _, _, _, h3, _⟩ := hv; exact ⟨b, _, h3⟩
    | elX e i off =>
      have h3 := get_eval h1
      split at h3
      · rename_i r xs hk
        obtain ⟨_, h4⟩ := hv
        obtain ⟨_, _, b, o, c, _, h5⟩ := h4 r xs.length (by rw [hk]; rfl)
        exact ⟨b, _, h5⟩
      · exact (fail_eval h3).elim
    | undef => exact (fail_eval h1).elim
    | cell c => exact (fail_eval h1).elim
    | agg c => exact (fail_eval h1).elim
    | clo f bs => exact (fail_eval h1).elim

theorem finRes_sound (hE : EnvTy P E) (hp : Hp B σ w G) (hd : a.defers = []) (hn : a.tmps.size = N) (hs : ∀ n, RelKV w σ G (σ (kS n)) (a.tmps.getD n undef)) {ps : List PK} {x0 : (rowOf ps).Den} {vs : List Value} (hok : ps.all PK.okA = true) (hpin : PinsOf B σs Gs (pinKeys 0 ps)) (hst : StartR ws σs Gs 0 ps x0 vs) :
    ∀ {rs : List PK} {res : List ResultVar} {x : (rowOf (rs ++ ptrsOf ps)).Den} {ups : List (Nat × KV)} {k k' : List Nat}, rs.all PK.okR = true → (finRes E rs res ps).eval σ k = some ((x, ups), k') →
    ∃ us L D, Taken w σ G (fun S U => OutsR w S (rs ++ ptrsOf ps) x (us ++ ptrVals ps vs) U) ups L D ∧ us.length = rs.length ∧ (res.mapM (resRun a.tmps)).run P w = .ok us w
  | [], [], x, ups, k, k', _, h => by
    obtain ⟨L, D, hT⟩ := finPtrs_sound hp hok h hpin hst
    exact ⟨[], L, D, hT, rfl, by rw [List.mapM_nil, Sem.run_pure]⟩
  | [], _ :: _, _, _, _, _, _, h => (fail_eval h).elim
  | _ :: _, [], _, _, _, _, _, h => (fail_eval h).elim
  | p :: rs, v :: res, x, ups, k, k', hr, h => by
    simp only [List.all_cons, Bool.and_eq_true] at hr
    obtain ⟨s, r1, h1, h2⟩ := T.eval_bind _ _ h
    obtain ⟨⟨x1, u1⟩, r2, h3, h4⟩ := T.eval_bind _ _ h2
    obtain ⟨⟨x2, u2⟩, r3, h5, h6⟩ := T.eval_bind _ _ h4
    cases pure_eq h6
    have hsv : ∃ u, (resRun a.tmps v).run P w = .ok u w ∧ RelSV w σ G s u := by
      cases v with
      | cell b t =>
        have h7 := get_eval h1
        have hn' := hs b
        split at h7
        · rename_i s' hk
          rw [hk] at hn'
          obtain ⟨u, hrun, hu⟩ := lLoad_sound hE ⟨hp, hd, hn, hs⟩ hn' h7
          obtain ⟨bb, o, hv⟩ := lLoad_ptr hp hn' h7
          exact ⟨u, resRun_load hv hrun, hu⟩
        · exact (fail_eval h7).elim
      | tmp t =>
        have h7 := get_eval h1
        have hn' := hs t
        split at h7
        · rename_i s' hk
          rw [hk] at hn'
          exact ⟨_, Sem.run_pure .., by rw [← pure_eq h7]; exact hn'⟩
        · exact (fail_eval h7).elim
    obtain ⟨vv, hvrun, hsv⟩ := hsv
    obtain ⟨us, L2, D2, hT2, hl, hrun2⟩ := finRes_sound hE hp hd hn hs hok hpin hst hr.2 h5
    have one : ∃ L D, Taken w σ G (fun S U => OutR w S p x1 vv U) u1 L D := by
      cases p with
      | val t =>
        cases s with
        | cell c =>
          obtain ⟨⟨y, rest, u⟩, r4, h7, h8⟩ := T.eval_bind _ _ h3
          cases pure_eq h8
          obtain ⟨v1, v2, L, D, hvv, _, hP⟩ := pack_sound hp h7 (show RelCs w σ G [c] [vv] from ⟨hsv, trivial⟩)
          have hsz : t.size = 1 := by
            have := hr.1
            simp only [PK.okR, Bool.and_eq_true] at this
            exact Nat.eq_of_beq_eq_true this.1
          have hv1 : v1 = [vv] := by
            have hl := hP.rep.length
            rw [hsz] at hl
            cases v1 with
            | nil => simp at hl
            | cons a v1 =>
              cases v1 with
              | nil => simp only [List.cons_append, List.nil_append, List.cons.injEq] at hvv; rw [hvv.1]
              | cons _ _ => simp at hl
          subst hv1
          exact ⟨L, D.map kX, hP.taken⟩
        | _ => exact (fail_eval h3).elim
      | agg r =>
        cases s with
        | agg cs =>
          obtain ⟨us, hus, hrel⟩ := hsv
          obtain ⟨⟨y, rest, u⟩, r4, h7, h8⟩ := T.eval_bind _ _ h3
          split at h8
          · rename_i hrest
            simp only at hrest
            subst hrest
            cases pure_eq h8
            obtain ⟨v1, v2, L, D, hvv, hr2, hP⟩ := pack_sound hp h7 hrel
            obtain rfl := relCs_nil hr2
            rw [List.append_nil] at hvv
            subst hvv
            exact ⟨L, D.map kX, hP.taken.imp (fun S U h => ⟨us, hus, h⟩) fun _ _ _ hS h => OutR.mono (p := .agg r) hS h⟩
          · exact (fail_eval h8).elim
        | _ => exact (fail_eval h3).elim
      | ptr r =>
        cases s with
        | ptr b off =>
          have h7 := get_eval h3
          split at h7
          · rename_i cs hk
            obtain ⟨hc, h8⟩ := chk_eval h7
            have hoff := Nat.eq_of_beq_eq_true hc
            subst hoff
            obtain ⟨⟨y, rest, u⟩, r4, h9, h10⟩ := T.eval_bind _ _ h8
            split at h10
            · rename_i hrest
              simp only at hrest
              subst hrest
              cases pure_eq h10
              obtain ⟨bb, o, L, D, hat, hT⟩ := Taken.box hp hk h9
              obtain ⟨_, b', o', c', hat', hv'⟩ := hsv
              rw [hat] at hat'
              cases hat'
              exact ⟨L, kB b :: D, hT.imp (fun S U h => ⟨bb, o, hv', h⟩) fun _ _ _ hS h => OutR.mono (p := .ptr r) hS h⟩
            · exact (fail_eval h10).elim
          · exact (fail_eval h7).elim
        | _ => exact (fail_eval h3).elim
      | «mut» r => simp [PK.okR] at hr
      | clo f r => simp [PK.okR] at hr
    obtain ⟨L, D, hT⟩ := one
    refine ⟨vv :: us, L ++ L2, D ++ D2, hT.append hT2 (fun S U1 U2 a b => ⟨_, _, U1, U2, rfl, rfl, a, b⟩) (fun _ _ _ hS h => OutsR.mono hS h), by simp [hl], ?_⟩
    rw [List.mapM_cons, Sem.run_bind, hvrun]
    simp only [Result.andThen_ok]
    rw [Sem.run_bind, hrun2]
    simp only [Result.andThen_ok, Sem.run_pure]

theorem results_run {fn : Func} {res : List ResultVar} (h : fn.results = res.toArray) {tmps : Array Value} {us : List Value} (hr : (res.mapM (resRun tmps)).run P w = .ok us w) :
    (results fn tmps).run P w = .ok (retV us) w := by
  have e : results fn tmps = (do let vs ← fn.results.mapM (resRun tmps); pure (if h : vs.size = 1 then vs[0] else .tuple vs)) := by
    unfold results
    congr
  rw [e, h, List.mapM_toArray]
  rw [Sem.run_bind, Sem.run_map, hr]
  simp only [Result.andThen_ok, Sem.run_pure]
  congr 1
  cases us with
  | nil => rfl
  | cons v l =>
    cases l with
    | nil => rfl
    | cons u l => rfl

/-- What is asked of a function beside its text. -/
def Fin.ok (f : Fin) (n : Nat) : Bool :=
  f.ps.all PK.okA && f.rs.all PK.okR && nodupK (startKeys 0 f.ps) && Nat.ble f.ps.length n && (pinKeys 0 f.ps).all fun k => Nat.ble 3000000000 k && Nat.blt k 6000000000

theorem argsR_length : ∀ {ps : List PK} {S : Nat → Prop} {x : (rowOf ps).Den} {vs : List Value} {U : List Nat}, ArgsR w S ps x vs U → vs.length = ps.length
  | [], _, _, _, _, h => by rw [h.1]; rfl
  | _ :: _, _, _, _, _, ⟨v, vs', U1, U2, h1, _, _, h4⟩ => by rw [h1, List.length_cons, argsR_length h4]; rfl

theorem startR_get : ∀ {ps : List PK} {n : Nat} {x : (rowOf ps).Den} {vs : List Value}, StartR w σ G n ps x vs → ∀ j v, vs[j]? = some v → RelKV w σ G (σ (kS (n + j))) v
  | [], _, _, vs, h, j, v, hj => by have : vs = [] := h; subst this; simp at hj
  | _ :: _, _, _, [], h, _, _, _ => h.elim
  | p :: ps, n, x, v0 :: vs, h, 0, v, hj => by
    simp at hj; subst hj
    rw [Nat.add_zero, h.1.1]; exact h.1.2.1
  | p :: ps, n, x, v0 :: vs, h, j + 1, v, hj => by
    have := startR_get h.2 j v (by simpa using hj)
    have e : n + (j + 1) = n + 1 + j := by omega
    rw [e]; exact this

theorem startKeys_slot : ∀ {ps : List PK} {n m : Nat}, kS m ∈ startKeys n ps → n ≤ m ∧ m < n + ps.length
  | [], n, m, h => by simp [startKeys] at h
  | .val t :: ps, n, m, h => by
    rcases List.mem_append.1 (show kS m ∈ (kS n :: t.okeys (homeId n)) ++ startKeys (n + 1) ps from h) with h | h
    · rcases List.mem_cons.1 h with h | h
      · have := kS_inj h; simp only [List.length_cons]; omega
      · exact (kS_not_okeys h).elim
    · have := startKeys_slot h; simp only [List.length_cons]; omega
  | .agg t :: ps, n, m, h => by
    rcases List.mem_append.1 (show kS m ∈ (kS n :: t.okeys (homeId n)) ++ startKeys (n + 1) ps from h) with h | h
    · rcases List.mem_cons.1 h with h | h
      · have := kS_inj h; simp only [List.length_cons]; omega
      · exact (kS_not_okeys h).elim
    · have := startKeys_slot h; simp only [List.length_cons]; omega
  | .mut t :: ps, n, m, h => by
    rcases List.mem_append.1 (show kS m ∈ (kS n :: t.okeys (homeId n)) ++ startKeys (n + 1) ps from h) with h | h
    · rcases List.mem_cons.1 h with h | h
      · have := kS_inj h; simp only [List.length_cons]; omega
      · exact (kS_not_okeys h).elim
    · have := startKeys_slot h; simp only [List.length_cons]; omega
  | .ptr t :: ps, n, m, h => by
    rcases List.mem_append.1 (show kS m ∈ (kS n :: kB (homeId n) :: t.okeys (homeId n)) ++ startKeys (n + 1) ps from h) with h | h
    · rcases List.mem_cons.1 h with h | h
      · have := kS_inj h; simp only [List.length_cons]; omega
      · rcases List.mem_cons.1 h with h | h
        · exact absurd h (kS_ne_kB _ _)
        · exact (kS_not_okeys h).elim
    · have := startKeys_slot h; simp only [List.length_cons]; omega
  | .clo f rs :: ps, n, m, h => by
    rcases List.mem_append.1 (show kS m ∈ (boxKeys (homeId n) rs ++ [kS n]) ++ startKeys (n + 1) ps from h) with h | h
    · rcases List.mem_append.1 h with h | h
      · exfalso
        have : ∀ {rs : List Ty} {id : Nat}, kS m ∉ boxKeys id rs := by
          intro rs
          induction rs with
          | nil => intro id h; simp [boxKeys] at h
          | cons r rs ih =>
            intro id h
            rcases List.mem_append.1 (show kS m ∈ (kB id :: r.okeys id) ++ boxKeys (id + r.size) rs from h) with h | h
            · rcases List.mem_cons.1 h with h | h
              · exact kS_ne_kB _ _ h
              · exact kS_not_okeys h
            · exact ih h
        exact this h
      · have := kS_inj (List.mem_singleton.1 h); simp only [List.length_cons]; omega
    · have := startKeys_slot h; simp only [List.length_cons]; omega

/-- How a function ends: what its results are. -/
def EndOK (E : Env) (B : Base) (N : Nat) (F : Fin) (y : (outOf F.ps F.rs).Den) (e : Exit) (a : Act) (w : World) : Prop :=
  (e = .normal ∨ e = .ret) ∧ ∃ σ ups rs, (finRes E F.rs F.res F.ps).eval σ [] = some ((y, ups), rs) ∧ okUps ups = true ∧ Rel B N σ a w

/-- A function does what its model says, where its walk ends well. -/
theorem refines_wp (hE : EnvTy P E) {f : FuncId} {fn : Func} {c : Code} (hf : P.funcs[f]? = some fn) (hb : fn.body = some c) (F : Fin) (hres : fn.results = F.res.toArray)
    (hok : F.ok fn.ntmps = true) {m : (rowOf F.ps).Den → Option (outOf F.ps F.rs).Den}
    (hwp : ∀ (B : Base) (x : (rowOf F.ps).Den) (y : (outOf F.ps F.rs).Den) (a : Act) (w : World), m x = some y → Rel B fn.ntmps (startAt 0 F.ps x empty) a w → c.wp P (EndOK E B fn.ntmps F y) a w) : Refines P f ⟨F.ps, F.rs, m⟩ := by
  intro w S x y vs U hy hargs hUn hU hS
  simp only at hy hargs
  simp only [Fin.ok, Bool.and_eq_true] at hok
  obtain ⟨⟨⟨⟨ok1, ok2⟩, ok4⟩, ok5⟩, ok6⟩ := hok
  have hlen := argsR_length hargs
  -- the begin
  let B0 : Base := { w0 := w, n0 := w.heap.size, W := fun b => b ∈ U, h0 := w.heap, S0 := S, pin := fun _ => none, plen := fun _ => 0, pinB := fun k p h => by cases h }
  let G0 : Gh := { S := S, at_ := fun _ => none, bl := fun _ => [] }
  have hp0 : Hp B0 empty w G0 := by
    refine ⟨fun b hb => ⟨hS b hb, .inr (.inl hb)⟩, fun b hb => hb, ?_, ?_, ?_, ?_, ?_, ?_, fun _ _ _ => rfl, Nat.le_refl _, ?_, ?_, ⟨rfl, rfl, rfl⟩⟩
    · intro n cs hn; cases hn
    · intro n r xs hn; cases hn
    · intro n r xs hn; cases hn
    · intro k b _ hl; cases hl
    · intro k _ hl; cases hl
    · intro k k' b _ _ hl; cases hl
    · intro n r xs hn; cases hn
    · intro k p _ h; cases h
  have hF0 : Free B0 w empty G0 U := ⟨hUn, fun b hb => ⟨(hU b hb).1, (hU b hb).2, .inr hb⟩, fun _ _ _ _ hl => by cases hl⟩
  obtain ⟨Gs, gs, hst⟩ := start_grow (B := B0) (fun _ => rfl) ok1 hp0 (nodupK_iff.1 ok4) (fun _ _ => rfl) hargs hF0
  -- with pins
  let σs := startAt 0 F.ps x empty
  let B1 : Base := { B0 with
    pin := fun k => if k ∈ pinKeys 0 F.ps then some (Gs.at_ k) else none
    plen := fun n => match (σs (kX n)).ex? with | some (_, l) => l | none => 0
    pinB := fun k p h => by
      by_cases hk : k ∈ pinKeys 0 F.ps
      · have := (List.all_eq_true.1 ok6) k hk
        simp only [Bool.and_eq_true] at this
        exact ⟨Nat.le_of_ble_eq_true this.1, Nat.blt_eq ▸ this.2⟩
      · simp only [if_neg hk] at h; cases h }
  have hp1 : Hp B1 σs w Gs := by
    have h := gs.hp
    refine ⟨h.shared, h.s0, h.box, h.ex, h.fz, h.own, h.nodup, h.apart, h.frame, h.size, h.plain, fun k p hk hp hn => ?_, h.side⟩
    by_cases hkk : k ∈ pinKeys 0 F.ps
    · have hp' : (if k ∈ pinKeys 0 F.ps then some (Gs.at_ k) else none) = some p := hp
      rw [if_pos hkk] at hp'
      cases hp'
      refine ⟨rfl, fun n r l e hx => ?_⟩
      subst e
      show l = match (σs (kX n)).ex? with | some (_, l) => l | none => 0
      rw [hx]
    · have hp' : (if k ∈ pinKeys 0 F.ps then some (Gs.at_ k) else none) = some p := hp
      rw [if_neg hkk] at hp'; cases hp'
  have hpins : PinsOf B1 σs Gs (pinKeys 0 F.ps) := by
    intro k hk
    refine ⟨?_, fun n r l e hx => ?_⟩
    · show (if k ∈ pinKeys 0 F.ps then some (Gs.at_ k) else none) = _
      rw [if_pos hk]
    · subst e
      show (match (σs (kX n)).ex? with | some (_, l) => l | none => 0) = l
      rw [hx]
  have hR0 : Rel B1 fn.ntmps σs { tmps := vs.toArray ++ Array.replicate (fn.ntmps - vs.toArray.size) undef, defers := [] } w := by
    refine ⟨Gs, hp1, rfl, ?_, fun n => ?_⟩
    · have : F.ps.length ≤ fn.ntmps := Nat.le_of_ble_eq_true ok5
      simp only [Array.size_append, Array.size_replicate, List.size_toArray]
      omega
    · have hget : (vs.toArray ++ Array.replicate (fn.ntmps - vs.toArray.size) undef).getD n undef = vs.getD n undef := by
        rw [Array.getD_eq_getD_getElem?, List.getD_eq_getElem?_getD]
        by_cases hlt : n < vs.length
        · rw [Array.getElem?_append_left (by simpa using hlt)]; simp
        · rw [Array.getElem?_append_right (by simpa using hlt), Array.getElem?_replicate, List.getElem?_eq_none (by omega)]
          split <;> rfl
      rw [hget]
      by_cases hlt : n < vs.length
      · have hj : vs[n]? = some (vs.getD n undef) := by rw [List.getD_eq_getElem?_getD, List.getElem?_eq_getElem hlt]; rfl
        have := startR_get hst n _ hj
        rw [Nat.zero_add] at this
        exact this
      · have : σs (kS n) = .none := gs.old (kS n) fun h => by
          have := startKeys_slot h; omega
        rw [this]; trivial
  -- the end
  have fin : ∀ σ' (y' : (outOf F.ps F.rs).Den) ups rs a' w', (finRes E F.rs F.res F.ps).eval σ' [] = some ((y', ups), rs) → okUps ups = true → some y' = some y → Rel B1 fn.ntmps σ' a' w' →
      a'.defers = [] ∧ ∃ v, (results fn a'.tmps).run P w' = .ok v w' ∧ ∃ rvs S' U', Ending.returned v = .returned (retV rvs) ∧ rvs.length = F.rs.length ∧
        OutsR w' S' (F.rs ++ ptrsOf F.ps) y (rvs ++ ptrVals F.ps vs) U' ∧ Post w S U w' S' U' := by
    intro σ' y' ups rs a' w' h1 hu hyy hR
    cases hyy
    obtain ⟨G, hp, hd, hn, hs⟩ := hR
    obtain ⟨us, L, D, hT, hl, hrun⟩ := finRes_sound hE hp hd hn hs ok1 hpins hst ok2 h1
    refine ⟨hd, _, results_run hres hrun, us, SL G L, D.flatMap G.bl, rfl, hl, hT.rep, ?_⟩
    have hbl := hT.blocks hp
    refine ⟨nodup_keys hp (hT.nodup hu) hT.liveD, fun b hb => ⟨(hbl b hb).1, hT.apart hp hu b hb, (hbl b hb).2⟩, fun b hb => .inl (hp.s0 b hb), ?_, fun b hb hbU => hp.frame b hb hbU, hp.size, hp.side⟩
    rintro b (hb | ⟨e, he, hb⟩)
    · exact hp.shared b hb
    · obtain ⟨i1, _, i3⟩ := hp.own _ b (isKey_kX e) (hT.liveL e he) hb
      exact ⟨i1, i3.imp id .inr⟩
  refine calls_of_wp hf hb ?_
  refine Code.wp_mono (fun e a' w' he => ?_) (hwp B1 x y _ w hy hR0)
  obtain ⟨hex, σ', ups, rs, h1, hu, hR⟩ := he
  have h := fin σ' y ups rs a' w' h1 hu rfl hR
  rcases hex with rfl | rfl
  · exact h
  · exact h

theorem refines_of (hE : EnvTy P E) (hF : FnsOK P E) (hm : P.follows .mixedOrders = true) {f : FuncId} {fn : Func} {c : Code} (hf : P.funcs[f]? = some fn) (hb : fn.body = some c) (hN : E.n = fn.ntmps) (F : Fin) (hres : fn.results = F.res.toArray)
    (hok : F.ok fn.ntmps = true) (an : An (outOf F.ps F.rs)) (hA : AnOK E F c an) {m : (rowOf F.ps).Den → Option (outOf F.ps F.rs).Den} (hfn : ∀ x, evalFn E F c an x = m x) : Refines P f ⟨F.ps, F.rs, m⟩ := by
  refine refines_wp hE hf hb F hres hok fun B x y a w hy hR => ?_
  have hev := (hfn x).trans hy
  unfold evalFn at hev
  refine evalC_sound hE hN (callOK hF) hm F (fun p σ x ups rs a w hpo he hu hR => pat_sound p σ x ups rs a w hpo he hu hR) c an hA hev hR ?_ ?_
  · intro e σ' a' w' he hR
    cases e with
    | exit id => cases he
    | normal =>
      unfold finK at he
      obtain ⟨⟨y', ups⟩, rs, h1, h2⟩ := T.run_eval _ he
      cases hu : okUps ups
      · simp only [hu] at h2; cases h2
      · simp only [hu, cond_true] at h2
        cases h2
        exact ⟨.inl rfl, σ', ups, rs, h1, hu, hR⟩
    | ret =>
      unfold finK at he
      obtain ⟨⟨y', ups⟩, rs, h1, h2⟩ := T.run_eval _ he
      cases hu : okUps ups
      · simp only [hu] at h2; cases h2
      · simp only [hu, cond_true] at h2
        cases h2
        exact ⟨.inr rfl, σ', ups, rs, h1, hu, hR⟩
  · intro σ' y' ups rs a' w' h1 hu h2 hR
    cases h2
    exact ⟨.inr rfl, σ', ups, rs, h1, hu, hR⟩
end
end Rg
