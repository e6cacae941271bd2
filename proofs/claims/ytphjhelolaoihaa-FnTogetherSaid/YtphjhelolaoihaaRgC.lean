/- The ring framework, part I: loads, indices, lengths. -/
import Derived.Test.YtphjhelolaoihaaRgB
import Derived.Laws.Tables
import Derived.Laws.Append
import Derived.Laws.AppendOwn
import Derived.Laws.IdiomStrings
import Derived.Laws.BytesString
import Derived.Laws.MakeOwn
set_option linter.all false
namespace Rg
open Go

section
variable {P : Program} {E : Env} {B : Base} {N : Nat} {w : World} {σ : Sg} {G : Gh} {a : Act}
variable {K : Act → World → Prop} {Q : Exit → Act → World → Prop} {ws : List (Nat × KV)} {rs0 rs : List Nat}

theorem take_drop_rel {cs : List LC} {vs : List Value} (h : RelCs w σ G cs vs) (off n : Nat) : RelCs w σ G ((cs.drop off).take n) ((vs.drop off).take n) := (h.drop off).take n

theorem lLoad_sound (hE : EnvTy P E) (c : Cx B N σ a w G) {t : TypeId} {s s' : SV} {v : Value} {rs rs' : List Nat} (hv : RelSV w σ G s v) (h : (lLoad E t s).eval σ rs = some (s', rs')) :
    ∃ u, (Instr.loadAt t v).run P w = .ok u w ∧ RelSV w σ G s' u := by
  unfold lLoad at h
  split at h
  · exact (fail_eval h).elim
  · rename_i r ht
    obtain ⟨⟨cs, off⟩, r1, h1, h2⟩ := T.eval_bind _ _ h
    obtain ⟨b, oo, arr, el, fz, vs, hp, hh, hrow, hr⟩ := cellsAt_sound c hv h1
    have hF := hE.ty t r ht
    have hag := hF.isAgg w
    subst hp
    cases hA : r.isAgg
    · rw [hA] at h2
      simp only [cond_false] at h2
      split at h2
      · rename_i cc hcc
        have := pure_eq h2
        subst this
        obtain ⟨u, hu, hru⟩ := hr.get hcc
        refine ⟨u, ?_, hru⟩
        have hcell : w.cell? ⟨b, oo + off, none⟩ = some u := cell_at hh (hrow off u hu)
        simp [Instr.loadAt, Instr.sureAddr, loadVar, hag, hA, hcell]
      · exact (fail_eval h2).elim
    · rw [hA] at h2
      simp only [cond_true] at h2
      obtain ⟨hle, h2⟩ := chk_eval h2
      have hle' : off + r.size ≤ cs.length := of_decide_eq_true hle
      have := pure_eq h2
      subst this
      have hlen := hr.length
      have hl : ((vs.drop off).take r.size).length = r.size := by simp; omega
      refine ⟨.agg ((vs.drop off).take r.size).toArray, ?_, _, rfl, take_drop_rel hr off r.size⟩
      have hcells : ∀ j u, ((vs.drop off).take r.size)[j]? = some u → w.cell? ((⟨b, oo + off, none⟩ : Addr).add j) = some u := by
        intro j u hj
        rw [addr_add]
        have hjl : j < r.size := by
          rcases Nat.lt_or_ge j r.size with h | h
          · exact h
          · rw [List.getElem?_eq_none (by omega)] at hj; cases hj
        rw [List.getElem?_take_of_lt hjl, List.getElem?_drop] at hj
        have := hrow (off + j) u hj
        rw [← Nat.add_assoc] at this
        exact cell_at hh this
      have hrun := run_loadCells_list (P := P) w ⟨b, oo + off, none⟩ _ hcells
      rw [hl] at hrun
      simp [Instr.loadAt, Instr.sureAddr, loadVar, hag, hA, hF.sizeOf w, hrun]

theorem good_load (hE : EnvTy P E) (c : Cx B N σ a w G) {o : Oper} {t : TypeId} {x : Operand} (ho : o.op = .load t x) (hlt : ∀ d, o.dst = some d → d < N)
    (h : (lop E o).eval σ rs0 = some (ws, rs)) (hK : ∀ a' w', Rel B N (puts σ ws) a' w' → K a' w') : o.wp P a w K Q := by
  unfold lop at h; rw [ho] at h
  obtain ⟨s, r1, h1, h2⟩ := T.eval_bind _ _ h
  obtain ⟨s', r2, h3, h4⟩ := T.eval_bind _ _ h2
  obtain ⟨u, hrun, hu⟩ := lLoad_sound hE c (c.opd h1) h3
  exact c.value hlt (v := u) (by simp [execOp, ho, hrun]) hu (pure_eq h4).symm hK

theorem inB_iff {i : Int} {n : Nat} : inB i n = true ↔ 0 ≤ i ∧ i < (n : Int) := by simp [inB]

/-- What a slice's type says. -/
theorem slice_und (hE : EnvTy P E) {t : TypeId} {n : Nat} (h : Nat.beq (szE E t) n = true) (hn : 1 ≤ n) : ∃ q e ie z, E.ty t = some (.sl q) ∧ q.size = n ∧ P.underlying t = some (.slice e) ∧ P.info? e = some ie ∧
    ie.size = n ∧ ie.bytes = E.eb t ∧ ie.zero = some z ∧ z.cells = q.zvs.toArray ∧ 1 ≤ ie.bytes ∧ (q = .int .u8 → P.underlying e = some (.int .u8)) := by
  have h' := Nat.eq_of_beq_eq_true h
  unfold szE at h'
  split at h'
  · rename_i q hq
    obtain ⟨d, hd, e, ie, z, rfl, h1, h2, h3, h4, h5, h6, h7, h8⟩ := (hE.ty t _ hq).und
    exact ⟨q, e, ie, z, hq, h', hd, h1, by omega, h3, h4, h5, h8, h7⟩
  · omega

theorem good_indexAddr (hE : EnvTy P E) (c : Cx B N σ a w G) {o : Oper} {t : TypeId} {x y : Operand} (ho : o.op = .indexAddr t x y) (hlt : ∀ d, o.dst = some d → d < N)
    (h : (lop E o).eval σ rs0 = some (ws, rs)) (hK : ∀ a' w', Rel B N (puts σ ws) a' w' → K a' w') : o.wp P a w K Q := by
  unfold lop at h; rw [ho] at h
  obtain ⟨s, r1, h1, h2⟩ := T.eval_bind _ _ h
  obtain ⟨s', r2, h3, h4⟩ := T.eval_bind _ _ h2
  have hx := c.opd h1
  have hy := c.opd h3
  have run : ∀ {k : IntKind} {i : Int} {b oo n cap sz : Nat}, a.eval y = .int k i → a.eval x = .slice (some ⟨b, oo, none⟩) n cap → Nat.beq (szE E t) sz = true → 1 ≤ sz → inB i n = true →
      (execOp a.eval o).run P w = .ok (.value (.pointer (some ⟨b, oo + i.toNat * sz, none⟩))) w := by
    intro k i b oo n cap sz e1 e2 hsz hs1 hi
    obtain ⟨q, e, ie, z, _, _, hu, hi', his, _⟩ := slice_und hE hsz hs1
    have hi2 := inB_iff.1 hi
    simp [execOp, ho, e1, e2, Instr.indexAt, asIntOf, underlying, hu, Go.sizeOf, typeInfo, hi', his, hi2, addr_add]
  split at h4
  · rename_i k i
    have ey := cell_int hy
    split at h4
    · rename_i r xs
      obtain ⟨hsz, h4⟩ := chk_eval h4
      obtain ⟨hs1, hsz⟩ := (Bool.and_eq_true _ _).mp hsz
      obtain ⟨hb, h4⟩ := chk_eval h4
      obtain ⟨_, A, cap, hv, hl, hh⟩ := hx
      have hi2 := inB_iff.1 hb
      have hil : i.toNat < xs.length := by omega
      rcases hh with ⟨hA, hc0⟩ | ⟨b, oo, arr, el, fz, hA, hS, hheap, hrows⟩
      · exfalso; omega
      · have ev : a.eval x = .slice (some ⟨b, oo, none⟩) xs.length cap := by
          have : a.eval x = .slice A xs.length cap := by simpa using hv
          rw [this, hA]
        have hget : xs[i.toNat]? = some (xi r xs i) := by
          unfold xi
          rw [List.getD_eq_getElem?_getD, List.getElem?_eq_getElem hil]; rfl
        obtain ⟨vs, U1, U2, U3, hUU, hrow, hor⟩ := hrows.get hget
        have hU2 : U2 = [] := by
          have := hUU.symm
          simp at this
          exact this.2.1
        subst hU2
        refine c.value hlt (run ey ev hsz (Nat.le_of_ble_eq_true hs1) hb) ?_ (pure_eq h4).symm hK
        exact ⟨b, oo + i.toNat * r.size, arr, el, fz, vs, by simp, hS, hheap, hrow, hor⟩
    · rename_i e
      have h5 := get_eval h4
      split at h5
      · rename_i r xs hk
        obtain ⟨hsz, h5⟩ := chk_eval h5
        obtain ⟨hs1, hsz⟩ := (Bool.and_eq_true _ _).mp hsz
        obtain ⟨hb, h5⟩ := chk_eval h5
        have hi2 := inB_iff.1 hb
        have hil : i.toNat < xs.length := by omega
        have ev := hdl_len (w := w) hx hk
        obtain ⟨A, cap, h6, h7, h8⟩ := c.hp.ex e r xs hk
        rcases h8 with ⟨hA, hc0, _⟩ | ⟨b, oo, arr, el, fz, U', hA, _⟩
        · exfalso; omega
        · unfold hdrOf at h6 ev
          cases ha : G.at_ (kX e) with
          | none => rw [ha] at h6; simp at h6; rw [hA] at h6; simp at h6
          | some p =>
            obtain ⟨b', o', c'⟩ := p
            rw [ha] at ev
            refine c.value hlt (run ey ev hsz (Nat.le_of_ble_eq_true hs1) hb) ?_ (pure_eq h5).symm hK
            refine ⟨hx.1, fun r' xs' hk' => ?_⟩
            rw [hk] at hk'; cases hk'
            exact ⟨hi2.1, hil, b', o', c', ha, by simp⟩
      · rename_i r xs hk
        obtain ⟨hsz, h5⟩ := chk_eval h5
        obtain ⟨hs1, hsz⟩ := (Bool.and_eq_true _ _).mp hsz
        obtain ⟨hb, h5⟩ := chk_eval h5
        have ev := hdl_len_fz (w := w) hx hk
        obtain ⟨_, A, cap, hv, hl, hh⟩ := c.hp.fz e r xs hk
        have hi2 := inB_iff.1 hb
        have hil : i.toNat < xs.length := by omega
        rcases hh with ⟨hA, hc0⟩ | ⟨b, oo, arr, el, fz, hA, hS, hheap, hrows⟩
        · exfalso; omega
        · have ev' : a.eval x = .slice (some ⟨b, oo, none⟩) xs.length cap := by
            have : hdrOf G (kX e) xs.length = .slice A xs.length cap := by simpa using hv
            rw [ev, this, hA]
          have hget : xs[i.toNat]? = some (xi r xs i) := by
            unfold xi
            rw [List.getD_eq_getElem?_getD, List.getElem?_eq_getElem hil]; rfl
          obtain ⟨vs, U1, U2, U3, hUU, hrow, hor⟩ := hrows.get hget
          have hU2 : U2 = [] := by
            have := hUU.symm
            simp at this
            exact this.2.1
          subst hU2
          refine c.value hlt (run ey ev' hsz (Nat.le_of_ble_eq_true hs1) hb) ?_ (pure_eq h5).symm hK
          exact ⟨b, oo + i.toNat * r.size, arr, el, fz, vs, by simp, hS, hheap, hrow, hor⟩
      · exact (fail_eval h5).elim
    · exact (fail_eval h4).elim
  · exact (fail_eval h4).elim

theorem good_index (hE : EnvTy P E) (c : Cx B N σ a w G) {o : Oper} {t : TypeId} {x y : Operand} (ho : o.op = .index t x y) (hlt : ∀ d, o.dst = some d → d < N)
    (h : (lop E o).eval σ rs0 = some (ws, rs)) (hK : ∀ a' w', Rel B N (puts σ ws) a' w' → K a' w') : o.wp P a w K Q := by
  unfold lop at h; rw [ho] at h
  obtain ⟨s, r1, h1, h2⟩ := T.eval_bind _ _ h
  obtain ⟨s', r2, h3, h4⟩ := T.eval_bind _ _ h2
  have hx := c.opd h1
  have hy := c.opd h3
  split at h4
  · rename_i m k i
    split at h4
    · rename_i ht
      have e1 := cell_str hx
      have e2 := cell_int hy
      obtain ⟨hb, h4⟩ := chk_eval h4
      have hi2 := inB_iff.1 hb
      obtain ⟨d, hd, htd⟩ := (hE.ty t .str ht).und
      simp only [TyD] at htd
      subst htd
      have hil : i.toNat < m.size := by omega
      refine c.value hlt (v := .int .u8 (sAt m i)) ?_ rel_int (pure_eq h4).symm hK
      simp [execOp, ho, e1, e2, Instr.index, asIntOf, underlying, hd, hi2, sAt]
      rfl
    · exact (fail_eval h4).elim
  · exact (fail_eval h4).elim

theorem elems_sound (c : Cx B N σ a w G) {s : SV} {v : Value} {ys : (r : Ty) × List r.Den} {rs rs' : List Nat} (hv : RelSV w σ G s v) (h : (elems s).eval σ rs = some (ys, rs')) :
    ∃ A cap, v = .slice A ys.2.length cap ∧ ((ys.2 = [] ∧ A = none) ∨ ∃ b oo arr el fz S, A = some ⟨b, oo, none⟩ ∧ b < w.heap.size ∧ w.heap[b]? = some (.cells arr el fz) ∧ (∀ b, G.S b → S b) ∧
      (S = G.S ∨ ys.1.plain = true) ∧ Rows (ORep w G.S ys.1) arr ys.1.size ys.2 oo []) := by
  have fromSl : ∀ {r : Ty} {xs : List r.Den} {v : Value}, ORep w G.S (.sl r) xs [v] [] → ∃ A cap, v = .slice A xs.length cap ∧ ((xs = [] ∧ A = none) ∨ ∃ b oo arr el fz S, A = some ⟨b, oo, none⟩ ∧ b < w.heap.size ∧ w.heap[b]? = some (.cells arr el fz) ∧ (∀ b, G.S b → S b) ∧
      (S = G.S ∨ r.plain = true) ∧ Rows (ORep w G.S r) arr r.size xs oo []) := by
    rintro r xs v ⟨_, A, cap, hv, hl, hh⟩
    refine ⟨A, cap, by simpa using hv, ?_⟩
    rcases hh with ⟨hA, hc0⟩ | ⟨b, oo, arr, el, fz, hA, hS, hheap, hrows⟩
    · refine .inl ⟨?_, hA⟩
      cases xs with
      | nil => rfl
      | cons _ _ => simp at hl; omega
    · exact .inr ⟨b, oo, arr, el, fz, G.S, hA, (c.hp.shared b hS).1, hheap, fun _ h => h, .inl rfl, hrows⟩
  unfold elems at h
  split at h
  · have := pure_eq h
    subst this
    exact fromSl hv
  · have := pure_eq h
    subst this
    have hv : v = .slice none 0 0 := hv
    exact ⟨none, 0, hv, .inl ⟨rfl, rfl⟩⟩
  · rename_i e
    have h2 := get_eval h
    split at h2
    · rename_i r xs hk
      have := pure_eq h2
      subst this
      have ev := hdl_len (w := w) hv hk
      obtain ⟨A, cap, h6, h7, h8⟩ := c.hp.ex e r xs hk
      refine ⟨A, cap, by rw [ev]; simpa using h6, ?_⟩
      rcases h8 with ⟨hA, hc0, _⟩ | ⟨b, oo, arr, el, fz, U', hA, hheap, _, _, hU, hrows⟩
      · refine .inl ⟨?_, hA⟩
        cases xs with
        | nil => rfl
        | cons _ _ => simp at h7; omega
      · have hpl := c.plain e r xs hk
        have hown := c.hp.own (kX e) b (isKey_kX e) (by rw [hk]; rfl) (by rw [hU]; simp)
        refine .inr ⟨b, oo, arr, el, fz, G.S, hA, hown.1, hheap, fun _ h => h, .inl rfl, ?_⟩
        have hU' : ∀ {xs : List r.Den} {o : Nat} {U : List Nat}, Rows (ORep w G.S r) arr r.size xs o U → U = [] := by
          intro xs
          induction xs with
          | nil => intro o U h; exact h
          | cons x xs ih =>
            rintro o U ⟨cs, U1, U2, hu, _, ha, h⟩
            rw [hu, ORep.plain hpl ha, ih h]; rfl
        have := hU' hrows
        rw [← this]; exact hrows
    · rename_i r xs hk
      have := pure_eq h2
      subst this
      have ev := hdl_len_fz (w := w) hv hk
      rw [ev]
      exact fromSl (c.hp.fz e r xs hk)
    · exact (fail_eval h2).elim
  · exact (fail_eval h).elim

end
end Rg

/- The ring framework, part J: lengths, least and greatest, conversions; what is made. -/
namespace Rg
open Go

section
variable {P : Program} {E : Env} {B : Base} {N : Nat} {w w' : World} {σ : Sg} {G G' : Gh} {a : Act}
variable {K : Act → World → Prop} {Q : Exit → Act → World → Prop} {ws : List (Nat × KV)} {rs0 rs : List Nat}

theorem lLen_sound (hE : EnvTy P E) (c : Cx B N σ a w G) {t ty : TypeId} {s : SV} {v : Value} {cc : LC} {rs rs' : List Nat} (hv : RelSV w σ G s v) (h : (lLen E t s).eval σ rs = some (cc, rs')) :
    ∃ u, (Builtin.len_ #[t] ty #[v]).run P w = .ok u w ∧ RelLC w σ G cc u := by
  unfold lLen at h
  split at h
  · rename_i m
    split at h
    · rename_i ht
      have := pure_eq h
      subst this
      have e1 := cell_str hv
      subst e1
      obtain ⟨d, hd, htd⟩ := (hE.ty t .str ht).und
      simp only [TyD] at htd
      subst htd
      exact ⟨_, by simp [Builtin.len_, underlying, hd, goInt], rfl, rfl⟩
    · exact (fail_eval h).elim
  · split at h
    · rename_i q ht
      obtain ⟨ys, r1, h1, h2⟩ := T.eval_bind _ _ h
      have := pure_eq h2
      subst this
      obtain ⟨A, cap, hv', _⟩ := elems_sound c hv h1
      subst hv'
      obtain ⟨d, hd, e, ie, z, rfl, _⟩ := (hE.ty t _ ht).und
      exact ⟨_, by simp [Builtin.len_, underlying, hd, goInt], rfl, rfl⟩
    · exact (fail_eval h).elim

/-- Something is made: memory and some keys change, a slot is written. -/
theorem Cx.made (c : Cx B N σ a w G) {o : Oper} {σ1 : Sg} {kv : KV} {v : Value} {d : Nat} (hdst : o.dst = some d) (hlt : d < N)
    (hrun : (execOp a.eval o).run P w = .ok (.value v) w') (m : Mon w σ G w' σ1 G') (hp : Hp B σ1 w' G') (hslot : ∀ n, σ1 (kS n) = σ (kS n)) (hv : RelKV w' σ1 G' kv v)
    (hws : puts σ ws = put σ1 (kS d) kv) (hK : ∀ a' w', Rel B N (puts σ ws) a' w' → K a' w') : o.wp P a w K Q := by
  unfold Oper.wp
  rw [hrun]
  show K (a.put o.dst v) w'
  refine hK _ _ ?_
  rw [hws]
  have he : ∀ k, isKey k → put σ1 (kS d) kv k = σ1 k := fun k hk => put_ne (isKey_ne_kS hk d)
  have m2 : Mon w σ G w' (put σ1 (kS d) kv) G' := by
    refine ⟨m.S, m.heap, fun k hk hn => ?_, fun n p hn hp => ?_, fun n p hn hx => ?_⟩
    · rw [he k hk]; exact m.key k hk hn
    · rw [he _ (isKey_kX n)] at hp; exact m.len n p hn hp
    · rw [he _ (isKey_kX n)] at hx; exact m.exx n p hn hx
  refine Rel.close c.hd c.hn c.hs m2 (hp.slots he) (fun d' h => by rw [hdst] at h; cases h; exact hlt) (fun n hne => ?_) (fun d' h => ?_)
  · rw [put_ne fun e => hne (by rw [hdst, kS_inj e])]; exact hslot n
  · rw [hdst] at h; cases h
    rw [put_eq]
    exact RelKV.mon (Mon.slots he) hv

theorem newB_eval {d : Nat} {ws ws' : List (Nat × KV)} {rs rs' : List Nat} (h : (newB d ws).eval σ rs = some (ws', rs')) : d < 1000000000 ∧ σ (kB d) = .none ∧ ws' = ws := by
  obtain ⟨hl, h⟩ := chk_eval h
  refine ⟨Nat.blt_eq ▸ hl, ?_⟩
  have h2 := get_eval h
  split at h2
  · rename_i hk; exact ⟨hk, (pure_eq h2).symm⟩
  · exact (fail_eval h2).elim

theorem newX_eval {d : Nat} {ws ws' : List (Nat × KV)} {rs rs' : List Nat} (h : (newX d ws).eval σ rs = some (ws', rs')) : d < 1000000000 ∧ σ (kX d) = .none ∧ ws' = ws := by
  obtain ⟨hl, h⟩ := chk_eval h
  refine ⟨Nat.blt_eq ▸ hl, ?_⟩
  have h2 := get_eval h
  split at h2
  · rename_i hk; exact ⟨hk, (pure_eq h2).symm⟩
  · exact (fail_eval h2).elim

theorem ptr_new {d : Nat} {cs : List LC} {n : Nat} : RelSV w (put σ (kB d) (.box cs)) (G.set (kB d) (some (n, 0, 0)) [n]) (.ptr d 0) (.pointer (some ⟨n, 0, none⟩)) :=
  ⟨by rw [put_eq]; simp, n, 0, 0, by simp [Gh.set], rfl⟩

theorem hdl_new {d : Nat} {r : Ty} {xs : List r.Den} {p : Option (Nat × Nat × Nat)} {bl : List Nat} {v : Value} (hv : v = hdrOf (G.set (kX d) p bl) (kX d) xs.length) :
    RelSV w (put σ (kX d) (.ex r xs)) (G.set (kX d) p bl) (.cell (.hdl d)) v := by
  refine ⟨by rw [put_eq]; simp, ?_, fun n z hn => ?_⟩
  · rw [hv]; unfold hdrOf; split <;> exact ⟨_, _, _, rfl⟩
  rw [put_eq] at hn
  simp only [KV.len?, Option.some.injEq, Prod.mk.injEq] at hn
  rw [hv, hn.1]

theorem good_alloc (hE : EnvTy P E) (c : Cx B N σ a w G) {o : Oper} {t : TypeId} (ho : o.op = .alloc t) (hlt : ∀ d, o.dst = some d → d < N)
    (h : (lop E o).eval σ rs0 = some (ws, rs)) (hK : ∀ a' w', Rel B N (puts σ ws) a' w' → K a' w') : o.wp P a w K Q := by
  unfold lop at h; rw [ho] at h
  simp only at h
  split at h
  · rename_i d r hd ht
    obtain ⟨hlow, hnone, rfl⟩ := newB_eval h
    obtain ⟨i, z, hi, hs, hz, hzc, _⟩ := (hE.ty t r ht).info
    obtain ⟨hp, m⟩ := c.hp.newBox (w' := { w with heap := w.heap.push (.cells z.cells t) }) (cs := r.zcs) (vs := r.zvs) (arr := z.cells) (el := t) hlow hnone rfl (by rw [hzc]) RelCs.zcs
    refine c.made hd (hlt d hd) (v := .pointer (some ⟨w.heap.size, 0, none⟩)) ?_ m hp (fun n => put_ne (kS_ne_kB n d)) (kv := .sv (.ptr d 0)) (ptr_new (w := w)) rfl hK
    simp [execOp, ho, Instr.alloc, zeroValue, typeInfo, hi, hz, newVar, newRow]
  · exact (fail_eval h).elim

theorem ORep.one : ∀ {t : Ty} {S : Nat → Prop} {x : t.Den} {vs : List Value} {U : List Nat}, ORep w S t x vs U → ∀ v, v ∈ vs → v.oneCell' = true
  | .int _, _, _, _, _, h, v, hv => by rw [h.1] at hv; simp at hv; subst hv; rfl
  | .bool, _, _, _, _, h, v, hv => by rw [h.1] at hv; simp at hv; subst hv; rfl
  | .str, _, _, _, _, h, v, hv => by rw [h.1] at hv; simp at hv; subst hv; rfl
  | .sl _, _, _, _, _, h, v, hv => by
    obtain ⟨_, A, cap, e, _⟩ := h
    rw [e] at hv; simp at hv; subst hv; rfl
  | .ow _, _, _, _, _, h, v, hv => by
    obtain ⟨A, cap, e, _⟩ := h
    rw [e] at hv; simp at hv; subst hv; rfl
  | .nil, _, _, _, _, h, v, hv => by rw [h.1] at hv; simp at hv
  | .cons t r, _, _, _, _, h, v, hv => by
    obtain ⟨v1, v2, U1, U2, e, _, h1, h2⟩ := h
    rw [e] at hv
    rcases List.mem_append.1 hv with hv | hv
    · exact ORep.one h1 v hv
    · exact ORep.one h2 v hv

theorem ORep.one1 {t : Ty} {S : Nat → Prop} {x : t.Den} {v : Value} {U : List Nat} (h : ORep w S t x [v] U) : v.oneCell' = true := ORep.one h v (by simp)

theorem RelLC.one {cc : LC} {v : Value} (h : RelLC w σ G cc v) : v.oneCell' = true := by
  cases cc with
  | dat t x => exact ORep.one1 h
  | nl r => have h : v = .slice none 0 0 := h; rw [h]; rfl
  | hdl e => obtain ⟨_, ⟨A, n, cap, hv⟩, _⟩ := h; rw [hv]; rfl

theorem RelCs.one : ∀ {cs : List LC} {vs : List Value}, RelCs w σ G cs vs → ∀ v, v ∈ vs → v.oneCell' = true
  | [], [], _, v, hv => by simp at hv
  | _ :: _, u :: us, h, v, hv => by
    rcases List.mem_cons.1 hv with e | hv
    · rw [e]; exact h.1.one
    · exact RelCs.one h.2 v hv

theorem cells_one {v : Value} (h : v.oneCell' = true) : v.cells = #[v] := by
  cases v <;> first | rfl | (simp [Value.oneCell'] at h)

theorem svCells_sound {s : SV} {v : Value} {cs : List LC} {rs rs' : List Nat} (hv : RelSV w σ G s v) (h : (svCells s).eval σ rs = some (cs, rs')) :
    RelCs w σ G cs v.cells.toList := by
  cases s with
  | cell cc =>
    have := pure_eq h
    subst this
    rw [cells_one (RelLC.one hv)]
    exact ⟨hv, trivial⟩
  | agg l =>
    have := pure_eq h
    subst this
    obtain ⟨vs, e, hr⟩ := hv
    subst e
    simpa [Value.cells] using hr
  | undef => exact (fail_eval h).elim
  | ptr _ _ => exact (fail_eval h).elim
  | elP _ _ _ => exact (fail_eval h).elim
  | elX _ _ _ => exact (fail_eval h).elim
  | clo _ _ => exact (fail_eval h).elim

theorem good_box (c : Cx B N σ a w G) {o : Oper} {t : TypeId} {x : Operand} (ho : o.op = .box t x) (hlt : ∀ d, o.dst = some d → d < N)
    (h : (lop E o).eval σ rs0 = some (ws, rs)) (hK : ∀ a' w', Rel B N (puts σ ws) a' w' → K a' w') : o.wp P a w K Q := by
  unfold lop at h; rw [ho] at h
  simp only at h
  split at h
  · rename_i d r hd ht
    obtain ⟨s, r1, h1, h2⟩ := T.eval_bind _ _ h
    obtain ⟨cs, r2, h3, h4⟩ := T.eval_bind _ _ h2
    obtain ⟨_, h4⟩ := chk_eval h4
    obtain ⟨hlow, hnone, rfl⟩ := newB_eval h4
    obtain ⟨hp, m⟩ := c.hp.newBox (w' := { w with heap := w.heap.push (.cells (a.eval x).cells t) }) (cs := cs) (vs := (a.eval x).cells.toList) (arr := (a.eval x).cells) (el := t) hlow hnone rfl rfl (svCells_sound (c.opd h1) h3)
    refine c.made hd (hlt d hd) (v := .pointer (some ⟨w.heap.size, 0, none⟩)) ?_ m hp (fun n => put_ne (kS_ne_kB n d)) (kv := .sv (.ptr d 0)) (ptr_new (w := w)) rfl hK
    simp [execOp, ho, Instr.box, newVar, newRow]
  · exact (fail_eval h).elim

/-! ### stores -/
/-- Cells of a row are written. -/
theorem run_storeCells_free (b oo : Nat) (el : TypeId) (fz : Nat × Nat) : ∀ (vs : List Value) (i : Nat) (cur : Array Value) (w : World), w.heap[b]? = some (.cells cur el fz) → isFree fz cur.size →
    oo + i + vs.length ≤ cur.size → (∀ v, v ∈ vs → v.oneCell' = true) →
    ∃ cur', (storeCells ⟨b, oo, none⟩ vs i).run P w = .ok () (w.setRow b cur') ∧ cur'.size = cur.size ∧
      ∀ j, cur'[j]? = if oo + i ≤ j ∧ j < oo + i + vs.length then vs[j - (oo + i)]? else cur[j]?
  | [], i, cur, w, hb, _, _, _ => ⟨cur, by simp [storeCells, setRow_self w b cur el fz hb], rfl, fun j => by rw [if_neg]; simp⟩
  | v :: vs, i, cur, w, hb, hf, hl, h1 => by
    have hi : oo + i < cur.size := by simp at hl; omega
    have hcell : w.cell? ⟨b, oo + i, none⟩ = some cur[oo + i] := cell_at hb (Array.getElem?_eq_getElem hi)
    have hfro : w.frozen? ⟨b, oo + i, none⟩ = false := by
      have := hf (oo + i) hi
      obtain ⟨lo, hi'⟩ := fz
      simp only [World.frozen?, hb, Bool.and_eq_false_iff, decide_eq_false_iff_not]
      simp only at this
      omega
    have hst : (store ((⟨b, oo, none⟩ : Addr).add i) v).run P w = .ok () (w.setRow b (cur.setIfInBounds (oo + i) v)) := by
      rw [addr_add, run_store P w _ v _ (h1 v (by simp)), hcell]
      simp [hfro, setCell_eq_setRow w b (oo + i) cur el fz v hb]
    obtain ⟨cur', hrun, hsz, hget⟩ := run_storeCells_free b oo el fz vs (i + 1) (cur.setIfInBounds (oo + i) v) (w.setRow b (cur.setIfInBounds (oo + i) v)) (setRow_heap w b cur _ el _ hb) (by simpa using hf) (by simp at hl ⊢; omega) (fun x hx => h1 x (by simp [hx]))
    refine ⟨cur', by simp only [storeCells, Sem.run_bind, hst, Result.andThen_ok, hrun, setRow_setRow], by simpa using hsz, fun j => ?_⟩
    rw [hget j]
    by_cases hj : oo + i ≤ j ∧ j < oo + i + (v :: vs).length
    · rw [if_pos hj]
      by_cases hj2 : j = oo + i
      · subst hj2
        rw [if_neg (by omega)]
        simp [hi]
      · rw [if_pos (by simp at hj ⊢; omega)]
        have : j - (oo + i) = (j - (oo + (i + 1))) + 1 := by omega
        rw [this]; simp
    · rw [if_neg hj, if_neg (by simp at hj ⊢; omega)]
      have : oo + i ≠ j := by simp at hj; omega
      simp [Array.getElem?_setIfInBounds, this]

end
end Rg

/- The ring framework, part K: stores. -/
namespace Rg
open Go

section
variable {P : Program} {E : Env} {B : Base} {N : Nat} {w w' : World} {σ : Sg} {G G' : Gh} {a : Act}
variable {K : Act → World → Prop} {Q : Exit → Act → World → Prop} {ws : List (Nat × KV)} {rs0 rs : List Nat}

theorem Hp.writeBox (h : Hp B σ w G) {n : Nat} {cs cs' : List LC} (hk : σ (kB n) = .box cs) {b oo : Nat} {arr cur' : Array Value} {el : TypeId} {fz : Nat × Nat} (ha : G.at_ (kB n) = some (b, oo, 0))
    (hb : G.bl (kB n) = [b]) (hh : w.heap[b]? = some (.cells arr el fz)) (hf : isFree fz arr.size) (hsz : cur'.size = arr.size) (hl : oo + cs'.length ≤ arr.size) {vs : List Value}
    (hrow : rowAt' cur' oo vs) (hr : RelCs w σ G cs' vs) :
    Hp B (put σ (kB n) (.box cs')) (w.setRow b cur') G ∧ Mon w σ G (w.setRow b cur') (put σ (kB n) (.box cs')) G := by
  have live : isLive (σ (kB n)) = true := by rw [hk]; rfl
  have own := h.own (kB n) b (isKey_kB n) live (by rw [hb]; simp)
  have other : ∀ j, j ≠ b → (w.setRow b cur').heap[j]? = w.heap[j]? := fun j hj => setRow_other w b j cur' hj
  have m : Mon w σ G (w.setRow b cur') (put σ (kB n) (.box cs')) G := by
    refine ⟨fun _ h => h, fun j hj => other j fun e => own.2.1 (e ▸ hj), fun k _ hkk => ⟨?_, rfl⟩, fun m p hm hp => ?_, fun m p hm hx => ?_⟩
    · by_cases e : k = kB n
      · subst e; rw [put_eq]; simp
      · rw [put_ne e]; exact hkk
    · rw [put_ne (fun e => kB_ne_kX n m e.symm)] at hp; exact hp
    · rw [put_ne (fun e => kB_ne_kX n m e.symm)] at hx; exact hx
  refine ⟨h.change m (fun k => k = kB n) (fun k _ hk => ⟨put_ne hk, rfl, rfl⟩) ?_ ?_ ?_ ?_ ?_ ?_ ?_ ?_ ?_ ?_ ?_ (pin_old fun e => by rw [e] at live; cases live), m⟩
  · intro k bb hkk hne hl' hbb
    refine ⟨other bb fun e => hne ?_, (h.own k bb hkk hl' hbb).2.1⟩
    subst e
    exact h.apart k (kB n) bb hkk (isKey_kB n) hl' live hbb (by rw [hb]; simp)
  · intro n' cs2 hn' hx
    obtain rfl := kB_inj hn'
    rw [put_eq] at hx; cases hx
    exact ⟨b, oo, cur', el, fz, ha, hb, setRow_heap w b arr cur' el fz hh, by rw [hsz]; exact hf, by rw [hsz]; exact hl, vs, hrow, hr.mon m⟩
  · intro n' r xs e; exact absurd e.symm (kB_ne_kX _ _)
  · intro n' r xs e; exact absurd e.symm (kB_ne_kX _ _)
  · intro k bb _ e _ hbb
    subst e
    rw [hb] at hbb; simp at hbb; subst hbb
    exact ⟨by rw [setRow_size]; exact own.1, own.2.1, own.2.2⟩
  · intro k _ e _; subst e; rw [hb]; simp
  · intro k k' bb hkk hkk' e hl1 hl2 hb1 hb2
    subst e
    by_cases e' : k' = kB n
    · exact e'.symm
    · rw [put_ne e'] at hl2
      exact h.apart _ _ bb hkk hkk' live hl2 hb1 hb2
  · intro bb hbb; rw [setRow_size]; exact h.shared bb hbb
  · intro bb hbb hW
    refine other bb fun e => ?_
    subst e
    rcases own.2.2 with h' | h'
    · omega
    · exact hW h'
  · rw [setRow_size]; exact Nat.le_refl _
  · intro n' r xs e; exact absurd e.symm (kB_ne_kX _ _)

/-- Plain rows have no blocks of their own. -/
theorem Rows.plainU {S : Nat → Prop} {r : Ty} (hp : r.plain = true) {arr : Array Value} {sz : Nat} : ∀ {xs : List r.Den} {o : Nat} {U : List Nat}, Rows (ORep w S r) arr sz xs o U → U = []
  | [], _, _, h => h
  | _ :: _, _, _, ⟨_, _, _, hu, _, ha, h⟩ => by rw [hu, ORep.plain hp ha, Rows.plainU hp h]; rfl

theorem Hp.writeEx (h : Hp B σ w G) {n : Nat} {r : Ty} {xs xs' : List r.Den} (hk : σ (kX n) = .ex r xs) {b oo cap : Nat} {arr cur' : Array Value} {el : TypeId} {fz : Nat × Nat} (ha : G.at_ (kX n) = some (b, oo, cap))
    (hb : G.bl (kX n) = [b]) (hh : w.heap[b]? = some (.cells arr el fz)) (hf : isFreeR r fz arr.size) (hsz : cur'.size = arr.size) (hc : oo + cap * r.size ≤ arr.size) (hle : xs.length ≤ cap) (hlen : xs'.length = xs.length)
    (hrows : Rows (ORep w G.S r) cur' r.size xs' oo []) :
    Hp B (put σ (kX n) (.ex r xs')) (w.setRow b cur') G ∧ Mon w σ G (w.setRow b cur') (put σ (kX n) (.ex r xs')) G := by
  have live : isLive (σ (kX n)) = true := by rw [hk]; rfl
  have own := h.own (kX n) b (isKey_kX n) live (by rw [hb]; simp)
  have other : ∀ j, j ≠ b → (w.setRow b cur').heap[j]? = w.heap[j]? := fun j hj => setRow_other w b j cur' hj
  have m : Mon w σ G (w.setRow b cur') (put σ (kX n) (.ex r xs')) G := by
    refine ⟨fun _ h => h, fun j hj => other j fun e => own.2.1 (e ▸ hj), fun k _ hkk => ⟨?_, rfl⟩, fun m p hm hp => ?_, fun m p hm hx => ?_⟩
    · by_cases e : k = kX n
      · subst e; rw [put_eq]; simp
      · rw [put_ne e]; exact hkk
    · by_cases e : kX m = kX n
      · rw [e, put_eq] at hp; rw [e, hk]
        simp only [KV.len?] at hp ⊢
        rw [← hp, hlen]
      · rw [put_ne e] at hp; exact hp
    · by_cases e : kX m = kX n
      · rw [e, put_eq] at hx
        rw [e, hk]
        simp only [KV.ex?] at hx ⊢
        rw [← hx, hlen]
      · rw [put_ne e] at hx; exact hx
  refine ⟨h.change m (fun k => k = kX n) (fun k _ hk => ⟨put_ne hk, rfl, rfl⟩) ?_ ?_ ?_ ?_ ?_ ?_ ?_ ?_ ?_ ?_ ?_ (pin_old fun e => by rw [e] at live; cases live), m⟩
  · intro k bb hkk hne hl' hbb
    refine ⟨other bb fun e => hne ?_, (h.own k bb hkk hl' hbb).2.1⟩
    subst e
    exact h.apart k (kX n) bb hkk (isKey_kX n) hl' live hbb (by rw [hb]; simp)
  · intro n' cs e; exact absurd e (kB_ne_kX _ _)
  · intro n' r' ys hn' hx
    obtain rfl := kX_inj hn'
    rw [put_eq] at hx; cases hx
    refine ⟨some ⟨b, oo, none⟩, cap, by simp [hdrOf, ha], by omega, .inr ⟨b, oo, cur', el, fz, [], rfl, setRow_heap w b arr cur' el fz hh, by rw [hsz]; exact hf, by rw [hsz]; exact hc, hb, ?_⟩⟩
    exact hrows.mono fun x cs U' hs ho => ho.mono m.S fun bb hbb => hbb.elim (m.heap bb) fun hbb => absurd (hs bb hbb) (by simp)
  · intro n' r' ys e hx; rw [e, put_eq] at hx; cases hx
  · intro k bb _ e _ hbb
    subst e
    rw [hb] at hbb; simp at hbb; subst hbb
    exact ⟨by rw [setRow_size]; exact own.1, own.2.1, own.2.2⟩
  · intro k _ e _; subst e; rw [hb]; simp
  · intro k k' bb hkk hkk' e hl1 hl2 hb1 hb2
    subst e
    by_cases e' : k' = kX n
    · exact e'.symm
    · rw [put_ne e'] at hl2
      exact h.apart _ _ bb hkk hkk' live hl2 hb1 hb2
  · intro bb hbb; rw [setRow_size]; exact h.shared bb hbb
  · intro bb hbb hW
    refine other bb fun e => ?_
    subst e
    rcases own.2.2 with h' | h'
    · omega
    · exact hW h'
  · rw [setRow_size]; exact Nat.le_refl _
  · intro n' r' ys hn' hx
    obtain rfl := kX_inj hn'
    rw [put_eq] at hx; cases hx
    exact h.plain _ _ _ hk

/-- What is known of an exclusive slice that has a place. -/
theorem Hp.exAt (h : Hp B σ w G) {n : Nat} {r : Ty} {xs : List r.Den} (hk : σ (kX n) = .ex r xs) {b oo cap : Nat} (ha : G.at_ (kX n) = some (b, oo, cap)) :
    ∃ arr el fz, G.bl (kX n) = [b] ∧ w.heap[b]? = some (.cells arr el fz) ∧ isFreeR r fz arr.size ∧ oo + cap * r.size ≤ arr.size ∧ xs.length ≤ cap ∧ Rows (ORep w G.S r) arr r.size xs oo [] := by
  obtain ⟨A, cap', h4, h5, h6⟩ := h.ex n r xs hk
  unfold hdrOf at h4
  rw [ha] at h4
  simp only [List.cons.injEq, Value.slice.injEq, true_and, and_true] at h4
  obtain ⟨hA, rfl⟩ := h4
  rcases h6 with ⟨h7, _⟩ | ⟨b', o', arr, el, fz, U', h7, h8, h9, h10, hU, h11⟩
  · rw [h7] at hA; cases hA
  · rw [h7] at hA
    simp only [Option.some.injEq, Addr.mk.injEq, and_true] at hA
    obtain ⟨rfl, rfl⟩ := hA
    have hU' := h11.plainU (h.plain n r xs hk)
    subst hU'
    exact ⟨arr, el, fz, hU, h8, h9, h10, h5, h11⟩

theorem splice_rel {cs new : List LC} {vs nv : List Value} {off : Nat} (h : RelCs w σ G cs vs) (hn : RelCs w σ G new nv) : RelCs w σ G (splice cs off new) (vs.take off ++ nv ++ vs.drop (off + nv.length)) := by
  unfold splice
  rw [hn.length]
  exact ((h.take off).append hn).append (h.drop _)

theorem splice_row {arr cur' : Array Value} {oo off : Nat} {vs nv : List Value} (hrow : rowAt' arr oo vs) (hl : off + nv.length ≤ vs.length)
    (hget : ∀ j, cur'[j]? = if oo + off ≤ j ∧ j < oo + off + nv.length then nv[j - (oo + off)]? else arr[j]?) : rowAt' cur' oo (vs.take off ++ nv ++ vs.drop (off + nv.length)) := by
  intro j v hj
  rw [hget]
  have htl : (vs.take off).length = off := by simp; omega
  by_cases h1 : j < off
  · rw [if_neg (by omega)]
    rw [List.append_assoc, List.getElem?_append_left (by omega), List.getElem?_take_of_lt h1] at hj
    exact hrow j v hj
  · by_cases h2 : j < off + nv.length
    · rw [if_pos ⟨by omega, by omega⟩]
      rw [List.append_assoc, List.getElem?_append_right (by omega), List.getElem?_append_left (by omega), htl] at hj
      rw [← hj]; congr 1; omega
    · rw [if_neg (by omega)]
      rw [List.getElem?_append_right (by simp; omega)] at hj
      have : (vs.take off ++ nv).length = off + nv.length := by rw [List.length_append, htl]
      rw [this, List.getElem?_drop] at hj
      have e : off + nv.length + (j - (off + nv.length)) = j := by omega
      rw [e] at hj
      exact hrow j v hj

/-- Rows with one of them anew. -/
theorem Rows.set {α : Type} {A : α → List Value → List Nat → Prop} {arr cur' : Array Value} {sz : Nat} (hA : ∀ x cs U, A x cs U → cs.length = sz) (hU : ∀ x cs U, A x cs U → U = []) :
    ∀ {xs : List α} {oo i : Nat} {x : α} {cs : List Value}, Rows A arr sz xs oo [] → i < xs.length → A x cs [] → rowAt' cur' (oo + i * sz) cs → (∀ j, (j < oo + i * sz ∨ oo + (i + 1) * sz ≤ j) → cur'[j]? = arr[j]?) →
      Rows A cur' sz (xs.set i x) oo []
  | y :: ys, oo, 0, x, cs, ⟨cs0, U1, U2, hu, hr, ha, h⟩, _, hx, hrow, hout => by
    have : U1 = [] ∧ U2 = [] := by simpa using hu.symm
    obtain ⟨rfl, rfl⟩ := this
    refine ⟨cs, [], [], rfl, by simpa using hrow, hx, ?_⟩
    exact h.arr hA fun j h1 _ => hout j (.inr (by omega))
  | y :: ys, oo, i + 1, x, cs, ⟨cs0, U1, U2, hu, hr, ha, h⟩, hi, hx, hrow, hout => by
    have : U1 = [] ∧ U2 = [] := by simpa using hu.symm
    obtain ⟨rfl, rfl⟩ := this
    have e1 : oo + (i + 1) * sz = oo + sz + i * sz := by rw [Nat.succ_mul]; omega
    have e2 : oo + (i + 1 + 1) * sz = oo + sz + (i + 1) * sz := by rw [Nat.succ_mul (i + 1)]; omega
    refine ⟨cs0, [], [], rfl, fun j v hj => ?_, ha, ?_⟩
    · have hjl : j < cs0.length := by
        rcases Nat.lt_or_ge j cs0.length with h | h
        · exact h
        · rw [List.getElem?_eq_none h] at hj; cases hj
      rw [hA _ _ _ ha] at hjl
      rw [hout (oo + j) (.inl (by omega))]
      exact hr j v hj
    · refine Rows.set hA hU h (by simpa using hi) hx (by rw [← e1]; exact hrow) fun j hj => hout j ?_
      rw [e1, e2]; exact hj

end
end Rg

/- The ring framework, part L: stores, lists made. -/
namespace Rg
open Go

section
variable {P : Program} {E : Env} {B : Base} {N : Nat} {w w' : World} {σ : Sg} {G G' : Gh} {a : Act}
variable {K : Act → World → Prop} {Q : Exit → Act → World → Prop} {ws : List (Nat × KV)} {rs0 rs : List Nat}

theorem puts_append (σ : Sg) : ∀ (l m : List (Nat × KV)), puts σ (l ++ m) = puts (puts σ l) m
  | [], _ => rfl
  | (_, _) :: l, m => puts_append (put σ _ _) l m

theorem Mon.trans {w1 w2 w3 : World} {σ1 σ2 σ3 : Sg} {G1 G2 G3 : Gh} (m : Mon w1 σ1 G1 w2 σ2 G2) (m' : Mon w2 σ2 G2 w3 σ3 G3) : Mon w1 σ1 G1 w3 σ3 G3 := by
  refine ⟨fun b h => m'.S b (m.S b h), fun b h => (m'.heap b (m.S b h)).trans (m.heap b h), fun k hk hn => ?_, fun n p hn hp => ?_, fun n p hn hx => ?_⟩
  · obtain ⟨h1, h2⟩ := m.key k hk hn
    obtain ⟨h3, h4⟩ := m'.key k hk h1
    exact ⟨h3, h4.trans h2⟩
  · exact m.len n p hn (m'.len n p (m.key _ (isKey_kX n) hn).1 hp)
  · exact m.exx n p hn (m'.exx n p (m.key _ (isKey_kX n) hn).1 hx)

/-- Something is written, nothing is given. -/
theorem Cx.stored (c : Cx B N σ a w G) {o : Oper} (hdst : o.dst = none) (hrun : (execOp a.eval o).run P w = .ok .skip w') (m : Mon w σ G w' (puts σ ws) G') (hp : Hp B (puts σ ws) w' G')
    (hslot : ∀ n, puts σ ws (kS n) = σ (kS n)) (hK : ∀ a' w', Rel B N (puts σ ws) a' w' → K a' w') : o.wp P a w K Q := by
  unfold Oper.wp
  rw [hrun]
  show K (a.put o.dst undef) w'
  refine hK _ _ ?_
  exact Rel.close c.hd c.hn c.hs m hp (fun d' h => by rw [hdst] at h; cases h) (fun n _ => hslot n) (fun d' h => by rw [hdst] at h; cases h)

theorem ups_slots {L D : List Nat} {ups : List (Nat × KV)} (hok : ∀ p, p ∈ ups → UpOk w σ G L D p) (n : Nat) : puts σ ups (kS n) = σ (kS n) := by
  refine puts_not fun h => ?_
  obtain ⟨p, hp, e⟩ := List.mem_map.1 h
  obtain ⟨e', r, xs, h1, _⟩ := hok p hp
  rw [e] at h1
  exact kS_ne_kX n e' h1

theorem good_store (hE : EnvTy P E) (c : Cx B N σ a w G) {o : Oper} {t : TypeId} {x y : Operand} (ho : o.op = .store t x y)
    (h : (lop E o).eval σ rs0 = some (ws, rs)) (hK : ∀ a' w', Rel B N (puts σ ws) a' w' → K a' w') : o.wp P a w K Q := by
  unfold lop at h; rw [ho] at h
  simp only at h
  split at h
  · rename_i hdst
    obtain ⟨s, r1, h1, h2⟩ := T.eval_bind _ _ h
    obtain ⟨s', r2, h3, h4⟩ := T.eval_bind _ _ h2
    have hx := c.opd h1
    have hy := c.opd h3
    unfold lStore at h4
    split at h4
    · exact (fail_eval h4).elim
    · rename_i r ht
      obtain ⟨new, r3, h5, h6⟩ := T.eval_bind _ _ h4
      obtain ⟨hlen, h6⟩ := chk_eval h6
      have hlen' : new.length = r.size := Nat.eq_of_beq_eq_true hlen
      have hnew := svCells_sound hy h5
      have hF := hE.ty t r ht
      have nlen : (a.eval y).cells.toList.length = r.size := by rw [← hnew.length, hlen']
      have nsz : (a.eval y).cells.size = r.size := by simpa using nlen
      have one := hnew.one
      have run : ∀ {b oo : Nat} {w'' : World}, a.eval x = .pointer (some ⟨b, oo, none⟩) → (storeCells ⟨b, oo, none⟩ (a.eval y).cells.toList 0).run P w = .ok () w'' → (execOp a.eval o).run P w = .ok .skip w'' := by
        intro b oo w'' e1 e2
        simp [execOp, ho, e1, Instr.storeAt, Instr.sureAddr, storeVar, hF.sizeOf w, nsz, e2]
      split at h6
      · rename_i b off _
        have h7 := get_eval h6
        split at h7
        · rename_i cs hk
          obtain ⟨hle, h7⟩ := chk_eval h7
          have hle' : off + new.length ≤ cs.length := of_decide_eq_true hle
          have := pure_eq h7
          subst this
          obtain ⟨bb, oo, arr, el, fz, ha, hb, hh, hf, hsz, vs, hrow, hr⟩ := c.hp.box b cs hk
          obtain ⟨_, bb', oo', cc', ha', hv⟩ := hx
          rw [ha] at ha'; cases ha'
          have vlen := hr.length
          obtain ⟨cur', hrun, hcs, hget⟩ := run_storeCells_free (P := P) bb (oo + off) el fz (a.eval y).cells.toList 0 arr w hh hf (by omega) one
          simp only [Nat.add_zero] at hget
          have hrow' := splice_row hrow (by omega) hget
          obtain ⟨hp', m⟩ := c.hp.writeBox hk (cs' := splice cs off new) ha hb hh hf hcs (by
            have : (splice cs off new).length = cs.length := by unfold splice; simp; omega
            omega) hrow' (splice_rel hr hnew)
          exact c.stored (ws := [(kB b, .box (splice cs off new))]) hdst (run hv hrun) m hp' (fun n => put_ne (kS_ne_kB n b)) hK
        · exact (fail_eval h7).elim
      · rename_i e i off _
        have h7 := get_eval h6
        split at h7
        · rename_i q xs hk
          obtain ⟨hle, h7⟩ := chk_eval h7
          have hle' : off + new.length ≤ q.size := of_decide_eq_true hle
          obtain ⟨⟨row', rest, ups⟩, r4, h8, h9⟩ := T.eval_bind _ _ h7
          split at h9
          · rename_i hrest
            simp only at hrest
            subst hrest
            obtain ⟨hok, h9⟩ := chk_eval h9
            have := pure_eq h9
            subst this
            obtain ⟨h0, hxx⟩ := hx
            obtain ⟨hi, hl, b, oo, cap, ha, hv⟩ := hxx q xs.length (by rw [hk]; rfl)
            obtain ⟨arr, el, fz, hb, hh, hf, hc, hxc, hrows⟩ := c.hp.exAt hk ha
            have hpl := c.hp.plain e q xs hk
            have hgetx : xs[i.toNat]? = some (xi q xs i) := by
              unfold xi
              rw [List.getD_eq_getElem?_getD, List.getElem?_eq_getElem hl]; rfl
            obtain ⟨vs, U1, U2, U3, hUU, hrow, hor⟩ := hrows.get hgetx
            have hU2 : U2 = [] := by
              have := hUU.symm
              simp at this
              exact this.2.1
            subst hU2
            have vlen := hor.length
            obtain ⟨v1, v2, L, D, hv12, hr2, hpk⟩ := pack_sound c.hp h8 (splice_rel (RelCs.lcs hor) hnew)
            have hv2 : v2 = [] := by cases v2 with | nil => rfl | cons _ _ => exact hr2.elim
            subst hv2
            rw [List.append_nil] at hv12
            obtain ⟨okA, okB⟩ : okUps ups = true ∧ ∀ p, p ∈ ups → p.1 ≠ kX e := by
              have key : ∀ (l : List (Nat × KV)), okUps (l ++ [(kX e, .ex q (xs.set i.toNat row'))]) = true → okUps l = true ∧ ∀ p, p ∈ l → p.1 ≠ kX e := by
                intro l
                induction l with
                | nil => intro _; exact ⟨rfl, fun p h => by simp at h⟩
                | cons p l ih =>
                  intro h
                  obtain ⟨k, v⟩ := p
                  simp only [List.cons_append, okUps, Bool.and_eq_true, List.all_eq_true] at h
                  obtain ⟨i1, i2⟩ := ih h.2
                  refine ⟨by simp only [okUps, Bool.and_eq_true, List.all_eq_true]; exact ⟨fun p hp => h.1 p (List.mem_append_left _ hp), i1⟩, fun p hp => ?_⟩
                  rcases List.mem_cons.1 hp with rfl | hp
                  · intro ek
                    have := h.1 (kX e, .ex q (xs.set i.toNat row')) (by simp)
                    simp only at ek
                    subst ek
                    simp [Nat.beq_refl, isFz] at this
                  · exact i2 p hp
              exact key ups hok
            obtain ⟨hp1, m1, _, _, _⟩ := ups_apply c.hp hpk.ok (hpk.fz rfl) hpk.gone okA
            have hk1 : puts σ ups (kX e) = .ex q xs := by
              rw [puts_not, hk]
              intro hm
              obtain ⟨p, hp, ek⟩ := List.mem_map.1 hm
              exact okB p hp ek
            obtain ⟨cur', hrun, hcs, hget⟩ := run_storeCells_free (P := P) b (oo + i.toNat * q.size + off) el fz (a.eval y).cells.toList 0 arr w hh hf.1 (by
              have : (i.toNat + 1) * q.size ≤ cap * q.size := Nat.mul_le_mul_right _ (by omega)
              rw [Nat.succ_mul] at this
              omega) one
            simp only [Nat.add_zero] at hget
            have hrow' := splice_row hrow (by omega) hget
            have hrep : ORep w (SL G L) q row' v1 [] := by
              have := ORep.plain hpl hpk.rep
              rw [← this]; exact hpk.rep
            rw [hv12] at hrow'
            have hrows1 : Rows (ORep w (SL G L) q) arr q.size xs oo [] := hrows.mono fun x cs U' _ ho => ho.mono (fun b h => .inl h) fun _ _ => rfl
            have hrows2 := Rows.set (cur' := cur') (fun x cs U ho => ORep.length ho) (fun x cs U ho => ORep.plain hpl ho) hrows1 hl hrep hrow' (fun j hj => by
              rw [hget j, if_neg]
              rw [Nat.succ_mul] at hj
              omega)
            obtain ⟨hp', m2⟩ := hp1.writeEx hk1 (b := b) (oo := oo) (cap := cap) (xs' := xs.set i.toNat row') (arr := arr) (el := el) (fz := fz) ha hb hh hf hcs hc hxc (by simp) hrows2
            refine c.stored hdst (run hv hrun) (G' := { G with S := SL G L }) ?_ ?_ ?_ hK
            · rw [puts_append]; exact m1.trans m2
            · rw [puts_append]; exact hp'
            · intro n
              rw [puts_append]
              show put (puts σ ups) (kX e) _ (kS n) = _
              rw [put_ne (kS_ne_kX n e)]
              exact ups_slots hpk.ok n
          · exact (fail_eval h9).elim
        · exact (fail_eval h7).elim
      · exact (fail_eval h6).elim
  · exact (fail_eval h).elim
end
end Rg

/- The ring framework, part M: append. -/
namespace Rg
open Go

section
variable {P : Program} {E : Env} {B : Base} {N : Nat} {w w' : World} {σ : Sg} {G G' : Gh} {a : Act}
variable {K : Act → World → Prop} {Q : Exit → Act → World → Prop} {ws : List (Nat × KV)} {rs0 rs : List Nat}

/-- The cells of plain rows, for wherever they are laid. -/
theorem rows_list {S : Nat → Prop} {r : Ty} (hp : r.plain = true) {arr : Array Value} : ∀ {xs : List r.Den} {oo : Nat}, Rows (ORep w S r) arr r.size xs oo [] →
    ∃ vs : List Value, vs.length = xs.length * r.size ∧ rowAt' arr oo vs ∧ (∀ v, v ∈ vs → v.oneCell' = true) ∧ ∀ arr' o', rowAt' arr' o' vs → Rows (ORep w S r) arr' r.size xs o' []
  | [], _, _ => ⟨[], by simp, fun _ _ h => by simp at h, fun _ h => by simp at h, fun _ _ _ => rfl⟩
  | x :: xs, oo, ⟨cs, U1, U2, hu, hr, ha, h⟩ => by
    have : U1 = [] ∧ U2 = [] := by simpa using hu.symm
    obtain ⟨rfl, rfl⟩ := this
    have hl := ORep.length ha
    obtain ⟨vs, h1, h2, h3, h4⟩ := rows_list hp h
    refine ⟨cs ++ vs, by simp [hl, h1, Nat.succ_mul]; omega, fun j v hj => ?_, fun v hv => ?_, fun arr' o' hr' => ⟨cs, [], [], rfl, fun j v hj => ?_, ha, h4 arr' _ fun j v hj => ?_⟩⟩
    · rcases Nat.lt_or_ge j cs.length with hlt | hge
      · rw [List.getElem?_append_left hlt] at hj; exact hr j v hj
      · rw [List.getElem?_append_right hge] at hj
        have := h2 _ v hj
        rw [← this]; congr 1; omega
    · rcases List.mem_append.1 hv with hv | hv
      · exact ORep.one ha v hv
      · exact h3 v hv
    · have hlt : j < cs.length := by
        rcases Nat.lt_or_ge j cs.length with h | h
        · exact h
        · rw [List.getElem?_eq_none h] at hj; cases hj
      exact hr' j v (by rw [List.getElem?_append_left hlt]; exact hj)
    · have := hr' (cs.length + j) v (by rw [List.getElem?_append_right (by omega)]; simpa using hj)
      rw [← this]; congr 1; omega

/-- An exclusive slice goes over to a new key, with other cells. -/
theorem Hp.moveX (h : Hp B σ w G) {e d : Nat} {r : Ty} {xs xs' : List r.Den} (hlow : d < 1000000000) (hk : σ (kX e) = .ex r xs) (hnone : σ (kX d) = .none) {b oo cap oo' cap' : Nat} {arr cur' : Array Value} {el : TypeId} {fz : Nat × Nat}
    (ha : G.at_ (kX e) = some (b, oo, cap)) (hb : G.bl (kX e) = [b]) (hh : w.heap[b]? = some (.cells arr el fz)) (hf : isFreeR r fz arr.size) (hsz : cur'.size = arr.size) (hc : oo' + cap' * r.size ≤ arr.size)
    (hxc : xs'.length ≤ cap') (hrows : Rows (ORep w G.S r) cur' r.size xs' oo' []) :
    Hp B (put (put σ (kX e) .gone) (kX d) (.ex r xs')) (w.setRow b cur') (G.set (kX d) (some (b, oo', cap')) [b]) ∧
    Mon w σ G (w.setRow b cur') (put (put σ (kX e) .gone) (kX d) (.ex r xs')) (G.set (kX d) (some (b, oo', cap')) [b]) := by
  have live : isLive (σ (kX e)) = true := by rw [hk]; rfl
  have own := h.own (kX e) b (isKey_kX e) live (by rw [hb]; simp)
  have hpl := h.plain e r xs hk
  have other : ∀ j, j ≠ b → (w.setRow b cur').heap[j]? = w.heap[j]? := fun j hj => setRow_other w b j cur' hj
  have ne : ∀ j, σ j ≠ .none → j ≠ kX d := fun j hj e => hj (e ▸ hnone)
  have hed : kX e ≠ kX d := ne _ (by rw [hk]; simp)
  have m : Mon w σ G (w.setRow b cur') (put (put σ (kX e) .gone) (kX d) (.ex r xs')) (G.set (kX d) (some (b, oo', cap')) [b]) := by
    refine ⟨fun _ h => h, fun j hj => other j fun e => own.2.1 (e ▸ hj), fun k _ hkk => ⟨?_, ?_⟩, fun m p hm hp => ?_, fun m p hm hx => ?_⟩
    · rw [put_ne (ne k hkk)]
      by_cases e1 : k = kX e
      · subst e1; rw [put_eq]; simp
      · rw [put_ne e1]; exact hkk
    · simp only [Gh.set]; rw [if_neg (ne k hkk)]
    · rw [put_ne (ne _ hm)] at hp
      by_cases e1 : kX m = kX e
      · rw [e1, put_eq] at hp; cases hp
      · rw [put_ne e1] at hp; exact hp
    · rw [put_ne (ne _ hm)] at hx
      by_cases e1 : kX m = kX e
      · rw [e1, put_eq] at hx; cases hx
      · rw [put_ne e1] at hx; exact hx
  have dead : ∀ k, k = kX e → put (put σ (kX e) .gone) (kX d) (.ex r xs') k = .gone := fun k e1 => by subst e1; rw [put_ne hed, put_eq]
  refine ⟨h.change m (fun k => k = kX e ∨ k = kX d) ?_ ?_ ?_ ?_ ?_ ?_ ?_ ?_ ?_ ?_ ?_ ?_
    (fun k p _ h1 h2 hp => by
      by_cases e1 : k = kX d
      · subst e1; rw [Base.low (kX_low hlow)] at hp; cases hp
      · rw [put_ne e1] at h2
        by_cases e2 : k = kX e
        · subst e2; rw [h1] at live; cases live
        · rw [put_ne e2] at h2; exact absurd h1 h2), m⟩
  · intro k _ hk
    have h1 : k ≠ kX e := fun e => hk (.inl e)
    have h2 : k ≠ kX d := fun e => hk (.inr e)
    exact ⟨by rw [put_ne h2, put_ne h1], by simp only [Gh.set]; rw [if_neg h2], by simp only [Gh.set]; rw [if_neg h2]⟩
  · intro k bb hkk hne hl' hbb
    refine ⟨other bb fun e1 => hne (.inl ?_), (h.own k bb hkk hl' hbb).2.1⟩
    subst e1
    exact h.apart k (kX e) bb hkk (isKey_kX e) hl' live hbb (by rw [hb]; simp)
  · intro n' cs hkk; exact absurd hkk (by rintro (h | h) <;> exact kB_ne_kX _ _ h)
  · intro n' r' ys hn' hx
    rcases hn' with e1 | e1
    · rw [dead _ e1] at hx; cases hx
    · obtain rfl := kX_inj e1
      rw [put_eq] at hx; cases hx
      refine ⟨some ⟨b, oo', none⟩, cap', by simp [hdrOf, Gh.set], hxc, .inr ⟨b, oo', cur', el, fz, [], rfl, setRow_heap w b arr cur' el fz hh, by rw [hsz]; exact hf, by rw [hsz]; exact hc, by simp [Gh.set], ?_⟩⟩
      exact hrows.mono fun x cs U' hs ho => ho.mono m.S fun bb hbb => hbb.elim (m.heap bb) fun hbb => absurd (hs bb hbb) (by simp)
  · intro n' r' ys e1 hx
    rcases e1 with e1 | e1
    · rw [dead _ e1] at hx; cases hx
    · rw [e1, put_eq] at hx; cases hx
  · intro k bb _ e1 hl1 hbb
    rcases e1 with e1 | e1
    · rw [dead _ e1] at hl1; cases hl1
    · subst e1
      simp [Gh.set] at hbb; subst hbb
      exact ⟨by rw [setRow_size]; exact own.1, own.2.1, own.2.2⟩
  · intro k _ e1 hl1
    rcases e1 with e1 | e1
    · rw [dead _ e1] at hl1; cases hl1
    · subst e1; simp [Gh.set]
  · intro k k' bb hkk hkk' e1 hl1 hl2 hb1 hb2
    rcases e1 with e1 | e1
    · rw [dead _ e1] at hl1; cases hl1
    · subst e1
      simp [Gh.set] at hb1; subst hb1
      by_cases e' : k' = kX d
      · exact e'.symm
      · exfalso
        by_cases e2 : k' = kX e
        · rw [dead _ e2] at hl2; cases hl2
        · rw [put_ne e', put_ne e2] at hl2
          simp only [Gh.set, if_neg e'] at hb2
          exact e2 (h.apart k' (kX e) bb hkk' (isKey_kX e) hl2 live hb2 (by rw [hb]; simp))
  · intro bb hbb; rw [setRow_size]; exact h.shared bb hbb
  · intro bb hbb hW
    refine other bb fun e => ?_
    subst e
    rcases own.2.2 with h' | h'
    · omega
    · exact hW h'
  · rw [setRow_size]; exact Nat.le_refl _
  · intro n' r' ys hn' hx
    rcases hn' with e1 | e1
    · rw [dead _ e1] at hx; cases hx
    · obtain rfl := kX_inj e1
      rw [put_eq] at hx; cases hx
      exact hpl

theorem run_app_in {t ty e : TypeId} {i : TypeInfo} {A : Option Addr} {sLen sCap m : Nat} {v : Value} {news : List Value} {u : Value} (ht : P.underlying t = some (.slice e)) (hi : P.info? e = some i)
    (hv : ∃ A' c', v = .slice A' m c') (hn : (Builtin.firstCells i.size m v).run P w = .ok news.toArray w) (hfit : sLen + m ≤ sCap)
    (hst : ∀ x, A = some x → (storeCells (x.add (sLen * i.size)) news 0).run P w = .ok () w') (hst0 : A = none → w' = w) (hu : u = .slice A (sLen + m) sCap) :
    (Builtin.append_ #[t, t] ty #[.slice A sLen sCap, v]).run P w = .ok u w' := by
  obtain ⟨A', c', rfl⟩ := hv
  subst hu
  cases A with
  | none =>
    have := hst0 rfl
    subst this
    simp [Builtin.append_, run_underlying ht, Go.sizeOf, typeInfo, hi, Builtin.lenOf, hfit, hn]
  | some x =>
    have := hst x rfl
    simp [Builtin.append_, run_underlying ht, Go.sizeOf, typeInfo, hi, Builtin.lenOf, hfit, hn, this]

theorem run_app_new {t ty e : TypeId} {i : TypeInfo} {z : Value} {A : Option Addr} {sLen sCap m : Nat} {v : Value} {olds news : List Value} (ht : P.underlying t = some (.slice e)) (hi : P.info? e = some i) (hz : i.zero = some z)
    (hv : ∃ A' c', v = .slice A' m c') (hn : (Builtin.firstCells i.size m v).run P w.drew = .ok news.toArray w.drew) (ho : (Builtin.firstCells i.size sLen (.slice A sLen sCap)).run P w.drew = .ok olds.toArray w.drew)
    (hg : sCap < sLen + m) (hb1 : 1 ≤ i.bytes) (h48 : (sLen + m) * i.bytes ≤ 70368744177664) :
    (Builtin.append_ #[t, t] ty #[.slice A sLen sCap, v]).run P w =
      .ok (.slice (some ⟨w.heap.size, 0, none⟩) (sLen + m) (grownCap w (sLen + m) sCap e))
        (w.drew.alloc (.cells (olds.toArray ++ news.toArray ++ Builtin.zeroCells z.cells (grownCap w (sLen + m) sCap e - (sLen + m))) e)) := by
  obtain ⟨A', c', rfl⟩ := hv
  have h1 : ¬ (sLen + m ≤ sCap) := by omega
  have hle : sLen + m ≤ (sLen + m) * i.bytes := Nat.le_mul_of_pos_right _ (by omega)
  have h63' : ¬ (9223372036854775807 < ((sLen : Int) + (m : Int))) := by omega
  have h48' : ¬ (281474976710656 < Builtin.nextslicecap (sLen + m) sCap * i.bytes) := by
    have := growslice_fits (need := sLen + m) (old := sCap) (bytes := i.bytes) hg (by omega)
    omega
  simp [Builtin.append_, run_underlying ht, Go.sizeOf, typeInfo, zeroValue, hi, hz, Builtin.lenOf, h1, h63', h48', Question.forced, hn, ho, newRow, grownCap]
  congr 2
  apply Array.ext'
  simp

theorem run_first {A : Option Addr} {n m cap sz : Nat} {vs : List Value} (hl : vs.length = m * sz) (h : (m = 0 ∧ A = none) ∨ ∃ b oo arr el fz, A = some ⟨b, oo, none⟩ ∧ w.heap[b]? = some (.cells arr el fz) ∧ rowAt' arr oo vs) :
    (Builtin.firstCells sz m (.slice A n cap)).run P w = .ok vs.toArray w := by
  rcases h with ⟨rfl, rfl⟩ | ⟨b, oo, arr, el, fz, rfl, hh, hr⟩
  · have : vs = [] := by cases vs with | nil => rfl | cons _ _ => simp at hl
    subst this
    simp [Builtin.firstCells]
  · exact run_firstCells_some (P := P) w sz m _ n cap vs hl fun j v hj => by rw [addr_add]; exact cell_at hh (hr j v hj)


theorem zeros_size {z : Value} {q : Ty} (h : z.cells = q.zvs.toArray) (n : Nat) : (Builtin.zeroCells z.cells n).size = n * q.size := by
  rw [size_zeroCells, h]; simp [Ty.zvs_length]

/-- Rows behind rows. -/
theorem rows_cat {S : Nat → Prop} {r : Ty} {xs ys : List r.Den} {olds news : List Value} (h1 : olds.length = xs.length * r.size) (hx : ∀ arr' o', rowAt' arr' o' olds → Rows (ORep w S r) arr' r.size xs o' [])
    (hy : ∀ arr' o', rowAt' arr' o' news → Rows (ORep w S r) arr' r.size ys o' []) {arr : Array Value} {oo : Nat} (ho : rowAt' arr oo olds) (hn : rowAt' arr (oo + xs.length * r.size) news) :
    Rows (ORep w S r) arr r.size (xs ++ ys) oo [] := (hx arr oo ho).append (hy arr _ hn)

theorem row_left {l : List Value} {m : List Value} {z : Array Value} : rowAt' (l.toArray ++ m.toArray ++ z) 0 l := by
  intro j v hj
  have hlt : j < l.length := by
    rcases Nat.lt_or_ge j l.length with h | h
    · exact h
    · rw [List.getElem?_eq_none h] at hj; cases hj
  rw [Nat.zero_add, Array.append_assoc, Array.getElem?_append_left (by simpa using hlt)]
  simpa using hj

theorem row_mid {l : List Value} {m : List Value} {z : Array Value} {n : Nat} (hn : n = l.length) : rowAt' (l.toArray ++ m.toArray ++ z) (0 + n) m := by
  intro j v hj
  subst hn
  have hlt : j < m.length := by
    rcases Nat.lt_or_ge j m.length with h | h
    · exact h
    · rw [List.getElem?_eq_none h] at hj; cases hj
  rw [Nat.zero_add, Array.getElem?_append_left (by simp; omega), Array.getElem?_append_right (by simp)]
  simpa using hj

theorem good_append (hE : EnvTy P E) (c : Cx B N σ a w G) {o : Oper} {cl : Call} (ho : o.op = .call cl) (hcl : cl.callee = .builtin .append) (hlt : ∀ d, o.dst = some d → d < N)
    (h : (lop E o).eval σ rs0 = some (ws, rs)) (hK : ∀ a' w', Rel B N (puts σ ws) a' w' → K a' w') : o.wp P a w K Q := by
  unfold lop at h; rw [ho] at h
  simp only [hcl] at h
  split at h
  · rename_i so xo t t' hargs htys
    obtain ⟨s, r1, h1, h2⟩ := T.eval_bind _ _ h
    obtain ⟨x, r2, h3, h4⟩ := T.eval_bind _ _ h2
    obtain ⟨htt, h4c⟩ := chk_eval h4
    clear h4
    have htt' : t = t' := Nat.eq_of_beq_eq_true htt
    subst htt'
    have h4 := h4c
    have hs := c.opd h1
    have hx := c.opd h3
    have hargs' : cl.args = #[so, xo] := by apply Array.ext'; exact hargs
    have htys' : cl.argTypes = #[t, t] := by apply Array.ext'; exact htys
    have run : ∀ {u : Value} {w' : World}, (Builtin.append_ #[t, t] o.type #[a.eval so, a.eval xo]).run P w = .ok u w' → (execOp a.eval o).run P w = .ok (.value u) w' := by
      intro u w' hr
      unfold execOp
      simp only [ho, resolve, hcl, invoke, builtin, Sem.run_bind, Sem.run_pure, Result.andThen_ok, hargs', htys', List.map_toArray, List.map_cons, List.map_nil, hr]
    unfold lAppend at h4
    split at h4
    · rename_i d hd
      obtain ⟨⟨q, ys⟩, r3, h5, h6⟩ := T.eval_bind _ _ h4
      obtain ⟨hchk, h6b⟩ := chk_eval h6
      clear h6 h4 h4c h2
      obtain ⟨hchk2, hpl⟩ := (Bool.and_eq_true _ _).mp hchk
      obtain ⟨hsz, hs1⟩ := (Bool.and_eq_true _ _).mp hchk2
      have h6 := h6b
      clear h6b
      simp only at hsz hs1 hpl h6
      have hs1 := Nat.le_of_ble_eq_true hs1
      obtain ⟨A, cap, hvx, hel⟩ := elems_sound c hx h5
      simp only at hvx hel
      obtain ⟨q', e, ie, z, htq, hqs, hu, hi, his, hib, hz, hzc, hb1, _⟩ := slice_und hE hsz hs1
      -- the cells that are added
      obtain ⟨news, hnl, hn1, hnr, hnf⟩ : ∃ news : List Value, news.length = ys.length * q.size ∧ (∀ v, v ∈ news → v.oneCell' = true) ∧ (∀ arr' o', rowAt' arr' o' news → Rows (ORep w G.S q) arr' q.size ys o' []) ∧
          ∀ w2 : World, w2.heap = w.heap → (Builtin.firstCells ie.size ys.length (a.eval xo)).run P w2 = .ok news.toArray w2 := by
        rcases hel with ⟨hy, hA⟩ | ⟨b, oo, arr, el, fz, S, hA, hbl, hh, _, _, hrows⟩
        · subst hy
          refine ⟨[], by simp, fun _ h => by simp at h, fun _ _ _ => rfl, fun w2 _ => ?_⟩
          rw [hvx]
          exact run_first (by simp) (.inl ⟨rfl, hA⟩)
        · obtain ⟨vs, g1, g2, g3, g4⟩ := rows_list hpl hrows
          refine ⟨vs, g1, g3, g4, fun w2 hw => ?_⟩
          rw [hvx]
          exact run_first (by rw [his]; exact g1) (.inr ⟨b, oo, arr, el, fz, hA, by rw [hw]; exact hh, g2⟩)
      have hvx' : ∃ A' c', a.eval xo = .slice A' ys.length c' := ⟨A, cap, hvx⟩
      have zsz : ∀ n, (Builtin.zeroCells z.cells n).size = n * q.size := fun n => by rw [zeros_size hzc, hqs]
      split at h6
      · rename_i r0
        obtain ⟨hfit, h6⟩ := chk_eval h6
        obtain ⟨hlow, hnone, rfl⟩ := newX_eval h6
        have hs : a.eval so = .slice none 0 0 := hs
        rw [List.nil_append] at hfit hK
        rcases Nat.eq_zero_or_pos ys.length with h0 | h0
        · have : ys = [] := List.eq_nil_of_length_eq_zero h0
          subst this
          obtain ⟨hp, m⟩ := c.hp.nilX (n := d) hlow hpl hnone
          refine c.made (w' := w) hd (hlt d hd) (v := .slice none 0 0) (run ?_) m hp (fun n => put_ne (kS_ne_kX n d)) (kv := .sv (.cell (.hdl d))) (hdl_new (w := w) (by simp [hdrOf, Gh.set])) rfl hK
          rw [hs]
          exact run_app_in hu hi hvx' (hnf w rfl) (by simp) (fun x hx => by cases hx) (fun _ => rfl) (by simp)
        · have hfit' : ys.length * E.eb t ≤ 70368744177664 := Nat.le_of_ble_eq_true hfit
          have hge := grownCap_ge w (0 + ys.length) 0 e
          rw [Nat.zero_add] at hge
          obtain ⟨hp, m⟩ := c.hp.newX (n := d) (r := q) (xs := ys) (cap := grownCap w (0 + ys.length) 0 e) (el := e)
            (arr := (List.nil : List Value).toArray ++ news.toArray ++ Builtin.zeroCells z.cells (grownCap w (0 + ys.length) 0 e - (0 + ys.length)))
            (w' := w.drew.alloc (.cells ((List.nil : List Value).toArray ++ news.toArray ++ Builtin.zeroCells z.cells (grownCap w (0 + ys.length) 0 e - (0 + ys.length))) e))
            hlow hnone rfl hpl (by rw [Nat.zero_add]; exact hge) (by
              simp only [Array.size_append, List.size_toArray, List.length_nil, zsz, hnl, Nat.zero_add, ← Nat.add_mul]
              exact Nat.mul_le_mul_right _ (by omega)) (hnr _ _ (row_mid (n := 0) rfl))
          refine c.made hd (hlt d hd) (v := .slice (some ⟨w.heap.size, 0, none⟩) (0 + ys.length) (grownCap w (0 + ys.length) 0 e)) (run ?_) m hp (fun n => put_ne (kS_ne_kX n d)) (kv := .sv (.cell (.hdl d))) (hdl_new (w := w) (by simp [hdrOf, Gh.set])) rfl hK
          rw [hs]
          exact run_app_new (olds := []) hu hi hz hvx' (hnf w.drew rfl) (run_first (by simp) (.inl ⟨rfl, rfl⟩)) (by omega) hb1 (by rw [hib, Nat.zero_add]; exact hfit')
      · rename_i ee
        have h7 := get_eval h6
        split at h7
        · rename_i r xs hk
          obtain ⟨ys', r4, h8, h9⟩ := T.eval_bind _ _ h7
          obtain ⟨h8, _⟩ := ofO_eval h8
          obtain ⟨eq, hy'⟩ := castL_some h8
          subst eq
          have hy2 : ys = ys' := hy'.symm
          subst hy2
          obtain ⟨hfit, h9⟩ := chk_eval h9
          obtain ⟨hlow, hnone, rfl⟩ := newX_eval h9
          have ev := hdl_len (w := w) hs hk
          have hfit' : (xs ++ ys).length * E.eb t ≤ 70368744177664 := Nat.le_of_ble_eq_true hfit
          rw [List.length_append] at hfit'
          have hne : kX ee ≠ kX d := fun e => by rw [e, hnone] at hk; cases hk
          have slots : ∀ (kv : KV) n, put (put σ (kX ee) .gone) (kX d) kv (kS n) = σ (kS n) := fun kv n => by rw [put_ne (kS_ne_kX n d), put_ne (kS_ne_kX n ee)]
          obtain ⟨hpg, mg⟩ := c.hp.gone (isKey_kX ee) (by rw [hk]; simp)
          have hnone' : put σ (kX ee) .gone (kX d) = .none := by rw [put_ne hne.symm]; exact hnone
          -- what is grown
          have grown : ∀ {A : Option Addr} {sCap : Nat} {olds : List Value}, a.eval so = .slice A xs.length sCap → olds.length = xs.length * q.size → (∀ arr' o', rowAt' arr' o' olds → Rows (ORep w G.S q) arr' q.size xs o' []) →
              (Builtin.firstCells ie.size xs.length (a.eval so)).run P w.drew = .ok olds.toArray w.drew → sCap < xs.length + ys.length → o.wp P a w K Q := by
            intro A sCap olds hso hol hor hof hg
            have hge := grownCap_ge w (xs.length + ys.length) sCap e
            obtain ⟨hp, m⟩ := hpg.newX (n := d) (r := q) (xs := xs ++ ys) (cap := grownCap w (xs.length + ys.length) sCap e) (el := e)
              (arr := olds.toArray ++ news.toArray ++ Builtin.zeroCells z.cells (grownCap w (xs.length + ys.length) sCap e - (xs.length + ys.length)))
              (w' := w.drew.alloc (.cells (olds.toArray ++ news.toArray ++ Builtin.zeroCells z.cells (grownCap w (xs.length + ys.length) sCap e - (xs.length + ys.length))) e))
              hlow hnone' rfl hpl (by rw [List.length_append]; exact hge) (by
                simp only [Array.size_append, List.size_toArray, zsz, hnl, hol, ← Nat.add_mul]
                exact Nat.mul_le_mul_right _ (by omega)) (rows_cat hol hor hnr row_left (row_mid hol.symm))
            refine c.made hd (hlt d hd) (v := .slice (some ⟨w.heap.size, 0, none⟩) (xs.length + ys.length) (grownCap w (xs.length + ys.length) sCap e)) (run ?_) (mg.trans m) hp (fun n => slots _ n) (kv := .sv (.cell (.hdl d)))
              (hdl_new (w := w) (by simp [hdrOf, Gh.set])) rfl hK
            rw [hso] at hof ⊢
            exact run_app_new hu hi hz hvx' (hnf w.drew rfl) hof hg hb1 (by rw [hib]; exact hfit')
          cases ha : G.at_ (kX ee) with
          | none =>
            obtain ⟨A', cap', h4', h5', h6'⟩ := c.hp.ex ee q xs hk
            unfold hdrOf at h4' ev
            rw [ha] at h4' ev
            simp only [List.cons.injEq, Value.slice.injEq, true_and, and_true] at h4'
            obtain ⟨rfl, rfl⟩ := h4'
            have hx0 : xs = [] := List.eq_nil_of_length_eq_zero (by omega)
            subst hx0
            rcases Nat.eq_zero_or_pos ys.length with h0 | h0
            · have : ys = [] := List.eq_nil_of_length_eq_zero h0
              subst this
              obtain ⟨hp, m⟩ := hpg.nilX (n := d) hlow hpl hnone'
              refine c.made (w' := w) hd (hlt d hd) (v := .slice none 0 0) (run ?_) (mg.trans m) hp (fun n => slots _ n) (kv := .sv (.cell (.hdl d))) (hdl_new (w := w) (by simp [hdrOf, Gh.set])) rfl hK
              rw [ev]
              exact run_app_in hu hi hvx' (hnf w rfl) (by simp) (fun x hx => by cases hx) (fun _ => rfl) (by simp)
            · exact grown (olds := []) ev (by simp) (fun _ _ _ => rfl) (by rw [ev]; exact run_first (by simp) (.inl ⟨rfl, rfl⟩)) (by simpa using h0)
          | some p =>
            obtain ⟨b, oo, sCap⟩ := p
            obtain ⟨arr, el, fz, hb, hh, hf, hc, hxc, hrows⟩ := c.hp.exAt hk ha
            obtain ⟨olds, g1, g2, g3, g4⟩ := rows_list hpl hrows
            unfold hdrOf at ev
            rw [ha] at ev
            by_cases hroom : xs.length + ys.length ≤ sCap
            · have hmul : (xs.length + ys.length) * q.size ≤ sCap * q.size := Nat.mul_le_mul_right _ hroom
              rw [Nat.add_mul] at hmul
              obtain ⟨cur', hrun, hcs, hget⟩ := run_storeCells_free (P := P) b (oo + xs.length * q.size) el fz news 0 arr w hh hf.1 (by omega) hn1
              simp only [Nat.add_zero] at hget
              have hrows' : Rows (ORep w G.S q) cur' q.size (xs ++ ys) oo [] := by
                refine rows_cat g1 g4 hnr (fun j v hj => ?_) (fun j v hj => ?_)
                · have hlt : j < olds.length := by
                    rcases Nat.lt_or_ge j olds.length with h | h
                    · exact h
                    · rw [List.getElem?_eq_none h] at hj; cases hj
                  rw [hget, if_neg (by omega)]
                  exact g2 j v hj
                · have hlt : j < news.length := by
                    rcases Nat.lt_or_ge j news.length with h | h
                    · exact h
                    · rw [List.getElem?_eq_none h] at hj; cases hj
                  rw [hget, if_pos (by omega)]
                  rw [← hj]; congr 1; omega
              obtain ⟨hp, m⟩ := c.hp.moveX (xs' := xs ++ ys) hlow hk hnone ha hb hh hf hcs hc (by rw [List.length_append]; exact hroom) hrows'
              refine c.made hd (hlt d hd) (v := .slice (some ⟨b, oo, none⟩) (xs.length + ys.length) sCap) (run ?_) m hp (fun n => slots _ n) (kv := .sv (.cell (.hdl d)))
                (hdl_new (w := w) (by simp [hdrOf, Gh.set])) rfl hK
              rw [ev]
              exact run_app_in hu hi hvx' (hnf w rfl) hroom (fun x hx => by cases hx; rw [addr_add, his]; exact hrun) (fun h => by cases h) rfl
            · exact grown (olds := olds) ev g1 g4 (by rw [ev]; exact run_first (by rw [his]; exact g1) (.inr ⟨b, oo, arr, el, fz, rfl, hh, g2⟩)) (by omega)
        · exact (fail_eval h7).elim
      · exact (fail_eval h6).elim
    · exact (fail_eval h4).elim
  · exact (fail_eval h).elim
end
end Rg

/- The ring framework, part N: lengths, least and greatest, functions as values, slices of slices. -/
namespace Rg
open Go

section
variable {P : Program} {E : Env} {B : Base} {N : Nat} {w w' : World} {σ : Sg} {G G' : Gh} {a : Act}
variable {K : Act → World → Prop} {Q : Exit → Act → World → Prop} {ws : List (Nat × KV)} {rs0 rs : List Nat}

theorem run_builtin {o : Oper} {cl : Call} {b : Builtin} {u : Value} (ho : o.op = .call cl) (hcl : cl.callee = .builtin b)
    (h : ∀ consts, (builtin b cl.argTypes o.type consts (cl.args.map a.eval)).run P w = .ok (.value u) w') : (execOp a.eval o).run P w = .ok (.value u) w' := by
  unfold execOp
  simp only [ho, resolve, hcl, invoke, Sem.run_bind, Sem.run_pure, Result.andThen_ok, h]

theorem good_len (hE : EnvTy P E) (c : Cx B N σ a w G) {o : Oper} {cl : Call} (ho : o.op = .call cl) (hcl : cl.callee = .builtin .len) (hlt : ∀ d, o.dst = some d → d < N)
    (h : (lop E o).eval σ rs0 = some (ws, rs)) (hK : ∀ a' w', Rel B N (puts σ ws) a' w' → K a' w') : o.wp P a w K Q := by
  unfold lop at h; rw [ho] at h
  simp only [hcl] at h
  split at h
  · rename_i so t hargs htys
    obtain ⟨s, r1, h1, h2⟩ := T.eval_bind _ _ h
    obtain ⟨cc, r2, h3, h4⟩ := T.eval_bind _ _ h2
    obtain ⟨u, hrun, hu⟩ := lLen_sound (ty := o.type) hE c (c.opd h1) h3
    have hargs' : cl.args = #[so] := by apply Array.ext'; exact hargs
    have htys' : cl.argTypes = #[t] := by apply Array.ext'; exact htys
    refine c.value hlt (s := .cell cc) (v := u) (run_builtin ho hcl fun consts => ?_) hu (pure_eq h4).symm hK
    simp only [builtin, Sem.run_bind, hargs', htys', List.map_toArray, List.map_cons, List.map_nil, hrun, Result.andThen_ok, Sem.run_pure]
  · exact (fail_eval h).elim

theorem opds_sound (c : Cx B N σ a w G) : ∀ {l : List Operand} {svs : List SV} {rs rs' : List Nat}, (opds E 0 l).eval σ rs = some (svs, rs') → RelSVs w σ G svs (l.map a.eval)
  | [], svs, rs, rs', h => by
    have := pure_eq h
    subst this; trivial
  | x :: l, svs, rs, rs', h => by
    obtain ⟨s, r1, h1, h2⟩ := T.eval_bind _ _ h
    obtain ⟨q, r2, h3, h4⟩ := T.eval_bind _ _ h2
    have := pure_eq h4
    subst this
    exact ⟨c.opd h1, opds_sound c h3⟩

theorem foldInt_sound (f : Int → Int → Int) (g : Value → Value → Sem Value) (hg : ∀ x y w, (g (.int .i64 x) (.int .i64 y)).run P w = .ok (.int .i64 (f x y)) w) :
    ∀ (n : Nat) {l : List SV} {vs : List Value} {x : Int} {rs rs' : List Nat}, l.length = n → (foldInt f l).eval σ rs = some (x, rs') → RelSVs w σ G l vs → ∃ v vs', vs = v :: vs' ∧ (vs'.foldlM g v).run P w = .ok (.int .i64 x) w := by
  intro n
  induction n with
  | zero =>
    intro l vs x rs rs' hl h hr
    have : l = [] := List.eq_nil_of_length_eq_zero hl
    subst this
    rw [foldInt] at h
    exact (fail_eval h).elim
  | succ n ih =>
    intro l vs x rs rs' hl h hr
    cases l with
    | nil => simp at hl
    | cons s l =>
      cases vs with
      | nil => exact hr.elim
      | cons v vs =>
        unfold foldInt at h
        split at h
        · rename_i heq; cases heq
        · rename_i y heq
          simp only [List.cons.injEq] at heq
          obtain ⟨rfl, rfl⟩ := heq
          have := pure_eq h
          subst this
          cases vs with
          | nil => exact ⟨v, [], rfl, by rw [cell_int hr.1]; simp⟩
          | cons _ _ => exact hr.2.elim
        · rename_i y l' _ heq
          simp only [List.cons.injEq] at heq
          obtain ⟨rfl, rfl⟩ := heq
          split at h
          · rename_i z l2 _
            cases vs with
            | nil => exact hr.2.elim
            | cons v2 vs =>
              have e1 := cell_int hr.1
              have e2 := cell_int hr.2.1
              subst e1; subst e2
              obtain ⟨v3, vs3, he, hrun⟩ := ih (l := .cell (.dat (.int .i64) (f y z)) :: l2) (vs := .int .i64 (f y z) :: vs) (by simpa using hl) h ⟨rel_int, hr.2.2⟩
              simp only [List.cons.injEq] at he
              obtain ⟨rfl, rfl⟩ := he
              exact ⟨_, _, rfl, by simp only [List.foldlM_cons, Sem.run_bind, hg, Result.andThen_ok]; exact hrun⟩
          · exact (fail_eval h).elim
        · exact (fail_eval h).elim

theorem good_max (c : Cx B N σ a w G) {o : Oper} {cl : Call} (ho : o.op = .call cl) (hcl : cl.callee = .builtin .max) (hlt : ∀ d, o.dst = some d → d < N)
    (h : (lop E o).eval σ rs0 = some (ws, rs)) (hK : ∀ a' w', Rel B N (puts σ ws) a' w' → K a' w') : o.wp P a w K Q := by
  unfold lop at h; rw [ho] at h
  simp only [hcl] at h
  obtain ⟨l, r1, h1, h2⟩ := T.eval_bind _ _ h
  obtain ⟨x, r2, h3, h4⟩ := T.eval_bind _ _ h2
  obtain ⟨v, vs, he, hrun⟩ := foldInt_sound (P := P) max Builtin.max2 (fun x y w => by
    simp only [Builtin.max2, Sem.run_pure]
    congr 2
    omega) l.length rfl h3 (opds_sound c h1)
  refine c.value hlt (v := .int .i64 x) (run_builtin ho hcl fun consts => ?_) rel_int (pure_eq h4).symm hK
  have he' : (cl.args.map a.eval).toList = v :: vs := by rw [Array.toList_map]; exact he
  simp only [builtin, Builtin.max_, he', Sem.run_bind, hrun, Result.andThen_ok, Sem.run_pure]

theorem good_min (c : Cx B N σ a w G) {o : Oper} {cl : Call} (ho : o.op = .call cl) (hcl : cl.callee = .builtin .min) (hlt : ∀ d, o.dst = some d → d < N)
    (h : (lop E o).eval σ rs0 = some (ws, rs)) (hK : ∀ a' w', Rel B N (puts σ ws) a' w' → K a' w') : o.wp P a w K Q := by
  unfold lop at h; rw [ho] at h
  simp only [hcl] at h
  obtain ⟨l, r1, h1, h2⟩ := T.eval_bind _ _ h
  obtain ⟨x, r2, h3, h4⟩ := T.eval_bind _ _ h2
  obtain ⟨v, vs, he, hrun⟩ := foldInt_sound (P := P) min Builtin.min2 (fun x y w => by
    simp only [Builtin.min2, Sem.run_pure]
    congr 2
    omega) l.length rfl h3 (opds_sound c h1)
  refine c.value hlt (v := .int .i64 x) (run_builtin ho hcl fun consts => ?_) rel_int (pure_eq h4).symm hK
  have he' : (cl.args.map a.eval).toList = v :: vs := by rw [Array.toList_map]; exact he
  simp only [builtin, Builtin.min_, he', Sem.run_bind, hrun, Result.andThen_ok, Sem.run_pure]

theorem boxNos_sound : ∀ {l : List SV} {vs : List Value} {bs : List Nat} {rs rs' : List Nat}, (boxNos l).eval σ rs = some (bs, rs') → RelSVs w σ G l vs → RelPs σ G bs vs
  | [], vs, bs, rs, rs', h, hr => by
    have := pure_eq h
    subst this
    cases vs with
    | nil => trivial
    | cons _ _ => exact hr.elim
  | .ptr b 0 :: l, vs, bs, rs, rs', h, hr => by
    obtain ⟨q, r1, h1, h2⟩ := T.eval_bind _ _ h
    have := pure_eq h2
    subst this
    cases vs with
    | nil => exact hr.elim
    | cons v vs => exact ⟨hr.1, boxNos_sound h1 hr.2⟩
  | .ptr b (n + 1) :: l, vs, bs, rs, rs', h, hr => (fail_eval h).elim
  | .undef :: l, vs, bs, rs, rs', h, hr => (fail_eval h).elim
  | .cell _ :: l, vs, bs, rs, rs', h, hr => (fail_eval h).elim
  | .agg _ :: l, vs, bs, rs, rs', h, hr => (fail_eval h).elim
  | .elP _ _ _ :: l, vs, bs, rs, rs', h, hr => (fail_eval h).elim
  | .elX _ _ _ :: l, vs, bs, rs, rs', h, hr => (fail_eval h).elim
  | .clo _ _ :: l, vs, bs, rs, rs', h, hr => (fail_eval h).elim

theorem good_makeFunc (c : Cx B N σ a w G) {o : Oper} {f : Fn} {first captured : Array Operand} (ho : o.op = .makeFunc f first captured) (hlt : ∀ d, o.dst = some d → d < N)
    (h : (lop E o).eval σ rs0 = some (ws, rs)) (hK : ∀ a' w', Rel B N (puts σ ws) a' w' → K a' w') : o.wp P a w K Q := by
  unfold lop at h; rw [ho] at h
  cases f with
  | func f =>
    simp only at h
    split at h
    · rename_i hf
      have hf' : first = #[] := by apply Array.ext'; exact hf
      obtain ⟨l, r1, h1, h2⟩ := T.eval_bind _ _ h
      obtain ⟨bs, r2, h3, h4⟩ := T.eval_bind _ _ h2
      have hp := boxNos_sound h3 (opds_sound c h1)
      refine c.value hlt (s := .clo f bs) (v := .func (.func f) #[] (captured.toList.map a.eval).toArray) ?_ ⟨_, rfl, hp⟩ (pure_eq h4).symm hK
      have hcap : captured.map a.eval = (captured.toList.map a.eval).toArray := by apply Array.ext'; simp
      simp [execOp, ho, Instr.makeFunc, hf', hcap]
    · exact (fail_eval h).elim
  | _ => exact (fail_eval h).elim

end
end Rg

/- The ring framework, part O: slices of slices, conversions. -/
namespace Rg
open Go

section
variable {P : Program} {E : Env} {B : Base} {N : Nat} {w w' : World} {σ : Sg} {G G' : Gh} {a : Act}
variable {K : Act → World → Prop} {Q : Exit → Act → World → Prop} {ws : List (Nat × KV)} {rs0 rs : List Nat}

def RelOpt (w : World) (σ : Sg) (G : Gh) : Option SV → Option Value → Prop
  | none, none => True
  | some s, some v => RelSV w σ G s v
  | _, _ => False

theorem optOpd_sound (c : Cx B N σ a w G) {x : Option Operand} {s : Option SV} {rs rs' : List Nat} (h : (optOpd E 0 x).eval σ rs = some (s, rs')) : RelOpt w σ G s (x.map a.eval) := by
  cases x with
  | none =>
    have := pure_eq h
    subst this; trivial
  | some x =>
    obtain ⟨s', r1, h1, h2⟩ := T.eval_bind _ _ h
    have := pure_eq h2
    subst this
    exact c.opd h1

/-- What a bound is. -/
def BoundIs (n : Nat) (v : Option Value) (d k : Nat) : Prop := (v = none ∧ k = d) ∨ ∃ kk i, v = some (.int kk i) ∧ 0 ≤ i ∧ i ≤ (n : Int) ∧ k = i.toNat

theorem inTo_iff {i : Int} {n : Nat} : inTo i n = true ↔ 0 ≤ i ∧ i ≤ (n : Int) := by simp [inTo]

theorem lBound_sound {n d k : Nat} {s : Option SV} {v : Option Value} {rs rs' : List Nat} (h : (lBound n s d).eval σ rs = some (k, rs')) (hr : RelOpt w σ G s v) : BoundIs n v d k := by
  unfold lBound at h
  split at h
  · have := pure_eq h
    subst this
    cases v with
    | none => exact .inl ⟨rfl, rfl⟩
    | some _ => exact hr.elim
  · rename_i kk i
    obtain ⟨hb, h⟩ := chk_eval h
    have := pure_eq h
    subst this
    cases v with
    | none => exact hr.elim
    | some v =>
      have hb' := inTo_iff.1 hb
      exact .inr ⟨kk, i, congrArg some (cell_int (w := w) (σ := σ) (G := G) hr), hb'.1, hb'.2, rfl⟩
  · exact (fail_eval h).elim

theorem BoundIs.le {n d k : Nat} {v : Option Value} (h : BoundIs n v d k) (hd : d ≤ n) : k ≤ n := by
  rcases h with ⟨_, rfl⟩ | ⟨_, i, _, h1, h2, rfl⟩ <;> omega

theorem run_sliceBound {x : Value} {y : Nat} {code : BoundsCode} {kk : IntKind} {i : Int} (hx : x = .int kk i) (h0 : 0 ≤ i) (h1 : i ≤ (y : Int)) : (Instr.sliceBound x y code).run P w = .ok i.toNat w := by
  subst hx
  simp [Instr.sliceBound, asIntOf, h0, h1]

theorem run_bounds {isSlice : Bool} {n m cap l h : Nat} {lo hi : Option Value} (hh : BoundIs n hi n h) (hl : BoundIs h lo 0 l) (hn : n ≤ cap) :
    (Instr.sliceBounds isSlice n cap lo hi none).run P w = .ok (l, h, cap) w := by
  have hhle : h ≤ cap := Nat.le_trans (hh.le (Nat.le_refl _)) hn
  have rh : ∀ code, (match hi with | some v => Instr.sliceBound v cap code | none => pure n : Sem Nat).run P w = .ok h w := by
    intro code
    rcases hh with ⟨rfl, rfl⟩ | ⟨kk, i, rfl, h0, h1, rfl⟩
    · simp
    · exact run_sliceBound rfl h0 (by omega)
  have rl : ∀ code, (match lo with | some v => Instr.sliceBound v h code | none => pure 0 : Sem Nat).run P w = .ok l w := by
    intro code
    rcases hl with ⟨rfl, rfl⟩ | ⟨kk, i, rfl, h0, h1, rfl⟩
    · simp
    · exact run_sliceBound rfl h0 h1
  unfold Instr.sliceBounds
  cases hi <;> cases lo <;> simp_all

theorem run_slice {t e : TypeId} {ie : TypeInfo} {A : Option Addr} {n cap l h : Nat} {lo hi : Option Value} (ht : P.underlying t = some (.slice e)) (hi' : P.info? e = some ie) (hh : BoundIs n hi n h) (hl : BoundIs h lo 0 l) (hn : n ≤ cap) :
    (Instr.sliceAt t (.slice A n cap) lo hi none).run P w = .ok (.slice (if cap = l then A else A.map (·.add (l * ie.size))) (h - l) (cap - l)) w := by
  simp [Instr.sliceAt, Instr.slice, run_underlying ht, run_bounds (P := P) (w := w) (isSlice := true) (m := 0) hh hl hn, Go.sizeOf, typeInfo, hi']

/-- A part of a shared slice. -/
theorem sl_sub {S : Nat → Prop} {r : Ty} {xs : List r.Den} {A : Option Addr} {n cap l h : Nat} (ho : ORep w S (.sl r) xs [.slice A n cap] []) (hlh : l ≤ h) (hh : h ≤ xs.length) :
    n = xs.length ∧ n ≤ cap ∧ ORep w S (.sl r) ((xs.take h).drop l) [.slice (if cap = l then A else A.map (·.add (l * r.size))) (h - l) (cap - l)] [] := by
  obtain ⟨_, A', cap', hv, hle, hx⟩ := ho
  simp only [List.cons.injEq, Value.slice.injEq, and_true] at hv
  obtain ⟨rfl, rfl, rfl⟩ := hv
  have hlen0 : ((xs.take h).drop l).length = h - l := by simp; omega
  refine ⟨rfl, hle, rfl, _, _, by rw [hlen0], ?_, ?_⟩
  · simp; omega
  · have hlen : ((xs.take h).drop l).length = h - l := by simp; omega
    rcases hx with ⟨rfl, rfl⟩ | ⟨b, oo, arr, el, fz, rfl, hS, hheap, hrows⟩
    · refine .inl ⟨?_, by omega⟩
      split <;> rfl
    · refine .inr ?_
      by_cases hcl : cap = l
      · rw [if_pos hcl]
        have : (xs.take h).drop l = [] := List.eq_nil_of_length_eq_zero (by omega)
        rw [this]
        exact ⟨b, oo, arr, el, fz, rfl, hS, hheap, rfl⟩
      · rw [if_neg hcl]
        refine ⟨b, oo + l * r.size, arr, el, fz, by simp [addr_add], hS, hheap, ?_⟩
        have e1 : xs = xs.take l ++ ((xs.take h).drop l ++ xs.drop h) := by
          rw [← List.append_assoc]
          have : xs.take l ++ (xs.take h).drop l = xs.take h := by
            have := List.take_append_drop l (xs.take h)
            rw [List.take_take, Nat.min_eq_left hlh] at this
            exact this
          rw [this, List.take_append_drop]
        rw [e1] at hrows
        obtain ⟨U1, U2, hU, _, h2⟩ := hrows.split
        have hUU : U1 = [] ∧ U2 = [] := by simpa using hU.symm
        obtain ⟨rfl, rfl⟩ := hUU
        obtain ⟨V1, V2, hV, h3, _⟩ := h2.split
        have hVV : V1 = [] ∧ V2 = [] := by simpa using hV.symm
        obtain ⟨rfl, rfl⟩ := hVV
        have : (xs.take l).length = l := by simp; omega
        rw [this] at h3
        exact h3

theorem Ty.beqP_refl : ∀ {t : Ty}, t.plain = true → t.beqP t = true
  | .int k, _ => by simp [Ty.beqP, kBeq, Nat.beq_refl]
  | .bool, _ => rfl
  | .str, _ => rfl
  | .sl r, h => by simpa [Ty.beqP] using Ty.beqP_refl (t := r) (by simpa [Ty.plain] using h)
  | .ow _, h => by cases h
  | .nil, _ => rfl
  | .cons t r, h => by
    simp [Ty.plain] at h
    simp [Ty.beqP, Ty.beqP_refl h.1, Ty.beqP_refl h.2]
  | .alt _ _, h => by cases h

theorem good_slice (hE : EnvTy P E) (c : Cx B N σ a w G) {o : Oper} {t : TypeId} {x : Operand} {lo hi mx : Option Operand} (ho : o.op = .slice t x lo hi mx) (hlt : ∀ d, o.dst = some d → d < N)
    (h : (lop E o).eval σ rs0 = some (ws, rs)) (hK : ∀ a' w', Rel B N (puts σ ws) a' w' → K a' w') : o.wp P a w K Q := by
  unfold lop at h; rw [ho] at h
  simp only at h
  split at h
  · exact (fail_eval h).elim
  · obtain ⟨s, r1, h1, h2⟩ := T.eval_bind _ _ h
    obtain ⟨los, r2, h3, h4⟩ := T.eval_bind _ _ h2
    obtain ⟨his, r3, h5, h6⟩ := T.eval_bind _ _ h4
    have hx := c.opd h1
    have hlo := optOpd_sound c h3
    have hhi := optOpd_sound c h5
    clear h h2 h4 h1
    have run : ∀ {u : Value}, (Instr.sliceAt t (a.eval x) (lo.map a.eval) (hi.map a.eval) none).run P w = .ok u w → (execOp a.eval o).run P w = .ok (.value u) w := by
      intro u hu
      simp [execOp, ho, hu]
    -- a shared slice
    have shared : ∀ {r : Ty} {xs : List r.Den} {A : Option Addr} {n cap l hh : Nat}, Nat.beq (szE E t) r.size = true → 1 ≤ r.size → a.eval x = .slice A n cap → n = xs.length → n ≤ cap → BoundIs xs.length (hi.map a.eval) xs.length hh → BoundIs hh (lo.map a.eval) 0 l →
        (execOp a.eval o).run P w = .ok (.value (.slice (if cap = l then A else A.map (·.add (l * r.size))) (hh - l) (cap - l))) w := by
      intro r xs A n cap l hh hsz hs1 hv hn hle b1 b2
      obtain ⟨q, e, ie, z, _, _, hu, hi', his', _⟩ := slice_und hE hsz hs1
      refine run ?_
      rw [hv]
      have := run_slice (P := P) (w := w) (A := A) (cap := cap) hu hi' (n := n) (by rw [hn]; exact b1) b2 hle
      rw [this, his']
    unfold lSlice at h6
    split at h6
    · rename_i m
      split at h6
      · rename_i ht
        have ev := cell_str hx
        obtain ⟨hh, r4, h7, h8⟩ := T.eval_bind _ _ h6
        obtain ⟨ll, r5, h9, h10⟩ := T.eval_bind _ _ h8
        have b1 := lBound_sound h7 hhi
        have b2 := lBound_sound h9 hlo
        obtain ⟨d, hd, htd⟩ := (hE.ty t .str ht).und
        simp only [TyD] at htd
        subst htd
        refine c.value hlt (s := .cell (.dat .str (m.extract ll hh))) (v := .string (m.extract ll hh)) (run ?_) rel_str (pure_eq h10).symm hK
        rw [ev]
        simp [Instr.sliceAt, Instr.slice, run_underlying hd, run_bounds (P := P) (w := w) (isSlice := false) (m := 0) b1 b2 (Nat.le_refl _)]
      · exact (fail_eval h6).elim
    · rename_i r xs
      obtain ⟨hchk, h6⟩ := chk_eval h6
      obtain ⟨hsz, hs1⟩ := (Bool.and_eq_true _ _).mp hchk
      obtain ⟨hh, r4, h7, h8⟩ := T.eval_bind _ _ h6
      obtain ⟨ll, r5, h9, h10⟩ := T.eval_bind _ _ h8
      have b1 := lBound_sound h7 hhi
      have b2 := lBound_sound h9 hlo
      obtain ⟨_, A, cap, hv, hle, _⟩ := id hx
      have hv' : a.eval x = .slice A xs.length cap := by simpa using hv
      have hx' : ORep w G.S (.sl r) xs [.slice A xs.length cap] [] := by rw [← hv']; exact hx
      obtain ⟨e1, e2, e3⟩ := sl_sub (l := ll) (h := hh) hx' (b2.le (Nat.zero_le _)) (b1.le (Nat.le_refl _))
      exact c.value hlt (s := .cell (.dat (.sl r) ((xs.take hh).drop ll))) (shared hsz (Nat.le_of_ble_eq_true hs1) hv' e1 e2 b1 b2) e3 (pure_eq h10).symm hK
    · rename_i r
      obtain ⟨hs1, h6⟩ := chk_eval h6
      obtain ⟨hh, r4, h7, h8⟩ := T.eval_bind _ _ h6
      obtain ⟨ll, r5, h9, h10⟩ := T.eval_bind _ _ h8
      have b1 := lBound_sound h7 hhi
      have b2 := lBound_sound h9 hlo
      have ev : a.eval x = .slice none 0 0 := hx
      obtain ⟨q, e, ie, z, _, _, hu, hi', his', _⟩ := slice_und (n := szE E t) hE (Nat.beq_refl _) (Nat.le_of_ble_eq_true hs1)
      refine c.value hlt (s := .cell (.nl r)) (v := .slice none 0 0) (run ?_) rfl (pure_eq h10).symm hK
      have h0 : hh = 0 := Nat.le_zero.mp (b1.le (Nat.le_refl _))
      subst h0
      have l0 : ll = 0 := Nat.le_zero.mp (b2.le (Nat.le_refl _))
      subst l0
      rw [ev]
      have := run_slice (P := P) (w := w) (A := none) (cap := 0) hu hi' b1 b2 (Nat.le_refl _)
      simpa using this
    · rename_i e
      split at h6
      · exact (fail_eval h6).elim
      · rename_i d hd
        have h7 := get_eval h6
        split at h7
        · rename_i r xs hk
          obtain ⟨hchk, h8⟩ := chk_eval h7
          obtain ⟨hchk2, hpl⟩ := (Bool.and_eq_true _ _).mp hchk
          obtain ⟨hsz, hs1⟩ := (Bool.and_eq_true _ _).mp hchk2
          have hs1 := Nat.le_of_ble_eq_true hs1
          obtain ⟨hh, r4, h9, h10⟩ := T.eval_bind _ _ h8
          obtain ⟨ll, r5, h11, h12⟩ := T.eval_bind _ _ h10
          have b1 := lBound_sound h9 hhi
          have b2 := lBound_sound h11 hlo
          have hlh := b2.le (Nat.zero_le _)
          have hhn := b1.le (Nat.le_refl _)
          have ev := hdl_len (w := w) hx hk
          cases hkeep : E.keep d
          · rw [hkeep] at h12
            simp only [cond_false] at h12
            have := pure_eq h12
            subst this
            obtain ⟨hp, m⟩ := c.hp.freeze hk (Ty.beqP_refl hpl)
            have hcast : cast (congrArg List (Ty.beqP_den (Ty.beqP_refl hpl))) xs = xs := rfl
            rw [hcast] at hp m
            have hfz := hp.fz e r xs put_eq
            have hhdr : hdrOf { G with S := fun b => G.S b ∨ b ∈ G.bl (kX e) } (kX e) xs.length = hdrOf G (kX e) xs.length := rfl
            rw [hhdr, ← ev] at hfz
            obtain ⟨_, A, cap, hv, hle, _⟩ := id hfz
            have hv' : a.eval x = .slice A xs.length cap := by simpa using hv
            rw [hv'] at hfz
            obtain ⟨e1, e2, e3⟩ := sl_sub (l := ll) (h := hh) hfz hlh hhn
            exact c.made (w' := w) hd (hlt d hd) (shared hsz hs1 hv' e1 e2 b1 b2) m hp (fun n => put_ne (kS_ne_kX n e)) (kv := .sv (.cell (.dat (.sl r) ((xs.take hh).drop ll)))) e3 rfl hK
          · rw [hkeep] at h12
            simp only [cond_true] at h12
            obtain ⟨hlow, hnone, rfl⟩ := newX_eval h12
            have hne : kX e ≠ kX d := fun e => by rw [e, hnone] at hk; cases hk
            have slots : ∀ (kv : KV) n, put (put σ (kX e) .gone) (kX d) kv (kS n) = σ (kS n) := fun kv n => by rw [put_ne (kS_ne_kX n d), put_ne (kS_ne_kX n e)]
            have hlen : ((xs.take hh).drop ll).length = hh - ll := by simp; omega
            cases ha : G.at_ (kX e) with
            | none =>
              obtain ⟨A', cap', h4', h5', h6'⟩ := c.hp.ex e r xs hk
              unfold hdrOf at h4' ev
              rw [ha] at h4' ev
              simp only [List.cons.injEq, Value.slice.injEq, true_and, and_true] at h4'
              obtain ⟨rfl, rfl⟩ := h4'
              have hx0 : xs = [] := List.eq_nil_of_length_eq_zero (by omega)
              subst hx0
              obtain ⟨hpg, mg⟩ := c.hp.gone (isKey_kX e) (by rw [hk]; simp)
              have hnone' : put σ (kX e) .gone (kX d) = .none := by rw [put_ne hne.symm]; exact hnone
              obtain ⟨hp, m⟩ := hpg.nilX (n := d) hlow hpl hnone'
              have hrun := shared (xs := ([] : List r.Den)) hsz hs1 ev rfl (Nat.zero_le _) b1 b2
              have h0 : hh = 0 := Nat.le_zero.mp hhn
              subst h0
              have l0 : ll = 0 := Nat.le_zero.mp hlh
              subst l0
              refine c.made (w' := w) hd (hlt d hd) (v := .slice none 0 0) ?_ (mg.trans m) hp (fun n => slots _ n) (kv := .sv (.cell (.hdl d))) (hdl_new (w := w) (by simp [hdrOf, Gh.set])) rfl hK
              simpa using hrun
            | some p =>
              obtain ⟨b, oo, cap⟩ := p
              obtain ⟨arr, el, fz, hb, hheap, hf, hc, hxc, hrows⟩ := c.hp.exAt hk ha
              unfold hdrOf at ev
              rw [ha] at ev
              have hrun := shared (xs := xs) hsz hs1 ev rfl hxc b1 b2
              have hmul : ll * r.size ≤ cap * r.size := Nat.mul_le_mul_right _ (by omega)
              have hrows2 : Rows (ORep w G.S r) arr r.size ((xs.take hh).drop ll) (if cap = ll then oo else oo + ll * r.size) [] := by
                by_cases hcl : cap = ll
                · have : (xs.take hh).drop ll = [] := List.eq_nil_of_length_eq_zero (by omega)
                  rw [this]; rfl
                · rw [if_neg hcl]
                  have e1 : xs = xs.take ll ++ ((xs.take hh).drop ll ++ xs.drop hh) := by
                    rw [← List.append_assoc]
                    have : xs.take ll ++ (xs.take hh).drop ll = xs.take hh := by
                      have := List.take_append_drop ll (xs.take hh)
                      rw [List.take_take, Nat.min_eq_left hlh] at this
                      exact this
                    rw [this, List.take_append_drop]
                  rw [e1] at hrows
                  obtain ⟨U1, U2, hU, _, h2⟩ := hrows.split
                  have hUU : U1 = [] ∧ U2 = [] := by simpa using hU.symm
                  obtain ⟨rfl, rfl⟩ := hUU
                  obtain ⟨V1, V2, hV, h3, _⟩ := h2.split
                  have hVV : V1 = [] ∧ V2 = [] := by simpa using hV.symm
                  obtain ⟨rfl, rfl⟩ := hVV
                  have : (xs.take ll).length = ll := by simp; omega
                  rw [this] at h3
                  exact h3
              obtain ⟨hp, m⟩ := c.hp.moveX (xs' := (xs.take hh).drop ll) (cap' := cap - ll) (oo' := if cap = ll then oo else oo + ll * r.size) (cur' := arr) hlow hk hnone ha hb hheap hf rfl (by
                  rw [Nat.sub_mul]
                  split
                  · rename_i hcl; rw [hcl]; rw [hcl] at hc; omega
                  · omega) (by omega) hrows2
              rw [setRow_self w b arr el fz hheap] at hp m
              refine c.made (w' := w) hd (hlt d hd) hrun m hp (fun n => slots _ n) (kv := .sv (.cell (.hdl d))) (hdl_new (w := w) ?_) rfl hK
              simp only [hdrOf, Gh.set, if_true, hlen]
              by_cases hcl : cap = ll
              · rw [if_pos hcl, if_pos hcl]
              · rw [if_neg hcl, if_neg hcl]; simp [addr_add]
        · rename_i r xs hk
          obtain ⟨hchk, h8⟩ := chk_eval h7
          obtain ⟨hsz, hs1⟩ := (Bool.and_eq_true _ _).mp hchk
          obtain ⟨hh, r4, h9, h10⟩ := T.eval_bind _ _ h8
          obtain ⟨ll, r5, h11, h12⟩ := T.eval_bind _ _ h10
          have b1 := lBound_sound h9 hhi
          have b2 := lBound_sound h11 hlo
          have ev := hdl_len_fz (w := w) hx hk
          have hfz := c.hp.fz e r xs hk
          rw [← ev] at hfz
          obtain ⟨_, A, cap, hv, hle, _⟩ := id hfz
          have hv' : a.eval x = .slice A xs.length cap := by simpa using hv
          rw [hv'] at hfz
          obtain ⟨e1, e2, e3⟩ := sl_sub (l := ll) (h := hh) hfz (b2.le (Nat.zero_le _)) (b1.le (Nat.le_refl _))
          have := pure_eq h12
          subst this
          exact c.value hlt (s := .cell (.dat (.sl r) ((xs.take hh).drop ll))) (shared hsz (Nat.le_of_ble_eq_true hs1) hv' e1 e2 b1 b2) e3 (by rw [hd]; rfl) hK
        · exact (fail_eval h7).elim
    · exact (fail_eval h6).elim
end
end Rg
