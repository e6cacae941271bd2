/- The ring framework, part P: conversions, slices that are made, structs that are built. -/
import Derived.Test.YtphjhelolaoihaaRgC
import Derived.Control
set_option linter.all false
namespace Rg
open Go

section
variable {P : Program} {E : Env} {B : Base} {N : Nat} {w w' : World} {σ : Sg} {G G' : Gh} {a : Act}
variable {K : Act → World → Prop} {Q : Exit → Act → World → Prop} {ws : List (Nat × KV)} {rs0 rs : List Nat}

theorem bytes_fold : ∀ (ns : List Int) (s : ByteArray), ns.foldl (fun r n => r.push (UInt8.ofNat n.toNat)) s = s ++ bytesOf ns
  | [], s => by
    apply ByteArray.ext
    simp [bytesOf]
  | n :: ns, s => by
    rw [List.foldl_cons, bytes_fold ns]
    apply ByteArray.ext
    apply Array.ext'
    simp [bytesOf, ByteArray.push]

/-- The cells of rows of bytes. -/
theorem rows_bytes {S : Nat → Prop} {arr : Array Value} : ∀ {xs : List Int} {oo : Nat}, Rows (ORep w S (.int .u8)) arr 1 xs oo [] → rowAt' arr oo (xs.map (Value.int .u8))
  | [], _, _ => fun _ _ h => by simp at h
  | x :: xs, oo, ⟨cs, U1, U2, hu, hr, ha, h⟩ => by
    have : U1 = [] ∧ U2 = [] := by simpa using hu.symm
    obtain ⟨rfl, rfl⟩ := this
    have ih := rows_bytes h
    have hc : cs = [.int .u8 x] := ha.1
    subst hc
    intro j v hj
    cases j with
    | zero => exact hr 0 v (by simpa using hj)
    | succ j =>
      have := ih j v (by simpa using hj)
      rw [← this]; congr 1; omega

/-- Bytes laid as rows. -/
theorem bytes_rows {S : Nat → Prop} {arr : Array Value} : ∀ {xs : List Int} {oo : Nat}, rowAt' arr oo (xs.map (Value.int .u8)) → Rows (ORep w S (.int .u8)) arr 1 xs oo []
  | [], _, _ => rfl
  | x :: xs, oo, h => by
    refine ⟨[.int .u8 x], [], [], rfl, fun j v hj => ?_, ⟨rfl, rfl⟩, bytes_rows fun j v hj => ?_⟩
    · cases j with
      | zero => exact h 0 v (by simpa using hj)
      | succ j => simp at hj
    · have := h (j + 1) v (by simpa using hj)
      rw [← this]; congr 1; omega

theorem sl_und (hE : EnvTy P E) {t : TypeId} {q : Ty} (ht : E.ty t = some (.sl q)) : ∃ e ie z, P.underlying t = some (.slice e) ∧ P.info? e = some ie ∧
    ie.size = q.size ∧ ie.bytes = E.eb t ∧ ie.zero = some z ∧ z.cells = q.zvs.toArray ∧ 1 ≤ q.size ∧ (q = .int .u8 → P.underlying e = some (.int .u8)) ∧ 1 ≤ ie.bytes := by
  obtain ⟨d, hd, e, ie, z, rfl, h⟩ := (hE.ty t _ ht).und
  exact ⟨e, ie, z, hd, h⟩

theorem good_convert (hE : EnvTy P E) (c : Cx B N σ a w G) {o : Oper} {s t : TypeId} {x : Operand} (ho : o.op = .convert s t x) (hlt : ∀ d, o.dst = some d → d < N)
    (h : (lop E o).eval σ rs0 = some (ws, rs)) (hK : ∀ a' w', Rel B N (puts σ ws) a' w' → K a' w') : o.wp P a w K Q := by
  unfold lop at h; rw [ho] at h
  obtain ⟨sv, r1, h1, h2⟩ := T.eval_bind _ _ h
  have hx := c.opd h1
  clear h h1
  have run : ∀ {u : Value} {w' : World}, (convert s t (a.eval x)).run P w = .ok u w' → (execOp a.eval o).run P w = .ok (.value u) w' := by
    intro u w' hu
    simp [execOp, ho, hu]
  split at h2
  · rename_i k0 k k1 n hs ht
    have ev := cell_int hx
    obtain ⟨d1, hd1, e1⟩ := (hE.ty s _ hs).und
    obtain ⟨d2, hd2, e2⟩ := (hE.ty t _ ht).und
    simp only [TyD] at e1 e2
    subst e1; subst e2
    refine c.value hlt (s := .cell (.dat (.int k) (k.wrap n))) (v := .int k (k.wrap n)) (run ?_) rel_int (pure_eq h2).symm hK
    rw [ev]
    simp [convert, run_underlying hd1, run_underlying hd2, Conv.intToInt]
  · rename_i n hs ht
    have ev := cell_str hx
    obtain ⟨d1, hd1, e1⟩ := (hE.ty s _ hs).und
    obtain ⟨d2, hd2, e2⟩ := (hE.ty t _ ht).und
    simp only [TyD] at e1 e2
    subst e1; subst e2
    refine c.value hlt (s := .cell (.dat .str n)) (v := .string n) (run ?_) rel_str (pure_eq h2).symm hK
    rw [ev]
    simp [convert, run_underlying hd1, run_underlying hd2]
  · rename_i hs ht
    obtain ⟨⟨q, ys⟩, r2, h3, h4⟩ := T.eval_bind _ _ h2
    obtain ⟨ys', r3, h5, h6⟩ := T.eval_bind _ _ h4
    obtain ⟨h5, _⟩ := ofO_eval h5
    obtain ⟨eq, hy⟩ := castL_some h5
    simp only at eq
    subst eq
    have hy2 : ys = ys' := hy.symm
    subst hy2
    obtain ⟨A, cap, hvx, hel⟩ := elems_sound c hx h3
    simp only at hvx hel
    obtain ⟨e, ie, z, hu, _, _, _, _, _, _, hu8, _⟩ := sl_und hE hs
    obtain ⟨d2, hd2, e2⟩ := (hE.ty t _ ht).und
    simp only [TyD] at e2
    subst e2
    refine c.value hlt (s := .cell (.dat .str (bytesOf ys))) (v := .string (bytesOf ys)) (run ?_) rel_str (pure_eq h6).symm hK
    rw [hvx, run_convert_bytes_string w s t e A ys.length cap hu (hu8 rfl) hd2]
    rcases hel with ⟨rfl, rfl⟩ | ⟨b, oo, arr, el, fz, S, rfl, hbl, hh, _, _, hrows⟩
    · simp [Conv.bytesToString]
      rfl
    · have hr : rowAt' arr oo (ys.map (Value.int .u8)) := rows_bytes hrows
      have hl := run_loadCells_list (P := P) w ⟨b, oo, none⟩ (ys.map (Value.int .u8)) fun j v hj => by rw [addr_add]; exact cell_at hh (hr j v hj)
      rw [List.length_map] at hl
      rw [run_bytesToString w _ _ _ ys hl, bytes_fold]
      congr 2
      try (apply ByteArray.ext; simp)
  · rename_i n hs ht
    split at h2
    · rename_i d hd
      obtain ⟨hlow, hnone, rfl⟩ := newX_eval h2
      have ev := cell_str hx
      obtain ⟨e, ie, z, hu, _, _, _, _, _, _, hu8, _⟩ := sl_und hE ht
      obtain ⟨d1, hd1, e1⟩ := (hE.ty s _ hs).und
      simp only [TyD] at e1
      subst e1
      have hge := grownCap_ge w n.size 0 e
      have hlen : (ofBytes n).length = n.size := by simp [ofBytes]
      have hbs : (bytesRow n (grownCap w n.size 0 e)).size = grownCap w n.size 0 e := by
        simp only [bytesRow, Array.size_append, Array.size_map, Array.size_replicate]
        show n.size + _ = _
        omega
      obtain ⟨hp, m⟩ := c.hp.newXf (n := d) (r := .int .u8) (xs := ofBytes n) (cap := grownCap w n.size 0 e) (el := e) (arr := bytesRow n (grownCap w n.size 0 e))
        (fz := ((bytesRow n (grownCap w n.size 0 e)).size, (bytesRow n (grownCap w n.size 0 e)).size + 1))
        (w' := w.drew.alloc (.cells (bytesRow n (grownCap w n.size 0 e)) e ((bytesRow n (grownCap w n.size 0 e)).size, (bytesRow n (grownCap w n.size 0 e)).size + 1)))
        hlow ⟨fun j hj h => by omega, fun h => by cases h⟩ hnone rfl rfl (by rw [hlen]; exact hge) (by rw [hbs]; simp [Ty.size]) (bytes_rows fun j v hj => by
          rw [Nat.zero_add]
          simp only [ofBytes, List.map_map] at hj
          have hjl : j < n.data.size := by
            rcases Nat.lt_or_ge j n.data.size with h | h
            · exact h
            · rw [List.getElem?_eq_none (by simpa using h)] at hj; cases hj
          rw [bytesRow_at n _ j hjl]
          rw [← hj, List.getElem?_map, Array.getElem?_toList, Array.getElem?_eq_getElem hjl]
          rfl)
      refine c.made hd (hlt d hd) (v := .slice (some ⟨w.heap.size, 0, none⟩) n.size (grownCap w n.size 0 e)) (run ?_) m hp (fun n => put_ne (kS_ne_kX n d)) (kv := .sv (.cell (.hdl d))) (hdl_new (w := w) (by simp [hdrOf, Gh.set, hlen])) rfl hK
      rw [ev]
      exact run_bytes_of_string w s t e n hd1 hu (hu8 rfl)
    · exact (fail_eval h2).elim
  · exact (fail_eval h2).elim

end
end Rg

/- The ring framework, part Q: slices that are made, structs that are built. -/
namespace Rg
open Go

section
variable {P : Program} {E : Env} {B : Base} {N : Nat} {w w' : World} {σ : Sg} {G G' : Gh} {a : Act}
variable {K : Act → World → Prop} {Q : Exit → Act → World → Prop} {ws : List (Nat × KV)} {rs0 rs : List Nat}

theorem fold_set : ∀ (l : List Value) (k off : Nat) (vs : List Value), off + k + l.length ≤ vs.length →
    (l.zipIdx k).foldl (fun (cs : Array Value) (x : Value × Nat) => cs.setIfInBounds (off + x.2) x.1) vs.toArray = (vs.take (off + k) ++ l ++ vs.drop (off + k + l.length)).toArray
  | [], k, off, vs, h => by simp
  | v :: l, k, off, vs, h => by
    simp only [List.length_cons] at h
    rw [List.zipIdx_cons, List.foldl_cons]
    have e : vs.toArray.setIfInBounds (off + k) v = (vs.set (off + k) v).toArray := by apply Array.ext'; simp
    rw [e, fold_set l (k + 1) off (vs.set (off + k) v) (by simp; omega)]
    have hlt : off + k < vs.length := by omega
    have e1 : (vs.set (off + k) v).take (off + (k + 1)) = vs.take (off + k) ++ [v] := by
      rw [← Nat.add_assoc, List.take_succ, List.getElem?_set_self hlt]
      congr 1
      rw [List.take_set_of_le (Nat.le_refl _)]
    have e2 : (vs.set (off + k) v).drop (off + (k + 1) + l.length) = vs.drop (off + k + (v :: l).length) := by
      rw [List.drop_set_of_lt (by omega)]
      congr 1
      simp only [List.length_cons]; omega
    rw [e1, e2]
    simp

theorem fillT_sound (c : Cx B N σ a w G) {t : Nat → Option (Nat × Ty × TypeId)} {pl : Nat → Option (Nat × Nat)} (hpl : ∀ i p, t i = some p → pl i = some (p.1, p.2.1.size)) :
    ∀ {parts : List (Nat × Operand)} {cs cs' : List LC} {vs : List Value} {rs rs' : List Nat}, (fillT E t cs parts).eval σ rs = some (cs', rs') → RelCs w σ G cs vs →
      ∃ vs', Instr.fill pl vs.toArray (parts.map fun p => (p.1, a.eval p.2)) = some vs'.toArray ∧ RelCs w σ G cs' vs'
  | [], cs, cs', vs, rs, rs', h, hr => by
    have := pure_eq h
    subst this
    exact ⟨vs, rfl, hr⟩
  | (i, x) :: l, cs, cs', vs, rs, rs', h, hr => by
    unfold fillT at h
    split at h
    · exact (fail_eval h).elim
    · rename_i off r ft hi
      obtain ⟨s, r1, h1, h2⟩ := T.eval_bind _ _ h
      obtain ⟨new, r2, h3, h4⟩ := T.eval_bind _ _ h2
      obtain ⟨hchk, h5⟩ := chk_eval h4
      obtain ⟨hl, hle⟩ := (Bool.and_eq_true _ _).mp hchk
      have hl' : new.length = r.size := Nat.eq_of_beq_eq_true hl
      have hle' : off + new.length ≤ cs.length := of_decide_eq_true hle
      have hnew := svCells_sound (c.opd h1) h3
      have nl := hnew.length
      have csz : (a.eval x).cells.size = r.size := by rw [← Array.length_toList, ← nl, hl']
      have vl := hr.length
      obtain ⟨vs', hf, hr'⟩ := fillT_sound c hpl h5 (splice_rel (off := off) hr hnew)
      refine ⟨vs', ?_, hr'⟩
      rw [List.map_cons]
      unfold Instr.fill
      rw [hpl i _ hi]
      simp only
      rw [if_neg (by simp only [csz, List.size_toArray, Bool.or_eq_true, decide_eq_true_eq]; omega)]
      rw [← hf]
      congr 1
      have := fold_set (a.eval x).cells.toList 0 off vs (by omega)
      simp only [Nat.add_zero] at this
      rw [← this]
      rw [← Array.foldl_toList]
      congr 1
      simp

theorem fieldTy_places {P : Program} : ∀ {fs : List Field} {r : Ty} , (∀ f : Nat, (fs[f]?).isSome = (fieldTy r f).isSome ∧ ∀ p, fieldTy r f = some p → ∃ fd i, fs[f]? = some fd ∧ fd.offset = p.1 ∧ P.info? fd.type = some i ∧ i.size = p.2.size ∧ i.size ≠ 0) →
    ∀ g : Nat → Option (Nat × Ty), (∀ f, g f = fieldTy r f) → ∃ places, fs.mapM (fun f => (P.info? f.type).map fun i => (f.offset, i.size)) = some places ∧ ∀ f p, g f = some p → places[f]? = some (p.1, p.2.size) := by
  intro fs r h g hg
  have key : ∀ (fs : List Field) (g : Nat → Option (Nat × Ty)), (∀ f : Nat, (fs[f]?).isSome = (g f).isSome ∧ ∀ p, g f = some p → ∃ fd i, fs[f]? = some fd ∧ fd.offset = p.1 ∧ P.info? fd.type = some i ∧ i.size = p.2.size ∧ i.size ≠ 0) →
      ∃ places, fs.mapM (fun f => (P.info? f.type).map fun i => (f.offset, i.size)) = some places ∧ ∀ f p, g f = some p → places[f]? = some (p.1, p.2.size) := by
    intro fs
    induction fs with
    | nil =>
      intro g h
      refine ⟨[], rfl, fun f p hp => ?_⟩
      have := (h f).1
      rw [hp] at this
      simp at this
    | cons fd fs ih =>
      intro g h
      obtain ⟨places, h1, h2⟩ := ih (fun f => g (f + 1)) fun f => by simpa using h (f + 1)
      have h0 := h 0
      have hs : (g 0).isSome = true := by rw [← h0.1]; rfl
      obtain ⟨p0, hp0⟩ := Option.isSome_iff_exists.mp hs
      obtain ⟨fd', i, e1, e2, e3, e4, _⟩ := h0.2 p0 hp0
      simp only [List.getElem?_cons_zero, Option.some.injEq] at e1
      subst e1
      refine ⟨(fd.offset, i.size) :: places, by simp [List.mapM_cons, e3, h1], fun f p hp => ?_⟩
      cases f with
      | zero =>
        rw [hp0] at hp; cases hp
        simp [e2, e4]
      | succ f => simpa using h2 f p hp
  refine key fs g fun f => ?_
  rw [hg f]; exact h f

theorem good_build (hE : EnvTy P E) (c : Cx B N σ a w G) {o : Oper} {t : TypeId} {parts : Array (Nat × Operand)} (ho : o.op = .build t parts) (hlt : ∀ d, o.dst = some d → d < N)
    (h : (lop E o).eval σ rs0 = some (ws, rs)) (hK : ∀ a' w', Rel B N (puts σ ws) a' w' → K a' w') : o.wp P a w K Q := by
  unfold lop at h; rw [ho] at h
  simp only at h
  split at h
  · rename_i r ht
    obtain ⟨hagg, h⟩ := chk_eval h
    obtain ⟨cs, r1, h1, h2⟩ := T.eval_bind _ _ h
    obtain ⟨i, z, hi, _, hz, hzc, hza⟩ := (hE.ty t r ht).info
    obtain ⟨d, hd, htd⟩ := (hE.ty t r ht).und
    have hst : ∃ fs : Array Field, d = .struct fs ∧ ∀ f : Nat, (fs[f]?).isSome = (fieldTy r f).isSome ∧ ∀ p, fieldTy r f = some p → ∃ fd i, fs[f]? = some fd ∧ fd.offset = p.1 ∧ P.info? fd.type = some i ∧ i.size = p.2.size ∧ i.size ≠ 0 := by
      cases r <;> first | exact htd | (simp [Ty.isAgg] at hagg)
    obtain ⟨fs, rfl, hf⟩ := hst
    obtain ⟨places, hp1, hp2⟩ := fieldTy_places (P := P) (fs := fs.toList) (r := r) (fun f => by simpa using hf f) (fieldTy r) (fun _ => rfl)
    obtain ⟨vs', hfill, hr⟩ := fillT_sound (pl := (places.toArray[·]?)) c (fun i p hp => by
      cases hh : fieldTy r i with
      | none => rw [hh] at hp; cases hp
      | some q =>
        rw [hh] at hp
        simp only [Option.map_some, Option.some.injEq] at hp
        subst hp
        simpa using hp2 i q hh) h1 (RelCs.zcs (t := r))
    refine c.value hlt (s := .agg cs) (v := .agg vs'.toArray) ?_ ⟨vs', rfl, hr⟩ (pure_eq h2).symm hK
    have hb : P.built t (parts.map fun (i, x) => (i, a.eval x)).toList = some vs'.toArray := by
      unfold Program.built
      simp only [hi, hd, hz, hp1, hzc]
      rw [← hfill]
      simp
    simp [execOp, ho, run_build w t _ _ hb]
  · exact (fail_eval h).elim
end
end Rg

/- The ring framework, part R: slices that are made and built. -/
namespace Rg
open Go

section
variable {P : Program} {E : Env} {B : Base} {N : Nat} {w w' : World} {σ : Sg} {G G' : Gh} {a : Act}
variable {K : Act → World → Prop} {Q : Exit → Act → World → Prop} {ws : List (Nat × KV)} {rs0 rs : List Nat}

theorem Ty.beqP_plain : ∀ {a b : Ty}, a.plain = true → a.beqP b = true → a = b
  | .int a, .int b, _, h => by rw [kBeq_eq (a := a) (b := b) (by simpa [Ty.beqP] using h)]
  | .bool, .bool, _, _ => rfl
  | .str, .str, _, _ => rfl
  | .sl a, .sl b, hp, h => by rw [Ty.beqP_plain (a := a) (b := b) (by simpa [Ty.plain] using hp) (by simpa [Ty.beqP] using h)]
  | .ow _, .sl _, hp, _ => by cases hp
  | .nil, .nil, _, _ => rfl
  | .cons a b, .cons c d, hp, h => by
    simp [Ty.beqP] at h
    simp [Ty.plain] at hp
    rw [Ty.beqP_plain hp.1 h.1, Ty.beqP_plain hp.2 h.2]

theorem rowAt_ty {d : Option Tmp} {t : TypeId} {r : Ty} (h : rowAt E d t = some r) (hp : r.plain = true) : E.ty t = some (.sl r) := by
  unfold rowAt at h
  split at h
  · rename_i r' _
    split at h
    · rename_i q hq
      cases hb : r'.beqP q
      · rw [hb] at h; cases h
      · rw [hb] at h
        simp only [cond_true, Option.some.injEq] at h
        subst h
        rw [Ty.beqP_plain hp hb]; exact hq
    · cases h
  · split at h
    · rename_i q hq
      simp only [Option.some.injEq] at h
      subst h
      exact hq
    · cases h

/-- Zeros for n elements. -/
def zvsN (r : Ty) : Nat → List Value
  | 0 => []
  | n + 1 => r.zvs ++ zvsN r n

theorem zvsN_length (r : Ty) : ∀ n, (zvsN r n).length = n * r.size
  | 0 => by simp [zvsN]
  | n + 1 => by simp [zvsN, zvsN_length r n, Ty.zvs_length, Nat.succ_mul]; omega

theorem RelCs.zcsN {r : Ty} : ∀ n, RelCs w σ G (zcsN r n) (zvsN r n)
  | 0 => trivial
  | n + 1 => RelCs.append RelCs.zcs (RelCs.zcsN n)

theorem zvsN_get (r : Ty) (h1 : 1 ≤ r.size) : ∀ n j, j < n * r.size → (zvsN r n)[j]? = r.zvs[j % r.size]?
  | 0, j, h => by simp at h
  | n + 1, j, h => by
    rw [Nat.succ_mul] at h
    unfold zvsN
    by_cases hj : j < r.size
    · rw [List.getElem?_append_left (by rw [Ty.zvs_length]; exact hj), Nat.mod_eq_of_lt hj]
    · rw [List.getElem?_append_right (by rw [Ty.zvs_length]; omega), Ty.zvs_length, zvsN_get r h1 n _ (by omega)]
      congr 1
      have e : j % r.size = (j - r.size) % r.size := by
        have : j = (j - r.size) + r.size := by omega
        conv => lhs; rw [this, Nat.add_mod_right]
      rw [e]

theorem made_zvsN {r : Ty} {z : Array Value} (hz : z = r.zvs.toArray) (h1 : 1 ≤ r.size) (n : Nat) : madeCells z (n * r.size) = (zvsN r n).toArray := by
  apply Array.ext_getElem?
  intro j
  have zsz : z.size = r.size := by rw [hz]; simp [Ty.zvs_length]
  by_cases hj : j < n * r.size
  · have hm : j % r.size < z.size := by rw [zsz]; exact Nat.mod_lt _ (by omega)
    rw [show (zvsN r n).toArray[j]? = (zvsN r n)[j]? from List.getElem?_toArray .., zvsN_get r h1 n j hj]
    simp only [madeCells, Array.getElem?_map, Array.getElem?_range, if_pos hj, Option.map_some, zsz]
    rw [getElem!_pos z _ hm]
    subst hz
    simp only [List.getElem_toArray]
    rw [List.getElem?_eq_getElem]
  · rw [Array.getElem?_eq_none (by rw [size_madeCells]; omega), Array.getElem?_eq_none (by simp [zvsN_length]; omega)]

theorem zvsN_rows {S : Nat → Prop} {r : Ty} (hp : r.plain = true) {arr : Array Value} : ∀ {n m oo : Nat}, m ≤ n → rowAt' arr oo (zvsN r n) → Rows (ORep w S r) arr r.size (List.replicate m r.zero) oo []
  | _, 0, _, _, _ => rfl
  | n + 1, m + 1, oo, hm, h => by
    refine ⟨r.zvs, [], [], rfl, fun j v hj => ?_, Ty.zero_rep hp, zvsN_rows hp (n := n) (by omega) fun j v hj => ?_⟩
    · have hlt : j < r.zvs.length := by
        rcases Nat.lt_or_ge j r.zvs.length with h | h
        · exact h
        · rw [List.getElem?_eq_none h] at hj; cases hj
      exact h j v (by unfold zvsN; rw [List.getElem?_append_left hlt]; exact hj)
    · have := h (r.size + j) v (by unfold zvsN; rw [List.getElem?_append_right (by rw [Ty.zvs_length]; omega), Ty.zvs_length]; simpa using hj)
      rw [← this]; congr 1; omega

theorem mkFits_iff {l c : Int} {n : Nat} : mkFits l c n = true ↔ (0 ≤ l ∧ l ≤ c) ∧ c * (n : Int) ≤ 70368744177664 := by simp [mkFits]

theorem make_facts {l cc : Int} {b : Nat} (hfit : mkFits l cc b = true) (hb1 : 1 ≤ b) : 0 ≤ l ∧ l ≤ cc ∧ (b : Int) * cc ≤ 281474976710656 ∧ cc ≤ 9223372036854775807 ∧ l.toNat ≤ cc.toNat := by
  obtain ⟨⟨h0, hlc⟩, hb⟩ := mkFits_iff.1 hfit
  have hcle : cc ≤ cc * (b : Int) := by
    have : cc * 1 ≤ cc * (b : Int) := Int.mul_le_mul_of_nonneg_left (by omega) (by omega)
    simpa using this
  refine ⟨h0, hlc, by rw [Int.mul_comm]; omega, by omega, by omega⟩

theorem good_makeSlice (hE : EnvTy P E) (c : Cx B N σ a w G) {o : Oper} {t : TypeId} {lo co : Operand} (ho : o.op = .makeSlice t lo co) (hlt : ∀ d, o.dst = some d → d < N)
    (h : (lop E o).eval σ rs0 = some (ws, rs)) (hK : ∀ a' w', Rel B N (puts σ ws) a' w' → K a' w') : o.wp P a w K Q := by
  unfold lop at h; rw [ho] at h
  simp only at h
  split at h
  · rename_i d r hd hrow
    obtain ⟨ls, r1, h1, h2⟩ := T.eval_bind _ _ h
    obtain ⟨cs, r2, h3, h4⟩ := T.eval_bind _ _ h2
    have hl := c.opd h1
    have hc := c.opd h3
    clear h h2 h1 h3
    split at h4
    · rename_i l cc
      obtain ⟨hfit, h5⟩ := chk_eval h4
      obtain ⟨hpl, h6⟩ := chk_eval h5
      obtain ⟨hlow, hnone, rfl⟩ := newX_eval h6
      have ev1 := cell_int hl
      have ev2 := cell_int hc
      obtain ⟨e, ie, z, hu, hi, his, hib, hz, hzc, hs1, _, hb1⟩ := sl_und hE (rowAt_ty hrow hpl)
      rw [← hib] at hfit
      obtain ⟨h0, hlc, hbb, h63, hnn⟩ := make_facts hfit hb1
      have hmk := made_zvsN hzc hs1 cc.toNat
      obtain ⟨hp, m⟩ := c.hp.newX (n := d) (r := r) (xs := List.replicate l.toNat r.zero) (cap := cc.toNat) (el := e) (arr := (zvsN r cc.toNat).toArray)
        (w' := w.alloc (.cells (zvsN r cc.toNat).toArray e)) hlow hnone rfl hpl (by rw [List.length_replicate]; exact hnn) (by simp [zvsN_length]) (zvsN_rows hpl (n := cc.toNat) hnn fun j v hj => by simpa using hj)
      refine c.made hd (hlt d hd) (v := .slice (some ⟨w.heap.size, 0, none⟩) l.toNat cc.toNat) ?_ m hp (fun n => put_ne (kS_ne_kX n d)) (kv := .sv (.cell (.hdl d))) (hdl_new (w := w) (by simp [hdrOf, Gh.set])) rfl hK
      have hrun := run_make (P := P) w t e ie z hu hi hz .i64 .i64 l cc h0 hlc hbb h63
      rw [his, hmk] at hrun
      simp [execOp, ho, ev1, ev2, hrun]
    · exact (fail_eval h4).elim
  · exact (fail_eval h).elim
end
end Rg

/- The ring framework, part S: slices that are built. -/
namespace Rg
open Go

section
variable {P : Program} {E : Env} {B : Base} {N : Nat} {w w' : World} {σ : Sg} {G G' : Gh} {a : Act}
variable {K : Act → World → Prop} {Q : Exit → Act → World → Prop} {ws : List (Nat × KV)} {rs0 rs : List Nat}

/-- What packing of a row of plain elements says. -/
structure PackedN (w : World) (σ : Sg) (G : Gh) (r : Ty) (xs : List r.Den) (vs : List Value) (ups : List (Nat × KV)) (L D : List Nat) : Prop where
  rep : ∀ arr o, rowAt' arr o vs → Rows (ORep w (SL G L) r) arr r.size xs o []
  len : vs.length = xs.length * r.size
  ok : ∀ p, p ∈ ups → UpOk w σ G L D p
  gone : (ups.filter fun p => isGone p.2).map (·.1) = D.map kX
  fz : ∀ e, e ∈ L → ∃ p, p ∈ ups ∧ p.1 = kX e ∧ isGone p.2 = false

theorem packN_sound (hp : Hp B σ w G) {r : Ty} (hpl : r.plain = true) : ∀ {n : Nat} {cs : List LC} {vs : List Value} {xs : List r.Den} {rest : List LC} {ups : List (Nat × KV)} {rs rs' : List Nat},
    (packN r n cs).eval σ rs = some ((xs, rest, ups), rs') → RelCs w σ G cs vs → ∃ v1 v2 L D, vs = v1 ++ v2 ∧ RelCs w σ G rest v2 ∧ xs.length = n ∧ PackedN w σ G r xs v1 ups L D
  | 0, cs, vs, xs, rest, ups, rs, rs', h, hr => by
    have h' := pure_eq h
    simp only [Prod.mk.injEq] at h'
    obtain ⟨e1, e2, e3⟩ := h'
    subst e1; subst e2; subst e3
    exact ⟨[], vs, [], [], rfl, hr, rfl, fun _ _ _ => rfl, by simp, fun p h => by simp at h, rfl, fun e h => by simp at h⟩
  | n + 1, cs, vs, xs, rest, ups, rs, rs', h, hr => by
    obtain ⟨⟨x1, rest1, ups1⟩, r1, h1, h2⟩ := T.eval_bind _ _ h
    obtain ⟨⟨x2, rest2, ups2⟩, r2, h3, h4⟩ := T.eval_bind _ _ h2
    have h' := pure_eq h4
    simp only [Prod.mk.injEq] at h'
    obtain ⟨e1, e2, e3⟩ := h'
    subst e1; subst e2; subst e3
    obtain ⟨v1, v2, L1, D1, hv, hr1, p1⟩ := pack_sound hp h1 hr
    obtain ⟨v3, v4, L2, D2, hv2, hr2, hl, p2⟩ := packN_sound hp hpl h3 hr1
    have l1 : ∀ e, e ∈ L1 → e ∈ L1 ++ L2 := fun e h => List.mem_append_left _ h
    have l2 : ∀ e, e ∈ L2 → e ∈ L1 ++ L2 := fun e h => List.mem_append_right _ h
    have d1 : ∀ e, e ∈ D1 → e ∈ D1 ++ D2 := fun e h => List.mem_append_left _ h
    have d2 : ∀ e, e ∈ D2 → e ∈ D1 ++ D2 := fun e h => List.mem_append_right _ h
    have rep1 : ORep w (SL G L1) r x1 v1 [] := by
      have := ORep.plain hpl p1.rep
      rw [← this]; exact p1.rep
    have len1 := rep1.length
    refine ⟨v1 ++ v3, v4, L1 ++ L2, D1 ++ D2, by rw [hv, hv2, List.append_assoc], hr2, by simp [hl], ?_, ?_, ?_, ?_, ?_⟩
    · intro arr o hrow
      refine ⟨v1, [], [], rfl, fun j v hj => ?_, rep1.mono (fun b hb => SL.mono l1 hb) fun _ _ => rfl, ?_⟩
      · have hlt : j < v1.length := by
          rcases Nat.lt_or_ge j v1.length with h | h
          · exact h
          · rw [List.getElem?_eq_none h] at hj; cases hj
        exact hrow j v (by rw [List.getElem?_append_left hlt]; exact hj)
      · refine (p2.rep arr (o + r.size) fun j v hj => ?_).mono fun x cs U' _ ha => ha.mono (fun b hb => SL.mono l2 hb) fun _ _ => rfl
        have := hrow (v1.length + j) v (by rw [List.getElem?_append_right (by omega)]; simpa using hj)
        rw [← this, len1]; congr 1; omega
    · simp [len1, p2.len, Nat.succ_mul]; omega
    · intro p hp
      rcases List.mem_append.1 hp with h | h
      · exact (p1.ok p h).mono l1 d1
      · exact (p2.ok p h).mono l2 d2
    · simp [p1.gone, p2.gone]
    · intro e he
      rcases List.mem_append.1 he with h | h
      · obtain ⟨p, h3, h4⟩ := p1.fz rfl e h
        exact ⟨p, List.mem_append_left _ h3, h4⟩
      · obtain ⟨p, h3, h4⟩ := p2.fz e h
        exact ⟨p, List.mem_append_right _ h3, h4⟩

theorem RelCs.nil_right {vs : List Value} (h : RelCs w σ G [] vs) : vs = [] := by
  cases vs with
  | nil => rfl
  | cons _ _ => exact h.elim

theorem good_buildSlice (hE : EnvTy P E) (c : Cx B N σ a w G) {o : Oper} {t : TypeId} {n : Nat} {parts : Array (Nat × Operand)} (ho : o.op = .buildSlice t n parts) (hlt : ∀ d, o.dst = some d → d < N)
    (h : (lop E o).eval σ rs0 = some (ws, rs)) (hK : ∀ a' w', Rel B N (puts σ ws) a' w' → K a' w') : o.wp P a w K Q := by
  unfold lop at h; rw [ho] at h
  simp only at h
  split at h
  · rename_i d r hd hrow
    obtain ⟨cs, r1, h1, h2⟩ := T.eval_bind _ _ h
    obtain ⟨⟨xs, rest, ups⟩, r2, h3, h4⟩ := T.eval_bind _ _ h2
    simp only at h4
    split at h4
    · obtain ⟨hchk, h5⟩ := chk_eval h4
      obtain ⟨hchk2, hn⟩ := (Bool.and_eq_true _ _).mp hchk
      obtain ⟨hpl, hu⟩ := (Bool.and_eq_true _ _).mp hchk2
      have hn : n * r.size ≤ 16777216 := Nat.le_of_ble_eq_true hn
      obtain ⟨hlow, hnone, rfl⟩ := newX_eval h5
      obtain ⟨e, ie, z, hut, hi, his, hib, hz, hzc, hs1, _, hb1⟩ := sl_und hE (rowAt_ty hrow hpl)
      obtain ⟨vs', hfill, hr⟩ := fillT_sound (pl := fun i => some (i * r.size, r.size)) c (fun i p hp => by
        simp only [Option.some.injEq] at hp
        subst hp; rfl) h1 (RelCs.zcsN (r := r) n)
      obtain ⟨v1, v2, L, D, hv, hr2, hl, pk⟩ := packN_sound c.hp hpl h3 hr
      have hv2 := RelCs.nil_right hr2
      subst hv2
      rw [List.append_nil] at hv
      subst hv
      obtain ⟨hp1, m1, _, _, _⟩ := ups_apply c.hp pk.ok pk.fz pk.gone hu
      have hnone' : puts σ ups (kX d) = .none := by
        rw [puts_not, hnone]
        intro hm
        obtain ⟨p, hp, ek⟩ := List.mem_map.1 hm
        obtain ⟨e', q, ys, e1, e2, _⟩ := pk.ok p hp
        rw [ek] at e1
        rw [← e1, hnone] at e2
        cases e2
      obtain ⟨hp2, m2⟩ := hp1.newX (n := d) (r := r) (xs := xs) (cap := n) (el := e) (arr := vs'.toArray) (w' := w.alloc (.cells vs'.toArray e)) hlow hnone' rfl hpl (by omega)
        (by simp [pk.len, hl]) (pk.rep _ _ fun j v hj => by simpa using hj)
      have hws : puts σ (ups ++ [(kX d, .ex r xs), (kS d, .sv (.cell (.hdl d)))]) = put (put (puts σ ups) (kX d) (.ex r xs)) (kS d) (.sv (.cell (.hdl d))) := by rw [puts_append]; rfl
      refine c.made hd (hlt d hd) (v := .slice (some ⟨w.heap.size, 0, none⟩) n n) ?_ (m1.trans m2) hp2 (fun k => by rw [put_ne (kS_ne_kX k d)]; exact ups_slots pk.ok k) (kv := .sv (.cell (.hdl d)))
        (hdl_new (w := w) (by simp [hdrOf, Gh.set, hl])) hws hK
      have hle : ¬ (16777216 < n * r.size) := by omega
      by_cases h0 : n * r.size = 0
      · have hz0 : Array.map (fun _ => (default : Value)) (Array.range 0) = (zvsN r n).toArray := by
          have : zvsN r n = [] := List.eq_nil_of_length_eq_zero (by rw [zvsN_length]; exact h0)
          rw [this]; simp
        simp only [execOp, ho, Instr.buildSlice, Sem.run_bind, run_underlying hut, Result.andThen_ok, Go.sizeOf, typeInfo]
        simp [hi, his, h0, newRow]
        rw [hz0, hfill]
        simp
      · have hz0 := made_zvsN hzc hs1 n
        unfold madeCells at hz0
        simp [execOp, ho, Instr.buildSlice, run_underlying hut, Go.sizeOf, typeInfo, hi, his, hle, h0, zeroValue, hz, newRow]
        rw [hz0, hfill]
        simp
    · exact (fail_eval h4).elim
  · exact (fail_eval h).elim
end
end Rg

/- The ring framework, part T: every operation but the calls of functions. -/
namespace Rg
open Go

section
variable {P : Program} {E : Env} {B : Base} {N : Nat} {w w' : World} {σ : Sg} {G G' : Gh} {a : Act}
variable {K : Act → World → Prop} {Q : Exit → Act → World → Prop} {ws : List (Nat × KV)} {rs0 rs : List Nat}

theorem good_lop (hE : EnvTy P E) (c : Cx B N σ a w G) {o : Oper} (hcall : ∀ cl f, o.op = .call cl → cl.callee = .value f → o.wp P a w K Q) (hlt : ∀ d, o.dst = some d → d < N)
    (h : (lop E o).eval σ rs0 = some (ws, rs)) (hK : ∀ a' w', Rel B N (puts σ ws) a' w' → K a' w') : o.wp P a w K Q := by
  have bad : ∀ {op : Op}, o.op = op → (∀ E : Env, ∀ o : Oper, o.op = op → lop E o = .fail) → False := by
    intro op ho hf
    rw [hf E o ho] at h
    exact fail_eval h
  cases ho : o.op with
  | move x => exact good_move c (.inl ho) hlt h hK
  | assign x => exact good_move c (.inr ho) hlt h hK
  | pick x y z => exact good_pick c ho hlt h hK
  | alloc t => exact good_alloc hE c ho hlt h hK
  | box t x => exact good_box c ho hlt h hK
  | build t parts => exact good_build hE c ho hlt h hK
  | buildSlice t n parts => exact good_buildSlice hE c ho hlt h hK
  | load t x => exact good_load hE c ho hlt h hK
  | store t x y => exact good_store hE c ho h hK
  | nilCheck x => exact good_nilCheck c ho hlt h hK
  | binOp op t x y yt => exact good_binOp hE c ho hlt h hK
  | unOp op t x => exact good_unOp c ho hlt h hK
  | convert s t x => exact good_convert hE c ho hlt h hK
  | makeFunc f first captured => exact good_makeFunc c ho hlt h hK
  | makeSlice t l cc => exact good_makeSlice hE c ho hlt h hK
  | slice t x lo hi mx => exact good_slice hE c ho hlt h hK
  | fieldAddr t x f => exact good_fieldAddr hE c ho hlt h hK
  | indexAddr t x y => exact good_indexAddr hE c ho hlt h hK
  | index t x y => exact good_index hE c ho hlt h hK
  | extract x i => exact good_extract c ho hlt h hK
  | call cl =>
    cases hcl : cl.callee with
    | value f => exact hcall cl f ho hcl
    | invoke r n => unfold lop at h; rw [ho] at h; simp only [hcl] at h; exact (fail_eval h).elim
    | builtin b =>
      cases b with
      | len => exact good_len hE c ho hcl hlt h hK
      | append => exact good_append hE c ho hcl hlt h hK
      | max => exact good_max c ho hcl hlt h hK
      | min => exact good_min c ho hcl hlt h hK
      | _ => unfold lop at h; rw [ho] at h; simp only [hcl] at h; exact (fail_eval h).elim
  | _ => unfold lop at h; rw [ho] at h; exact (fail_eval h).elim

end
end Rg

/- The ring framework, part U: an operation in its region. -/
namespace Rg
open Go

section
variable {P : Program} {E : Env} {B : Base} {N : Nat} {w w' : World} {σ : Sg} {G G' : Gh} {a : Act} {ops : Array Oper}
variable {K : Act → World → Prop} {Q : Exit → Act → World → Prop} {ws : List (Nat × KV)} {rs0 rs : List Nat}

theorem Rel.skip (hR : Rel B N σ a w) {o : Oper} (hlt : ∀ d, o.dst = some d → d < N) : Rel B N (puts σ (wr o.dst .undef)) (a.put o.dst undef) w := by
  obtain ⟨G, hp, hd, hn, hs⟩ := hR
  have he : ∀ k, isKey k → puts σ (wr o.dst .undef) k = σ k := by
    intro k hk
    cases h : o.dst with
    | none => rfl
    | some d => exact put_ne (isKey_ne_kS hk d)
  refine Rel.close hd hn hs (Mon.slots he) (hp.slots he) hlt (fun n hne => ?_) (fun d h => ?_)
  · cases h : o.dst with
    | none => rfl
    | some d => exact put_ne fun e => hne (by rw [h, kS_inj e])
  · rw [h]
    have : puts σ (wr (some d) .undef) (kS d) = .sv .undef := put_eq
    rw [this]; rfl

theorem getD_bool {l : Array Value} {d : Nat} {b : Bool} (h : l.getD d undef = .bool b) : l[d]? = some (.bool b) := by
  rw [Array.getD_eq_getD_getElem?] at h
  cases hh : l[d]? with
  | none => rw [hh] at h; simp [undef] at h
  | some v => rw [hh] at h; simp at h; rw [h]

theorem getD_undef {l : Array Value} {d : Nat} (h : l.getD d undef = undef) : ∀ b, l[d]? ≠ some (.bool b) := by
  intro b hb
  rw [Array.getD_eq_getD_getElem?, hb] at h
  simp [undef] at h

theorem good_op (hE : EnvTy P E) (hN : E.n = N) {i : Nat} {o : Oper} (ho : ops[i]? = some o) (hR : Rel B N σ a w) (h : (lopG E ops o).eval σ rs0 = some (ws, rs))
    (hcall : ∀ G, Cx B N σ a w G → ∀ cl f rs0 rs', o.op = .call cl → cl.callee = .value f → (lop E o).eval σ rs0 = some (ws, rs') → (∀ d, o.dst = some d → d < N) → o.wp P a w K Q)
    (hK : ∀ a' w', Rel B N (puts σ ws) a' w' → K a' w') : wpOp P ops Q i K a w := by
  obtain ⟨hlt0, h⟩ := chk_eval h
  have hlt : ∀ d, o.dst = some d → d < N := by
    intro d hd
    rw [hd] at hlt0
    rw [← hN]
    simpa [Nat.blt_eq] using hlt0
  obtain ⟨G, hp, hd, hn, hs⟩ := id hR
  have c : Cx B N σ a w G := ⟨hp, hd, hn, hs⟩
  have doIt : ∀ {rs0 rs'}, (lop E o).eval σ rs0 = some (ws, rs') → o.wp P a w K Q := fun {rs0 rs'} h =>
    good_lop hE c (fun cl f h1 h2 => hcall G c cl f rs0 rs' h1 h2 h hlt) hlt h hK
  unfold wpOp
  rw [ho]
  simp only
  split at h
  · rename_i hg
    rw [if_pos (by simp [Region.wanted, hg])]
    exact .inl (doIt h)
  · rename_i j want hg
    split at h
    · rename_i d hj
      have hrel := hs d
      have yl : ∀ b, a.tmps.getD d undef = .bool b → yielded ops a.tmps j = some b := by
        intro b hb
        simp only [yielded, hj, Option.bind_some, getD_bool hb]
      have skip : yielded ops a.tmps j ≠ some want → ws = wr o.dst .undef → (if Region.wanted o (yielded ops a.tmps) = true then o.wp P a w K Q ∨ (o.asks P a w ∧ LetsOut Q) else K (a.put o.dst undef) w) := by
        intro hy hw
        rw [if_neg (by simpa [Region.wanted, hg] using hy)]
        exact hK _ _ (by rw [hw]; exact hR.skip hlt)
      have take : yielded ops a.tmps j = some want → ∀ {rs0 rs'}, (lop E o).eval σ rs0 = some (ws, rs') → (if Region.wanted o (yielded ops a.tmps) = true then o.wp P a w K Q ∨ (o.asks P a w ∧ LetsOut Q) else K (a.put o.dst undef) w) := by
        intro hy rs0 rs' hl
        rw [if_pos (by simp [Region.wanted, hg, hy])]
        exact .inl (doIt hl)
      simp only [T.eval] at h
      split at h
      · rename_i b hb
        rw [hb] at hrel
        have hb' : a.tmps.getD d undef = .bool b := cell_bool (w := w) (σ := σ) (G := G) hrel
        have hy := yl b hb'
        cases b <;> cases want <;> simp only [cond_true, cond_false] at h
        · exact take hy h
        · exact skip (by rw [hy]; simp) (pure_eq (σ := σ) h).symm
        · exact skip (by rw [hy]; simp) (pure_eq (σ := σ) h).symm
        · exact take hy h
      · rename_i hb
        rw [hb] at hrel
        have hu : a.tmps.getD d undef = undef := hrel
        refine skip ?_ (by simp only [Option.some.injEq, Prod.mk.injEq] at h; exact h.1.symm)
        intro hy
        simp only [yielded, hj, Option.bind_some] at hy
        split at hy
        · rename_i b hbb
          exact getD_undef hu b hbb
        · cases hy
      · cases h
    · exact (fail_eval h).elim

end
end Rg

/- The ring framework, part V: regions. -/
namespace Rg
open Go

/-- Calls of functions do what their models say. -/
def CallOK (P : Program) (E : Env) (B : Base) (N : Nat) : Prop :=
  ∀ (σ : Sg) (a : Act) (w : World) (G : Gh) (o : Oper) (cl : Call) (f : Operand) (ws : List (Nat × KV)) (rs rs' : List Nat) (K : Act → World → Prop) (Q : Exit → Act → World → Prop),
    Cx B N σ a w G → o.op = .call cl → cl.callee = .value f → (lop E o).eval σ rs = some (ws, rs') → (∀ d, o.dst = some d → d < N) → (∀ a' w', Rel B N (puts σ ws) a' w' → K a' w') → o.wp P a w K Q

section
variable {P : Program} {E : Env} {B : Base} {N : Nat} {ops : Array Oper} {Q : Exit → Act → World → Prop}

theorem step_op (hE : EnvTy P E) (hN : E.n = N) (hC : CallOK P E B N) (i : Nat) (o : Oper) (σ : Sg) (a : Act) (w : World) (ws : List (Nat × KV)) (rs : List Nat) (ho : ops[i]? = some o) (hR : Rel B N σ a w)
    (h : (lopG E ops o).eval σ [] = some (ws, rs)) (K : Act → World → Prop) (hK : ∀ a' w', Rel B N (puts σ ws) a' w' → K a' w') : wpOp P ops Q i K a w :=
  good_op hE hN ho hR h (fun G c cl f rs0 rs' h1 h2 h3 h4 => hC σ a w G o cl f ws rs0 rs' K Q c h1 h2 h3 h4 hK) hK

theorem text_order (hE : EnvTy P E) (hN : E.n = N) (hC : CallOK P E B N) {σn : Sg} (hQ : ∀ a w, Rel B N σn a w → Q .normal a w) :
    ∀ (l pre : List Oper) (st : List (List (Nat × KV) × List Nat)) (σ : Sg) (a : Act) (w : World), ops.toList = pre ++ l → Chain E ops l σ st σn → Rel B N σ a w →
      wpOps P ops Q ((List.range l.length).map (pre.length + ·)) a w
  | [], pre, [], σ, a, w, _, hc, hR => by
    have : σ = σn := hc
    subst this
    exact hQ a w hR
  | [], pre, _ :: _, σ, a, w, _, hc, hR => hc.elim
  | o :: l, pre, [], σ, a, w, _, hc, hR => hc.elim
  | o :: l, pre, p :: st, σ, a, w, hops, hc, hR => by
    have ho : ops[pre.length]? = some o := by
      rw [← Array.getElem?_toList, hops]; simp
    rw [List.length_cons, List.range_succ_eq_map, List.map_cons, wpOps_cons]
    refine step_op hE hN hC pre.length o σ a w p.1 p.2 ho hR hc.1 _ fun a' w' hR' => ?_
    have := text_order hE hN hC hQ l (pre ++ [o]) st (puts σ p.1) a' w' (by simp [hops]) hc.2 hR'
    have e : (List.range l.length).map ((pre ++ [o]).length + ·) = List.map (fun x => pre.length + x) (List.map Nat.succ (List.range l.length)) := by
      rw [List.map_map]
      apply List.map_congr_left
      intro x _
      simp; omega
    rw [← e]; exact this

theorem Rel.heapEq {σ : Sg} {a : Act} {w w' : World} (hR : Rel B N σ a w) (e : w'.heap = w.heap) (hside : Side w w' := by exact ⟨rfl, rfl, rfl⟩) : Rel B N σ a w' := by
  obtain ⟨G, hp, hd, hn, hs⟩ := hR
  exact ⟨G, hp.heapEq e hside, hd, hn, fun n => (hs n).mon (Mon.heapEq e)⟩

theorem told_none {n : Nat} (j : Nat) : told (Array.replicate n false) j = false := by
  unfold told
  rw [Array.getD_eq_getD_getElem?, Array.getElem?_replicate]
  split <;> rfl

theorem tau_none {X : Nat → Bool} (h : ∀ j, X j = false) : ∀ {i : Nat} {st : List (List (Nat × KV) × List Nat)} {σ : Sg}, tau X i st σ = σ
  | _, [], _ => rfl
  | i, p :: l, σ => by
    unfold tau
    rw [h i]
    exact tau_none h

theorem cnt_le {X : Nat → Bool} : ∀ n, cnt X n ≤ n
  | 0 => Nat.le_refl _
  | n + 1 => by
    have := cnt_le (X := X) n
    unfold cnt
    cases X n <;> simp <;> omega

theorem region_sound {R : Type} (hE : EnvTy P E) (hN : E.n = N) (hC : CallOK P E B N) (hm : P.follows .mixedOrders = true) {σ : Sg} {a : Act} {w : World} {id : Nat} {draw : Bool} {k : Sg → Option R} {r : R}
    (h : evalRegion E ops draw σ k = some r) (hR : Rel B N σ a w) (hQ : ∀ σ' a' w', k σ' = some r → Rel B N σ' a' w' → Q .normal a' w') : (Code.region id ops draw).wp P Q a w := by
  unfold evalRegion at h
  obtain ⟨st, σn, hc, hk⟩ := evalOps_chain E ops _ h
  cases draw
  · refine wp_region ?_
    simp only [cond_false] at hk
    have := text_order hE hN hC (fun a w hR => hQ σn a w hk hR) ops.toList [] st σ a w rfl hc hR
    simpa using this
  · simp only [cond_true] at hk
    rw [List.append_nil, List.reverse_reverse] at hk
    cases hok : okLog ops.toList (st.map fun p => (p.1.map (·.1), p.2))
    · rw [hok] at hk; cases hk
    · rw [hok] at hk
      simp only [cond_true] at hk
      refine wp_region_any hm ?_
      refine any_order (E := E) (ops := ops) (Rel B N) (fun i o σ a w ws rs ho hR h K hK => step_op hE hN hC i o σ a w ws rs ho hR h K hK) hc hok (fun a w hR => hQ σn a w hk hR) ops.size _ a _ (by simp) ?_ ?_ ?_
      · rw [tau_none told_none]
        exact hR.heapEq rfl
      · intro i o _ hx
        rw [told_none] at hx; cases hx
      · exact cnt_le ops.size
end
end Rg

/- The ring framework, part W: loops, code. -/
namespace Rg
open Go

theorem least {p : Nat → Prop} (h : ∃ n, p n) : ∃ n, p n ∧ ∀ m, p m → n ≤ m := by
  obtain ⟨n, hn⟩ := h
  induction n using Nat.strongRecOn with
  | _ n ih =>
    by_cases hm : ∃ m, m < n ∧ p m
    · obtain ⟨m, hlt, hp⟩ := hm
      exact ih m hlt hp
    · exact ⟨n, hn, fun m hp => Nat.le_of_not_lt fun hlt => hm ⟨m, hlt, hp⟩⟩

open Classical in
/-- A loop that a falling number bounds. -/
theorem wp_loop_nat {P : Program} {c : Code} {Q : Exit → Act → World → Prop} {a : Act} {w : World} (J : Nat → Act → World → Prop) (h0 : ∃ n, J n a w)
    (hr : ∀ n a w, J n a w → c.wp P (Exit.then (fun a' w' => ∃ m, m < n ∧ J m a' w') Q) a w) : (Code.loop c).wp P Q a w := by
  let μ : Act → World → Nat := fun a w => if h : ∃ n, J n a w then Classical.choose (least h) else 0
  have spec : ∀ a w (h : ∃ n, J n a w), J (μ a w) a w ∧ ∀ m, J m a w → μ a w ≤ m := by
    intro a w h
    have := Classical.choose_spec (least h)
    simp only [μ, dif_pos h]
    exact this
  refine wp_loop (fun a w => ∃ n, J n a w) μ h0 fun a w h => ?_
  obtain ⟨h1, _⟩ := spec a w h
  refine Code.wp_mono (fun e a' w' he => ?_) (hr _ a w h1)
  cases e with
  | normal =>
    obtain ⟨m, hlt, hJ⟩ := he
    exact ⟨⟨m, hJ⟩, Nat.lt_of_le_of_lt ((spec a' w' ⟨m, hJ⟩).2 m hJ) hlt⟩
  | _ => exact he

end Rg

/- The ring framework, part X: code. -/
namespace Rg
open Go

/-- A loop's remark is its code's own. -/
def AnOK (E : Env) (f : Fin) : Code → An (outOf f.ps f.rs) → Prop
  | .seq x y, an => AnOK E f x (match an with | .seq a _ => a | _ => .leaf) ∧ AnOK E f y (match an with | .seq _ b => b | _ => .leaf)
  | .cond _ x y, an => AnOK E f x (match an with | .cond a _ => a | _ => .leaf) ∧ AnOK E f y (match an with | .cond _ b => b | _ => .leaf)
  | .block _ c, an => AnOK E f c (match an with | .block a => a | _ => .leaf)
  | .loop c, an => match an with
    | .loop hd xp xid fn a => (∃ (Lf : Nat → (Pat.ty hd).Den → Option ((outOf f.ps f.rs).Den ⊕ (Pat.ty xp).Den)) (K : Nat), fn = Lf K ∧ (∀ x, Lf 0 x = none) ∧ ∀ n x, Lf (n + 1) x = round E f hd xp xid c a (Lf n) x) ∧ AnOK E f c a
    | _ => True
  | _, _ => True

def exOf : Ex → Exit
  | .normal => .normal
  | .exit id => .exit id
  | .ret => .ret

section
variable {P : Program} {E : Env} {B : Base} {N : Nat}

theorem evalC_sound (hE : EnvTy P E) (hN : E.n = N) (hC : CallOK P E B N) (hm : P.follows .mixedOrders = true) (f : Fin)
    (hX : ∀ (p : Pat) (σ : Sg) (x : (Pat.ty p).Den) (ups : List (Nat × KV)) (rs : List Nat) (a : Act) (w : World), Pat.ok p = true → (ext p).eval σ [] = some ((x, ups), rs) → okUps ups = true → Rel B N σ a w → Rel B N (inj p x empty) a w) :
    ∀ (c : Code) (an : An (outOf f.ps f.rs)) {R : Type} {σ : Sg} {k : Ex → Sg → Option R} {kr : (outOf f.ps f.rs).Den → Option R} {r : R} {a : Act} {w : World} {Q : Exit → Act → World → Prop},
      AnOK E f c an → evalC E f c an σ k kr = some r → Rel B N σ a w →
      (∀ e σ' a' w', k e σ' = some r → Rel B N σ' a' w' → Q (exOf e) a' w') →
      (∀ σ' y ups rs a' w', (finRes E f.rs f.res f.ps).eval σ' [] = some ((y, ups), rs) → okUps ups = true → kr y = some r → Rel B N σ' a' w' → Q .ret a' w') → c.wp P Q a w := by
  intro c
  induction c with
  | skip =>
    intro an R σ k kr r a w Q _ h hR hk _
    exact wp_skip (hk .normal σ a w h hR)
  | region id ops draw =>
    intro an R σ k kr r a w Q _ h hR hk _
    exact region_sound hE hN hC hm h hR fun σ' a' w' h' hR' => hk .normal σ' a' w' h' hR'
  | seq x y ihx ihy =>
    intro an R σ k kr r a w Q hA h hR hk hr
    refine wp_seq (ihx _ hA.1 h hR (fun e σ' a' w' h' hR' => ?_) (fun σ' y ups rs a' w' h1 h0 h2 h3 => hr σ' y ups rs a' w' h1 h0 h2 h3))
    cases e with
    | normal => exact ihy _ hA.2 h' hR' hk hr
    | exit id => exact hk (.exit id) σ' a' w' h' hR'
    | ret => exact hk .ret σ' a' w' h' hR'
  | cond cc x y ihx ihy =>
    intro an R σ k kr r a w Q hA h hR hk hr
    simp only [evalC] at h
    obtain ⟨s, rs, h1, h2⟩ := T.run_eval _ h
    obtain ⟨G, hp, hd, hn, hs⟩ := id hR
    have hv := opd_sound hs h1
    split at h2
    · rename_i b
      have ev := cell_bool hv
      cases b
      · exact wp_cond_false ev (ihy _ hA.2 h2 hR hk hr)
      · exact wp_cond_true ev (ihx _ hA.1 h2 hR hk hr)
    · cases h2
  | block id c ih =>
    intro an R σ k kr r a w Q hA h hR hk hr
    refine wp_block (ih _ hA h hR (fun e σ' a' w' h' hR' => ?_) (fun σ' y ups rs a' w' h1 h0 h2 h3 => hr σ' y ups rs a' w' h1 h0 h2 h3))
    cases e with
    | normal => exact hk .normal σ' a' w' h' hR'
    | exit j =>
      show if j = id then Q .normal a' w' else Q (.exit j) a' w'
      simp only at h'
      by_cases hj : j = id
      · subst hj
        rw [Nat.beq_refl] at h'
        rw [if_pos rfl]
        exact hk .normal σ' a' w' h' hR'
      · rw [if_neg hj]
        have : Nat.beq j id = false := by
          cases hb : Nat.beq j id
          · rfl
          · exact absurd (Nat.eq_of_beq_eq_true hb) hj
        rw [this] at h'
        exact hk (.exit j) σ' a' w' h' hR'
    | ret => exact hk .ret σ' a' w' h' hR'
  | exit id =>
    intro an R σ k kr r a w Q _ h hR hk _
    exact wp_exit (hk (.exit id) σ a w h hR)
  | ret =>
    intro an R σ k kr r a w Q _ h hR hk _
    exact wp_ret (hk .ret σ a w h hR)
  | loop c ih =>
    intro an R σ k kr r a w Q hA h hR hk hr
    cases an with
    | loop hd xp xid fn an =>
      obtain ⟨⟨Lf, K, hfn, h0, hround⟩, hA'⟩ := hA
      simp only [evalC] at h
      have ext_run : ∀ {R : Type} {p : Pat} {σ : Sg} {k : (Pat.ty p).Den → Option R} {r : R} {a : Act} {w : World}, extK p σ k = some r → Rel B N σ a w → ∃ x, k x = some r ∧ Rel B N (inj p x empty) a w := by
        intro R p σ k r a w h hR
        unfold extK at h
        cases hpo : Pat.ok p
        · simp only [hpo] at h; cases h
        simp only [hpo, cond_true] at h
        obtain ⟨⟨x, ups⟩, rs, h1, h2⟩ := T.run_eval _ h
        cases ho : okUps ups
        · simp only [ho] at h2; cases h2
        · simp only [ho] at h2
          exact ⟨x, h2, hX p σ x ups rs a w hpo h1 ho hR⟩
      obtain ⟨x, hx, hRx⟩ := ext_run h hR
      obtain ⟨s, hs, hs2⟩ := Option.bind_eq_some_iff.mp hx
      rw [hfn] at hs
      refine wp_loop_nat (fun n a w => ∃ x, Lf n x = some s ∧ Rel B N (inj hd x empty) a w) ⟨K, x, hs, hRx⟩ ?_
      rintro n a w ⟨x, hLx, hRx⟩
      cases n with
      | zero => rw [h0] at hLx; cases hLx
      | succ n =>
        rw [hround] at hLx
        unfold round at hLx
        refine ih an hA' hLx hRx (fun e σ' a' w' h' hR' => ?_) (fun σ' y ups rs a' w' h1 ho h2 h3 => ?_)
        · cases e with
          | normal =>
            obtain ⟨x', hx', hRx'⟩ := ext_run h' hR'
            exact ⟨n, Nat.lt_succ_self n, x', hx', hRx'⟩
          | exit j =>
            simp only at h'
            cases hb : Nat.beq j xid
            · rw [hb] at h'; cases h'
            · rw [hb] at h'
              have hj := Nat.eq_of_beq_eq_true hb
              subst hj
              simp only [cond_true] at h'
              obtain ⟨y, hy, hRy⟩ := ext_run h' hR'
              simp only [Option.some.injEq] at hy
              subst hy
              exact hk (.exit j) _ a' w' hs2 hRy
          | ret =>
            unfold finK at h'
            obtain ⟨⟨y, ups⟩, rs, h1, h2⟩ := T.run_eval _ h'
            cases ho : okUps ups
            · simp only [ho] at h2; cases h2
            · simp only [ho, cond_true, Option.some.injEq] at h2
              subst h2
              exact hr σ' y ups rs a' w' h1 ho hs2 hR'
        · simp only [Option.some.injEq] at h2
          subst h2
          exact hr σ' y ups rs a' w' h1 ho hs2 h3
    | _ => simp [evalC] at h
  | _ => intro an R σ k kr r a w Q _ h; simp [evalC] at h
end
end Rg
