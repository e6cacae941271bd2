/- The ring framework, part Ma: slices.Clone. -/
import Derived.Test.YtphjhelolaoihaaRgG
import Derived.Below
set_option linter.all false
namespace Rg
open Go

/-- No function is called. -/
theorem noFns {P : Program} {E : Env} (h : ∀ f, E.fns f = none) : FnsOK P E := fun f m hf => by rw [h] at hf; cases hf

section
variable {P : Program} {E : Env} {B : Base} {N : Nat} {w : World} {σ : Sg} {G : Gh} {a : Act}

/-- A test whether a slice is nil. -/
theorem good_nilEq (c : Cx B N σ a w G) {o : Oper} {t t' : TypeId} {x : Operand} {d : Nat} {A : Option Addr} {n cp : Nat} {K : Act → World → Prop} {Q : Exit → Act → World → Prop} (ho : o.op = .binOp .eql t x (.const (.slice none 0 0)) t')
    (hd : o.dst = some d) (hlt : d < N) {e : TypeId} (hu : P.underlying t = some (.slice e)) (hx : a.eval x = .slice A n cp) (hA : A = none → n = 0 ∧ cp = 0)
    (hK : ∀ a' w', Rel B N (put σ (kS d) (.sv (.cell (.dat .bool A.isNone)))) a' w' → K a' w') : o.wp P a w K Q := by
  have hrun : (execOp a.eval o).run P w = .ok (.value (.bool A.isNone)) w := by
    have h1 : (Op.equal t (.slice A n cp) (.slice none 0 0)).run P w = .ok A.isNone w := by
      show (Op.equalIn (9999 + 1) t (.slice A n cp) (.slice none 0 0)).run P w = _
      unfold Op.equalIn
      cases A with
      | none => simp [underlying, hu]
      | some A => simp [underlying, hu]
    have h2 : (do eqGuard .eql t x (.const (.slice none 0 0)) (.slice A n cp) (.slice none 0 0); binOp .eql t (.slice A n cp) (.slice none 0 0) : Sem Value).run P w = .ok (.bool A.isNone) w := by
      simp [eqGuard, binOp, h1]
    have h3 : a.eval (.const (.slice none 0 0)) = .slice none 0 0 := rfl
    simp only [execOp, ho, hx, h3]
    rw [Sem.run_bind, h2]
    simp
  exact c.value (s := .cell (.dat .bool A.isNone)) (ws := wr o.dst (.cell (.dat .bool A.isNone))) (fun d' h => by rw [hd] at h; cases h; exact hlt) hrun ⟨rfl, rfl⟩ rfl (by rw [hd]; exact hK)

theorem wpOps_plain {ops : Array Oper} {Q : Exit → Act → World → Prop} {i : Nat} {rest : List Nat} {o : Oper} (ho : ops[i]? = some o) (hg : o.guard = none) (h : o.wp P a w (wpOps P ops Q rest) Q) :
    wpOps P ops Q (i :: rest) a w := by
  rw [wpOps_cons]
  unfold wpOp
  rw [ho]
  simp only
  rw [if_pos (by simp [Region.wanted, hg])]
  exact .inl h

/-- slices.Clone: what comes back is a slice of its own. -/
theorem clone_refines (hE : EnvTy P E) (hfn : ∀ f, E.fns f = none) (hm : P.follows .mixedOrders = true) {f : FuncId} {fn : Func} {i0 i1 i2 i3 : Nat} {ops0 ops2 ops3 : Array Oper} {o1 o2 : Oper} {t t' : TypeId} {r : Ty} {m : (rowOf [PK.val (.sl r)]).Den → Option (outOf [PK.val (.sl r)] [PK.val (.ow r)]).Den}
    (hf : P.funcs[f]? = some fn) (hN : E.n = fn.ntmps) (h8 : fn.ntmps = 8) (hok : (⟨[.val (.sl r)], [.val (.ow r)], [.tmp 2]⟩ : Fin).ok 8 = true) (hres : fn.results = #[.tmp 2]) (ht : E.ty t = some (.sl r))
    (hb : fn.body = some (.seq (.region i0 ops0 false) (.seq (.seq (.region i1 #[o1, o2] false) (.cond (.tmp 4) (.seq (.region i2 ops2 false) .ret) .skip)) (.seq (.region i3 ops3 false) .ret))))
    (h1 : o1.op = .move (.tmp 0)) (h1d : o1.dst = some 3) (h1g : o1.guard = none) (h2 : o2.op = .binOp .eql t (.tmp 3) (.const (.slice none 0 0)) t') (h2d : o2.dst = some 4) (h2g : o2.guard = none)
    (e0 : ∀ (σ : Sg), evalRegion E ops0 false σ some = some (put σ (kS 2) (.sv (.cell (.nl r)))))
    (e2 : ∀ x : List r.Den, evalRegion E ops2 false (put (put (put (startAt 0 [.val (.sl r)] (x, ()) empty) (kS 2) (.sv (.cell (.nl r)))) (kS 3) (.sv (.cell (.dat (.sl r) x)))) (kS 4) (.sv (.cell (.dat .bool true))))
      (fun σ => finK E ⟨[.val (.sl r)], [.val (.ow r)], [.tmp 2]⟩ σ some) = some (([] : List r.Den), ()))
    (e3 : ∀ x : List r.Den, evalRegion E ops3 false (put (put (put (startAt 0 [.val (.sl r)] (x, ()) empty) (kS 2) (.sv (.cell (.nl r)))) (kS 3) (.sv (.cell (.dat (.sl r) x)))) (kS 4) (.sv (.cell (.dat .bool false))))
      (fun σ => finK E ⟨[.val (.sl r)], [.val (.ow r)], [.tmp 2]⟩ σ some) = m (x, ()))
    (hm0 : ∀ y, m (([] : List r.Den), ()) = some y → y = (([] : List r.Den), ())) : Refines P f ⟨[.val (.sl r)], [.val (.ow r)], m⟩ := by
  have hF : FnsOK P E := noFns hfn
  refine refines_wp hE hf hb ⟨[.val (.sl r)], [.val (.ow r)], [.tmp 2]⟩ hres (by rw [h8]; exact hok) fun B x y a w hy hR => ?_
  rw [h8] at hN hR ⊢
  have hC : CallOK P E B 8 := callOK hF
  obtain ⟨x, ⟨⟩⟩ := x
  replace hR : Rel B 8 (startAt 0 [PK.val (.sl r)] (x, ()) empty) a w := hR
  -- the end of a way
  have fin : ∀ {ops : Array Oper} {id : Nat} {σ : Sg} {a : Act} {w : World}, evalRegion E ops false σ (fun σ => finK E ⟨[.val (.sl r)], [.val (.ow r)], [.tmp 2]⟩ σ some) = some y → Rel B 8 σ a w →
      (Code.seq (.region id ops false) .ret).wp P (fun e a w => e = .ret ∧ EndOK E B 8 ⟨[.val (.sl r)], [.val (.ow r)], [.tmp 2]⟩ y e a w) a w := by
    intro ops id σ a w h hR
    refine wp_seq (region_sound hE hN hC hm h hR fun σ' a' w' hk hR' => wp_ret ?_)
    unfold finK at hk
    obtain ⟨⟨y', ups⟩, rs, h1, h2⟩ := T.run_eval _ hk
    cases hu : okUps ups
    · simp only [hu] at h2; cases h2
    · simp only [hu, cond_true] at h2
      cases h2
      exact ⟨rfl, .inr rfl, σ', ups, rs, h1, hu, hR'⟩
  refine wp_seq (region_sound hE hN hC hm (k := some) (e0 _) hR fun σ' a1 w1 hk hR1 => ?_)
  cases hk
  have s0 : (put (startAt 0 [.val (.sl r)] (x, ()) empty) (kS 2) (.sv (.cell (.nl r)))) (kS 0) = .sv (.cell (.dat (.sl r) x)) := rfl
  refine wp_seq (wp_seq (wp_region ?_))
  show wpOps P #[o1, o2] _ [0, 1] a1 w1
  -- the copy of the slice
  have hlt1 : ∀ d, o1.dst = some d → d < 8 := fun d h => by rw [h1d] at h; cases h; decide
  obtain ⟨G, c1⟩ : ∃ G, Cx B 8 _ a1 w1 G := let ⟨G, hp, hd, hn, hs⟩ := hR1; ⟨G, hp, hd, hn, hs⟩
  have hv := c1.hs 0
  rw [s0] at hv
  refine wpOps_plain (o := o1) rfl h1g (c1.value (s := .cell (.dat (.sl r) x)) (v := a1.tmps.getD 0 undef) (ws := wr o1.dst (.cell (.dat (.sl r) x))) hlt1 ?_ hv rfl fun a2 w2 hR2 => ?_)
  · have : a1.eval (.tmp 0) = a1.tmps.getD 0 undef := rfl
    simp only [execOp, h1, this]
    rfl
  rw [h1d] at hR2
  obtain ⟨G2, c2⟩ : ∃ G, Cx B 8 _ a2 w2 G := let ⟨G, hp, hd, hn, hs⟩ := hR2; ⟨G, hp, hd, hn, hs⟩
  have hv2 := c2.hs 3
  have s3 : puts (put (startAt 0 [.val (.sl r)] (x, ()) empty) (kS 2) (.sv (.cell (.nl r)))) (wr (some 3) (.cell (.dat (.sl r) x))) (kS 3) = .sv (.cell (.dat (.sl r) x)) := rfl
  rw [s3] at hv2
  obtain ⟨_, A, cap, hval, hle, hA⟩ := hv2
  simp only [List.cons.injEq, and_true] at hval
  obtain ⟨d, hd, htd⟩ := (hE.ty t _ ht).und
  obtain ⟨e, ie, z, rfl, _⟩ := htd
  refine wpOps_plain (o := o2) rfl h2g (good_nilEq c2 h2 h2d (show 4 < 8 by decide) hd (show a2.eval (.tmp 3) = .slice A x.length cap from hval) (fun hn => ?_) fun a3 w3 hR3 => ?_)
  · rcases hA with ⟨_, h⟩ | ⟨b, o, arr, el, fz, h, _⟩
    · exact ⟨by omega, h⟩
    · rw [hn] at h; cases h
  obtain ⟨G3, c3⟩ : ∃ G, Cx B 8 _ a3 w3 G := let ⟨G, hp, hd, hn, hs⟩ := hR3; ⟨G, hp, hd, hn, hs⟩
  have hc : a3.eval (.tmp 4) = .bool A.isNone := by
    have := c3.hs 4
    rw [put_eq] at this
    exact cell_bool (w := w3) (σ := empty) (G := G3) this
  cases A with
  | none =>
    have hx : x = [] := by
      rcases hA with ⟨_, h⟩ | ⟨b, o, arr, el, fz, h, _⟩
      · exact List.eq_nil_of_length_eq_zero (by omega)
      · cases h
    refine wp_cond_true hc ?_
    have hy' : y = (([] : List r.Den), ()) := hm0 y (by rw [← hx]; exact hy)
    refine Code.wp_mono (fun e a' w' he => ?_) (fin (hy' ▸ e2 x) hR3)
    obtain ⟨rfl, he⟩ := he
    exact he
  | some A =>
    refine wp_cond_false hc (wp_skip ?_)
    exact Code.wp_mono (fun e a' w' he => he.2) (fin ((e3 x).trans hy) hR3)
end
end Rg

/- The ring framework, part Mb: what the program says of types. -/
namespace Rg
open Go

/-- The zero value. -/
def Ty.zval (r : Ty) : Value := bif r.isAgg then .agg r.zvs.toArray else r.zvs.getD 0 undef

theorem zval_cells {P : Program} {r : Ty} (hp : r.plain = true) : r.zval.cells = r.zvs.toArray := by
  cases r <;> first | rfl | (simp [Ty.plain] at hp)

def fieldsOf : Nat → Ty → List (Nat × Nat)
  | off, .cons t r => (off, t.size) :: fieldsOf (off + t.size) r
  | _, _ => []

section
variable {P : Program} {E : Env}

theorem info_of {t : TypeId} {r : Ty} (hp : r.plain = true) (h : ((P.info? t).bind fun i => i.zero.map fun z => (i.size, z)) = some (r.size, r.zval)) :
    ∃ i z, P.info? t = some i ∧ i.size = r.size ∧ i.zero = some z ∧ z.cells = r.zvs.toArray ∧ (r.isAgg = true → z = .agg r.zvs.toArray) := by
  obtain ⟨i, hi, h2⟩ := Option.bind_eq_some_iff.mp h
  obtain ⟨z, hz, h3⟩ := Option.map_eq_some_iff.mp h2
  simp only [Prod.mk.injEq] at h3
  refine ⟨i, z, hi, h3.1, hz, by rw [h3.2, zval_cells (P := P) hp], fun ha => ?_⟩
  rw [h3.2]
  simp [Ty.zval, ha]

theorem tyF_base {t : TypeId} {r : Ty} {d : TypeDesc} (hp : r.plain = true) (h : ((P.info? t).bind fun i => i.zero.map fun z => (i.size, z)) = some (r.size, r.zval)) (hd : P.underlying t = some d) (hr : TyD P E t r d) : TyF P E t r :=
  ⟨info_of hp h, ⟨d, hd, hr⟩, hp⟩

theorem tyF_int {t : TypeId} {k : IntKind} (h : ((P.info? t).bind fun i => i.zero.map fun z => (i.size, z)) = some (1, .int k 0)) (hd : P.underlying t = some (.int k)) : TyF P E t (.int k) := tyF_base rfl h hd rfl
theorem tyF_bool {t : TypeId} (h : ((P.info? t).bind fun i => i.zero.map fun z => (i.size, z)) = some (1, .bool false)) (hd : P.underlying t = some .bool) : TyF P E t .bool := tyF_base rfl h hd rfl
theorem tyF_str {t : TypeId} (h : ((P.info? t).bind fun i => i.zero.map fun z => (i.size, z)) = some (1, .string ⟨#[]⟩)) (hd : P.underlying t = some .string) : TyF P E t .str := tyF_base rfl h hd rfl

theorem tyF_sl {t e : TypeId} {q : Ty} {eb : Nat} (hp : q.plain = true) (h : ((P.info? t).bind fun i => i.zero.map fun z => (i.size, z)) = some (1, .slice none 0 0)) (hd : P.underlying t = some (.slice e))
    (he : ((P.info? e).bind fun i => i.zero.map fun z => (i.size, i.bytes, z)) = some (q.size, eb, q.zval)) (hb : E.eb t = eb) (hs : (Nat.ble 1 q.size && Nat.ble 1 eb) = true) (hu : q = .int .u8 → P.underlying e = some (.int .u8)) : TyF P E t (.sl q) := by
  obtain ⟨ie, hi, h2⟩ := Option.bind_eq_some_iff.mp he
  obtain ⟨z, hz, h3⟩ := Option.map_eq_some_iff.mp h2
  simp only [Prod.mk.injEq] at h3
  simp only [Bool.and_eq_true] at hs
  refine tyF_base hp h hd ⟨e, ie, z, rfl, hi, h3.1, h3.2.1.trans hb.symm, hz, by rw [h3.2.2, zval_cells (P := P) hp], Nat.le_of_ble_eq_true hs.1, hu, ?_⟩
  rw [h3.2.1]; exact Nat.le_of_ble_eq_true hs.2

theorem fields_get : ∀ {r : Ty} {off0 : Nat} {l : List Field}, r.isAgg = true → (l.map fun fd => (fd.offset, (P.info? fd.type).map (·.size))) = (fieldsOf off0 r).map (fun p => (p.1, some p.2)) → ∀ f : Nat, (l[f]?).isSome = (fieldTy r f).isSome ∧
    ∀ p, fieldTy r f = some p → ∃ fd i, l[f]? = some fd ∧ fd.offset = off0 + p.1 ∧ P.info? fd.type = some i ∧ i.size = p.2.size := by
  have base : ∀ {r : Ty} {off0 : Nat} {l : List Field}, fieldsOf off0 r = [] → (∀ f, fieldTy r f = none) → (l.map fun fd => (fd.offset, (P.info? fd.type).map (·.size))) = (fieldsOf off0 r).map (fun p => (p.1, some p.2)) → ∀ f : Nat, (l[f]?).isSome = (fieldTy r f).isSome ∧
      ∀ p, fieldTy r f = some p → ∃ fd i, l[f]? = some fd ∧ fd.offset = off0 + p.1 ∧ P.info? fd.type = some i ∧ i.size = p.2.size := by
    intro r off0 l h0 h1 h f
    rw [h0] at h
    have : l = [] := by simpa using h
    subst this
    rw [h1]
    exact ⟨rfl, fun p hp => by cases hp⟩
  intro r
  induction r with
  | cons t r _ ih =>
    intro off0 l _ h f
    cases l with
    | nil => simp [fieldsOf] at h
    | cons fd l =>
      simp only [fieldsOf, List.map_cons, List.cons.injEq, Prod.mk.injEq] at h
      obtain ⟨⟨h1, h2⟩, h3⟩ := h
      cases f with
      | zero =>
        refine ⟨rfl, fun p hp => ?_⟩
        simp only [fieldTy, Option.some.injEq] at hp
        subst hp
        obtain ⟨i, hi, hs⟩ := Option.map_eq_some_iff.mp h2
        exact ⟨fd, i, rfl, by simpa using h1, hi, hs⟩
      | succ f =>
        have step : (l[f]?).isSome = (fieldTy r f).isSome ∧ ∀ p, fieldTy r f = some p → ∃ fd i, l[f]? = some fd ∧ fd.offset = (off0 + t.size) + p.1 ∧ P.info? fd.type = some i ∧ i.size = p.2.size := by
          cases hr : r.isAgg
          · refine base ?_ ?_ h3 f
            · cases r <;> first | rfl | (simp [Ty.isAgg] at hr)
            · intro f; cases r <;> first | rfl | (simp [Ty.isAgg] at hr)
          · exact ih hr h3 f
        simp only [fieldTy, Option.isSome_map, List.getElem?_cons_succ]
        refine ⟨step.1, fun p hp => ?_⟩
        obtain ⟨q, hq, rfl⟩ := Option.map_eq_some_iff.mp hp
        obtain ⟨fd', i, g1, g2, g3, g4⟩ := step.2 q hq
        exact ⟨fd', i, g1, by simp only; omega, g3, g4⟩
  | nil => intro off0 l _ h f; exact base rfl (fun f => rfl) h f
  | _ => intro off0 l ha; simp [Ty.isAgg] at ha

theorem tyF_agg {t : TypeId} {r : Ty} (ha : r.isAgg = true) (hp : r.plain = true) (h : ((P.info? t).bind fun i => i.zero.map fun z => (i.size, z)) = some (r.size, r.zval))
    (hd : (match P.underlying t with | some (.struct fs) => some (fs.toList.map fun fd => (fd.offset, (P.info? fd.type).map (·.size))) | _ => none) = some ((fieldsOf 0 r).map fun p => (p.1, some p.2)))
    (hn : ((fieldsOf 0 r).all fun p => Nat.ble 1 p.2) = true) : TyF P E t r := by
  split at hd
  · rename_i fs hu
    simp only [Option.some.injEq] at hd
    have hg := fields_get ha hd
    have hne : ∀ {r : Ty} {off0 : Nat}, ((fieldsOf off0 r).all fun p => Nat.ble 1 p.2) = true → ∀ f p, fieldTy r f = some p → 1 ≤ p.2.size := by
      intro r
      induction r with
      | cons t r _ ih =>
        intro off0 h f p hp
        simp only [fieldsOf, List.all_cons, Bool.and_eq_true] at h
        cases f with
        | zero =>
          simp only [fieldTy, Option.some.injEq] at hp
          subst hp
          exact Nat.le_of_ble_eq_true h.1
        | succ f =>
          obtain ⟨q, hq, rfl⟩ := Option.map_eq_some_iff.mp hp
          exact ih h.2 f q hq
      | _ => intro off0 _ f p hp; cases f <;> simp [fieldTy] at hp
    have hF : ∀ f : Nat, (fs[f]?).isSome = (fieldTy r f).isSome ∧ ∀ p, fieldTy r f = some p → ∃ fd i, fs[f]? = some fd ∧ fd.offset = p.1 ∧ P.info? fd.type = some i ∧ i.size = p.2.size ∧ i.size ≠ 0 := by
      intro f
      obtain ⟨h1, h2⟩ := hg f
      rw [Array.getElem?_toList] at h1 h2
      refine ⟨h1, fun p hp => ?_⟩
      obtain ⟨fd, i, g1, g2, g3, g4⟩ := h2 p hp
      have := hne hn f p hp
      exact ⟨fd, i, g1, by simpa using g2, g3, g4, by omega⟩
    refine tyF_base hp h hu ?_
    cases r with
    | nil => exact ⟨fs, rfl, hF⟩
    | cons t r => exact ⟨fs, rfl, hF⟩
    | _ => simp [Ty.isAgg] at ha
  · cases hd

theorem lkp_mem {α : Type} : ∀ {l : List (Nat × α)} {n : Nat} {v : α}, lkp l n = some v → (n, v) ∈ l
  | [], _, _, h => by simp [lkp] at h
  | (k, u) :: l, n, v, h => by
    simp only [lkp] at h
    cases hb : Nat.beq n k
    · rw [hb] at h; exact List.mem_cons_of_mem _ (lkp_mem h)
    · rw [hb] at h
      simp only [cond_true, Option.some.injEq] at h
      rw [Nat.eq_of_beq_eq_true hb, h]; exact List.mem_cons_self ..

end
end Rg

/- The ring framework, part Mc: bytes; items are compared as their data. -/
namespace Rg
open Go

theorem toList_loop (bs : ByteArray) : ∀ (n i : Nat) (r : List UInt8), bs.size - i = n → ByteArray.toList.loop bs i r = r.reverse ++ bs.data.toList.drop i := by
  intro n
  induction n with
  | zero =>
    intro i r h
    unfold ByteArray.toList.loop
    rw [if_neg (by omega)]
    have : bs.data.toList.length ≤ i := by
      have : bs.data.toList.length = bs.size := rfl
      omega
    rw [List.drop_of_length_le this]; simp
  | succ n ih =>
    intro i r h
    unfold ByteArray.toList.loop
    rw [if_pos (by omega), ih (i + 1) _ (by omega)]
    have hl : i < bs.data.toList.length := by
      have : bs.data.toList.length = bs.size := rfl
      omega
    rw [List.drop_eq_getElem_cons hl]
    have : bs.get! i = bs.data.toList[i] := by
      have hi : i < bs.data.size := hl
      show bs.data[i]! = _
      rw [getElem!_pos bs.data i hi]; rfl
    rw [this]; simp
theorem toList_eq (bs : ByteArray) : bs.toList = bs.data.toList := by
  unfold ByteArray.toList
  rw [toList_loop bs bs.size 0 [] (by omega)]; simp
theorem beq_toList (x y : ByteArray) : (x == y) = (x.toList == y.toList) := by
  rw [toList_eq, toList_eq]
  obtain ⟨a⟩ := x
  obtain ⟨b⟩ := y
  have e : ((⟨a⟩ : ByteArray) == ⟨b⟩) = (a == b) := rfl
  rw [e, Bool.eq_iff_iff]
  simp only [beq_iff_eq]
  exact ⟨fun h => by rw [h], fun h => Array.toList_inj.1 h⟩

abbrev itemT : Ty := .cons (.int .i64) (.cons (.int .i64) (.cons (.int .i64) (.cons .str .nil)))

theorem eq_int {P : Program} {w : World} {t : TypeId} {d : Nat} {x y : Int} (h : P.underlying t = some (.int .i64)) : (Op.equalIn (d + 1) t (.int .i64 x) (.int .i64 y)).run P w = .ok (x == y) w := by
  unfold Op.equalIn
  simp [underlying, h]
theorem eq_str {P : Program} {w : World} {t : TypeId} {d : Nat} {x y : ByteArray} (h : P.underlying t = some .string) : (Op.equalIn (d + 1) t (.string x) (.string y)).run P w = .ok (x == y) w := by
  unfold Op.equalIn
  simp [underlying, h]
theorem eq_item (P : Program) (w : World) (t : TypeId) (d : Nat) (f0 f1 f2 f3 : Field) (x0 x1 x2 y0 y1 y2 : Int) (x3 y3 : ByteArray) (hu : P.underlying t = some (.struct #[f0, f1, f2, f3])) (n0 : f0.name ≠ "_") (n1 : f1.name ≠ "_") (n2 : f2.name ≠ "_") (n3 : f3.name ≠ "_")
  (o0 : f0.offset = 0) (o1 : f1.offset = 1) (o2 : f2.offset = 2) (o3 : f3.offset = 3) (h0 : P.underlying f0.type = some (.int .i64)) (h1 : P.underlying f1.type = some (.int .i64)) (h2 : P.underlying f2.type = some (.int .i64)) (h3 : P.underlying f3.type = some .string)
    (hs : P.stoodInHeld t = false) :
  (Op.equalIn (d + 1 + 1) t (.agg #[.int .i64 x0, .int .i64 x1, .int .i64 x2, .string x3]) (.agg #[.int .i64 y0, .int .i64 y1, .int .i64 y2, .string y3])).run P w = .ok ((x0 == y0) && ((x1 == y1) && ((x2 == y2) && (x3 == y3)))) w := by
  unfold Op.equalIn
  simp [underlying, hu, hs, n0, n1, n2, n3, part, Go.isAgg, h0, h1, h2, h3, o0, o1, o2, o3, eq_int h0, eq_int h1, eq_int h2, eq_str h3]
  cases e0 : x0 == y0 <;> cases e1 : x1 == y1 <;> cases e2 : x2 == y2 <;> cases e3 : x3 == y3 <;> simp_all

theorem eqF_item {P : Program} {t : TypeId} {f0 f1 f2 f3 : Field} (hu : P.underlying t = some (.struct #[f0, f1, f2, f3])) (hn : (f0.name != "_" && f1.name != "_" && f2.name != "_" && f3.name != "_") = true)
    (ho : (f0.offset, f1.offset, f2.offset, f3.offset) = (0, 1, 2, 3)) (h0 : P.underlying f0.type = some (.int .i64)) (h1 : P.underlying f1.type = some (.int .i64)) (h2 : P.underlying f2.type = some (.int .i64)) (h3 : P.underlying f3.type = some .string)
    (hs : P.stoodInHeld t = false) (hg : P.eqGuardType P.depth t = false) : EqF P t itemT := by
  intro w S S' x y vs us op a b hx hy
  obtain ⟨x0, x1, x2, x3, ⟨⟩⟩ := x
  obtain ⟨y0, y1, y2, y3, ⟨⟩⟩ := y
  obtain ⟨v0, w0, _, _, rfl, _, ⟨rfl, _⟩, v1, w1, _, _, rfl, _, ⟨rfl, _⟩, v2, w2, _, _, rfl, _, ⟨rfl, _⟩, v3, w3, _, _, rfl, _, ⟨rfl, _⟩, rfl, _⟩ := hx
  obtain ⟨v0, w0, _, _, rfl, _, ⟨rfl, _⟩, v1, w1, _, _, rfl, _, ⟨rfl, _⟩, v2, w2, _, _, rfl, _, ⟨rfl, _⟩, v3, w3, _, _, rfl, _, ⟨rfl, _⟩, rfl, _⟩ := hy
  simp only [Prod.mk.injEq] at ho
  obtain ⟨o0, o1, o2, o3⟩ := ho
  simp only [Bool.and_eq_true, bne_iff_ne] at hn
  obtain ⟨⟨⟨n0, n1⟩, n2⟩, n3⟩ := hn
  have e : (Op.equal t (.agg #[Value.int .i64 x0, .int .i64 x1, .int .i64 x2, .string x3]) (.agg #[.int .i64 y0, .int .i64 y1, .int .i64 y2, .string y3])).run P w =
      .ok (itemT.eqB (x0, x1, x2, x3, ()) (y0, y1, y2, y3, ())) w := by
    have h := eq_item P w t 9998 f0 f1 f2 f3 x0 x1 x2 y0 y1 y2 x3 y3 hu n0 n1 n2 n3 o0 o1 o2 o3 h0 h1 h2 h3 hs
    rw [beq_toList] at h
    have e2 : itemT.eqB (x0, x1, x2, x3, ()) (y0, y1, y2, y3, ()) = ((x0 == y0) && ((x1 == y1) && ((x2 == y2) && (x3.toList == y3.toList)))) := by
      simp [itemT, Ty.eqB]
    rw [e2]
    exact h
  have g : (eqGuard .eql t a b (.agg #[Value.int .i64 x0, .int .i64 x1, .int .i64 x2, .string x3]) (.agg #[.int .i64 y0, .int .i64 y1, .int .i64 y2, .string y3])).run P w = .ok () w := by
    simp [eqGuard, hg]
  have g' : (eqGuard .neq t a b (.agg #[Value.int .i64 x0, .int .i64 x1, .int .i64 x2, .string x3]) (.agg #[.int .i64 y0, .int .i64 y1, .int .i64 y2, .string y3])).run P w = .ok () w := by
    simp [eqGuard, hg]
  constructor
  · rintro rfl
    show (do eqGuard .eql t a b (.agg #[Value.int .i64 x0, .int .i64 x1, .int .i64 x2, .string x3]) (.agg #[.int .i64 y0, .int .i64 y1, .int .i64 y2, .string y3]); binOp .eql t (.agg #[Value.int .i64 x0, .int .i64 x1, .int .i64 x2, .string x3]) (.agg #[.int .i64 y0, .int .i64 y1, .int .i64 y2, .string y3]) : Sem Value).run P w = _
    rw [Sem.run_bind, g]
    simp [binOp, e]
  · rintro rfl
    show (do eqGuard .neq t a b (.agg #[Value.int .i64 x0, .int .i64 x1, .int .i64 x2, .string x3]) (.agg #[.int .i64 y0, .int .i64 y1, .int .i64 y2, .string y3]); binOp .neq t (.agg #[Value.int .i64 x0, .int .i64 x1, .int .i64 x2, .string x3]) (.agg #[.int .i64 y0, .int .i64 y1, .int .i64 y2, .string y3]) : Sem Value).run P w = _
    rw [Sem.run_bind, g']
    simp [binOp, e]
end Rg

/- The ring framework, part Md: a law of bytes, from its model to the call. -/
namespace Rg
open Go

theorem rows_u8 {w : World} {S : Nat → Prop} {arr : Array Value} : ∀ {xs : List Int} {o : Nat}, (∀ (j : Nat) (x : Int), xs[j]? = some x → arr[o + j]? = some (Value.int .u8 x)) → Rows (ORep w S (.int .u8)) arr 1 xs o []
  | [], _, _ => rfl
  | x :: xs, o, h => by
    refine ⟨[.int .u8 x], [], [], rfl, fun j v hj => ?_, ⟨rfl, rfl⟩, rows_u8 fun j y hj => ?_⟩
    · cases j with
      | zero =>
        simp only [List.getElem?_cons_zero, Option.some.injEq] at hj
        subst hj
        exact h 0 x rfl
      | succ j => simp at hj
    · have := h (j + 1) y (by simpa using hj)
      have e : o + (j + 1) = o + 1 + j := by omega
      rw [← e]; exact this

theorem bytes_rep {w : World} {x : Addr} {len cap : Nat} {zs : List Int} {arr : Array Value} {el : TypeId} {fz : Nat × Nat} (hs : x.spot = none) (hb : w.heap[x.block]? = some (.cells arr el fz)) (hl : len ≤ cap) (hz : zs.length = cap)
    (hc : ∀ i, i < zs.length → w.cell? (x.add i) = some (.int .u8 (zs.getD i 0))) : ORep w (fun b => b = x.block) (.sl (.int .u8)) (zs.take len) [.slice (some x) len cap] [] := by
  obtain ⟨b, o, sp⟩ := x
  simp only at hs hb
  subst hs
  have hlen : (zs.take len).length = len := by rw [List.length_take]; omega
  refine ⟨rfl, some ⟨b, o, none⟩, cap, by rw [hlen], by rw [hlen]; exact hl, .inr ⟨b, o, arr, el, fz, rfl, rfl, hb, rows_u8 fun j y hj => ?_⟩⟩
  have hj2 : zs[j]? = some y := by
    rw [List.getElem?_take] at hj
    split at hj
    · exact hj
    · cases hj
  have hjl : j < zs.length := by
    rcases Nat.lt_or_ge j zs.length with h | h
    · exact h
    · rw [List.getElem?_eq_none h] at hj2; cases hj2
  have h1 := hc j hjl
  rw [addr_add] at h1
  have h2 : zs.getD j 0 = y := by rw [List.getD_eq_getElem?_getD, hj2]; rfl
  rw [h2] at h1
  simp only [World.cell?, hb] at h1
  simpa using h1

/-- A slice that is handed in, and its block. -/
theorem okWide_block {P : Program} {w : World} {base : Nat} {t e : TypeId} {v : Value} (ht : P.underlying t = some (.slice e)) (h : Value.okWide P w .any base t v) :
    v = .slice none 0 0 ∨ ∃ x len cap arr el fz, v = .slice (some x) len cap ∧ x.spot = none ∧ w.heap[x.block]? = some (.cells arr el fz) := by
  unfold Value.okWide at h
  rw [ht] at h
  simp only at h
  unfold Cell.okWide at h
  rw [ht] at h
  have h' : Cell.ok P w .any base t v := by
    cases v <;> exact h
  unfold Cell.ok at h'
  rw [ht] at h'
  cases v with
  | slice A len cap =>
    cases A with
    | none =>
      cases len with
      | zero =>
        cases cap with
        | zero => exact .inl rfl
        | succ c => exact h'.elim
      | succ l => exact h'.elim
    | some x =>
      obtain ⟨_, _, _, hs, row, cells, hsh, _⟩ := h'
      right
      unfold World.shape? at hsh
      split at hsh
      · rename_i c el fz hb
        exact ⟨x, len, cap, c, el, fz, rfl, hs, hb⟩
      · cases hsh
  | _ => exact h'.elim

theorem law_walk {P : Program} {n : FuncId} {m : (rowOf [PK.val (.sl (.int .u8))]).Den → Option (outOf [PK.val (.sl (.int .u8))] [PK.val .bool]).Den} (hR : Refines P n ⟨[.val (.sl (.int .u8))], [.val .bool], m⟩)
    {w : World} {l : List Int} {v : Value} {S : Nat → Prop} (hm : m (l, ()) = some (true, ())) (hv : ORep w S (.sl (.int .u8)) l [v] []) (hS : ∀ b, S b → b < w.heap.size) :
    Calls P n #[v] w fun e w' => e = .returned (.bool true) ∧ RowKit.Below w.heap.size w w' := by
  refine (hR w S (l, ()) (true, ()) [v] [] hm ⟨v, [], [], [], rfl, rfl, hv, rfl, rfl⟩ List.nodup_nil (fun b hb => by simp at hb) hS).mono ?_
  rintro e w' ⟨rvs, S', U', rfl, _, hout, hpost⟩
  have hout' : OutsR w' S' [PK.val .bool] (true, ()) rvs U' := by simpa [ptrVals, PK.isPtr, ptrsOf] using hout
  obtain ⟨u, us, U1, U2, rfl, _, h1, h2, _⟩ := hout'
  subst h2
  have hu : u = .bool true := by simpa using h1.1
  subst hu
  exact ⟨rfl, hpost.side.os, hpost.side.tape, hpost.side.output, hpost.size, fun k hk => hpost.frame k hk (by simp)⟩
end Rg

/- The ring framework, part Me: words of the printed texts' proofs. -/
namespace Rg
open Go

section
variable {P : Program} {E : Env}

theorem anLeaf (f : Fin) : ∀ c : Code, AnOK E f c .leaf
  | .seq x y => ⟨anLeaf f x, anLeaf f y⟩
  | .cond _ x y => ⟨anLeaf f x, anLeaf f y⟩
  | .block _ c => anLeaf f c
  | .loop _ => trivial
  | .skip => trivial
  | .region _ _ _ => trivial
  | .exit _ => trivial
  | .ret => trivial
  | .scope _ => trivial
  | .rangeFunc _ _ _ _ => trivial
  | .label _ => trivial
  | .goto _ => trivial
  | .refuse _ => trivial

def AllFn (P : Program) : List (Nat × Mdl) → Prop
  | [] => True
  | (f, m) :: l => (m.ok = true ∧ Refines P f m ∧ Callable P f) ∧ AllFn P l

theorem allFn_get : ∀ {l : List (Nat × Mdl)} {f : Nat} {m : Mdl}, AllFn P l → lkp l f = some m → m.ok = true ∧ Refines P f m ∧ Callable P f
  | [], _, _, _, h => by simp [lkp] at h
  | (k, u) :: l, f, m, ha, h => by
    simp only [lkp] at h
    cases hb : Nat.beq f k
    · rw [hb] at h; exact allFn_get ha.2 h
    · rw [hb] at h
      simp only [cond_true, Option.some.injEq] at h
      rw [Nat.eq_of_beq_eq_true hb, ← h]; exact ha.1

theorem fnsOf {l : List (Nat × Mdl)} (he : E.fns = lkp l) (h : AllFn P l) : FnsOK P E := fun f m hf => by
  rw [he] at hf
  exact allFn_get h hf

def AllTy (P : Program) (E : Env) : List (Nat × Ty) → Prop
  | [] => True
  | (t, r) :: l => TyF P E t r ∧ AllTy P E l

theorem allTy_get : ∀ {l : List (Nat × Ty)} {t : Nat} {r : Ty}, AllTy P E l → lkp l t = some r → TyF P E t r
  | [], _, _, _, h => by simp [lkp] at h
  | (k, u) :: l, t, r, ha, h => by
    simp only [lkp] at h
    cases hb : Nat.beq t k
    · rw [hb] at h; exact allTy_get ha.2 h
    · rw [hb] at h
      simp only [cond_true, Option.some.injEq] at h
      rw [Nat.eq_of_beq_eq_true hb, ← h]; exact ha.1

theorem envTyOf {l : List (Nat × Ty)} {cs : List Nat} (he : E.ty = lkp l) (h : AllTy P E l) (hc : E.cmp = fun t => memN t cs) (hcs : ∀ t, t ∈ cs → ∀ r, lkp l t = some r → EqF P t r) : EnvTy P E := by
  refine ⟨fun t r ht => ?_, fun t r ht hcm => ?_⟩
  · rw [he] at ht; exact allTy_get h ht
  · rw [he] at ht
    rw [hc] at hcm
    exact hcs t (memN_iff.1 hcm) r ht
end
end Rg
