/- The ring framework, part Na: copy and append of rows of cells. -/
import Derived.Test.YtphjhelolaoihaaRgH
import Derived.Shelf.Spec.SlicesInsertGrow
import Derived.Test.YtphjhelolaoihaaRgA
set_option linter.all false
namespace Rg
open Go Go.Proofs

section
variable {P : Program}

/-- copy, for elements of k cells: all is read before anything is written. -/
theorem run_copy_rows (w : World) (dT sT ty elem : TypeId) (k b o dLen dCap : Nat) (a : Addr) (sLen sCap n : Nat) (cs : List Value)
    (hu : P.underlying dT = some (.slice elem)) (hs : (P.info? elem).map (·.size) = some k) (hn : n = Nat.min sLen dLen) (hl : cs.length = n * k)
    (hsrc : ∀ j v, cs[j]? = some v → w.cell? (a.add j) = some v) (hc : ∀ j, j < cs.length → (w.cell? ⟨b, o + j, none⟩).isSome = true) (hf : ∀ j, j < cs.length → w.frozen? ⟨b, o + j, none⟩ = false) (h1 : ∀ v ∈ cs, v.oneCell' = true) :
    (Builtin.copy_ #[dT, sT] ty #[.slice (some ⟨b, o, none⟩) dLen dCap, .slice (some a) sLen sCap]).run P w = .ok (goInt n) (w.setCells b o cs) := by
  have hld := run_loadCells_list (P := P) w a cs hsrc
  have hst := run_storeCells_cells (P := P) b o cs 0 w (by simpa using hc) (by simpa using hf) h1
  cases hq : P.info? elem with
  | none => simp [hq] at hs
  | some i =>
    have hi : i.size = k := by simpa [hq] using hs
    rw [hl] at hld
    simp [Builtin.copy_, run_underlying hu, Builtin.lenOf, Builtin.firstCells, Go.sizeOf, Go.typeInfo, hq, hi, ← hn, hld, hst]
end
end Rg

/- The ring framework, part Nb: slices.Insert of items, by its four roads. -/
namespace Rg
open Go Go.Proofs

/-- A zero item. -/
def zItemV : Value := .agg #[.int .i64 0, .int .i64 0, .int .i64 0, .string ⟨#[]⟩]

theorem size_zeroItems (n : Nat) : (Builtin.zeroCells zItemV.cells n).size = n * 4 := by simp [Builtin.zeroCells, zItemV, Value.cells]

/-- What a walk of slices.Insert of items shows. -/
structure InsertW (P : Program) (f : FuncId) (el : TypeId) : Prop where
  shift : ∀ (b off n c i vb voff vc : Nat) (cs vs : List Value) (w : World), i < n → n + 1 ≤ c → (n + 1) * 40 ≤ 140737488355328 → vb ≠ b → cs.length = n * 4 → vs.length = 4 →
    (∀ j v, cs[j]? = some v → w.cell? ⟨b, off + j, none⟩ = some v) → (∀ j, j < (n + 1) * 4 → (w.cell? ⟨b, off + j, none⟩).isSome = true) → (∀ j, j < (n + 1) * 4 → w.frozen? ⟨b, off + j, none⟩ = false) →
    (∀ j v, vs[j]? = some v → w.cell? ⟨vb, voff + j, none⟩ = some v) → (∀ v ∈ cs, v.oneCell' = true) → (∀ v ∈ vs, v.oneCell' = true) →
    ∀ (tA tB : TypeId) (kA kB : Nat), w.shape? vb = some (tA, kA) → w.shape? b = some (tB, kB) → kB ≠ 0 → w.frozen? ⟨vb, voff, none⟩ = false → w.frozen? ⟨vb, kA, none⟩ = false →
    Calls P f #[.slice (some ⟨b, off, none⟩) n c, .int .i64 i, .slice (some ⟨vb, voff, none⟩) 1 vc] w fun e w' =>
      e = .returned (.slice (some ⟨b, off, none⟩) (n + 1) c) ∧ w' = (w.drew.setCells b (off + (i + 1) * 4) (cs.drop (i * 4))).setCells b (off + i * 4) vs
  endRoom : ∀ (b off n c vb voff vc : Nat) (vs : List Value) (w : World), n + 1 ≤ c → (n + 1) * 40 ≤ 140737488355328 → vs.length = 4 →
    (∀ j, j < 4 → (w.cell? ⟨b, off + n * 4 + j, none⟩).isSome = true) → (∀ j, j < 4 → w.frozen? ⟨b, off + n * 4 + j, none⟩ = false) →
    (∀ j v, vs[j]? = some v → w.cell? ⟨vb, voff + j, none⟩ = some v) → (∀ v ∈ vs, v.oneCell' = true) →
    Calls P f #[.slice (some ⟨b, off, none⟩) n c, .int .i64 n, .slice (some ⟨vb, voff, none⟩) 1 vc] w fun e w' =>
      e = .returned (.slice (some ⟨b, off, none⟩) (n + 1) c) ∧ w' = w.setCells b (off + n * 4) vs
  endGrow : ∀ (base : Option Addr) (n c vb voff vc : Nat) (cs vs : List Value) (w : World), n ≤ c → c < n + 1 → (n + 1) * 40 ≤ 140737488355328 → cs.length = n * 4 → vs.length = 4 → (base = none → n = 0) →
    (∀ a, base = some a → ∀ j v, cs[j]? = some v → w.cell? (a.add j) = some v) → (∀ j v, vs[j]? = some v → w.cell? ⟨vb, voff + j, none⟩ = some v) → (∀ v ∈ vs, v.oneCell' = true) →
    Calls P f #[.slice base n c, .int .i64 n, .slice (some ⟨vb, voff, none⟩) 1 vc] w fun e w' =>
      e = .returned (.slice (some ⟨w.heap.size, 0, none⟩) (n + 1) (grownCap w (n + 1) c el)) ∧
      w' = w.drew.alloc (.cells ((cs ++ vs).toArray ++ Builtin.zeroCells zItemV.cells (grownCap w (n + 1) c el - (n + 1))) el)
  grow : ∀ (b off n c i vb voff vc : Nat) (cs vs : List Value) (w : World), i < n → n ≤ c → c < n + 1 → (n + 1) * 40 ≤ 140737488355328 → cs.length = n * 4 → vs.length = 4 →
    (∀ j v, cs[j]? = some v → w.cell? ⟨b, off + j, none⟩ = some v) → (∀ j v, vs[j]? = some v → w.cell? ⟨vb, voff + j, none⟩ = some v) → (∀ v ∈ cs, v.oneCell' = true) → (∀ v ∈ vs, v.oneCell' = true) →
    Calls P f #[.slice (some ⟨b, off, none⟩) n c, .int .i64 i, .slice (some ⟨vb, voff, none⟩) 1 vc] w fun e w' =>
      e = .returned (.slice (some ⟨w.heap.size, 0, none⟩) (n + 1) (grownCap w (n + 1) c el)) ∧
      w' = (((w.alloc (.cells ((cs.take (i * 4)).toArray ++ Builtin.zeroCells zItemV.cells (n + 1 - i) ++ Builtin.zeroCells zItemV.cells (grownCap w (n + 1) c el - (n + 1))) el)).drew.setCells w.heap.size (i * 4) vs).drew).setCells w.heap.size ((i + 1) * 4) (cs.drop (i * 4))

/-- Cells that are written, in one row. -/
theorem setCells_row (b : Nat) (el : TypeId) (fz : Nat × Nat) : ∀ (vs : List Value) (o : Nat) (cur : Array Value) (w : World), w.heap[b]? = some (.cells cur el fz) → o + vs.length ≤ cur.size →
    ∃ cur', w.setCells b o vs = w.setRow b cur' ∧ cur'.size = cur.size ∧ ∀ j, cur'[j]? = if o ≤ j ∧ j < o + vs.length then vs[j - o]? else cur[j]?
  | [], o, cur, w, hb, _ => ⟨cur, (setRow_self w b cur el fz hb).symm, rfl, fun j => by rw [if_neg (by simp)]⟩
  | v :: vs, o, cur, w, hb, hl => by
    have hi : o < cur.size := by simp at hl; omega
    obtain ⟨cur', h1, h2, h3⟩ := setCells_row b el fz vs (o + 1) (cur.setIfInBounds o v) (w.setRow b (cur.setIfInBounds o v)) (setRow_heap w b cur _ el _ hb) (by simp at hl ⊢; omega)
    refine ⟨cur', by rw [World.setCells, setCell_eq_setRow w b o cur el fz v hb, h1, setRow_setRow], by simpa using h2, fun j => ?_⟩
    rw [h3 j]
    by_cases hj : o ≤ j ∧ j < o + (v :: vs).length
    · rw [if_pos hj]
      by_cases hj2 : j = o
      · subst hj2
        rw [if_neg (by omega)]
        simp [hi]
      · rw [if_pos (by simp at hj ⊢; omega)]
        have : j - o = (j - (o + 1)) + 1 := by omega
        rw [this, List.getElem?_cons_succ]
    · rw [if_neg hj, if_neg (by simp at hj ⊢; omega), Array.getElem?_setIfInBounds_ne (by simp at hj; omega)]

/-- Cells at a place of an array are a part of it. -/
theorem part_eq {l vs : List Value} {k n : Nat} (hv : rowAt' l.toArray (0 + k) vs) (hn : vs.length = n) (hl : k + n ≤ l.length) : vs = (l.drop k).take n := by
  apply List.ext_getElem?
  intro j
  rcases Nat.lt_or_ge j n with h | h
  · have h1 := hv j vs[j] (List.getElem?_eq_getElem (by omega))
    rw [List.getElem?_eq_getElem (by omega), List.getElem?_take, if_pos h, List.getElem?_drop]
    rw [← h1]; simp
  · rw [List.getElem?_eq_none (by omega), List.getElem?_eq_none (by simp; omega)]

theorem rowAt_left {arr : Array Value} {o : Nat} {a b : List Value} (h : rowAt' arr o (a ++ b)) : rowAt' arr o a := fun j v hj => h j v (by
  rw [List.getElem?_append_left]
  · exact hj
  · rcases Nat.lt_or_ge j a.length with h | h
    · exact h
    · rw [List.getElem?_eq_none h] at hj; cases hj)

theorem rowAt_right {arr : Array Value} {o : Nat} {a b : List Value} (h : rowAt' arr o (a ++ b)) : rowAt' arr (o + a.length) b := fun j v hj => by
  have := h (a.length + j) v (by rw [List.getElem?_append_right (by omega)]; simpa using hj)
  rw [← this]; congr 1; omega

/-- Rows of a list between: the cells ahead, those put in, those behind. -/
theorem rows_ins {w : World} {S : Nat → Prop} {r : Ty} (hp : r.plain = true) {xs ys : List r.Den} {olds news : List Value} {i : Nat} (h1 : olds.length = xs.length * r.size) (hi : i ≤ xs.length) (h2 : news.length = ys.length * r.size)
    (hx : ∀ arr' o', rowAt' arr' o' olds → Rows (ORep w S r) arr' r.size xs o' []) (hy : ∀ arr' o', rowAt' arr' o' news → Rows (ORep w S r) arr' r.size ys o' []) {arr : Array Value} {o : Nat}
    (ha : rowAt' arr o (olds.take (i * r.size) ++ (news ++ olds.drop (i * r.size)))) : Rows (ORep w S r) arr r.size (xs.take i ++ (ys ++ xs.drop i)) o [] := by
  have hle : i * r.size ≤ olds.length := by rw [h1]; exact Nat.mul_le_mul_right _ hi
  have h0 : Rows (ORep w S r) olds.toArray r.size (xs.take i ++ xs.drop i) 0 [] := by
    rw [List.take_append_drop]
    exact hx _ 0 fun j v hj => by simpa using hj
  obtain ⟨U1, U2, hu, r1, r2⟩ := Rows.split h0
  have : U1 = [] ∧ U2 = [] := by simpa using hu.symm
  obtain ⟨rfl, rfl⟩ := this
  have hti : (xs.take i).length = i := by simp; omega
  have hdi : (xs.drop i).length = xs.length - i := by simp
  obtain ⟨va, a1, a2, _, a4⟩ := rows_list hp r1
  obtain ⟨vb, b1, b2, _, b4⟩ := rows_list hp r2
  rw [hti] at a1 b2
  rw [hdi] at b1
  have ea : va = olds.take (i * r.size) := by
    have := part_eq (l := olds) (k := 0) (by rw [Nat.zero_add]; exact a2) a1 (by omega)
    simpa using this
  have eb : vb = olds.drop (i * r.size) := by
    have := part_eq (l := olds) (k := i * r.size) b2 b1 (by rw [h1, ← Nat.add_mul]; exact Nat.mul_le_mul_right _ (by omega))
    rw [this, List.take_of_length_le]
    rw [List.length_drop, h1, Nat.sub_mul]; exact Nat.le_refl _
  rw [ea] at a4; rw [eb] at b4
  have ra := a4 arr o (rowAt_left ha)
  have hr := rowAt_right ha
  have rn := hy arr _ (rowAt_left hr)
  have rb := b4 arr _ (rowAt_right hr)
  have hl1 : (olds.take (i * r.size)).length = i * r.size := by simp; omega
  rw [hl1] at rn rb
  rw [h2] at rb
  have := Rows.append ra (by rw [hti]; exact Rows.append rn rb)
  simpa using this

section
variable {w : World} {b : Nat} {arr : Array Value} {el : TypeId} {fz : Nat × Nat}

theorem frozen_not (hh : w.heap[b]? = some (.cells arr el fz)) {j : Nat} (hf : ¬ (fz.1 ≤ j ∧ j < fz.2)) : w.frozen? ⟨b, j, none⟩ = false := by
  obtain ⟨lo, hi⟩ := fz
  simp only [World.frozen?, hh, Bool.and_eq_false_iff, decide_eq_false_iff_not]
  simp only at hf
  omega

theorem shape_at (hh : w.heap[b]? = some (.cells arr el fz)) : w.shape? b = some (el, arr.size) := by simp [World.shape?, hh]
end

theorem push_facts {w w' : World} {o : Obj} (h : w'.heap = w.heap.push o) : w'.heap.size = w.heap.size + 1 ∧ (∀ j, j < w.heap.size → w'.heap[j]? = w.heap[j]?) ∧ w'.heap[w.heap.size]? = some o :=
  ⟨by rw [h]; simp, fun j hj => by rw [h, Array.getElem?_push_lt hj, Array.getElem?_eq_getElem hj], by rw [h]; simp⟩

theorem insOf_some {α : Type} {B : Nat} {xs : List α} {i : Int} {ys : List α} {y : List α × Unit} (h : insOf B xs i ys = some y) :
    ∃ k : Nat, i = k ∧ k ≤ xs.length ∧ ys.length = 1 ∧ (xs.length + 1) * B ≤ 140737488355328 ∧ y = (xs.take k ++ (ys ++ xs.drop k), ()) := by
  unfold insOf at h
  cases hc : inTo i xs.length && (Nat.beq ys.length 1 && Nat.ble ((xs.length + 1) * B) 140737488355328)
  · rw [hc] at h; cases h
  · rw [hc] at h
    simp only [cond_true, Option.some.injEq] at h
    simp only [Bool.and_eq_true, inTo, decide_eq_true_eq] at hc
    obtain ⟨⟨c1, c2⟩, c3, c4⟩ := hc
    refine ⟨i.toNat, by omega, by omega, Nat.eq_of_beq_eq_true c3, Nat.le_of_ble_eq_true c4, h.symm⟩

set_option maxHeartbeats 1000000 in
/-- slices.Insert of one item. -/
theorem insert_refines {P : Program} {f : FuncId} {el0 : TypeId} (hw : InsertW P f el0) : Refines P f ⟨[.val (.ow itemT), .val (.int .i64), .val (.ow itemT)], [.val (.ow itemT)], fun x => insOf 40 x.1 x.2.1 x.2.2.1⟩ := by
  intro w S x y vs U hm hA hU hUb hS
  obtain ⟨(xs : List itemT.Den), (i : Int), (ys : List itemT.Den), ⟨⟩⟩ := x
  obtain ⟨v0, vr, U0, Ur, rfl, rfl, h0, v1, vr1, U1, Ur1, rfl, rfl, h1, v2, vr2, U2, Ur2, rfl, rfl, h2, rfl, rfl⟩ := hA
  obtain ⟨k, hik, hk, hy1, hbig, rfl⟩ := insOf_some hm
  have hik : i = (k : Int) := hik
  have hk : k ≤ xs.length := hk
  have hy1 : ys.length = 1 := hy1
  have hbig : (xs.length + 1) * 40 ≤ 140737488355328 := hbig
  clear hm
  subst hik
  obtain ⟨e1, rfl⟩ : [v1] = [Value.int .i64 k] ∧ U1 = [] := h1
  simp only [List.cons.injEq, and_true] at e1
  subst e1
  have h4 : itemT.size = 4 := rfl
  have hpl : itemT.plain = true := rfl
  -- what is put in
  obtain ⟨A2, cap2, e2, hl2, h2⟩ := h2
  simp only [List.cons.injEq, and_true] at e2
  subst e2
  rcases h2 with ⟨_, hc2, _⟩ | ⟨b2, o2, arr2, el2, fz2, U2', rfl, hh2, hf2, hb2, rfl, hr2⟩
  · omega
  have := Rows.plainU hpl hr2
  subst this
  obtain ⟨news, n1, n2, n3, n4⟩ := rows_list hpl hr2
  rw [hy1, Nat.one_mul, h4] at n1
  rw [hy1] at hl2
  have hvs : ∀ j v, news[j]? = some v → w.cell? ⟨b2, o2 + j, none⟩ = some v := fun j v hj => cell_at hh2 (n2 j v hj)
  have hb2U : b2 < w.heap.size ∧ ¬ S b2 := hUb b2 (by simp)
  rw [hy1]
  -- memory behind the call
  have keepS : ∀ (w' : World), (∀ j, j < w.heap.size → S j → w'.heap[j]? = w.heap[j]?) → ∀ {r : List itemT.Den} {o : Nat} {arr : Array Value}, Rows (ORep w S itemT) arr itemT.size r o [] → Rows (ORep w' S itemT) arr itemT.size r o [] := fun w' hk r o arr hr =>
    hr.mono fun x cs U' hs ha => ha.mono (fun _ h => h) fun c hc => hc.elim (fun hc => hk c (hS c hc) hc) fun hc => absurd (hs c hc) (by simp)
  have hlen : (xs.take k ++ (ys ++ xs.drop k)).length = xs.length + 1 := by simp [hy1]; omega
  have newRow : ∀ (w' : World) (arr : Array Value) (c' : Nat), w'.heap.size = w.heap.size + 1 → (∀ j, j < w.heap.size → w'.heap[j]? = w.heap[j]?) → w'.heap[w.heap.size]? = some (.cells arr el0 (0, 0)) → Side w w' → xs.length + 1 ≤ c' → c' * 4 ≤ arr.size →
      Rows (ORep w S itemT) arr itemT.size (xs.take k ++ (ys ++ xs.drop k)) 0 [] →
      ∃ rvs S' U', Ending.returned (.slice (some ⟨w.heap.size, 0, none⟩) (xs.length + 1) c') = .returned (retV rvs) ∧ rvs.length = 1 ∧ OutsR w' S' [.val (.ow itemT)] (xs.take k ++ (ys ++ xs.drop k), ()) (rvs ++ []) U' ∧ Post w S (U0 ++ ([] ++ (b2 :: [] ++ []))) w' S' U' := by
    intro w' arr c' s1 s2 s3 s4 s5 s6 s7
    refine ⟨[.slice (some ⟨w.heap.size, 0, none⟩) (xs.length + 1) c'], S, [w.heap.size], rfl, rfl, ⟨_, [], [w.heap.size], [], rfl, rfl, ⟨some ⟨w.heap.size, 0, none⟩, c', by rw [hlen], by rw [hlen]; exact s5, .inr ⟨w.heap.size, 0, arr, el0, (0, 0), [], rfl, s3, ⟨fun j _ h => by omega, fun _ h => by omega⟩, by rw [h4]; omega, rfl, keepS w' (fun j hj _ => s2 j hj) s7⟩⟩, rfl, rfl⟩, ?_⟩
    refine ⟨by simp, fun c hc => ?_, fun _ h => h, fun c hc => ⟨by have := hS c hc; omega, .inr (.inl hc)⟩, fun c hc _ => s2 c hc, by omega, s4⟩
    rw [List.mem_singleton] at hc; subst hc
    exact ⟨by omega, fun hs => by have := hS _ hs; omega, .inl (Nat.le_refl _)⟩
  -- the slice itself
  obtain ⟨A0, cap, e0, hl0, h0⟩ := h0
  have hl0 : xs.length ≤ cap := hl0
  simp only [List.cons.injEq, and_true] at e0
  subst e0
  rcases h0 with ⟨rfl, rfl, rfl⟩ | ⟨b, o, arr, el, fz, U0', rfl, hh, hf, hb, rfl, hr⟩
  · have hx0 : xs = [] := List.eq_nil_of_length_eq_zero (by omega)
    subst hx0
    have hk0 : k = 0 := by simpa using hk
    subst hk0
    refine (hw.endGrow none 0 0 b2 o2 cap2 [] news w (Nat.le_refl _) (by omega) (by simpa using hbig) rfl n1 (fun _ => rfl) (fun a h => by cases h) hvs n3).mono fun e w' he => ?_
    obtain ⟨rfl, rfl⟩ := he
    have hg := grownCap_ge w (0 + 1) 0 el0
    obtain ⟨q1, q2, q3⟩ := push_facts (w := w) (w' := w.drew.alloc (.cells (([] ++ news).toArray ++ Builtin.zeroCells zItemV.cells (grownCap w (0 + 1) 0 el0 - (0 + 1))) el0)) rfl
    refine newRow _ _ _ q1 q2 q3 ⟨rfl, rfl, rfl⟩ hg ?_ ?_
    · simp only [Array.size_append, List.size_toArray, size_zeroItems, List.nil_append, n1]; omega
    · have : Rows (ORep w S itemT) (([] ++ news).toArray ++ Builtin.zeroCells zItemV.cells (grownCap w (0 + 1) 0 el0 - (0 + 1))) itemT.size ys 0 [] := n4 _ 0 fun j v hj => by
        have hlt : j < news.length := by
          rcases Nat.lt_or_ge j news.length with h | h
          · exact h
          · rw [List.getElem?_eq_none h] at hj; cases hj
        rw [Nat.zero_add, Array.getElem?_append_left (by simpa using hlt)]
        simpa using hj
      simpa using this
  · have := Rows.plainU hpl hr
    subst this
    obtain ⟨olds, g1, g2, g3, g4⟩ := rows_list hpl hr
    rw [h4] at g1 hb
    have g1 : olds.length = xs.length * 4 := g1
    have hbU : b < w.heap.size ∧ ¬ S b := hUb b (by simp)
    have hne : b2 ≠ b := by
      intro e; subst e
      simp at hU
    have hcs : ∀ j v, olds[j]? = some v → w.cell? ⟨b, o + j, none⟩ = some v := fun j v hj => cell_at hh (g2 j v hj)
    have ins : ∀ {arr' : Array Value} {o' : Nat}, rowAt' arr' o' (olds.take (k * 4) ++ (news ++ olds.drop (k * 4))) → Rows (ORep w S itemT) arr' itemT.size (xs.take k ++ (ys ++ xs.drop k)) o' [] := fun ha => by
      rw [← h4] at ha
      exact rows_ins hpl (by rw [g1, h4]) hk (by rw [n1, hy1, h4]) g4 n4 ha
    have inPlace : ∀ (w' : World) (cur' : Array Value), w'.heap = (w.setRow b cur').heap → cur'.size = arr.size → Side w w' → xs.length + 1 ≤ cap → rowAt' cur' o (olds.take (k * 4) ++ (news ++ olds.drop (k * 4))) →
        ∃ rvs S' U', Ending.returned (.slice (some ⟨b, o, none⟩) (xs.length + 1) cap) = .returned (retV rvs) ∧ rvs.length = 1 ∧ OutsR w' S' [.val (.ow itemT)] (xs.take k ++ (ys ++ xs.drop k), ()) (rvs ++ []) U' ∧ Post w S (b :: [] ++ ([] ++ (b2 :: [] ++ []))) w' S' U' := by
      intro w' cur' s1 s2 s3 s4 s5
      have hbh : w'.heap[b]? = some (.cells cur' el fz) := by rw [s1]; exact setRow_heap w b arr cur' el fz hh
      have hoth : ∀ j, j ≠ b → w'.heap[j]? = w.heap[j]? := fun j hj => by rw [s1]; exact setRow_other w b j cur' hj
      have hsz : w'.heap.size = w.heap.size := by rw [s1, setRow_size]
      refine ⟨[.slice (some ⟨b, o, none⟩) (xs.length + 1) cap], S, [b], rfl, rfl, ⟨_, [], [b], [], rfl, rfl, ⟨some ⟨b, o, none⟩, cap, by rw [hlen], by rw [hlen]; exact s4, .inr ⟨b, o, cur', el, fz, [], rfl, hbh, by rw [s2]; exact hf, by rw [h4, s2]; exact hb, rfl, keepS w' (fun j _ hs => hoth j fun e => by subst e; exact hbU.2 hs) (ins s5)⟩⟩, rfl, rfl⟩, ?_⟩
      refine ⟨by simp, fun c hc => ?_, fun _ h => h, fun c hc => ⟨by have := hS c hc; omega, .inr (.inl hc)⟩, fun c hc hn => hoth c fun e => hn (by subst e; simp), by omega, s3⟩
      rw [List.mem_singleton] at hc; subst hc
      exact ⟨by omega, hbU.2, .inr (by simp)⟩
    rcases Nat.lt_or_ge cap (xs.length + 1) with hroom | hroom
    · rcases Nat.lt_or_ge k xs.length with hkn | hkn
      · refine (hw.grow b o xs.length cap k b2 o2 cap2 olds news w hkn hl0 hroom hbig g1 n1 hcs hvs g3 n3).mono fun e w' he => ?_
        obtain ⟨rfl, rfl⟩ := he
        have hg := grownCap_ge w (xs.length + 1) cap el0
        obtain ⟨ROW, hROW⟩ : ∃ ROW : Array Value, ROW = (olds.take (k * 4)).toArray ++ Builtin.zeroCells zItemV.cells (xs.length + 1 - k) ++ Builtin.zeroCells zItemV.cells (grownCap w (xs.length + 1) cap el0 - (xs.length + 1)) := ⟨_, rfl⟩
        have hRs : ROW.size = grownCap w (xs.length + 1) cap el0 * 4 := by
          rw [hROW]
          simp only [Array.size_append, size_zeroItems, List.size_toArray, List.length_take, g1]; omega
        have hRk : ∀ j, j < k * 4 → ROW[j]? = olds[j]? := fun j hj => by
          rw [hROW, Array.getElem?_append_left (by simp [g1]; omega), Array.getElem?_append_left (by simp [g1]; omega)]
          simp [hj]
        rw [← hROW]
        obtain ⟨W0, hW0⟩ : ∃ W0, W0 = (w.alloc (.cells ROW el0)).drew := ⟨_, rfl⟩
        obtain ⟨q1, q2, z0⟩ := push_facts (w := w) (w' := W0) (o := .cells ROW el0 (0, 0)) (by rw [hW0]; rfl)
        rw [← hW0]
        obtain ⟨c1, a1, a2, a3⟩ := setCells_row w.heap.size el0 (0, 0) news (k * 4) ROW W0 z0 (by omega)
        rw [a1]
        have z1 : ((W0.setRow w.heap.size c1).drew).heap[w.heap.size]? = some (.cells c1 el0 (0, 0)) := setRow_heap W0 w.heap.size ROW c1 el0 (0, 0) z0
        have hdl : (olds.drop (k * 4)).length = (xs.length - k) * 4 := by rw [List.length_drop, g1]; omega
        obtain ⟨c2, b1, b2', b3⟩ := setCells_row w.heap.size el0 (0, 0) (olds.drop (k * 4)) ((k + 1) * 4) c1 ((W0.setRow w.heap.size c1).drew) z1 (by omega)
        rw [b1]
        refine newRow _ c2 _ ?_ (fun j hj => ?_) (setRow_heap _ w.heap.size c1 c2 el0 (0, 0) z1) ?_ hg (by omega) (ins fun j v hj => ?_)
        · rw [setRow_size]
          show (W0.setRow w.heap.size c1).heap.size = _
          rw [setRow_size]; exact q1
        · rw [setRow_other _ _ _ _ (by omega)]
          show (W0.setRow w.heap.size c1).heap[j]? = _
          rw [setRow_other _ _ _ _ (by omega)]; exact q2 j hj
        · rw [hW0]; exact ⟨rfl, rfl, rfl⟩
        · rw [Nat.zero_add, b3 j]
          have ht : (olds.take (k * 4)).length = k * 4 := by simp [g1]; omega
          rcases Nat.lt_or_ge j (k * 4) with q | q
          · rw [if_neg (by omega), a3 j, if_neg (by omega), hRk j q]
            rw [List.getElem?_append_left (by omega), List.getElem?_take, if_pos q] at hj
            exact hj
          · rw [List.getElem?_append_right (by omega), ht] at hj
            rcases Nat.lt_or_ge (j - k * 4) 4 with q2 | q2
            · rw [if_neg (by omega), a3 j, if_pos (by omega)]
              rw [List.getElem?_append_left (by omega)] at hj
              exact hj
            · rw [List.getElem?_append_right (by omega), n1] at hj
              have hlt : j - k * 4 - 4 < (olds.drop (k * 4)).length := by
                rcases Nat.lt_or_ge (j - k * 4 - 4) (olds.drop (k * 4)).length with h | h
                · exact h
                · rw [List.getElem?_eq_none h] at hj; cases hj
              rw [if_pos (by omega)]
              have : j - (k + 1) * 4 = j - k * 4 - 4 := by omega
              rw [this]; exact hj
      · have hkn : k = xs.length := by omega
        subst hkn
        refine (hw.endGrow (some ⟨b, o, none⟩) xs.length cap b2 o2 cap2 olds news w hl0 hroom hbig g1 n1 (fun h => by cases h) (fun a h => by cases h; exact fun j v hj => by rw [Addr.add_lit]; exact hcs j v hj) hvs n3).mono fun e w' he => ?_
        obtain ⟨rfl, rfl⟩ := he
        have hg := grownCap_ge w (xs.length + 1) cap el0
        obtain ⟨q1, q2, q3⟩ := push_facts (w := w) (w' := w.drew.alloc (.cells ((olds ++ news).toArray ++ Builtin.zeroCells zItemV.cells (grownCap w (xs.length + 1) cap el0 - (xs.length + 1))) el0)) rfl
        refine newRow _ _ _ q1 q2 q3 ⟨rfl, rfl, rfl⟩ hg ?_ (ins fun j v hj => ?_)
        · simp only [Array.size_append, List.size_toArray, size_zeroItems, List.length_append, g1, n1]; omega
        · rw [List.take_of_length_le (by omega), List.drop_eq_nil_of_le (by omega), List.append_nil] at hj
          have hlt : j < (olds ++ news).length := by
            rcases Nat.lt_or_ge j (olds ++ news).length with h | h
            · exact h
            · rw [List.getElem?_eq_none h] at hj; cases hj
          rw [Nat.zero_add, Array.getElem?_append_left (by simpa using hlt)]
          simpa using hj
    · have hfr : ∀ j, j < arr.size → w.frozen? ⟨b, j, none⟩ = false := fun j hj => frozen_not hh (hf.1 j hj)
      have hce : ∀ j, j < arr.size → (w.cell? ⟨b, j, none⟩).isSome = true := fun j hj => by rw [cell_at hh (Array.getElem?_eq_getElem hj)]; rfl
      rcases Nat.lt_or_ge k xs.length with hkn | hkn
      · refine (hw.shift b o xs.length cap k b2 o2 cap2 olds news w hkn hroom hbig hne g1 n1 hcs (fun j hj => hce _ (by omega)) (fun j hj => hfr _ (by omega)) hvs g3 n3 el2 el arr2.size arr.size (shape_at hh2) (shape_at hh) (by omega) (frozen_not hh2 (hf2.1 o2 (by rw [h4] at hb2; omega))) (frozen_not hh2 (hf2.2 rfl))).mono fun e w' he => ?_
        obtain ⟨rfl, rfl⟩ := he
        have hdl : (olds.drop (k * 4)).length = (xs.length - k) * 4 := by rw [List.length_drop, g1]; omega
        obtain ⟨c1, a1, a2, a3⟩ := setCells_row b el fz (olds.drop (k * 4)) (o + (k + 1) * 4) arr w.drew hh (by omega)
        rw [a1]
        obtain ⟨c2, b1, b2', b3⟩ := setCells_row b el fz news (o + k * 4) c1 (w.drew.setRow b c1) (setRow_heap w.drew b arr c1 el fz hh) (by omega)
        rw [b1, setRow_setRow]
        refine inPlace _ c2 rfl (by omega) ⟨rfl, rfl, rfl⟩ hroom (fun j v hj => ?_)
        rw [b3 (o + j)]
        have ht : (olds.take (k * 4)).length = k * 4 := by simp [g1]; omega
        rcases Nat.lt_or_ge j (k * 4) with q | q
        · rw [if_neg (by omega), a3 (o + j), if_neg (by omega)]
          rw [List.getElem?_append_left (by omega), List.getElem?_take, if_pos q] at hj
          exact g2 j v hj
        · rw [List.getElem?_append_right (by omega), ht] at hj
          rcases Nat.lt_or_ge (j - k * 4) 4 with q2 | q2
          · rw [if_pos (by omega)]
            rw [List.getElem?_append_left (by omega)] at hj
            have : o + j - (o + k * 4) = j - k * 4 := by omega
            rw [this]; exact hj
          · rw [List.getElem?_append_right (by omega), n1] at hj
            have hlt : j - k * 4 - 4 < (olds.drop (k * 4)).length := by
              rcases Nat.lt_or_ge (j - k * 4 - 4) (olds.drop (k * 4)).length with h | h
              · exact h
              · rw [List.getElem?_eq_none h] at hj; cases hj
            rw [if_neg (by omega), a3 (o + j), if_pos (by omega)]
            have : o + j - (o + (k + 1) * 4) = j - k * 4 - 4 := by omega
            rw [this]; exact hj
      · have hkn : k = xs.length := by omega
        subst hkn
        refine (hw.endRoom b o xs.length cap b2 o2 cap2 news w hroom hbig n1 (fun j hj => hce _ (by omega)) (fun j hj => hfr _ (by omega)) hvs n3).mono fun e w' he => ?_
        obtain ⟨rfl, rfl⟩ := he
        obtain ⟨c1, a1, a2, a3⟩ := setCells_row b el fz news (o + xs.length * 4) arr w hh (by omega)
        rw [a1]
        refine inPlace _ c1 rfl a2 ⟨rfl, rfl, rfl⟩ hroom (fun j v hj => ?_)
        rw [List.take_of_length_le (by omega), List.drop_eq_nil_of_le (by omega), List.append_nil] at hj
        rw [a3 (o + j)]
        rcases Nat.lt_or_ge j (xs.length * 4) with q | q
        · rw [if_neg (by omega)]
          rw [List.getElem?_append_left (by omega)] at hj
          exact g2 j v hj
        · have hlt : j - xs.length * 4 < news.length := by
            rcases Nat.lt_or_ge (j - xs.length * 4) news.length with h | h
            · exact h
            · rw [List.getElem?_append_right (by omega), g1, List.getElem?_eq_none h] at hj; cases hj
          rw [List.getElem?_append_right (by omega), g1] at hj
          rw [if_pos (by omega)]
          have : o + j - (o + xs.length * 4) = j - xs.length * 4 := by omega
          rw [this]; exact hj
end Rg
