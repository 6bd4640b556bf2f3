/- Drains and orders of shelves: the walks up to host.clean, drained, order. -/
import Derived.Test.YtagekhgfoabgbaaK02
import Derived.Great.BuildSlice
import Derived.Deep.LoopGhost

section
/- How rows, maps and loops over maps are carried over what a call does; a slice of one element. -/
set_option linter.unusedSimpArgs false
set_option linter.unusedVariables false
namespace Go.Proofs.Ytagekhgfoabgbaa
open Go.RowKit Go.Maps

theorem upd_grown {a b : World} {g : Nat} (h : Upd a b g) : a.grownBy b (some g) := ⟨h.os, h.tape, h.output, Nat.le_of_eq h.size.symm, fun i _ hi => h.block i fun e => hi (by rw [e])⟩
theorem grown_new {a b : World} {o : Obj} {g : Nat} (h : Upd (a.alloc o) b g) (hg : a.heap.size ≤ g) (row : Option Nat) : a.grownBy b row :=
  ⟨h.os, h.tape, h.output, by rw [h.size]; simp, fun i hi _ => by rw [h.block i (by omega)]; exact Below.heap_alloc a o i hi⟩
theorem below_to_grown {a b : World} (h : Below a.heap.size a b) (row : Option Nat) : a.grownBy b row := ⟨h.os, h.tape, h.output, h.size, fun i hi _ => h.block i hi⟩
theorem grown_none {a b : World} (h : a.grownBy b none) (row : Option Nat) : a.grownBy b row := ⟨h.os, h.tape, h.output, h.size, fun i hi _ => h.block i hi (by simp)⟩
theorem grown_below {a b : World} {g : Nat} {B : Nat} (h : a.grownBy b (some g)) (hB : B ≤ g) (hB2 : B ≤ a.heap.size) : Below B a b := ⟨h.os, h.tape, h.output, h.size, fun i hi => h.block i (by omega) fun e => by injection e with e; omega⟩
theorem grown_below' {a b : World} {row : Option Nat} {B : Nat} (h : a.grownBy b row) (hr : ∀ g, row = some g → B ≤ g) (hB2 : B ≤ a.heap.size) : Below B a b := ⟨h.os, h.tape, h.output, h.size, fun i hi => h.block i (by omega) fun e => by have := hr i e.symm; omega⟩

theorem row_grown {w w' : World} {base e size n : Nat} {v : Value} {xs : List Value} {row : Option Nat} (h : Row w base e size v n xs) (hg : w.grownBy w' row) (hne : v.ownBlock = none ∨ v.ownBlock ≠ row) : Row w' base e size v n xs :=
  row_same h fun k hk => hg.block k (row_lt h k hk) (by rcases hne with hne | hne; · rw [hk] at hne; cases hne
                                                        · rw [← hk]; exact hne)
theorem map_grown {κ ν : Type} {P : Program} {k : TypeId} {f : κ → Value} {g : ν → Value} {w w' : World} {b : Nat} {M : List (κ × ν)} {row : Option Nat} (h : MapOf P k f g w b M) (hg : w.grownBy w' row) (hne : some b ≠ row) : MapOf P k f g w' b M := h.same (hg.block b h.lt hne)
theorem iter_grown {κ ν : Type} {P : Program} {k : TypeId} {f : κ → Value} {g : ν → Value} {w w' : World} {b r : Nat} {M L : List (κ × ν)} {row : Option Nat} (h : IterOf P k f g w b r M L) (hg : w.grownBy w' row) (hb : some b ≠ row) (hr : some r ≠ row) : IterOf P k f g w' b r M L := h.same (hg.block b h.lt.1 hb) (hg.block r h.lt.2.1 hr)
theorem map_blk {κ ν : Type} {P : Program} {k : TypeId} {f : κ → Value} {g : ν → Value} {w : World} {b : Nat} {M : List (κ × ν)} (h : MapOf P k f g w b M) : ∃ es c, w.heap[b]? = some (.map es c) := by
  obtain ⟨es, c, h⟩ := h; exact ⟨es, c, h.blk⟩
theorem row_not_map {κ ν : Type} {P : Program} {k : TypeId} {f : κ → Value} {g : ν → Value} {w : World} {b : Nat} {M : List (κ × ν)} {base e size n : Nat} {v : Value} {xs : List Value} (hr : Row w base e size v n xs) (h : MapOf P k f g w b M) : some b ≠ v.ownBlock := by
  obtain ⟨es, c, hb⟩ := map_blk h
  exact fun e => row_ne_map hr hb e.symm
theorem row_not_iter {κ ν : Type} {P : Program} {k : TypeId} {f : κ → Value} {g : ν → Value} {w : World} {b r : Nat} {M L : List (κ × ν)} {base e size n : Nat} {v : Value} {xs : List Value} (hr : Row w base e size v n xs) (h : IterOf P k f g w b r M L) : some r ≠ v.ownBlock := by
  obtain ⟨es, c, seen, _, hb, _⟩ := h
  exact fun e => row_ne_iter hr hb e.symm
theorem map_not_iter {κ ν κ' ν' : Type} {P P' : Program} {k k' : TypeId} {f : κ → Value} {g : ν → Value} {f' : κ' → Value} {g' : ν' → Value} {w : World} {b b' r : Nat} {M L : List (κ × ν)} {M' : List (κ' × ν')} (h : IterOf P k f g w b r M L) (h' : MapOf P' k' f' g' w b' M') : b' ≠ r := by
  obtain ⟨es, c, seen, _, hb, _⟩ := h
  obtain ⟨es', c', hb'⟩ := map_blk h'
  intro e
  rw [← e, hb'] at hb
  cases hb

/-- The cells of some lists of numbers, one behind the other. -/
def flats (qs : List (List Int)) : List Value := qs.flatMap fun s => (ints s).toList
theorem flats_snoc (qs : List (List Int)) (s : List Int) : flats (qs ++ [s]) = flats qs ++ (ints s).toList := by simp [flats]
theorem flats_cons (s : List Int) (qs : List (List Int)) : flats (s :: qs) = (ints s).toList ++ flats qs := by simp [flats]
theorem ints_toList (s : List Int) : (ints s).toList = s.map (Value.int .i64) := by simp [ints]

theorem nodup_le {α : Type} [DecidableEq α] : ∀ {l U : List α}, l.Nodup → (∀ x ∈ l, x ∈ U) → l.length ≤ U.length
  | [], _, _, _ => by simp
  | x :: r, U, h, hu => by
    rw [List.nodup_cons] at h
    have hx := hu x (by simp)
    have := nodup_le (l := r) (U := U.erase x) h.2 fun y hy => (List.mem_erase_of_ne fun e => h.1 (by rw [← e]; exact hy)).2 (hu y (by simp [hy]))
    rw [List.length_erase_of_mem hx] at this
    have hp : 0 < U.length := List.length_pos_of_mem hx
    simp
    omega

theorem foldl_set_at : ∀ (l : List Value) (k : Nat) (cs : Array Value) (i : Nat), k + l.length ≤ cs.size →
    ((l.zipIdx k).foldl (fun cs p => cs.setIfInBounds (0 + p.2) p.1) cs)[i]? = if k ≤ i ∧ i < k + l.length then l[i - k]? else cs[i]?
  | [], k, cs, i, _ => by
    rw [if_neg (by simp only [List.length_nil]; omega)]; rfl
  | v :: r, k, cs, i, h => by
    simp only [List.length_cons] at h
    simp only [List.zipIdx_cons, List.foldl_cons]
    rw [foldl_set_at r (k + 1) _ i (by simp; omega)]
    by_cases h1 : i = k
    · subst h1
      rw [if_neg (by omega), if_pos ⟨Nat.le_refl _, by simp⟩, Nat.sub_self, List.getElem?_cons_zero, Nat.zero_add, Array.getElem?_setIfInBounds_self_of_lt (by omega)]
    · by_cases h2 : k ≤ i ∧ i < k + (v :: r).length
      · rw [if_pos (by simp at h2; omega), if_pos h2, show i - k = (i - (k + 1)) + 1 by omega]
        simp
      · rw [if_neg (by simp at h2; omega), if_neg h2, Array.getElem?_setIfInBounds_ne (by omega)]
theorem fill_whole (C cs : Array Value) (size : Nat) (hC : C.size = size) (hcs : cs.size = size) : Instr.fill (fun i => some (i * size, size)) cs [(0, .agg C)] = some C := by
  have h1 : ¬ ((Value.agg C).cells.size ≠ size || decide (0 * size + (Value.agg C).cells.size > cs.size)) = true := by
    show ¬ (decide (C.size ≠ size) || decide (0 * size + C.size > cs.size)) = true
    simp [hC, hcs]
  unfold Instr.fill
  simp only
  rw [if_neg h1]
  unfold Instr.fill
  congr 1
  apply Array.ext_getElem?
  intro i
  show ((C.zipIdx).foldl (fun (cs : Array Value) (x : Value × Nat) => cs.setIfInBounds (0 * size + x.2) x.1) cs)[i]? = C[i]?
  rw [Nat.zero_mul, ← Array.foldl_toList, Array.toList_zipIdx]
  have := foldl_set_at C.toList 0 cs i (by simp [hC, hcs])
  rw [this]
  by_cases hi : i < C.size
  · rw [if_pos (by simpa using hi)]; simp
  · rw [if_neg (by simpa using hi), Array.getElem?_eq_none (by omega), Array.getElem?_eq_none (by omega)]

section
variable {P : Program} {ops : Array Oper} {rest : List Oper} {o : Oper} {a : Act} {w : World} {Q : Exit → Act → World → Prop}
/-- A slice of one element that is an array or a struct. -/
theorem build_one (hg : o.guard = none) (t e : TypeId) (x : Operand) (ho : o.op = .buildSlice t 1 #[(0, x)]) (C : Array Value) (hx : a.eval x = .agg C) {z : Value} {size bytes : Nat} (hu : P.underlying t = some (.slice e))
    (hi : (P.info? e).map (fun i => (i.zero, i.size, i.bytes)) = some (some z, size, bytes)) (hC : C.size = size) (h0 : 0 < size) (h1 : size ≤ 16777216)
    (h : wpList P ops Q rest (a.put o.dst (.slice (some ⟨w.heap.size, 0, none⟩) 1 1)) (w.alloc (.cells C e))) : wpList P ops Q (o :: rest) a w := by
  cases hq : P.info? e with
  | none => simp [hq] at hi
  | some i =>
    simp only [hq, Option.map_some, Option.some.injEq, Prod.mk.injEq] at hi
    refine wpList_buildSlice hg t e 1 _ ho C i z hu hq hi.1 (by rw [hi.2.1]; omega) (by rw [hi.2.1]; omega) ?_ h
    rw [hi.2.1]
    simp only [List.map_toArray, List.map_cons, List.map_nil, hx]
    exact fill_whole C _ size hC (by simp)
/-- A whole array or struct of whole numbers is loaded, wherever it lies. -/
theorem load_cells (hgd : o.guard = none) (ty : TypeId) (x : Operand) (ho : o.op = .load ty x) (g off : Nat) (hx : a.eval x = .pointer (some ⟨g, off, none⟩)) {xs : List Int} (hc : ∀ j u, (ints xs).toList[j]? = some u → w.cell? ⟨g, off + j, none⟩ = some u)
    {d : TypeDesc} (hu : P.underlying ty = some d) (hd : (match d with | .struct _ | .array _ _ => true | _ => false) = true) {n : Nat} (hi : (P.info? ty).map (·.size) = some n) (hn : xs.length = n)
    (h : wpList P ops Q rest (a.put o.dst (.agg (ints xs))) w) : wpList P ops Q (o :: rest) a w := by
  refine wpList_plain hgd fun K hK => ?_
  have hl : (loadCells ⟨g, off, none⟩ n).run P w = .ok (ints xs) w := by
    have := run_loadCells_list (P := P) w ⟨g, off, none⟩ (ints xs).toList (fun j v hv => by rw [addr_add]; exact hc j v hv)
    simpa [ints_size, hn] using this
  cases hq : P.info? ty with
  | none => simp [hq] at hi
  | some i =>
    have hs : i.size = n := by simpa [hq] using hi
    have hagg : (isAgg ty).run P w = .ok true w := by
      unfold isAgg
      rw [Sem.run_bind, run_underlying hu w]
      cases d <;> simp_all
    have hr : (loadVar ty ⟨g, off, none⟩).run P w = .ok (.agg (ints xs)) w := by
      simp [loadVar, Sem.run_bind, hagg, sizeOf, typeInfo, hq, hs, hl]
    unfold Oper.wp execOp
    simp only [ho, hx, Instr.loadAt, Instr.sureAddr, Sem.run_bind, Sem.run_pure, Result.andThen_ok, hr]
    exact hK _ _ h
end

/-- 'x[1:]' of a slice. -/
theorem run_tail {P : Program} (w : World) (t e : TypeId) (A : Option Addr) (n c : Nat) (hu : P.underlying t = some (.slice e)) {i : TypeInfo} (hi : P.info? e = some i) (hn : 1 ≤ n) :
    (Instr.sliceAt t (.slice A n c) (some (.int .i64 1)) none none).run P w = .ok (.slice (if c = 1 then A else A.map (·.add (1 * i.size))) (n - 1) (c - 1)) w := by
  have h1 : (1 : Int) ≤ (n : Int) := by omega
  simp [Instr.sliceAt, Instr.slice, run_underlying hu, Instr.sliceBounds, Instr.sliceBound, asIntOf, sizeOf, typeInfo, hi, h1]

/-- Block g is one of n numbers; these. -/
def IsBlk (w : World) (g n : Nat) (t : TypeId) : Prop := ∃ xs, Blk w g xs t ∧ xs.length = n
open Classical in
noncomputable def blkOf (w : World) (g : Nat) : List Int := if h : ∃ xs t, Blk w g xs t then Classical.choose h else []
theorem ints_inj {xs ys : List Int} (h : ints xs = ints ys) : xs = ys := by
  have h2 : xs.map (Value.int .i64) = ys.map (Value.int .i64) := by simpa [ints] using h
  exact (List.map_inj_right (fun a b h => by injection h)).1 h2
theorem blkOf_eq {w : World} {g : Nat} {xs : List Int} {t : TypeId} (h : Blk w g xs t) : blkOf w g = xs := by
  have he : ∃ xs t, Blk w g xs t := ⟨xs, t, h⟩
  unfold blkOf
  rw [dif_pos he]
  obtain ⟨t', h'⟩ := Classical.choose_spec he
  have := h'.symm.trans h
  injection this with this
  injection this with this _ _
  exact ints_inj this
/-- A load of a whole block, inside a region that draws. -/
def loadTo (P : Program) (o : Oper) (t : TypeId) (v : Value) (a : Act) (w : World) (K : Act → World → Prop) (Q : Exit → Act → World → Prop) : Prop :=
  o.upon P a K Q ((do let r ← Instr.loadAt t v; pure (Next.value r) : Sem Next).run P w)
theorem wp_load_to {P : Program} (d : Option Tmp) (t : TypeId) (x : Operand) (ty : TypeId) (pos : String) (af : Array Edge) (gd : Option (Nat × Bool)) (a : Act) (w : World) (K : Act → World → Prop) (Q : Exit → Act → World → Prop) :
    Oper.wp P ⟨d, .load t x, ty, pos, af, gd⟩ a w K Q = loadTo P ⟨d, .load t x, ty, pos, af, gd⟩ t (a.eval x) a w K Q := rfl
theorem loadTo_blk {P : Program} {o : Oper} {t : TypeId} {n : Nat} {a : Act} {w : World} {K : Act → World → Prop} {Q : Exit → Act → World → Prop} {g : Nat} {tb : TypeId} (h : IsBlk w g n tb)
    {d : TypeDesc} (hu : P.underlying t = some d) (hd : (match d with | .struct _ | .array _ _ => true | _ => false) = true) (hi : (P.info? t).map (·.size) = some n) :
    loadTo P o t (.pointer (some ⟨g, 0, none⟩)) a w K Q = K (a.put o.dst (.agg (ints (blkOf w g)))) w := by
  obtain ⟨xs, hb, hn⟩ := h
  rw [blkOf_eq hb]
  have := run_loadVar_row (P := P) w g tb t (ints xs) (0, 0) d hb hu hd (by rw [hi, ints_size, hn])
  unfold loadTo
  simp only [Instr.loadAt, Instr.sureAddr, Sem.run_bind, Sem.run_pure, Result.andThen_ok, this]
  rfl

end Go.Proofs.Ytagekhgfoabgbaa
end

section
/- The walk over drained: all that some shelves become by drains. -/
set_option linter.unusedSimpArgs false
set_option linter.unusedVariables false
namespace Go.Proofs.Ytagekhgfoabgbaa
open Go.RowKit Go.Maps
attribute [local go_sem] ints_lit6

/-- What a shelf becomes by any drains. -/
inductive DStar : List Int → List Int → Prop
  | refl (s : List Int) : DStar s s
  | step {s s1 s2 : List Int} {b : Int} : DStar s s1 → (b, s2) ∈ shD s1 → DStar s s2

/-- Shelves among which drains stay. -/
structure Uni (U : List (List Int)) : Prop where
  len : ∀ s ∈ U, s.length = 73
  mild : ∀ s ∈ U, Mild s
  many : ∀ s ∈ U, ∃ m : Nat, s.getD 6 0 = m ∧ m ≤ 11
  closed : ∀ s ∈ U, ∀ p ∈ shD s, p.2 ∈ U
  small : U.length ≤ 1048576

abbrev fA : List Int → Value := fun xs => .agg (ints xs)
abbrev gI : Int → Value := Value.int .i64
theorem gI_inj (x y : Int) (h : gI x = gI y) : x = y := by injection h
theorem info86 : (Try.prog.info? 86).map (fun i => (i.zero, i.size, i.bytes)) = some (some (.agg Try.zeroCells86), 73, 584) := by kernel_rfl
theorem Uni.at6 {U : List (List Int)} (hU : Uni U) {s : List Int} (hs : s ∈ U) : ∃ m : Nat, (ints s)[6]? = some (.int .i64 m) ∧ m ≤ 11 := by
  obtain ⟨m, h, hm⟩ := hU.many s hs
  exact ⟨m, by rw [ints_getD (by rw [hU.len s hs]; omega), h], hm⟩
theorem Uni.key {U : List (List Int)} (hU : Uni U) {s : List Int} (hs : s ∈ U) : ∃ l, keyOf Try.prog 86 (fA s) = some l := key86 (hU.len s hs) (hU.mild s hs)

theorem wp_load86 (d : Option Tmp) (x : Operand) (ty : TypeId) (pos : String) (af : Array Edge) (gd : Option (Nat × Bool)) (a : Act) (w : World) (K : Act → World → Prop) (Q : Exit → Act → World → Prop) :
    Oper.wp Try.prog ⟨d, .load 86 x, ty, pos, af, gd⟩ a w K Q = loadTo Try.prog ⟨d, .load 86 x, ty, pos, af, gd⟩ 86 (a.eval x) a w K Q := rfl
theorem loadTo86 {o : Oper} {a : Act} {w : World} {K : Act → World → Prop} {Q : Exit → Act → World → Prop} {g : Nat} (h : IsBlk w g 73 86) :
    loadTo Try.prog o 86 (.pointer (some ⟨g, 0, none⟩)) a w K Q = K (a.put o.dst (.agg (ints (blkOf w g)))) w := loadTo_blk h Try.underlying86 rfl i86

/-- What drained hands back. -/
def DrainedPost (L : List (List Int × Int)) (w : World) (x : Ending) (w' : World) : Prop :=
  ∃ g M, x = .returned (.map (some g)) ∧ w.heap.size ≤ g ∧ MapOf Try.prog 86 fA gI w' g M ∧ (∀ s, s ∈ M.map (·.1) ↔ ∃ p ∈ L, DStar p.1 s) ∧ Below w.heap.size w w'

/-- The first loop's state: qs was queued, rest is still to come. -/
def DE1 (L : List (List Int × Int)) (b : Nat) (w : World) (k : Nat) (v : Value) (wr : World) : Prop :=
  ∃ (qs : List (List Int)) (rest : List (List Int × Int)), rest.length ≤ k ∧ IterOf Try.prog 86 fA gI wr b (w.heap.size + 1) L rest ∧ (qs ++ rest.map (·.1)).Perm (L.map (·.1)) ∧
    Row wr w.heap.size 86 73 v qs.length (flats qs) ∧ MapOf Try.prog 86 fA gI wr w.heap.size [] ∧ Below w.heap.size w wr

/-- The second loop's state, without what it means. -/
def DE2 (U : List (List Int)) (w : World) (qs : List (List Int)) (M : List (List Int × Int)) (v : Value) (wr : World) : Prop :=
  Row wr w.heap.size 86 73 v qs.length (flats qs) ∧ MapOf Try.prog 86 fA gI wr w.heap.size M ∧ Below w.heap.size w wr ∧ (∀ s ∈ qs, s ∈ U) ∧ (∀ p ∈ M, p.1 ∈ U)
/-- .. and with it. -/
def DE3 (L : List (List Int × Int)) (N : Nat) (k : Nat) (qs : List (List Int)) (M : List (List Int × Int)) : Prop :=
  7 * (1048576 - M.length) + qs.length ≤ k ∧ k ≤ N ∧ (∀ p ∈ M, 1 ≤ p.2 ∧ p.2 ≤ (N : Int) - k) ∧ (∀ s, (s ∈ qs ∨ s ∈ M.map (·.1)) → ∃ p ∈ L, DStar p.1 s) ∧
    (∀ p ∈ L, p.1 ∈ qs ∨ p.1 ∈ M.map (·.1)) ∧ (∀ s ∈ M.map (·.1), ∀ p ∈ shD s, p.2 ∈ qs ∨ p.2 ∈ M.map (·.1))

theorem DE1.start {L : List (List Int × Int)} {b : Nat} {w wr : World} (hi : IterOf Try.prog 86 fA gI wr b (w.heap.size + 1) L L) (hm : MapOf Try.prog 86 fA gI wr w.heap.size ([] : List (List Int × Int))) (hb : Below w.heap.size w wr) : DE1 L b w L.length (.slice none 0 0) wr :=
  ⟨[], L, Nat.le_refl _, hi, by simp, row_nil _ _ _ _, hm, hb⟩

theorem own_none (v : Value) : v.ownBlock = none ∨ v.ownBlock ≠ none := by cases v.ownBlock <;> simp
theorem DE1.many {U : List (List Int)} (hU : Uni U) {P : Program} {k b r : Nat} {L rst L' : List (List Int × Int)} {qs : List (List Int)} {p : List Int × Int} {wr : World} (hL : ∀ p ∈ L, p.1 ∈ U) (hit : IterOf P k fA gI wr b r L rst) (hperm : (qs ++ rst.map (·.1)).Perm (L.map (·.1))) (hp : rst.Perm (p :: L')) : qs.length + 1 ≤ 1048576 := by
  obtain ⟨es, c, h⟩ := hit.map
  have h1 := nodup_le h.apart (U := U) fun x hx => by obtain ⟨q, hq, e⟩ := List.mem_map.1 hx; rw [← e]; exact hL q hq
  have h2 := hperm.length_eq
  have h3 := hp.length_eq
  have h4 := hU.small
  simp at h1 h2 h3
  omega
/-- A round of the first loop. -/
theorem DE1.next {L rst L' : List (List Int × Int)} {b k : Nat} {w wr w1 w2 w3 : World} {v v' : Value} {qs : List (List Int)} {p : List Int × Int} {X Y : Obj} (hk : rst.length ≤ k) (hit : IterOf Try.prog 86 fA gI wr b (w.heap.size + 1) L rst)
    (hperm : (qs ++ rst.map (·.1)).Perm (L.map (·.1))) (hrow : Row wr w.heap.size 86 73 v qs.length (flats qs)) (hmap : MapOf Try.prog 86 fA gI wr w.heap.size ([] : List (List Int × Int))) (hbel : Below w.heap.size w wr)
    (hp : rst.Perm (p :: L')) (hit1 : IterOf Try.prog 86 fA gI w1 b (w.heap.size + 1) L L') (hu1 : Upd wr w1 (w.heap.size + 1)) (hu2 : Upd (w1.alloc X) w2 w1.heap.size) (hrow3 : Row w3 w.heap.size 86 73 v' (qs.length + 1) (flats qs ++ (ints p.1).toList)) (hg3 : (w2.alloc Y).grownBy w3 v.ownBlock) :
    DE1 L b w L'.length v' w3 ∧ L'.length < k := by
  have g1 : w1.grownBy (w2.alloc Y) v.ownBlock := (grown_new hu2 (Nat.le_refl _) _).trans (World.grownBy_alloc w2 Y _)
  have g2 := g1.trans hg3
  have hrow1 := row_upd hrow hu1 (fun e => row_not_iter hrow hit e.symm)
  have hmap1 := map_grown hmap (upd_grown hu1) (by simp)
  refine ⟨⟨qs ++ [p.1], L', Nat.le_refl _, iter_grown hit1 g2 (row_not_map hrow1 hit1.map) (row_not_iter hrow1 hit1), ?_, ?_, map_grown hmap1 g2 (row_not_map hrow1 hmap1), ?_⟩, ?_⟩
  · refine List.Perm.trans ?_ hperm
    rw [List.append_assoc]
    exact List.Perm.append_left _ (by simpa using (hp.map (·.1)).symm)
  · rw [flats_snoc, List.length_append]; exact hrow3
  · refine (hbel.trans (hu1.below (by omega))).trans (grown_below' g2 (fun g hg => ?_) ?_)
    · exact (row_typed hrow1 g hg).1
    · have := hit1.lt; omega
  · have := hp.length_eq; simp at this; omega

theorem mem_mput_keys (M : List (List Int × Int)) (x : List Int) (v : Int) (y : List Int) : y ∈ (mput M x v).map (·.1) ↔ y = x ∨ y ∈ M.map (·.1) := by
  rw [mput_keys]
  split
  · rename_i h
    exact ⟨.inr, fun h' => h'.elim (fun e => e ▸ h) id⟩
  · simp only [List.mem_append, List.mem_singleton]; exact ⟨fun h => h.symm, fun h => h.symm⟩
theorem mem_mput {M : List (List Int × Int)} {x : List Int} {v : Int} {p : List Int × Int} (h : p ∈ mput M x v) : p ∈ M ∨ p = (x, v) := by
  unfold mput at h
  split at h
  · obtain ⟨q, hq, e⟩ := List.mem_map.1 h
    split at e
    · exact .inr e.symm
    · exact .inl (e ▸ hq)
  · rcases List.mem_append.1 h with h | h
    · exact .inl h
    · exact .inr (by simpa using h)
theorem mget_mem {M : List (List Int × Int)} {x : List Int} (h : x ∈ M.map (·.1)) (hn : (M.map (·.1)).Nodup) : (x, (mget M x).getD 0) ∈ M := by
  obtain ⟨p, hp, rfl⟩ := List.mem_map.1 h
  rw [mget_of_mem hn hp]
  exact hp
theorem length_mput (M : List (List Int × Int)) (x : List Int) (v : Int) : (mput M x v).length = if x ∈ M.map (·.1) then M.length else M.length + 1 := by
  unfold mput; split <;> simp
theorem shDTo_le (s : List Int) (e : Nat) : ∀ j, (shDTo s e j).length ≤ j
  | 0 => by simp [shDTo]
  | j + 1 => by
    unfold shDTo
    have := shDTo_le s e j
    split
    · simp; omega
    · omega
theorem shDFrom_le (s : List Int) : ∀ n e, (shDFrom s e n).length ≤ 6
  | 0, _ => by simp [shDFrom]
  | n + 1, e => by
    unfold shDFrom
    split
    · exact shDFrom_le s n (e + 1)
    · exact shDTo_le s e 6
theorem shD_le (s : List Int) : (shD s).length ≤ 6 := shDFrom_le s _ _

section
variable {L : List (List Int × Int)} {N k : Nat} {s : List Int} {qs qr : List (List Int)} {M : List (List Int × Int)}
theorem DE3.start (hp : qs.Perm (L.map (·.1))) : DE3 L (7 * 1048576 + L.length) (7 * 1048576 + L.length) qs [] := by
  have := hp.length_eq
  simp only [List.length_map] at this
  refine ⟨by simp; omega, Nat.le_refl _, by simp, fun s hs => ?_, fun p hp' => .inl (hp.symm.subset (List.mem_map.2 ⟨p, hp', rfl⟩)), by simp⟩
  rcases hs with hs | hs
  · obtain ⟨p, hp', e⟩ := List.mem_map.1 (hp.subset hs)
    exact ⟨p, hp', e ▸ DStar.refl _⟩
  · simp at hs
theorem DE3.pos (h : DE3 L N k (s :: qr) M) : 1 ≤ k := by have := h.1; simp at this; omega
theorem DE3.bound (h : DE3 L N k (s :: qr) M) (hn : (M.map (·.1)).Nodup) : 0 ≤ (mget M s).getD 0 ∧ (mget M s).getD 0 ≤ N ∧ (s ∈ M.map (·.1) → 1 ≤ (mget M s).getD 0) := by
  by_cases hs : s ∈ M.map (·.1)
  · have := h.2.2.1 _ (mget_mem hs hn)
    simp only at this
    have hk := h.2.1
    exact ⟨by omega, by omega, fun _ => this.1⟩
  · rw [mget_none hs]
    exact ⟨by simp, by simp, fun h' => absurd h' hs⟩
theorem DE3.old (h : DE3 L N k (s :: qr) M) (hn : (M.map (·.1)).Nodup) (hs : s ∈ M.map (·.1)) : DE3 L N (k - 1) qr (mput M s ((mget M s).getD 0 + 1)) := by
  have hk := h.pos
  have hc := h.2.2.1 _ (mget_mem hs hn)
  obtain ⟨h1, h2, h3, h4, h5, h6⟩ := h
  simp only at hc
  have e1 : ∀ y, y ∈ (mput M s ((mget M s).getD 0 + 1)).map (·.1) ↔ y ∈ M.map (·.1) := fun y => by
    rw [mem_mput_keys]; exact ⟨fun h => h.elim (fun e => e ▸ hs) id, .inr⟩
  refine ⟨by rw [length_mput, if_pos hs]; simp at h1; omega, by omega, fun p hp => ?_, fun x hx => ?_, fun p hp => ?_, fun x hx p hp => ?_⟩
  · rcases mem_mput hp with hp | rfl
    · have := h3 p hp; omega
    · simp only; omega
  · exact h4 x (hx.elim (fun h => .inl (by simp [h])) fun h => .inr ((e1 x).1 h))
  · rcases h5 p hp with h | h
    · rcases List.mem_cons.1 h with h | h
      · exact .inr ((e1 _).2 (by rw [h]; exact hs))
      · exact .inl h
    · exact .inr ((e1 _).2 h)
  · rcases h6 x ((e1 x).1 hx) p hp with h | h
    · rcases List.mem_cons.1 h with h | h
      · exact .inr ((e1 _).2 (by rw [h]; exact hs))
      · exact .inl h
    · exact .inr ((e1 _).2 h)
theorem DE3.new {done : List (Int × List Int)} (h : DE3 L N k (s :: qr) M) (hs : s ∉ M.map (·.1)) (hM : M.length < 1048576) (hd : done.Perm (shD s)) : DE3 L N (k - 1) (qr ++ done.map (·.2)) (mput M s 1) := by
  have hk := h.pos
  obtain ⟨h1, h2, h3, h4, h5, h6⟩ := h
  have hl := hd.length_eq
  have hl6 := shD_le s
  have e1 := mem_mput_keys M s 1
  have hin : ∀ p ∈ shD s, p.2 ∈ qr ++ done.map (·.2) := fun p hp => List.mem_append.2 (.inr (List.mem_map.2 ⟨p, hd.symm.subset hp, rfl⟩))
  refine ⟨by rw [length_mput, if_neg hs]; simp at h1 ⊢; omega, by omega, fun p hp => ?_, fun x hx => ?_, fun p hp => ?_, fun x hx p hp => ?_⟩
  · rcases mem_mput hp with hp | rfl
    · have := h3 p hp; omega
    · simp only; omega
  · rcases hx with hx | hx
    · rcases List.mem_append.1 hx with hx | hx
      · exact h4 x (.inl (by simp [hx]))
      · obtain ⟨p, hp, rfl⟩ := List.mem_map.1 hx
        obtain ⟨q, hq, hst⟩ := h4 s (.inl (by simp))
        exact ⟨q, hq, hst.step (b := p.1) (hd.subset hp)⟩
    · rcases (e1 x).1 hx with rfl | hx
      · exact h4 x (.inl (by simp))
      · exact h4 x (.inr hx)
  · rcases h5 p hp with h | h
    · rcases List.mem_cons.1 h with h | h
      · exact .inr ((e1 _).2 (.inl h))
      · exact .inl (List.mem_append.2 (.inl h))
    · exact .inr ((e1 _).2 (.inr h))
  · rcases (e1 x).1 hx with rfl | hx
    · exact .inl (hin p hp)
    · rcases h6 x hx p hp with h | h
      · rcases List.mem_cons.1 h with h | h
        · exact .inr ((e1 _).2 (.inl h))
        · exact .inl (List.mem_append.2 (.inl h))
      · exact .inr ((e1 _).2 (.inr h))
theorem DStar.mem {y x : List Int} {S : List (List Int)} (h : DStar y x) (hy : y ∈ S) (hS : ∀ s ∈ S, ∀ p ∈ shD s, p.2 ∈ S) : x ∈ S := by
  induction h with
  | refl => exact hy
  | step _ hb ih => exact hS _ ih _ hb
theorem DE3.end_ (h : DE3 L N k [] M) (x : List Int) : x ∈ M.map (·.1) ↔ ∃ p ∈ L, DStar p.1 x := by
  obtain ⟨h1, h2, h3, h4, h5, h6⟩ := h
  refine ⟨fun hx => h4 x (.inr hx), fun ⟨p, hp, hst⟩ => ?_⟩
  have h0 : p.1 ∈ M.map (·.1) := (h5 p hp).resolve_left (by simp)
  exact hst.mem h0 fun s hs q hq => (h6 s hs q hq).resolve_left (by simp)
end

/-- The innermost loop's state: the drains done are queued, rest is still to come. -/
def DE4 (s : List Int) (qr : List (List Int)) (M : List (List Int × Int)) (w : World) (d r : Nat) (k : Nat) (v : Value) (wr : World) : Prop :=
  ∃ (done rest : List (Int × List Int)), rest.length ≤ k ∧ IterOf Try.prog 3 gI fA wr d r (shD s) rest ∧ (done ++ rest).Perm (shD s) ∧
    Row wr w.heap.size 86 73 v (qr ++ done.map (·.2)).length (flats (qr ++ done.map (·.2))) ∧ MapOf Try.prog 86 fA gI wr w.heap.size M ∧ Below w.heap.size w wr
theorem DE4.next {s : List Int} {qr : List (List Int)} {M : List (List Int × Int)} {w wr w1 w2 w3 : World} {d r k : Nat} {v v' : Value} {done rst L' : List (Int × List Int)} {p : Int × List Int} {X Y : Obj} (hk : rst.length ≤ k) (hit : IterOf Try.prog 3 gI fA wr d r (shD s) rst)
    (hperm : (done ++ rst).Perm (shD s)) (hrow : Row wr w.heap.size 86 73 v (qr ++ done.map (·.2)).length (flats (qr ++ done.map (·.2)))) (hmap : MapOf Try.prog 86 fA gI wr w.heap.size M) (hbel : Below w.heap.size w wr) (hr : w.heap.size ≤ r)
    (hp : rst.Perm (p :: L')) (hit1 : IterOf Try.prog 3 gI fA w1 d r (shD s) L') (hu1 : Upd wr w1 r) (hu2 : Upd (w1.alloc X) w2 w1.heap.size) (hrow3 : Row w3 w.heap.size 86 73 v' ((qr ++ done.map (·.2)).length + 1) (flats (qr ++ done.map (·.2)) ++ (ints p.2).toList)) (hg3 : (w2.alloc Y).grownBy w3 v.ownBlock) :
    DE4 s qr M w d r L'.length v' w3 ∧ L'.length < k := by
  have g1 : w1.grownBy (w2.alloc Y) v.ownBlock := (grown_new hu2 (Nat.le_refl _) _).trans (World.grownBy_alloc w2 Y _)
  have g2 := g1.trans hg3
  have hrow1 := row_upd hrow hu1 (fun e => row_not_iter hrow hit e.symm)
  have hne := map_not_iter hit hmap
  have hmap1 := map_grown hmap (upd_grown hu1) (by simpa using hne)
  refine ⟨⟨done ++ [p], L', Nat.le_refl _, iter_grown hit1 g2 (row_not_map hrow1 hit1.map) (row_not_iter hrow1 hit1), ?_, ?_, map_grown hmap1 g2 (row_not_map hrow1 hmap1), ?_⟩, ?_⟩
  · refine List.Perm.trans ?_ hperm
    rw [List.append_assoc]
    exact List.Perm.append_left _ (by simpa using hp.symm)
  · have e : qr ++ (done ++ [p]).map (·.2) = (qr ++ done.map (·.2)) ++ [p.2] := by simp
    rw [e, flats_snoc, List.length_append]; exact hrow3
  · refine (hbel.trans (hu1.below hr)).trans (grown_below' g2 (fun g hg => ?_) ?_)
    · exact (row_typed hrow1 g hg).1
    · have := hbel.size; have := hu1.size; omega
  · have := hp.length_eq; simp at this; omega

theorem DE2.add {U : List (List Int)} {M : List (List Int × Int)} {s : List Int} {v : Int} (hs : s ∈ U) (hM : ∀ p ∈ M, p.1 ∈ U) : ∀ p ∈ mput M s v, p.1 ∈ U := fun p hp => by
  rcases mem_mput hp with h | rfl
  · exact hM p h
  · exact hs
theorem DE2.few {U : List (List Int)} (hU : Uni U) {M : List (List Int × Int)} {s : List Int} (hs : s ∈ U) (hM : ∀ p ∈ M, p.1 ∈ U) (hn : (M.map (·.1)).Nodup) (hx : s ∉ M.map (·.1)) : M.length < 1048576 := by
  have h := nodup_le (l := s :: M.map (·.1)) (U := U) (List.nodup_cons.2 ⟨hx, hn⟩) fun x hx => by
    rcases List.mem_cons.1 hx with rfl | hx
    · exact hs
    · obtain ⟨p, hp, rfl⟩ := List.mem_map.1 hx; exact hM p hp
  have := hU.small
  simp at h
  omega
theorem DE3.queued {L : List (List Int × Int)} {N k : Nat} {qs : List (List Int)} {M : List (List Int × Int)} (h : DE3 L N k qs M) : qs.length ≤ N := by have := h.1; have := h.2.1; omega

end Go.Proofs.Ytagekhgfoabgbaa
end

section
/- drained, walked. -/
set_option linter.unusedSimpArgs false
set_option linter.unusedVariables false
namespace Go.Proofs.Ytagekhgfoabgbaa
open Go.RowKit Go.Maps
attribute [local go_sem] ints_lit6

attribute [local go_sem ↓] wp_load86
attribute [local go_sem] loadTo86
set_option maxRecDepth 100000 in
set_option maxHeartbeats 2000000 in
theorem drained_any (U : List (List Int)) (hU : Uni U) (b : Nat) (L : List (List Int × Int)) (w : World) (hM : MapOf Try.prog 86 fA gI w b L) (hL : ∀ p ∈ L, p.1 ∈ U) :
    Calls Try.prog 50 #[.map (some b)] w (DrainedPost L w) := by
  have hmm := run_makeMap0
  have hM1 : MapOf Try.prog 86 fA gI (w.alloc (.map #[] 0)) b L := hM.below (below_alloc0 w _) hM.lt
  obtain ⟨hrg, hit⟩ := hM1.range Try.underlying87
  have hbw := hM.lt
  generalize hM1.choose_spec.choose = c0 at hrg hit
  go_enter Try.func50, Try.ntmps50
  go_wp2_with fail
  clear hmm hrg
  have H0 : DE1 L b w L.length (.slice none 0 0) ((w.alloc (.map #[] 0)).alloc (.mapIter (some b) c0 #[] c0)) :=
    DE1.start (by rw [World.size_alloc] at hit; exact hit) ((MapOf.made _ _ _ _ w).below (below_alloc0 _ _) (by simp)) ((below_alloc0 w _).alloc (by simp) _)
  go_loopg [4] L.length (fun k v wr => DE1 L b w k v wr)
  case atStart => exact H0
  case round =>
    clear H0 hit
    obtain ⟨qs, rst, hk, hit, hperm, hrow, hmap, hbel⟩ := hrel
    rcases hit.next 0 with ⟨hnil, hrun⟩ | ⟨p, L', w1, hp, hrun, hit1, hu1, hen⟩
    · have hnx : ∀ ty, (Instr.next (.pointer (some ⟨w.heap.size + 1, 0, none⟩)) false ty).run Try.prog wr = .ok (.tuple #[.bool false]) wr := fun ty => hrun
      clear hrun
      go_wp2_with fail
      subst hnil
      simp only [List.map_nil, List.append_nil] at hperm
      have H2 : ∃ qs M, DE2 U w qs M u4 wr ∧ DE3 L (7 * 1048576 + L.length) (7 * 1048576 + L.length) qs M := ⟨qs, [], ⟨hrow, hmap, hbel, fun s hs => by
        obtain ⟨p, hp, e⟩ := List.mem_map.1 (hperm.subset hs)
        rw [← e]; exact hL p hp, by simp⟩, DE3.start hperm⟩
      clear hnx hit hperm hrow hmap hbel
      obtain ⟨wo, rfl⟩ : ∃ wo : World, wo = wr := ⟨_, rfl⟩
      go_loopg [4] (7 * 1048576 + L.length) (fun k v wr => ∃ qs M, DE2 U w qs M v wr ∧ DE3 L (7 * 1048576 + L.length) k qs M)
      case atStart => exact H2
      case round =>
        clear H2
        obtain ⟨qs, M, ⟨hrow, hmap, hbel, hqU, hMU⟩, h3⟩ := hrel
        cases qs with
        | nil =>
          have hP : DrainedPost L w (.returned (.map (some w.heap.size))) wr := ⟨w.heap.size, M, rfl, Nat.le_refl _, hmap, h3.end_, hbel⟩
          have HP := Lib.hid hP
          obtain ⟨A, c, hv, hnc⟩ := row_slice hrow
          subst hv
          clear hP hrow hmap hbel h3 hqU hMU
          go_wp2_with fail
          go_ret
          exact HP.out
        | cons s qr =>
          obtain ⟨gq, oq, c, hv, hnc, hgb, hglt, hcells⟩ := row_cells hrow (by simp)
          subst hv
          have hsU := hqU s (by simp)
          have hp := hU.len s hsU
          have hcs : ∀ j u, (ints s).toList[j]? = some u → wr.cell? ⟨gq, oq + j, none⟩ = some u := fun j u hu => hcells j u (by
            rw [flats_cons, List.getElem?_append_left (List.getElem?_eq_some_iff.1 hu).1]; exact hu)
          have htail : ∃ tv, (∀ W, (Instr.sliceAt 111 (.slice (some ⟨gq, oq, none⟩) (s :: qr).length c) (some (.int .i64 1)) none none).run Try.prog W = .ok tv W) ∧ Row wr w.heap.size 86 73 tv qr.length (flats qr) := by
            obtain ⟨i, hi, hsz⟩ : ∃ i, Try.prog.info? 86 = some i ∧ i.size = 73 := by
              have h := info86
              cases hi : Try.prog.info? 86 with
              | none => rw [hi] at h; cases h
              | some i => rw [hi] at h; simp at h; exact ⟨i, rfl, h.2.1⟩
            have h1 := row_drop (k := 1) hrow (by simp)
            rw [flats_cons, List.drop_left' (by simp [ints_toList, hp])] at h1
            refine ⟨_, fun W => run_tail W _ _ _ _ _ Try.underlying111 hi (by simp), ?_⟩
            rw [hsz]
            simpa using h1
          obtain ⟨tv, htl, hrowt⟩ := htail
          have HP := Lib.hid hp
          have HCS := Lib.hid hcs
          clear hcells hcs hp
          have hz0 : (0 : Int) < ((s :: qr).length : Int) := by rw [List.length_cons]; omega
          generalize (s :: qr).length = nq at htl hz0 hnc hrow ⊢
          go_wp2_with (first
            | (refine load_cells rfl 86 _ rfl gq oq rfl HCS.out Try.underlying86 rfl i86 HP.out ?_)
            | (refine store_blk rfl 86 _ _ rfl wr.heap.size s rfl rfl (t := 86) (xs := List.replicate 73 0) (by rw [zero86]; exact blk_at _ _ _ _ rfl) i86 (by simp) HP.out ?_; intro w2 hb2 hu2))
          clear hnc htl hz0 hrow
          have g2 : wr.grownBy w2 none := grown_new hu2 (Nat.le_refl _) none
          have hmap0 : MapOf Try.prog 86 fA gI w2.drew w.heap.size M := (map_grown hmap g2 (by simp)).same rfl
          obtain ⟨cn, hcn⟩ : ∃ cn, cn = (mget M s).getD 0 := ⟨_, rfl⟩
          have hz3 : ∀ W, (zeroValue 3).run Try.prog W = .ok (gI 0) W := fun W => by kernel_rfl
          have hk := hU.key hsU
          have hlk0 : (Instr.lookup 87 (.map (some w.heap.size)) (.agg (ints s)) false).run Try.prog w2.drew = .ok (.int .i64 cn) w2.drew := by
            rw [hcn]; exact hmap0.lookup law86 agg_inj Try.underlying87 (hz3 _) hk
          obtain ⟨v0, st, w5, hen0, hst, hu5⟩ := hmap0.entry law86 agg_inj Try.underlying87 (hz3 _) hk
          have hen : (Instr.mapEntry 87 (.map (some w.heap.size)) (.agg (ints s))).run Try.prog w2.drew = .ok (.tuple #[v0, .int .i64 st]) w5 := hen0
          have hlk5 : (Instr.lookup 87 (.map (some w.heap.size)) (.agg (ints s)) false).run Try.prog w5 = .ok (.int .i64 cn) w5 := by
            rw [hcn, ← mget_ment M s 0 hmap.nodup]; exact hst.map.lookup law86 agg_inj Try.underlying87 (hz3 _) hk
          obtain ⟨w6, hes0, hm6, hu6⟩ := hst.store (t := 87) (cn + 1)
          have hes : (Instr.entryStore 87 (.map (some w.heap.size)) (.int .i64 st) (.int .i64 (cn + 1))).run Try.prog w5 = .ok () w6 := hes0
          have hne : wr.heap.size ≠ w.heap.size := by have := hmap.lt; omega
          have hbw5 : Blk w5 wr.heap.size s 86 := by unfold Blk; rw [hu5.block _ hne]; exact hb2
          have i2 : IsBlk w2.drew wr.heap.size 73 86 := ⟨s, hb2, HP.out⟩
          have i5 : IsBlk w5 wr.heap.size 73 86 := ⟨s, hbw5, HP.out⟩
          have e2 : blkOf w2.drew wr.heap.size = s := blkOf_eq (t := 86) (show Blk w2.drew wr.heap.size s 86 from hb2)
          have e5 : blkOf w5 wr.heap.size = s := blkOf_eq hbw5
          have hcb := h3.bound hmap.nodup
          rw [← hcn] at hcb
          have hLU : L.length ≤ 1048576 := by
            obtain ⟨es, c, h⟩ := hM
            have := nodup_le h.apart (U := U) fun x hx => by obtain ⟨q, hq, e⟩ := List.mem_map.1 hx; rw [← e]; exact hL q hq
            have := hU.small
            simp at *
            omega
          have hwr : IntKind.i64.wrap (cn + 1) = cn + 1 := IntWalk.i64_in _ (by omega)
          rw [mput_ment] at hm6
          have HCN := Lib.hid hcn
          have HM6 := Lib.hid hm6
          clear hcn hm6 hmap0 hst hen0 hes0 hz3
          go_region
          clear hlk0 hlk5 hen hes i2 i5 e2 e5 hwr
          have hm6 := HM6.out
          have hlk6 : (Instr.lookup 87 (.map (some w.heap.size)) (.agg (ints s)) false).run Try.prog w6 = .ok (.int .i64 (cn + 1)) w6 := by
            have := hm6.lookup law86 agg_inj Try.underlying87 (z := 0) (by kernel_rfl) hk
            rw [mget_mput_same _ _ _ hmap.nodup] at this
            exact this
          have hb6 : Blk w6 wr.heap.size s 86 := by unfold Blk; rw [hu6.block _ hne]; exact hbw5
          have i6 : IsBlk w6 wr.heap.size 73 86 := ⟨s, hb6, HP.out⟩
          have e6 : blkOf w6 wr.heap.size = s := blkOf_eq hb6
          have HB6 := Lib.hid hb6
          have G6 : wr.grownBy w6 (some w.heap.size) := (grown_none g2 _).trans (World.grownBy.trans (b := w5) ⟨hu5.os, hu5.tape, hu5.output, Nat.le_of_eq hu5.size.symm, fun i _ hi => hu5.block i fun e => hi (by rw [e])⟩ (upd_grown hu6))
          have hrow6 := row_grown hrowt G6 (.inr fun e => row_not_map hrowt hmap e.symm)
          clear hm6 hb6 hbw5 hb2
          by_cases hnew : s ∈ M.map (·.1)
          · have hgt : (1 : Int) < cn + 1 := by have := hcb.2.2 hnew; omega
            have HN : ∃ qs M', DE2 U w qs M' tv w6 ∧ DE3 L (7 * 1048576 + L.length) (gk - 1) qs M' :=
              ⟨qr, _, ⟨hrow6, HM6.out, hbel.trans (grown_below G6 (Nat.le_refl _) hbel.size), fun x hx => hqU x (by simp [hx]), DE2.add hsU hMU⟩, HCN.out ▸ h3.old hmap.nodup hnew⟩
            have hk1 := h3.pos
            have HN := Lib.hid HN
            go_wp2_with fail
            go_roundg (gk - 1)
            case measure => omega
            case rel => exact HN.out
          · have hcn0 : cn = 0 := by rw [HCN.out, mget_none hnew]; rfl
            subst hcn0
            have hfew := DE2.few hU hsU hMU hmap.nodup hnew
            have hqd := h3.queued
            simp only [List.length_cons] at hqd
            obtain ⟨m, hm6c, hm11⟩ := hU.at6 hsU
            have HM6C := Lib.hid hm6c
            clear hm6c
            go_wp2_with fail
            refine (drains_any s m w6 HM6C.out hm11 HP.out).mono ?_
            rintro e w7 ⟨d, rfl, hdlt, hmd, hb7⟩
            obtain ⟨hrg, hit⟩ := hmd.range Try.underlying91
            generalize hmd.choose_spec.choose = c7 at hrg hit
            have hm7 : MapOf Try.prog 86 fA gI w7 w.heap.size (mput M s 1) := (show MapOf Try.prog 86 fA gI w6 w.heap.size (mput M s 1) from HM6.out).below hb7 HM6.out.lt
            have hs67 := hb7.size
            have hsw6 := HM6.out.lt
            have H4 : DE4 s qr (mput M s 1) w d w7.heap.size (shD s).length tv (w7.alloc (.mapIter (some d) c7 #[] c7)) :=
              ⟨[], shD s, Nat.le_refl _, hit, by simp, by simpa using row_below (row_below hrow6 hb7) (below_alloc0 w7 _), hm7.below (below_alloc0 w7 _) hm7.lt,
                ((hbel.trans (grown_below G6 (Nat.le_refl _) hbel.size)).trans (hb7.mono (by omega))).alloc (by omega) _⟩
            obtain ⟨wo2, hwo2⟩ : ∃ wo2 : World, wo2 = w7.alloc (.mapIter (some d) c7 #[] c7) := ⟨_, rfl⟩
            rw [← hwo2] at H4 hrg
            clear hwo2
            have H4 := Lib.hid H4
            have HNE := Lib.hid (show 1 = 1 ∧ w.heap.size ≤ w7.heap.size ∧ DE3 L (7 * 1048576 + L.length) gk (s :: qr) M ∧ (M.map (·.1)).Nodup ∧ (∀ x ∈ qr, x ∈ U) from ⟨rfl, by omega, h3, hmap.nodup, fun x hx => hqU x (by simp [hx])⟩)
            clear hit hmd hm7 hb7 hs67 hsw6 hrow6 hrowt h3 hmap hbel hqU HM6 HB6 G6 i6 e6 hlk6 hu6 hu5 g2 hu2 hgb hglt HCS HCN hcb
            obtain ⟨ko, rfl⟩ : ∃ ko : Nat, ko = gk := ⟨_, rfl⟩
            go_wp2_with fail
            go_loopg [4] (shD s).length (fun k v wr => DE4 s qr (mput M s 1) w d w7.heap.size k v wr)
            case atStart => exact H4.out
            case round =>
              clear H4 hrg
              obtain ⟨done, rst, hk2, hit, hperm, hrow, hmap, hbel⟩ := hrel
              rcases hit.next 0 with ⟨hnil, hrun⟩ | ⟨p, L', w1, hp, hrun, hit1, hu1, hen⟩
              · have hnx : ∀ ty, (Instr.next (.pointer (some ⟨w7.heap.size, 0, none⟩)) false ty).run Try.prog wr = .ok (.tuple #[.bool false]) wr := fun ty => hrun
                clear hrun
                subst hnil
                rw [List.append_nil] at hperm
                obtain ⟨hu71, hu72, hg3, hgU⟩ := HNE.out.2
                have HN : ∃ qs M', DE2 U w qs M' u4 wr ∧ DE3 L (7 * 1048576 + L.length) (ko - 1) qs M' :=
                  ⟨_, _, ⟨hrow, hmap, hbel, fun x hx => by
                    rcases List.mem_append.1 hx with hx | hx
                    · exact hgU x hx
                    · obtain ⟨p, hp, rfl⟩ := List.mem_map.1 hx
                      exact hU.closed s hsU p (hperm.subset hp), DE2.add hsU hMU⟩, hu72.new hnew hfew hperm⟩
                have hk1 := hu72.pos
                have HN := Lib.hid HN
                clear hrow hmap hbel hit hu72 hu71 hg3 hgU HNE
                go_wp2_with fail
                go_roundg (ko - 1)
                case measure => omega
                case rel => exact HN.out
              · have hnx : ∀ ty, (Instr.next (.pointer (some ⟨w7.heap.size, 0, none⟩)) false ty).run Try.prog wr = .ok (.tuple #[.bool true, .int .i64 p.1, .agg (ints p.2)]) w1 := fun ty => hrun
                clear hrun
                have hpU : p.2.length = 73 := hU.len _ (hU.closed s hsU p (hperm.subset (List.mem_append.2 (.inr (hp.symm.subset (by simp))))))
                obtain ⟨x, hx⟩ : ∃ x, x = p.2 := ⟨_, rfl⟩
                rw [← hx] at hnx hen hpU
                have HX := Lib.hid hx
                have HPU := Lib.hid hpU
                have hlen : (qr ++ done.map (·.2)).length + 1 ≤ 16 * 1048576 := by
                  have h1 := hperm.length_eq
                  have h2 := shD_le s
                  have h3 := nodup_le hM.nodup (U := U) fun x hx => by obtain ⟨q, hq, e⟩ := List.mem_map.1 hx; rw [← e]; exact hL q hq
                  have h4 := hU.small
                  simp at h1 h3 ⊢
                  omega
                have HK := Lib.hid hlen
                have hrow1 := row_upd hrow hu1 (fun e => row_not_iter hrow hit e.symm)
                have hsz1 := hu1.size
                have hlt1 : w.heap.size < w1.heap.size := by have := hit1.lt; have := HNE.out.2.1; omega
                have hen' : (Instr.entry (.pointer (some ⟨w7.heap.size, 0, none⟩))).run Try.prog w1 = .ok (.tuple #[.int .i64 p.1, .agg (ints x)]) w1 := hen
                have HSZ := Lib.hid hsz1
                clear hx hpU hlen hen hsz1
                go_wp2_with (first
                  | (refine store_blk rfl 86 _ _ rfl w1.heap.size x rfl rfl (t := 86) (xs := List.replicate 73 0) (by rw [zero86]; exact blk_at _ _ _ _ rfl) i86 (by simp) HPU.out ?_; intro w2 hb2 hu2)
                  | (refine load_blk rfl 86 _ rfl w1.heap.size rfl hb2 Try.underlying86 rfl i86 HPU.out ?_)
                  | (refine build_one rfl 111 86 _ rfl (ints x) rfl Try.underlying111 info86 (by rw [ints_size]; exact HPU.out) (by decide) (by decide) ?_)
                  | (at_builtin; go_must (refine row_append_op w.heap.size rfl _ _ 111 86 _ 73 584 rfl Try.underlying111 info86 (by kernel_rfl) (by decide) (row_below (row_grown hrow1 (grown_new hu2 (Nat.le_refl _) none) (own_none _)) (below_alloc0 _ _)) rfl _ (ints x) 86 rfl (heap_alloc_new _ _) (by rw [ints_size]; exact HPU.out) (ints_one x) (by have := HK.out; omega) (by unfold maxLen; have := HK.out; omega) (by rw [World.size_alloc, hu2.size]; have := hlt1; simp; omega) ?_); intro v' w3 hrow3 hg3 hat3))
                have hNX := DE4.next hk2 hit hperm hrow hmap hbel HNE.out.2.1 hp hit1 hu1 hu2 (by rw [← HX.out]; exact hrow3) hg3
                have HNX := Lib.hid hNX
                clear hNX
                go_roundg L'.length
                case measure => exact HNX.out.2
                case rel => exact HNX.out.1
    · have hnx : ∀ ty, (Instr.next (.pointer (some ⟨w.heap.size + 1, 0, none⟩)) false ty).run Try.prog wr = .ok (.tuple #[.bool true, .agg (ints p.1), .int .i64 p.2]) w1 := fun ty => hrun
      clear hrun
      have hpU : p.1.length = 73 := hU.len _ (by
        have h1 : p.1 ∈ L.map (·.1) := hperm.subset (List.mem_append.2 (.inr (List.mem_map.2 ⟨p, hp.symm.subset (by simp), rfl⟩)))
        obtain ⟨q, hq, e⟩ := List.mem_map.1 h1
        rw [← e]; exact hL q hq)
      obtain ⟨s, hs⟩ : ∃ s, s = p.1 := ⟨_, rfl⟩
      rw [← hs] at hnx hen hpU
      have HS := Lib.hid hs
      have HP := Lib.hid hpU
      have hlen := DE1.many hU hL hit hperm hp
      have HK := Lib.hid hlen
      have hrow1 := row_upd hrow hu1 (fun e => row_not_iter hrow hit e.symm)
      have hsz1 := hu1.size
      have hlt1 : w.heap.size + 1 < w1.heap.size := by have := hit1.lt; omega
      have hen' : (Instr.entry (.pointer (some ⟨w.heap.size + 1, 0, none⟩))).run Try.prog w1 = .ok (.tuple #[.agg (ints s), .int .i64 p.2]) w1 := hen
      have HSZ := Lib.hid hsz1
      clear hs hpU hlen hen hsz1
      go_wp2_with (first
        | (refine store_blk rfl 86 _ _ rfl w1.heap.size s rfl rfl (t := 86) (xs := List.replicate 73 0) (by rw [zero86]; exact blk_at _ _ _ _ rfl) i86 (by simp) HP.out ?_; intro w2 hb2 hu2)
        | (refine load_blk rfl 86 _ rfl w1.heap.size rfl hb2 Try.underlying86 rfl i86 HP.out ?_)
        | (refine build_one rfl 111 86 _ rfl (ints s) rfl Try.underlying111 info86 (by rw [ints_size]; exact HP.out) (by decide) (by decide) ?_)
        | (at_builtin; go_must (refine row_append_op w.heap.size rfl _ _ 111 86 _ 73 584 rfl Try.underlying111 info86 (by kernel_rfl) (by decide) (row_below (row_grown hrow1 (grown_new hu2 (Nat.le_refl _) none) (own_none _)) (below_alloc0 _ _)) rfl _ (ints s) 86 rfl (heap_alloc_new _ _) (by rw [ints_size]; exact HP.out) (ints_one s) (by have := HK.out; omega) (by unfold maxLen; have := HK.out; omega) (by rw [World.size_alloc, hu2.size]; have := hlt1; simp; omega) ?_); intro v' w3 hrow3 hg3 hat3))
      have hNX := DE1.next hk hit hperm hrow hmap hbel hp hit1 hu1 hu2 (by rw [← HS.out]; exact hrow3) hg3
      have HNX := Lib.hid hNX
      clear hNX
      go_roundg L'.length
      case measure => exact HNX.out.2
      case rel => exact HNX.out.1

end Go.Proofs.Ytagekhgfoabgbaa
end

section
/- The shelves that some orders can lead to are few: plain lists, no program. -/
set_option linter.unusedSimpArgs false
set_option linter.unusedVariables false
namespace Go.Proofs.Ytagekhgfoabgbaa

/-- All lists with an element of each. -/
def prodL : List (List Int) → List (List Int)
  | [] => [[]]
  | c :: r => c.flatMap fun x => (prodL r).map (x :: ·)
def sizeL (ch : List (List Int)) : Nat := ch.foldr (fun c n => c.length * n) 1
theorem length_prodL : ∀ ch : List (List Int), (prodL ch).length = sizeL ch
  | [] => rfl
  | c :: r => by
    have ih := length_prodL r
    simp only [prodL, sizeL, List.foldr_cons, List.length_flatMap, List.length_map, List.map_const', List.sum_replicate_nat, ih]
theorem mem_prodL : ∀ (ch : List (List Int)) (s : List Int), s ∈ prodL ch ↔ s.length = ch.length ∧ ∀ i, i < ch.length → s.getD i 0 ∈ ch.getD i []
  | [], s => by simp [prodL]
  | c :: r, s => by
    have ih := mem_prodL r
    simp only [prodL, List.mem_flatMap, List.mem_map]
    constructor
    · rintro ⟨x, hx, t, ht, rfl⟩
      obtain ⟨h1, h2⟩ := (ih t).1 ht
      refine ⟨by simp [h1], fun i hi => ?_⟩
      cases i with
      | zero => simpa using hx
      | succ i => simpa using h2 i (by simpa using hi)
    · rintro ⟨h1, h2⟩
      cases s with
      | nil => simp at h1
      | cons x t =>
        refine ⟨x, by simpa using h2 0 (by simp), t, (ih t).2 ⟨by simpa using h1, fun i hi => ?_⟩, rfl⟩
        simpa using h2 (i + 1) (by simpa using hi)
theorem sizeL_set (k : Nat) (c : List Int) : ∀ (ch : List (List Int)) (i : Nat), c.length ≤ k * (ch.getD i []).length → 1 ≤ k → sizeL (ch.set i c) ≤ k * sizeL ch
  | [], i, _, hk => by simp [sizeL]; omega
  | d :: r, 0, h, hk => by
    simp only [List.set_cons_zero, sizeL, List.foldr_cons]
    have h1 : c.length ≤ k * d.length := by simpa using h
    calc c.length * _ ≤ (k * d.length) * _ := Nat.mul_le_mul_right _ h1
      _ = _ := Nat.mul_assoc _ _ _
  | d :: r, i + 1, h, hk => by
    have ih := sizeL_set k c r i (by simpa using h) hk
    simp only [List.set_cons_succ, sizeL, List.foldr_cons] at ih ⊢
    calc d.length * _ ≤ d.length * (k * _) := Nat.mul_le_mul_left _ ih
      _ = _ := Nat.mul_left_comm _ _ _

theorem shDTo_mem {s : List Int} {e : Nat} {p : Int × List Int} : ∀ {j}, p ∈ shDTo s e j → ∃ b, b < j ∧ p = ((b : Int), shW s e b) ∧ (shRow s e).getD b 0 ≠ -3
  | 0, h => by simp [shDTo] at h
  | j + 1, h => by
    unfold shDTo at h
    split at h
    · rename_i hc
      rcases List.mem_append.1 h with h | h
      · obtain ⟨b, hb, e⟩ := shDTo_mem h; exact ⟨b, by omega, e⟩
      · refine ⟨j, by omega, by simpa using h, by simpa using hc⟩
    · obtain ⟨b, hb, e⟩ := shDTo_mem h; exact ⟨b, by omega, e⟩
theorem shDFrom_mem {s : List Int} {p : Int × List Int} : ∀ {n e}, p ∈ shDFrom s e n → ∃ e' b : Nat, e ≤ e' ∧ e' < e + n ∧ b < 6 ∧ p = ((b : Int), shW s e' b) ∧ (shRow s e').getD b 0 ≠ -3
  | 0, _, h => by simp [shDFrom] at h
  | n + 1, e, h => by
    unfold shDFrom at h
    split at h
    · obtain ⟨e', b, h1, h2, h3⟩ := shDFrom_mem h; exact ⟨e', b, by omega, by omega, h3⟩
    · obtain ⟨b, hb, h1⟩ := shDTo_mem h; exact ⟨e, b, by omega, by omega, hb, h1⟩
theorem shRow_getD (s : List Int) (e b : Nat) (hb : b < 6) : (shRow s e).getD b 0 = s.getD (7 + e * 6 + b) 0 := by
  unfold shRow
  match b, hb with
  | 0, _ => rfl
  | 1, _ => rfl
  | 2, _ => rfl
  | 3, _ => rfl
  | 4, _ => rfl
  | 5, _ => rfl
theorem shD_mem {s : List Int} {p : Int × List Int} (h : p ∈ shD s) : ∃ e b : Nat, e < (s.getD 6 0).toNat ∧ b < 6 ∧ p = ((b : Int), shW s e b) ∧ s.getD (7 + e * 6 + b) 0 ≠ -3 := by
  obtain ⟨e, b, _, h2, h3, h4, h5⟩ := shDFrom_mem h
  exact ⟨e, b, by omega, h3, h4, by rwa [shRow_getD _ _ _ h3] at h5⟩

/-- Choices for the cells of a shelf: B blocks are in use. -/
structure ChInv (B : Nat) (ch : List (List Int)) (m : Nat) : Prop where
  len : ch.length = 73
  many : ch.getD 6 [] = [(m : Int)]
  pos : 1 ≤ m
  gone : ∀ e b, e < m → b < 6 → (-3) ∈ ch.getD (7 + e * 6 + b) [] ∧ ∀ x ∈ ch.getD (7 + e * 6 + b) [], x ≠ -3 → b < B ∧ x ∈ ch.getD b []
  one : ∀ i, i < 73 → ch.getD i [] ≠ []
  mild : ∀ i, i < 73 → ∀ x ∈ ch.getD i [], -1000000 ≤ x ∧ x ≤ 1000000

theorem getDL_set_ne {ch : List (List Int)} {i j : Nat} (c : List Int) (h : i ≠ j) : (ch.set i c).getD j [] = ch.getD j [] := by simp [List.getD_eq_getElem?_getD, h]
theorem getDL_set_eq {ch : List (List Int)} {i : Nat} (c : List Int) (h : i < ch.length) : (ch.set i c).getD i [] = c := by simp [List.getD_eq_getElem?_getD, h]

theorem mem_at {ch : List (List Int)} {s : List Int} (h : s ∈ prodL ch) (hl : ch.length = 73) : s.length = 73 ∧ ∀ i, i < 73 → s.getD i 0 ∈ ch.getD i [] := by
  have := (mem_prodL ch s).1 h
  rwa [hl] at this
theorem of_at {ch : List (List Int)} {s : List Int} (hl : ch.length = 73) (h : s.length = 73 ∧ ∀ i, i < 73 → s.getD i 0 ∈ ch.getD i []) : s ∈ prodL ch := by
  refine (mem_prodL ch s).2 ?_
  rwa [hl]
theorem ChInv.six {B : Nat} {ch : List (List Int)} {m : Nat} (h : ChInv B ch m) {s : List Int} (hs : s ∈ prodL ch) : s.getD 6 0 = m := by
  have := (mem_at hs h.len).2 6 (by omega)
  rw [h.many] at this
  simpa using this
/-- A write stays among the choices. -/
theorem ChInv.write {B : Nat} {ch : List (List Int)} {m : Nat} (h : ChInv B ch m) {s : List Int} (hs : s ∈ prodL ch) (hm : m ≤ 11) {e b : Nat} (he : e < m) (hb : b < 6) : shW s e b ∈ prodL ch := by
  unfold shW
  split
  · rename_i hc
    obtain ⟨h1, h2⟩ := mem_at hs h.len
    have hc' : s.getD (7 + e * 6 + b) 0 ≠ -3 := by simpa using hc
    have h3 := h.gone e b he hb
    have h4 := (h3.2 _ (h2 _ (by omega)) hc').2
    refine of_at h.len ⟨by simp [h1], fun i hi => ?_⟩
    by_cases h5 : i = 7 + e * 6 + b
    · subst h5
      rw [getD_set_eq _ _ (by simp [h1]; omega)]
      exact h3.1
    · rw [getD_set_ne _ _ (Ne.symm h5)]
      by_cases h6 : i = b
      · subst h6; rw [getD_set_eq _ _ (by omega)]; exact h4
      · rw [getD_set_ne _ _ (Ne.symm h6)]; exact h2 i hi
  · exact hs
theorem ChInv.writeTo {B : Nat} {ch : List (List Int)} {m : Nat} (h : ChInv B ch m) {s : List Int} (hs : s ∈ prodL ch) (hm : m ≤ 11) {e : Nat} (he : e < m) : ∀ k, k ≤ 6 → shWTo s e k ∈ prodL ch
  | 0, _ => hs
  | k + 1, hk => h.write (h.writeTo hs hm he k (by omega)) hm he (by omega)
theorem ChInv.writeAll {B : Nat} {ch : List (List Int)} {m : Nat} (h : ChInv B ch m) {s : List Int} (hs : s ∈ prodL ch) (hm : m ≤ 11) : ∀ k, k ≤ m → shAllTo s k ∈ prodL ch
  | 0, _ => hs
  | k + 1, hk => h.writeTo (h.writeAll hs hm k (by omega)) hm (by omega) 6 (Nat.le_refl _)
theorem ChInv.drain {B : Nat} {ch : List (List Int)} {m : Nat} (h : ChInv B ch m) {s : List Int} (hs : s ∈ prodL ch) (hm : m ≤ 11) {p : Int × List Int} (hp : p ∈ shD s) : p.2 ∈ prodL ch ∧ ∃ b : Nat, p.1 = b ∧ b < B ∧ b < 6 := by
  obtain ⟨e, b, he, hb, rfl, hn⟩ := shD_mem hp
  rw [h.six hs] at he
  exact ⟨h.write hs hm (by simpa using he) hb, b, rfl, ((h.gone e b (by simpa using he) hb).2 _ ((mem_at hs h.len).2 _ (by omega)) hn).1, hb⟩
theorem ChInv.star {B : Nat} {ch : List (List Int)} {m : Nat} (h : ChInv B ch m) (hm : m ≤ 11) {s x : List Int} (hs : s ∈ prodL ch) (hx : DStar s x) : x ∈ prodL ch :=
  hx.mem hs fun s hs p hp => (h.drain hs hm hp).1
theorem ChInv.uni {B : Nat} {ch : List (List Int)} {m : Nat} (h : ChInv B ch m) (hm : m ≤ 11) (hn : sizeL ch ≤ 1048576) : Uni (prodL ch) where
  len s hs := (mem_at hs h.len).1
  mild s hs x hx := by
    obtain ⟨i, hi, rfl⟩ := List.mem_iff_getElem.1 hx
    obtain ⟨h1, h2⟩ := mem_at hs h.len
    have := h.mild i (by omega) _ (h2 i (by omega))
    rwa [List.getD_eq_getElem?_getD, List.getElem?_eq_getElem hi] at this
  many s hs := ⟨m, h.six hs, hm⟩
  closed s hs p hp := (h.drain hs hm hp).1
  small := by rw [length_prodL]; exact hn

/-- The choices behind an order. -/
def chO (ch : List (List Int)) (m : Nat) (c : Cmd) (n : Int) : List (List Int) :=
  if c.kind = 3 then ((((((ch.set (7 + m * 6) [-3]).set (7 + m * 6 + 1) [-3]).set (7 + m * 6 + 2) [-3]).set (7 + m * 6 + 3) [-3]).set (7 + m * 6 + 4) [-3]).set (7 + m * 6 + 5) [-3]).set 6 [(m : Int) + 1]
  else if c.kind = 4 then ch
  else (ch.set c.block.toNat (n :: ch.getD c.block.toNat [])).set (7 + (m - 1) * 6 + c.block.toNat) [-3, n]
def mO (m : Nat) (c : Cmd) : Nat := if c.kind = 3 then m + 1 else m

theorem chO_size {B : Nat} {ch : List (List Int)} {m : Nat} (h : ChInv B ch m) (hm : m ≤ 10) (c : Cmd) (n : Int) (hb : c.block.toNat < 6) : sizeL (chO ch m c n) ≤ 4 * sizeL ch := by
  have h1 : ∀ (i : Nat) (d : List (List Int)) (x : List Int), x.length = 1 → i < 73 → d.getD i [] ≠ [] → sizeL (d.set i x) ≤ sizeL d := fun i d x hx hi hd => by
    have := sizeL_set 1 x d i (by have := List.length_pos_iff.2 hd; omega) (Nat.le_refl _)
    omega
  unfold chO
  split
  · refine Nat.le_trans ?_ (Nat.le_mul_of_pos_left _ (by omega) : sizeL ch ≤ 4 * sizeL ch)
    have hne : ∀ (i j : Nat) (d : List (List Int)) (x : List Int), i ≠ j → d.getD j [] ≠ [] → (d.set i x).getD j [] ≠ [] := fun i j d x hij hd => by rwa [getDL_set_ne _ hij]
    refine Nat.le_trans (h1 _ _ _ rfl (by omega) ?_) ?_
    · refine hne _ _ _ _ (by omega) (hne _ _ _ _ (by omega) (hne _ _ _ _ (by omega) (hne _ _ _ _ (by omega) (hne _ _ _ _ (by omega) (hne _ _ _ _ (by omega) (h.one _ (by omega)))))))
    refine Nat.le_trans (h1 _ _ _ rfl (by omega) ?_) ?_
    · refine (hne _ _ _ _ (by omega) (hne _ _ _ _ (by omega) (hne _ _ _ _ (by omega) (hne _ _ _ _ (by omega) (hne _ _ _ _ (by omega) (h.one _ (by omega)))))))
    refine Nat.le_trans (h1 _ _ _ rfl (by omega) ?_) ?_
    · refine ((hne _ _ _ _ (by omega) (hne _ _ _ _ (by omega) (hne _ _ _ _ (by omega) (hne _ _ _ _ (by omega) (h.one _ (by omega)))))))
    refine Nat.le_trans (h1 _ _ _ rfl (by omega) ?_) ?_
    · refine (((hne _ _ _ _ (by omega) (hne _ _ _ _ (by omega) (hne _ _ _ _ (by omega) (h.one _ (by omega)))))))
    refine Nat.le_trans (h1 _ _ _ rfl (by omega) ?_) ?_
    · refine ((((hne _ _ _ _ (by omega) (hne _ _ _ _ (by omega) (h.one _ (by omega)))))))
    refine Nat.le_trans (h1 _ _ _ rfl (by omega) ?_) ?_
    · refine (((((hne _ _ _ _ (by omega) (h.one _ (by omega)))))))
    exact h1 _ _ _ rfl (by omega) (h.one _ (by omega))
  · split
    · omega
    · have hp := List.length_pos_iff.2 (h.one c.block.toNat (by omega))
      have a1 := sizeL_set 2 (n :: ch.getD c.block.toNat []) ch c.block.toNat (by simp only [List.length_cons]; omega) (by omega)
      have hq := List.length_pos_iff.2 (h.one (7 + (m - 1) * 6 + c.block.toNat) (by omega))
      have a2 := sizeL_set 2 [-3, n] (ch.set c.block.toNat (n :: ch.getD c.block.toNat [])) (7 + (m - 1) * 6 + c.block.toNat) (by rw [getDL_set_ne _ (by omega)]; simp only [List.length_cons, List.length_nil]; omega) (by omega)
      omega

theorem getDL_six (ch : List (List Int)) (o : Nat) (M : List Int) (hl : ch.length = 73) (ho : 7 ≤ o ∧ o ≤ 67) (j : Nat) : ((((((((ch.set o [-3]).set (o + 1) [-3]).set (o + 2) [-3]).set (o + 3) [-3]).set (o + 4) [-3]).set (o + 5) [-3]).set 6 M).getD j []) =
    if j = 6 then M else if o ≤ j ∧ j < o + 6 then [-3] else ch.getD j [] := by
  by_cases h6 : j = 6
  · rw [if_pos h6, h6, getDL_set_eq _ (by simp only [List.length_set]; omega)]
  rw [if_neg h6, getDL_set_ne _ (Ne.symm h6)]
  by_cases h5 : j = o + 5
  · rw [if_pos (by omega), h5, getDL_set_eq _ (by simp only [List.length_set]; omega)]
  rw [getDL_set_ne _ (Ne.symm h5)]
  by_cases h4 : j = o + 4
  · rw [if_pos (by omega), h4, getDL_set_eq _ (by simp only [List.length_set]; omega)]
  rw [getDL_set_ne _ (Ne.symm h4)]
  by_cases h3 : j = o + 3
  · rw [if_pos (by omega), h3, getDL_set_eq _ (by simp only [List.length_set]; omega)]
  rw [getDL_set_ne _ (Ne.symm h3)]
  by_cases h2 : j = o + 2
  · rw [if_pos (by omega), h2, getDL_set_eq _ (by simp only [List.length_set]; omega)]
  rw [getDL_set_ne _ (Ne.symm h2)]
  by_cases h1 : j = o + 1
  · rw [if_pos (by omega), h1, getDL_set_eq _ (by simp only [List.length_set]; omega)]
  rw [getDL_set_ne _ (Ne.symm h1)]
  by_cases h0 : j = o
  · rw [if_pos (by omega), h0, getDL_set_eq _ (by omega)]
  rw [getDL_set_ne _ (Ne.symm h0), if_neg (by omega)]
theorem ChInv.order {B : Nat} {ch : List (List Int)} {m : Nat} (h : ChInv B ch m) (hm : m ≤ 10) (c : Cmd) (n : Int) (hn : -1000000 ≤ n ∧ n ≤ 1000000) (hb : c.block.toNat < B) (hB : B ≤ 6) : ChInv B (chO ch m c n) (mO m c) := by
  have hl := h.len
  unfold chO mO
  split
  · have hg : ∀ j, ((((((((ch.set (7 + m * 6) [-3]).set (7 + m * 6 + 1) [-3]).set (7 + m * 6 + 2) [-3]).set (7 + m * 6 + 3) [-3]).set (7 + m * 6 + 4) [-3]).set (7 + m * 6 + 5) [-3]).set 6 [(m : Int) + 1]).getD j []) =
      if j = 6 then [(m : Int) + 1] else if 7 + m * 6 ≤ j ∧ j < 7 + m * 6 + 6 then [-3] else ch.getD j [] := fun j => by
      exact getDL_six ch _ _ hl (by omega) j
    refine ⟨by simp [hl], by rw [hg]; simp, by omega, fun e b he hb6 => ?_, fun i hi => ?_, fun i hi x hx => ?_⟩
    · rw [hg, if_neg (by omega), hg b]
      by_cases hem : e = m
      · subst hem
        rw [if_pos (by omega)]
        refine ⟨by simp, fun x hx hx3 => absurd (by simpa using hx) hx3⟩
      · rw [if_neg (by omega)]
        by_cases hb6' : b = 6
        · omega
        · rw [if_neg hb6', if_neg (by omega)]
          exact h.gone e b (by omega) hb6
    · rw [hg]
      split
      · simp
      · split
        · simp
        · exact h.one i hi
    · rw [hg] at hx
      split at hx
      · simp at hx; omega
      · split at hx
        · simp at hx; omega
        · exact h.mild i hi x hx
  · split
    · exact h
    · have hpos := h.pos
      have hg : ∀ j, (((ch.set c.block.toNat (n :: ch.getD c.block.toNat [])).set (7 + (m - 1) * 6 + c.block.toNat) [-3, n]).getD j []) =
        if j = 7 + (m - 1) * 6 + c.block.toNat then [-3, n] else if j = c.block.toNat then n :: ch.getD c.block.toNat [] else ch.getD j [] := fun j => by
        by_cases h1 : j = 7 + (m - 1) * 6 + c.block.toNat
        · rw [if_pos h1, h1, getDL_set_eq _ (by simp [hl]; omega)]
        · rw [if_neg h1, getDL_set_ne _ (Ne.symm h1)]
          by_cases h2 : j = c.block.toNat
          · rw [if_pos h2, h2, getDL_set_eq _ (by omega)]
          · rw [if_neg h2, getDL_set_ne _ (Ne.symm h2)]
      refine ⟨by simp [hl], by rw [hg, if_neg (by omega), if_neg (by omega)]; exact h.many, hpos, fun e b he hb6 => ?_, fun i hi => ?_, fun i hi x hx => ?_⟩
      · rw [hg, hg, if_neg (by omega : ¬ b = 7 + (m - 1) * 6 + c.block.toNat), if_neg (by omega : ¬ 7 + e * 6 + b = c.block.toNat)]
        by_cases h1 : 7 + e * 6 + b = 7 + (m - 1) * 6 + c.block.toNat
        · rw [if_pos h1]
          have : b = c.block.toNat := by omega
          rw [if_pos this]
          refine ⟨by simp, fun x hx hx3 => ⟨by omega, ?_⟩⟩
          simp at hx
          rcases hx with hx | hx
          · exact absurd hx hx3
          · simp [hx]
        · rw [if_neg h1]
          obtain ⟨g1, g2⟩ := h.gone e b he hb6
          refine ⟨g1, fun x hx hx3 => ⟨(g2 x hx hx3).1, ?_⟩⟩
          split
          · rename_i hbe; exact List.mem_cons_of_mem _ (hbe ▸ (g2 x hx hx3).2)
          · exact (g2 x hx hx3).2
      · rw [hg]
        split
        · simp
        · split
          · simp
          · exact h.one i hi
      · rw [hg] at hx
        split at hx
        · simp at hx; rcases hx with rfl | rfl <;> omega
        · split at hx
          · rcases List.mem_cons.1 hx with rfl | hx
            · exact hn
            · exact h.mild _ (by omega) x hx
          · exact h.mild i hi x hx

/-- An order leads from choices to choices. -/
theorem ChInv.mem {B : Nat} {ch : List (List Int)} {m : Nat} (h : ChInv B ch m) (hm : m ≤ 10) (c : Cmd) (n : Int) (hn : -1000000 ≤ n ∧ n ≤ 1000000) (hb : c.block.toNat < B) (hB : B ≤ 6) {s : List Int} (hs : s ∈ prodL ch) : shO s c n ∈ prodL (chO ch m c n) := by
  have hO := h.order hm c n hn hb hB
  have h6 := h.six hs
  have hpos := h.pos
  obtain ⟨h1, h2⟩ := mem_at hs h.len
  unfold shO
  simp only [h6, Int.toNat_natCast]
  by_cases hk3 : c.kind = 3
  · rw [if_pos hk3]
    have hl := hO.len
    unfold chO at hl ⊢
    rw [if_pos hk3] at hl ⊢
    have hc := h.len
    have step : ∀ (s : List Int) (ch : List (List Int)) (i : Nat) (x : Int), (s.length = 73 ∧ ∀ i, i < 73 → s.getD i 0 ∈ ch.getD i []) → ch.length = 73 → i < 73 → ((s.set i x).length = 73 ∧ ∀ j, j < 73 → (s.set i x).getD j 0 ∈ (ch.set i [x]).getD j []) := fun s ch i x hs hc hi => by
      refine ⟨by simp [hs.1], fun j hj => ?_⟩
      by_cases e : i = j
      · subst e; rw [getD_set_eq _ _ (by rw [hs.1]; exact hi), getDL_set_eq _ (by rw [hc]; exact hi)]; simp
      · rw [getD_set_ne _ _ e, getDL_set_ne _ e]; exact hs.2 j hj
    unfold put6
    refine of_at (by simp [hc]) (step _ _ 6 _ (step _ _ _ _ (step _ _ _ _ (step _ _ _ _ (step _ _ _ _ (step _ _ _ _ (step _ _ _ _ ⟨h1, h2⟩ ?_ ?_) ?_ ?_) ?_ ?_) ?_ ?_) ?_ ?_) ?_ ?_) ?_ ?_) <;> first | omega | (simp only [List.length_set]; omega)
  · rw [if_neg hk3]
    by_cases hk4 : c.kind = 4
    · rw [if_pos hk4]
      have e : chO ch m c n = ch := by unfold chO; rw [if_neg hk3, if_pos hk4]
      rw [e]
      exact h.writeAll hs (by omega) m (Nat.le_refl _)
    · rw [if_neg hk4]
      have em : mO m c = m := by unfold mO; rw [if_neg hk3]
      rw [em] at hO
      have hs1 : s.set (7 + (m - 1) * 6 + c.block.toNat) n ∈ prodL (chO ch m c n) := by
        have hl := hO.len
        refine of_at hl ?_
        unfold chO
        rw [if_neg hk3, if_neg hk4]
        refine ⟨by simp [h1], fun j hj => ?_⟩
        by_cases e : 7 + (m - 1) * 6 + c.block.toNat = j
        · subst e; rw [getD_set_eq _ _ (by rw [h1]; omega), getDL_set_eq _ (by simp [h.len]; omega)]; simp
        · rw [getD_set_ne _ _ e, getDL_set_ne _ e]
          by_cases e2 : c.block.toNat = j
          · subst e2; rw [getDL_set_eq _ (by rw [h.len]; omega)]; exact List.mem_cons_of_mem _ (h2 _ hj)
          · rw [getDL_set_ne _ e2]; exact h2 j hj
      split
      · exact hO.write (hO.writeAll hs1 (by omega) (m - 1) (by omega)) (by omega) (by omega) (by omega)
      · exact hs1

/-- The shelf ahead of all orders. -/
def shFirst : List Int := [-1, -1, -1, -1, -1, -1, 1, -3, -3, -3, -3, -3, -3] ++ List.replicate 60 0
def chFirst : List (List Int) := shFirst.map fun x => [x]
theorem shFirst_mem : shFirst ∈ prodL chFirst := by
  have h : ∀ s : List Int, s ∈ prodL (s.map fun x => [x]) := fun s => by
    induction s with
    | nil => simp [prodL]
    | cons x r ih => simp [prodL]; exact ih
  exact h shFirst
theorem sizeL_map1 : ∀ s : List Int, sizeL (s.map fun x => [x]) = 1
  | [] => rfl
  | x :: r => by have := sizeL_map1 r; simp only [sizeL, List.map_cons, List.foldr_cons] at this ⊢; rw [this]; rfl
theorem chFirst_inv (B : Nat) : ChInv B chFirst 1 where
  len := by decide
  many := by decide
  pos := by decide
  gone e b he hb := by
    have : e = 0 := by omega
    subst this
    have h : chFirst.getD (7 + 0 * 6 + b) [] = [-3] := by
      match b, hb with
      | 0, _ => rfl
      | 1, _ => rfl
      | 2, _ => rfl
      | 3, _ => rfl
      | 4, _ => rfl
      | 5, _ => rfl
    rw [h]
    refine ⟨by simp, fun x hx hx3 => absurd (by simpa using hx) hx3⟩
  one i hi := by
    have : ∀ i, i < 73 → chFirst.getD i [] ≠ [] := by decide
    exact this i hi
  mild i hi := by
    have : ∀ i, i < 73 → ∀ x ∈ chFirst.getD i [], -1000000 ≤ x ∧ x ≤ 1000000 := by decide
    exact this i hi

end Go.Proofs.Ytagekhgfoabgbaa
end

section
/- What images computes, and how many: plain lists, no program. -/
set_option linter.unusedSimpArgs false
set_option linter.unusedVariables false
namespace Go.Proofs.Ytagekhgfoabgbaa
open Go.RowKit Go.Maps

structure Hist where
  blocks : Int
  cmds : List Cmd
def noCmd : Cmd := ⟨0, 0, 0, 0, 0⟩
def Hist.cmd (h : Hist) (n : Int) : Cmd := h.cmds.getD n.toNat noCmd

/-- What the medium and the entries can be behind some orders (the last one first). -/
def ShR (h : Hist) : List Int → List Int → Prop
  | [], s => s = shFirst
  | n :: r, s => ∃ s0 s1, ShR h r s0 ∧ DStar s0 s1 ∧ s = shO s1 (h.cmd n) n
/-- What the medium can hold when the power fails behind some orders. -/
def ImgKey (h : Hist) (os : List Int) (c : List Int) : Prop := ∃ s0 s, ShR h os.reverse s0 ∧ DStar s0 s ∧ (c = s.take 6 ∨ ∃ p ∈ shD s, c = (s.take 6).set p.1.toNat (-2))
def ImgSet (h : Hist) (os : List Int) (img : List Int) : Prop := ∃ c, ImgKey h os c ∧ img = c.take h.blocks.toNat

/-- Orders of a history of few blocks. -/
structure OrdOk (h : Hist) (os : List Int) : Prop where
  len : os.length ≤ 9
  blocks : 1 ≤ h.blocks ∧ h.blocks ≤ 6
  each : ∀ n ∈ os, 0 ≤ n ∧ n < h.cmds.length ∧ n ≤ 1000000 ∧ 1 ≤ (h.cmd n).kind ∧ (h.cmd n).kind ≤ 4 ∧ 0 ≤ (h.cmd n).block ∧ (h.cmd n).block < h.blocks

def chR (h : Hist) : List Int → List (List Int) × Nat
  | [] => (chFirst, 1)
  | n :: r => (chO (chR h r).1 (chR h r).2 (h.cmd n) n, mO (chR h r).2 (h.cmd n))

theorem chR_all {h : Hist} (hB : 1 ≤ h.blocks ∧ h.blocks ≤ 6) : ∀ r : List Int, r.length ≤ 9 → (∀ n ∈ r, 0 ≤ n ∧ n < h.cmds.length ∧ n ≤ 1000000 ∧ 1 ≤ (h.cmd n).kind ∧ (h.cmd n).kind ≤ 4 ∧ 0 ≤ (h.cmd n).block ∧ (h.cmd n).block < h.blocks) →
    ChInv h.blocks.toNat (chR h r).1 (chR h r).2 ∧ (chR h r).2 ≤ r.length + 1 ∧ sizeL (chR h r).1 ≤ 4 ^ r.length ∧ (∀ s, ShR h r s → s ∈ prodL (chR h r).1) ∧
    (∀ b, b < 6 → ((chR h r).1.getD b []).length ≤ r.length + 1 ∧ (h.blocks.toNat ≤ b → ((chR h r).1.getD b []).length = 1))
  | [], _, _ => ⟨chFirst_inv _, Nat.le_refl _, by
      rw [show (chR h []).1 = chFirst from rfl, chFirst, sizeL_map1]; exact Nat.le_refl _, fun s hs => by rw [show s = shFirst from hs]; exact shFirst_mem, by
      intro b hb
      have : ∀ b, b < 6 → (chFirst.getD b []).length = 1 := by decide
      exact ⟨Nat.le_of_eq (this b hb), fun _ => this b hb⟩⟩
  | n :: r, hl, hn => by
    simp only [List.length_cons] at hl
    obtain ⟨h1, h2, h3, h4, h5⟩ := chR_all hB r (by omega) fun n hn' => hn n (by simp [hn'])
    obtain ⟨n0, n1, n2, n3, n4, n5, n6⟩ := hn n (by simp)
    have hm : (chR h r).2 ≤ 10 := by omega
    refine ⟨h1.order hm _ _ ⟨by omega, n2⟩ (by omega) (by omega), ?_, ?_, fun s hs => ?_, fun b hb => ?_⟩
    · show mO _ _ ≤ _
      unfold mO
      simp only [List.length_cons]
      split <;> omega
    · have := chO_size h1 hm (h.cmd n) n (by omega)
      show sizeL (chO _ _ _ _) ≤ _
      rw [List.length_cons, Nat.pow_succ]
      omega
    · obtain ⟨s0, s1, g1, g2, rfl⟩ := hs
      exact h1.mem hm _ _ ⟨by omega, n2⟩ (by omega) (by omega) (h1.star (by omega) (h4 s0 g1) g2)
    · show ((chO _ _ _ _).getD b []).length ≤ _ ∧ (_ → ((chO _ _ _ _).getD b []).length = 1)
      obtain ⟨g1, g2⟩ := h5 b hb
      unfold chO
      simp only [List.length_cons]
      split
      · have hpos := h1.pos
        rw [getDL_six _ _ _ h1.len (by omega), if_neg (by omega), if_neg (by omega)]
        exact ⟨by omega, g2⟩
      · split
        · exact ⟨by omega, g2⟩
        · have hl := h1.len
          rw [getDL_set_ne _ (by omega)]
          by_cases e : (h.cmd n).block.toNat = b
          · rw [← e, getDL_set_eq _ (by omega), e]
            exact ⟨by simp only [List.length_cons]; omega, fun hle => by omega⟩
          · rw [getDL_set_ne _ e]
            exact ⟨by omega, g2⟩

/-- The shelves behind all orders. -/
def OrdU (h : Hist) (os : List Int) : List (List Int) := prodL (chR h os.reverse).1
theorem OrdOk.all {h : Hist} {os : List Int} (ho : OrdOk h os) :
    ChInv h.blocks.toNat (chR h os.reverse).1 (chR h os.reverse).2 ∧ (chR h os.reverse).2 ≤ os.length + 1 ∧ sizeL (chR h os.reverse).1 ≤ 4 ^ os.length ∧ (∀ s, ShR h os.reverse s → s ∈ OrdU h os) ∧
    (∀ b, b < 6 → ((chR h os.reverse).1.getD b []).length ≤ os.length + 1 ∧ (h.blocks.toNat ≤ b → ((chR h os.reverse).1.getD b []).length = 1)) := by
  have := chR_all ho.blocks os.reverse (by simpa using ho.len) fun n hn => ho.each n (by simpa using hn)
  rw [List.length_reverse] at this
  exact this
theorem OrdOk.uni {h : Hist} {os : List Int} (ho : OrdOk h os) : Uni (OrdU h os) := by
  obtain ⟨h1, h2, h3, _⟩ := ho.all
  have hl := ho.len
  refine h1.uni (by omega) (Nat.le_trans h3 ?_)
  exact Nat.le_trans (Nat.pow_le_pow_right (by omega) hl) (by decide)
theorem OrdOk.mem {h : Hist} {os : List Int} (ho : OrdOk h os) {s0 s : List Int} (hs : ShR h os.reverse s0) (hd : DStar s0 s) : s ∈ OrdU h os := by
  obtain ⟨h1, h2, _, h4, _⟩ := ho.all
  have hl := ho.len
  exact h1.star (by omega) (h4 s0 hs) hd
theorem OrdOk.take {h : Hist} {os : List Int} (ho : OrdOk h os) (j : Nat) : OrdOk h (os.take j) :=
  ⟨by have := ho.len; simp; omega, ho.blocks, fun n hn => ho.each n (List.mem_of_mem_take hn)⟩

/-- The cells that the keys of the images are among. -/
def ImgU (h : Hist) (os : List Int) : List (List Int) := prodL ((List.range 6).map fun b => if b < h.blocks.toNat then (-2) :: (chR h os.reverse).1.getD b [] else (chR h os.reverse).1.getD b [])
theorem getD_take6 (s : List Int) {i : Nat} (h : i < 6) : (s.take 6).getD i 0 = s.getD i 0 := by simp [List.getD_eq_getElem?_getD, List.getElem?_take, h]
theorem getD_map6 (f : Nat → List Int) {i : Nat} (h : i < 6) : ((List.range 6).map f).getD i [] = f i := by
  simp [List.getD_eq_getElem?_getD, List.getElem?_map, List.getElem?_range h]
theorem OrdOk.key_mem {h : Hist} {os c : List Int} (ho : OrdOk h os) (hc : ImgKey h os c) : c ∈ ImgU h os := by
  obtain ⟨s0, s, hs0, hd, hc⟩ := hc
  obtain ⟨h1, h2, h3, h4, h5⟩ := ho.all
  have hl := ho.len
  have hs := ho.mem hs0 hd
  obtain ⟨l1, l2⟩ := mem_at hs h1.len
  have a : ∀ i, i < 6 → s.getD i 0 ∈ (if i < h.blocks.toNat then (-2) :: (chR h os.reverse).1.getD i [] else (chR h os.reverse).1.getD i []) := fun i hi => by
    split
    · exact List.mem_cons_of_mem _ (l2 i (by omega))
    · exact l2 i (by omega)
  refine (mem_prodL _ _).2 ?_
  rcases hc with rfl | ⟨p, hp, rfl⟩
  · refine ⟨by simp [l1], fun i hi => ?_⟩
    have hi6 : i < 6 := by simpa using hi
    rw [getD_take6 _ hi6, getD_map6 _ hi6]
    exact a i hi6
  · obtain ⟨_, b, hb, hbB, hb6⟩ := h1.drain hs (by omega) hp
    refine ⟨by simp [l1], fun i hi => ?_⟩
    have hi6 : i < 6 := by simpa using hi
    rw [getD_map6 _ hi6, hb, Int.toNat_natCast]
    by_cases e : b = i
    · subst e
      rw [getD_set_eq _ _ (by simp [l1]; omega), if_pos hbB]
      simp
    · rw [getD_set_ne _ _ e, getD_take6 _ hi6]
      exact a i hi6
theorem OrdOk.few {h : Hist} {os : List Int} (ho : OrdOk h os) (hB : h.blocks ≤ 2) : (ImgU h os).length ≤ (os.length + 2) * (os.length + 2) := by
  obtain ⟨h1, h2, h3, h4, h5⟩ := ho.all
  obtain ⟨hb1, hb2⟩ := ho.blocks
  have e2 := (h5 2 (by omega)).2 (by omega)
  have e3 := (h5 3 (by omega)).2 (by omega)
  have e4 := (h5 4 (by omega)).2 (by omega)
  have e5 := (h5 5 (by omega)).2 (by omega)
  have a0 := (h5 0 (by omega)).1
  have a1 := (h5 1 (by omega)).1
  unfold ImgU
  rw [length_prodL]
  have hr : List.range 6 = [0, 1, 2, 3, 4, 5] := by decide
  rw [hr]
  simp only [List.map_cons, List.map_nil, sizeL, List.foldr_cons, List.foldr_nil]
  rw [if_neg (by omega : ¬ 2 < h.blocks.toNat), if_neg (by omega : ¬ 3 < h.blocks.toNat), if_neg (by omega : ¬ 4 < h.blocks.toNat), if_neg (by omega : ¬ 5 < h.blocks.toNat), e2, e3, e4, e5, if_pos (by omega : 0 < h.blocks.toNat)]
  refine Nat.mul_le_mul (by simp only [List.length_cons]; omega) ?_
  by_cases e : 1 < h.blocks.toNat
  · rw [if_pos e]; simp only [List.length_cons]; omega
  · rw [if_neg e]; omega
theorem OrdOk.mild {h : Hist} {os c : List Int} (ho : OrdOk h os) (hc : ImgKey h os c) : c.length = 6 ∧ Mild c := by
  obtain ⟨s0, s, hs0, hd, hc⟩ := hc
  have hs := ho.mem hs0 hd
  have hl := ho.uni.len s hs
  have hm := ho.uni.mild s hs
  rcases hc with rfl | ⟨p, hp, rfl⟩
  · exact ⟨by simp [hl], fun x hx => hm x (List.mem_of_mem_take hx)⟩
  · refine ⟨by simp [hl], fun x hx => ?_⟩
    rcases List.mem_or_eq_of_mem_set hx with hx | rfl
    · exact hm x (List.mem_of_mem_take hx)
    · omega

end Go.Proofs.Ytagekhgfoabgbaa
end

section
/- Words on histories and slices of numbers in memory, and on entries of maps that count. -/
set_option linter.unusedSimpArgs false
set_option linter.unusedVariables false
namespace Go.Proofs.Ytagekhgfoabgbaa
open Go.RowKit Go.Maps

/-- What is wanted of a map m at which 'm[x]++' stands. -/
def Counts {κ : Type} [DecidableEq κ] (P : Program) (t k : TypeId) (f : κ → Value) (w : World) (b : Nat) (M : List (κ × Int)) (x : κ) (c : Int) (v0 : Value) (st : Int) (w5 w6 : World) : Prop :=
  c = (mget M x).getD 0 ∧ (Instr.lookup t (.map (some b)) (f x) false).run P w = .ok (.int .i64 c) w ∧ (Instr.mapEntry t (.map (some b)) (f x)).run P w = .ok (.tuple #[v0, .int .i64 st]) w5 ∧
    (Instr.lookup t (.map (some b)) (f x) false).run P w5 = .ok (.int .i64 c) w5 ∧ (Instr.entryStore t (.map (some b)) (.int .i64 st) (.int .i64 (c + 1))).run P w5 = .ok () w6 ∧
    MapOf P k f gI w6 b (mput M x (c + 1)) ∧ Upd w w5 b ∧ Upd w5 w6 b
theorem MapOf.counts {κ : Type} [DecidableEq κ] {P : Program} {t k e : TypeId} {f : κ → Value} {w : World} {b : Nat} {M : List (κ × Int)} {x : κ} (h : MapOf P k f gI w b M) (K : Keyed P k) (inj : ∀ x y, f x = f y → x = y) (ht : P.underlying t = some (.map k e))
    (hz : ∀ W, (zeroValue e).run P W = .ok (gI 0) W) (hk : ∃ l, keyOf P k (f x) = some l) : ∃ c v0 st w5 w6, Counts P t k f w b M x c v0 st w5 w6 := by
  obtain ⟨v0, st, w5, he, hst, hu⟩ := h.entry K inj ht (hz w) hk
  obtain ⟨w6, hs, hm, hu6⟩ := hst.store (t := t) ((mget M x).getD 0 + 1)
  rw [mput_ment] at hm
  refine ⟨(mget M x).getD 0, v0, st, w5, w6, rfl, h.lookup K inj ht (hz w) hk, he, ?_, hs, hm, hu, hu6⟩
  have := hst.map.lookup K inj ht (hz w5) hk
  rwa [mget_ment M x 0 h.nodup] at this

/-- The commands of a history, in memory. -/
def CmdsAt (w : World) (A : Option Addr) (n : Nat) (cs : List Cmd) : Prop :=
  cs.length = n ∧ ∀ i x, cs[i]? = some x → ∃ g o, A = some ⟨g, o, none⟩ ∧ g < w.heap.size ∧ w.cell? ⟨g, o + i * 5, none⟩ = some (gI x.kind) ∧ w.cell? ⟨g, o + i * 5 + 1, none⟩ = some (gI x.block) ∧ w.cell? ⟨g, o + i * 5 + 2, none⟩ = some (gI x.value) ∧
    w.cell? ⟨g, o + i * 5 + 3, none⟩ = some (gI x.frm) ∧ w.cell? ⟨g, o + i * 5 + 4, none⟩ = some (gI x.to)
/-- Whole numbers in memory. -/
def IntsAt (w : World) (A : Option Addr) (n : Nat) (xs : List Int) : Prop :=
  xs.length = n ∧ ∀ i x, xs[i]? = some x → ∃ g o, A = some ⟨g, o, none⟩ ∧ g < w.heap.size ∧ w.cell? ⟨g, o + i, none⟩ = some (gI x)
theorem CmdsAt.below {w w' : World} {A : Option Addr} {n : Nat} {cs : List Cmd} {B : Nat} (h : CmdsAt w A n cs) (hb : Below B w w') (hB : w.heap.size ≤ B) : CmdsAt w' A n cs := by
  refine ⟨h.1, fun i x hx => ?_⟩
  obtain ⟨g, o, hA, hg, h0, h1, h2, h3, h4⟩ := h.2 i x hx
  have e : ∀ k, w'.cell? ⟨g, k, none⟩ = w.cell? ⟨g, k, none⟩ := fun k => hb.cell (p := ⟨g, k, none⟩) (by show g < B; omega)
  exact ⟨g, o, hA, by rcases hb.block g (by omega) with hh; have := (Array.getElem?_eq_some_iff.1 (hh.trans (Array.getElem?_eq_getElem hg))).1; exact this, by rw [e]; exact h0, by rw [e]; exact h1, by rw [e]; exact h2, by rw [e]; exact h3, by rw [e]; exact h4⟩
theorem IntsAt.below {w w' : World} {A : Option Addr} {n : Nat} {xs : List Int} {B : Nat} (h : IntsAt w A n xs) (hb : Below B w w') (hB : w.heap.size ≤ B) : IntsAt w' A n xs := by
  refine ⟨h.1, fun i x hx => ?_⟩
  obtain ⟨g, o, hA, hg, h0⟩ := h.2 i x hx
  exact ⟨g, o, hA, by rcases hb.block g (by omega) with hh; have := (Array.getElem?_eq_some_iff.1 (hh.trans (Array.getElem?_eq_getElem hg))).1; exact this, by rw [hb.cell (p := ⟨g, o + i, none⟩) (by show g < B; omega)]; exact h0⟩
/-- A history as a value. -/
abbrev hV (b : Int) (A : Option Addr) (n c : Nat) : Value := .agg #[gI b, .slice A n c]
abbrev cV (c : Cmd) : Value := .agg #[gI c.kind, gI c.block, gI c.value, gI c.frm, gI c.to]

end Go.Proofs.Ytagekhgfoabgbaa
end

section
/- images, walked. -/
set_option linter.unusedSimpArgs false
set_option linter.unusedVariables false
namespace Go.Proofs.Ytagekhgfoabgbaa
open Go.RowKit Go.Maps
attribute [local go_sem] ints_lit6

theorem i63 : (Try.prog.info? 63).map (·.size) = some 6 := by kernel_rfl
def shPre : List Int := [-1, -1, -1, -1, -1, -1, 1] ++ List.replicate 66 0
theorem build_pre : (((((((Try.zeroCells86.setIfInBounds 0 (Value.int IntKind.i64 (-1))).setIfInBounds 1 (Value.int IntKind.i64 (-1))).setIfInBounds 2 (Value.int IntKind.i64 (-1))).setIfInBounds 3 (Value.int IntKind.i64 (-1))).setIfInBounds 4 (Value.int IntKind.i64 (-1))).setIfInBounds 5 (Value.int IntKind.i64 (-1))).setIfInBounds 6 (Value.int IntKind.i64 1)) = ints shPre := by kernel_rfl
/-- The history's box. -/
def Boxed (w0 : Nat) (b : Int) (A : Option Addr) (n c : Nat) (w : World) : Prop := w.heap[w0]? = some (.cells #[gI b, .slice A n c] 24 (0, 0))
/-- The loop over the orders: j are done. -/
def IA (h : Hist) (os : List Int) (w : World) (A : Option Addr) (n c : Nat) (j g : Nat) (wr : World) : Prop :=
  ∃ M, w.heap.size < g ∧ MapOf Try.prog 86 fA gI wr g M ∧ (∀ s, s ∈ M.map (·.1) ↔ ShR h (os.take j).reverse s) ∧ Below w.heap.size w wr ∧ Boxed w.heap.size h.blocks A n c wr
/-- The loop inside it. -/
def IB (w : World) (b : Int) (A : Option Addr) (n c : Nat) (cm : Cmd) (x : Int) (d it nb : Nat) (MD : List (List Int × Int)) (k : Nat) (wr : World) : Prop :=
  ∃ (done rest M : List (List Int × Int)), rest.length ≤ k ∧ IterOf Try.prog 86 fA gI wr d it MD rest ∧ (done ++ rest).Perm MD ∧ MapOf Try.prog 86 fA gI wr nb M ∧
    (∀ y, y ∈ M.map (·.1) ↔ ∃ q ∈ done, y = shO q.1 cm x) ∧ (∀ p ∈ M, 1 ≤ p.2 ∧ p.2 ≤ done.length) ∧ Below w.heap.size w wr ∧ Boxed w.heap.size b A n c wr
theorem mget_le {κ : Type} [DecidableEq κ] {M : List (κ × Int)} {N : Nat} (h : ∀ p ∈ M, 1 ≤ p.2 ∧ p.2 ≤ N) (hn : (M.map (·.1)).Nodup) (y : κ) : 0 ≤ (mget M y).getD 0 ∧ (mget M y).getD 0 ≤ N := by
  by_cases hy : y ∈ M.map (·.1)
  · obtain ⟨p, hp, rfl⟩ := List.mem_map.1 hy
    rw [mget_of_mem hn hp]
    have := h p hp
    simp only [Option.getD_some]
    omega
  · rw [mget_none hy]; simp
theorem mem_mput_keys' {κ : Type} [DecidableEq κ] (M : List (κ × Int)) (x : κ) (v : Int) (y : κ) : y ∈ (mput M x v).map (·.1) ↔ y = x ∨ y ∈ M.map (·.1) := by
  rw [mput_keys]
  split
  · rename_i h
    exact ⟨.inr, fun h' => h'.elim (fun e => e ▸ h) id⟩
  · simp only [List.mem_append, List.mem_singleton]; exact ⟨fun h => h.symm, fun h => h.symm⟩
theorem mem_mput' {κ : Type} [DecidableEq κ] {M : List (κ × Int)} {x : κ} {v : Int} {p : κ × Int} (h : p ∈ mput M x v) : p ∈ M ∨ p = (x, v) := by
  unfold mput at h
  split at h
  · obtain ⟨q, hq, e⟩ := List.mem_map.1 h
    split at e
    · exact .inr e.symm
    · exact .inl (e ▸ hq)
  · rcases List.mem_append.1 h with h | h
    · exact .inl h
    · exact .inr (by simpa using h)
theorem put_none (a : Act) (v : Value) : a.put none v = a := rfl
theorem IB.start {w wr w7 : World} {b : Int} {A : Option Addr} {n c : Nat} {cm : Cmd} {x : Int} {d c0 : Nat} {MD : List (List Int × Int)} (hbel : Below w.heap.size w wr) (hbox : Boxed w.heap.size b A n c wr) (hsz : w.heap.size < wr.heap.size) (hb7 : Below (wr.alloc (.map #[] 0)).heap.size (wr.alloc (.map #[] 0)) w7)
    (hit : IterOf Try.prog 86 fA gI (w7.alloc (.mapIter (some d) c0 #[] c0)) d w7.heap.size MD MD) : IB w b A n c cm x d w7.heap.size wr.heap.size MD MD.length (w7.alloc (.mapIter (some d) c0 #[] c0)) := by
  have hs7 := hb7.size
  rw [World.size_alloc] at hs7
  have hB : Below wr.heap.size wr (w7.alloc (.mapIter (some d) c0 #[] c0)) := ((below_alloc0 wr _).trans (hb7.mono (by simp))).alloc (by omega) _
  refine ⟨[], MD, [], Nat.le_refl _, hit, by simp, ?_, by simp, by simp, hbel.trans (hB.mono (by omega)), ?_⟩
  · exact ((MapOf.made _ _ _ _ wr).below hb7 (by simp)).below (below_alloc0 w7 _) (by omega)
  · unfold Boxed; rw [hB.block _ hsz]; exact hbox
/-- The map that is filled, behind the call. -/
theorem IB.mid {nb it : Nat} {M : List (List Int × Int)} {wr w1 w2 w3 : World} {X : Obj} (hmap : MapOf Try.prog 86 fA gI wr nb M) (hu1 : Upd wr w1 it) (hni : nb ≠ it) (hu2 : Upd (w1.alloc X) w2 w1.heap.size) (hb3 : Below w2.drew.heap.size w2.drew w3) :
    MapOf Try.prog 86 fA gI w3 nb M ∧ Below w1.heap.size w1 w3 := by
  have hB : Below w1.heap.size w1 w3 := ((below_alloc0 w1 X).trans (hu2.below (Nat.le_refl _))).trans ((below_undrew hb3).mono (by rw [hu2.size]; simp))
  have h1 := hmap.same (hu1.block nb hni)
  exact ⟨h1.below hB h1.lt, hB⟩
theorem IB.next {w wr w1 w3 w5 w6 : World} {b : Int} {A : Option Addr} {n c : Nat} {cm : Cmd} {x : Int} {d it nb k : Nat} {MD done rst L' M : List (List Int × Int)} {p : List Int × Int} {cc st : Int} {v0 : Value} (hk : rst.length ≤ k) (hperm : (done ++ rst).Perm MD) (hkeys : ∀ y, y ∈ M.map (·.1) ↔ ∃ q ∈ done, y = shO q.1 cm x)
    (hcnt : ∀ p ∈ M, 1 ≤ p.2 ∧ p.2 ≤ done.length) (hbel : Below w.heap.size w wr) (hbox : Boxed w.heap.size b A n c wr) (hwn : w.heap.size < nb) (hnd : nb < d) (hdi : d < it) (hp : rst.Perm (p :: L')) (hit1 : IterOf Try.prog 86 fA gI w1 d it MD L') (hu1 : Upd wr w1 it)
    (hB : Below w1.heap.size w1 w3) (hm3 : MapOf Try.prog 86 fA gI w3 nb M) (hq : Counts Try.prog 87 86 fA w3 nb M (shO p.1 cm x) cc v0 st w5 w6) : IB w b A n c cm x d it nb MD L'.length w6 ∧ L'.length < k := by
  obtain ⟨hcc, _, _, _, _, hm6, hu5, hu6⟩ := hq
  have hu := hu5.trans hu6
  obtain ⟨hl1, hl2, hl3⟩ := hit1.lt
  have hle := mget_le hcnt hm3.nodup (shO p.1 cm x)
  rw [← hcc] at hle
  refine ⟨⟨done ++ [p], L', _, Nat.le_refl _, ?_, ?_, hm6, fun y => ?_, fun q hq => ?_, ?_, ?_⟩, ?_⟩
  · exact (hit1.below hB hl1 hl2).same (hu.block d (by omega)) (hu.block it (by omega))
  · refine List.Perm.trans ?_ hperm
    rw [List.append_assoc]
    exact List.Perm.append_left _ (by simpa using hp.symm)
  · rw [mem_mput_keys', hkeys y]
    simp only [List.mem_append, List.mem_singleton]
    constructor
    · rintro (rfl | ⟨q, hq, rfl⟩)
      · exact ⟨p, .inr rfl, rfl⟩
      · exact ⟨q, .inl hq, rfl⟩
    · rintro ⟨q, hq | rfl, rfl⟩
      · exact .inr ⟨q, hq, rfl⟩
      · exact .inl rfl
  · rw [List.length_append, List.length_singleton]
    rcases mem_mput' hq with hq | rfl
    · have := hcnt q hq; omega
    · simp only; omega
  · exact (((hbel.trans (hu1.below (by omega))).trans (hB.mono (by have := hbel.size; have := hu1.size; omega))).trans (hu.below (by omega)))
  · unfold Boxed
    rw [hu.block _ (by omega), hB.block _ (by omega), hu1.block _ (by omega)]
    exact hbox
  · have := hp.length_eq; simp at this; omega
theorem IB.done {w wr : World} {h : Hist} {os : List Int} {A : Option Addr} {n c j : Nat} {x : Int} {nb : Nat} {MA MD done M : List (List Int × Int)} (hx : os[j]? = some x) (hMk : ∀ s, s ∈ MA.map (·.1) ↔ ShR h (os.take j).reverse s) (hmk : ∀ s, s ∈ MD.map (·.1) ↔ ∃ p ∈ MA, DStar p.1 s)
    (hperm : done.Perm MD) (hkeys : ∀ y, y ∈ M.map (·.1) ↔ ∃ q ∈ done, y = shO q.1 (h.cmd x) x) (hmap : MapOf Try.prog 86 fA gI wr nb M) (hwn : w.heap.size < nb) (hbel : Below w.heap.size w wr) (hbox : Boxed w.heap.size h.blocks A n c wr) : IA h os w A n c (j + 1) nb wr := by
  refine ⟨M, hwn, hmap, fun s => ?_, hbel, hbox⟩
  have e : (os.take (j + 1)).reverse = x :: (os.take j).reverse := by
    rw [List.take_add_one, hx]; simp
  rw [hkeys, e]
  constructor
  · rintro ⟨q, hq, rfl⟩
    obtain ⟨p, hp, hst⟩ := (hmk q.1).1 (List.mem_map.2 ⟨q, hperm.subset hq, rfl⟩)
    exact ⟨p.1, q.1, (hMk p.1).1 (List.mem_map.2 ⟨p, hp, rfl⟩), hst, rfl⟩
  · rintro ⟨s0, s1, h0, h1, rfl⟩
    obtain ⟨p, hp, rfl⟩ := List.mem_map.1 ((hMk s0).2 h0)
    obtain ⟨q, hq, rfl⟩ := List.mem_map.1 ((hmk s1).2 ⟨p, hp, h1⟩)
    exact ⟨q, hperm.symm.subset hq, rfl⟩
theorem loadTo_pre {P : Program} {o : Oper} {t : TypeId} {n m : Nat} {a : Act} {w : World} {K : Act → World → Prop} {Q : Exit → Act → World → Prop} {g : Nat} {tb : TypeId} (h : IsBlk w g n tb) (hmn : m ≤ n)
    {d : TypeDesc} (hu : P.underlying t = some d) (hd : (match d with | .struct _ | .array _ _ => true | _ => false) = true) (hi : (P.info? t).map (·.size) = some m) :
    loadTo P o t (.pointer (some ⟨g, 0, none⟩)) a w K Q = K (a.put o.dst (.agg (ints ((blkOf w g).take m)))) w := by
  obtain ⟨xs, hb, hn⟩ := h
  rw [blkOf_eq hb]
  have hl : (loadCells ⟨g, 0, none⟩ m).run P w = .ok (ints (xs.take m)) w := by
    have := run_loadCells_list (P := P) w ⟨g, 0, none⟩ (ints (xs.take m)).toList (fun j v hv => by
      have hj := (List.getElem?_eq_some_iff.1 hv).1
      simp [ints_toList] at hj
      rw [addr_add, Nat.zero_add, hb.cell (by omega)]
      rw [ints_toList, List.getElem?_map, List.getElem?_take, if_pos (by omega), List.getElem?_eq_getElem (by omega)] at hv
      rw [← hv, List.getD_eq_getElem?_getD, List.getElem?_eq_getElem (by omega)]
      rfl)
    have hs : (ints (xs.take m)).toList.length = m := by simp [ints_toList]; omega
    rw [hs] at this
    simpa using this
  cases hq : P.info? t with
  | none => simp [hq] at hi
  | some i =>
    have hs : i.size = m := by simpa [hq] using hi
    have hagg : (isAgg t).run P w = .ok true w := by
      unfold isAgg
      rw [Sem.run_bind, run_underlying hu w]
      cases d <;> simp_all
    have hr : (loadVar t ⟨g, 0, none⟩).run P w = .ok (.agg (ints (xs.take m))) w := by
      simp [loadVar, Sem.run_bind, hagg, sizeOf, typeInfo, hq, hs, hl]
    unfold loadTo
    simp only [Instr.loadAt, Instr.sureAddr, Sem.run_bind, Sem.run_pure, Result.andThen_ok, hr]
    rfl
theorem loadTo63p {o : Oper} {a : Act} {w : World} {K : Act → World → Prop} {Q : Exit → Act → World → Prop} {g : Nat} (h : IsBlk w g 73 86) :
    loadTo Try.prog o 63 (.pointer (some ⟨g, 0, none⟩)) a w K Q = K (a.put o.dst (.agg (ints ((blkOf w g).take 6)))) w := loadTo_pre h (by decide) Try.underlying63 rfl i63
theorem loadTo63 {o : Oper} {a : Act} {w : World} {K : Act → World → Prop} {Q : Exit → Act → World → Prop} {g : Nat} (h : IsBlk w g 6 63) :
    loadTo Try.prog o 63 (.pointer (some ⟨g, 0, none⟩)) a w K Q = K (a.put o.dst (.agg (ints (blkOf w g)))) w := loadTo_blk h Try.underlying63 rfl i63
/-- The images that a shelf gives. -/
def ImgOf (s : List Int) (y : List Int) : Prop := y = s.take 6 ∨ ∃ p ∈ shD s, y = (s.take 6).set p.1.toNat (-2)
/-- The loop over all shelves that can be. -/
def IC (w : World) (b : Int) (A : Option Addr) (n c d it nb : Nat) (MD : List (List Int × Int)) (k : Nat) (wr : World) : Prop :=
  ∃ (done rest M : List (List Int × Int)), rest.length ≤ k ∧ IterOf Try.prog 86 fA gI wr d it MD rest ∧ (done ++ rest).Perm MD ∧ MapOf Try.prog 63 fA gI wr nb M ∧
    (∀ y, y ∈ M.map (·.1) ↔ ∃ q ∈ done, ImgOf q.1 y) ∧ (∀ p ∈ M, 1 ≤ p.2 ∧ p.2 ≤ ((7 * done.length : Nat) : Int)) ∧ Below w.heap.size w wr ∧ Boxed w.heap.size b A n c wr
/-- The loop inside it, over the drains of s. -/
def ID (w : World) (b : Int) (A : Option Addr) (n c d it nb : Nat) (MD done L' : List (List Int × Int)) (s : List Int) (gs d2 it2 : Nat) (k : Nat) (wr : World) : Prop :=
  ∃ (done2 rest2 : List (Int × List Int)) (M : List (List Int × Int)), rest2.length ≤ k ∧ IterOf Try.prog 3 gI fA wr d2 it2 (shD s) rest2 ∧ (done2 ++ rest2).Perm (shD s) ∧ IterOf Try.prog 86 fA gI wr d it MD L' ∧ MapOf Try.prog 63 fA gI wr nb M ∧
    (∀ y, y ∈ M.map (·.1) ↔ (∃ q ∈ done, ImgOf q.1 y) ∨ y = s.take 6 ∨ ∃ p ∈ done2, y = (s.take 6).set p.1.toNat (-2)) ∧ (∀ p ∈ M, 1 ≤ p.2 ∧ p.2 ≤ ((7 * done.length + 1 + done2.length : Nat) : Int)) ∧
    Blk wr gs s 86 ∧ Below w.heap.size w wr ∧ Boxed w.heap.size b A n c wr
theorem IC.start {w wr w7 : World} {b : Int} {A : Option Addr} {n c : Nat} {d c0 : Nat} {MD : List (List Int × Int)} (hbel : Below w.heap.size w wr) (hbox : Boxed w.heap.size b A n c wr) (hsz : w.heap.size < wr.heap.size) (hb7 : Below (wr.alloc (.map #[] 0)).heap.size (wr.alloc (.map #[] 0)) w7)
    (hit : IterOf Try.prog 86 fA gI (w7.alloc (.mapIter (some d) c0 #[] c0)) d w7.heap.size MD MD) : IC w b A n c d w7.heap.size wr.heap.size MD MD.length (w7.alloc (.mapIter (some d) c0 #[] c0)) := by
  have hs7 := hb7.size
  rw [World.size_alloc] at hs7
  have hB : Below wr.heap.size wr (w7.alloc (.mapIter (some d) c0 #[] c0)) := ((below_alloc0 wr _).trans (hb7.mono (by simp))).alloc (by omega) _
  refine ⟨[], MD, [], Nat.le_refl _, hit, by simp, ?_, by simp, by simp, hbel.trans (hB.mono (by omega)), ?_⟩
  · exact ((MapOf.made _ _ _ _ wr).below hb7 (by simp)).below (below_alloc0 w7 _) (by omega)
  · unfold Boxed; rw [hB.block _ hsz]; exact hbox
/-- What has been counted. -/
theorem counted {M : List (List Int × Int)} {w3 w5 w6 : World} {nb N : Nat} {x : List Int} {cc st : Int} {v0 : Value} {S : List Int → Prop} (hm3 : MapOf Try.prog 63 fA gI w3 nb M) (hkeys : ∀ y, y ∈ M.map (·.1) ↔ S y) (hcnt : ∀ p ∈ M, 1 ≤ p.2 ∧ p.2 ≤ (N : Int))
    (hq : Counts Try.prog 90 63 fA w3 nb M x cc v0 st w5 w6) : ∃ M', MapOf Try.prog 63 fA gI w6 nb M' ∧ (∀ y, y ∈ M'.map (·.1) ↔ S y ∨ y = x) ∧ (∀ p ∈ M', 1 ≤ p.2 ∧ p.2 ≤ ((N + 1 : Nat) : Int)) ∧ Upd w3 w6 nb := by
  obtain ⟨hcc, _, _, _, _, hm6, hu5, hu6⟩ := hq
  have hle := mget_le hcnt hm3.nodup x
  rw [← hcc] at hle
  refine ⟨_, hm6, fun y => ?_, fun q hq => ?_, hu5.trans hu6⟩
  · rw [mem_mput_keys', hkeys y]; exact ⟨fun h => h.symm, fun h => h.symm⟩
  · rcases mem_mput' hq with hq | rfl
    · have := hcnt q hq; omega
    · simp only; omega
theorem ID.start {w wr w1 w3 w5 w6 w7 : World} {b : Int} {A : Option Addr} {n c : Nat} {d it nb gs d2 c2 : Nat} {MD done L' M : List (List Int × Int)} {s : List Int} {cc st : Int} {v0 : Value} (hkeys : ∀ y, y ∈ M.map (·.1) ↔ ∃ q ∈ done, ImgOf q.1 y)
    (hcnt : ∀ p ∈ M, 1 ≤ p.2 ∧ p.2 ≤ ((7 * done.length : Nat) : Int)) (hbel : Below w.heap.size w wr) (hbox : Boxed w.heap.size b A n c wr) (hwn : w.heap.size < nb) (hnd : nb < d) (hdi : d < it) (hit1 : IterOf Try.prog 86 fA gI w1 d it MD L') (hu1 : Upd wr w1 it)
    (hgs : w1.heap.size ≤ gs) (hB : Below w1.heap.size w1 w3) (hbs : Blk w3 gs s 86) (hm3 : MapOf Try.prog 63 fA gI w3 nb M) (hq : Counts Try.prog 90 63 fA w3 nb M (s.take 6) cc v0 st w5 w6)
    (hb7 : Below w6.heap.size w6 w7) (hit2 : IterOf Try.prog 3 gI fA (w7.alloc (.mapIter (some d2) c2 #[] c2)) d2 w7.heap.size (shD s) (shD s)) :
    ID w b A n c d it nb MD done L' s gs d2 w7.heap.size (shD s).length (w7.alloc (.mapIter (some d2) c2 #[] c2)) := by
  obtain ⟨M', hm6, hk6, hc6, hu⟩ := counted hm3 hkeys hcnt hq
  obtain ⟨hl1, hl2, hl3⟩ := hit1.lt
  have hus := hu.size
  have hBs := hB.size
  have hgl := hbs.lt
  have hs7 := hb7.size
  have hB7 : Below w6.heap.size w6 (w7.alloc (.mapIter (some d2) c2 #[] c2)) := hb7.alloc (by omega) _
  have hbs' : Blk (w7.alloc (.mapIter (some d2) c2 #[] c2)) gs s 86 := by
    refine Blk.below (B := w6.heap.size) ?_ hB7 (by omega)
    unfold Blk; rw [hu.block _ (by omega)]; exact hbs
  refine ⟨[], shD s, M', Nat.le_refl _, hit2, by simp, ?_, hm6.below hB7 hm6.lt, fun y => ?_, fun q hq => ?_, hbs', ?_, ?_⟩
  · exact (((hit1.below hB hl1 hl2).same (hu.block d (by omega)) (hu.block it (by omega)))).below hB7 (by omega) (by omega)
  · rw [hk6 y]; simp
  · have := hc6 q hq; simpa using this
  · exact ((((hbel.trans (hu1.below (by omega))).trans (hB.mono (by have := hbel.size; have := hu1.size; omega))).trans (hu.below (by omega)))).trans (hB7.mono (by have := hbel.size; have := hu1.size; omega))
  · unfold Boxed
    rw [hB7.block _ (by have := hbel.size; have := hu1.size; omega), hu.block _ (by omega), hB.block _ (by omega), hu1.block _ (by omega)]
    exact hbox
theorem ID.next {w wr w1 w3 w5 w6 : World} {b : Int} {A : Option Addr} {n c : Nat} {d it nb gs d2 it2 k : Nat} {MD done L' M : List (List Int × Int)} {s : List Int} {done2 rst2 L2 : List (Int × List Int)} {p : Int × List Int} {cc st : Int} {v0 : Value} (hk : rst2.length ≤ k) (hperm : (done2 ++ rst2).Perm (shD s))
    (hito : IterOf Try.prog 86 fA gI wr d it MD L') (hkeys : ∀ y, y ∈ M.map (·.1) ↔ (∃ q ∈ done, ImgOf q.1 y) ∨ y = s.take 6 ∨ ∃ p ∈ done2, y = (s.take 6).set p.1.toNat (-2)) (hcnt : ∀ p ∈ M, 1 ≤ p.2 ∧ p.2 ≤ ((7 * done.length + 1 + done2.length : Nat) : Int))
    (hbs : Blk wr gs s 86) (hbel : Below w.heap.size w wr) (hbox : Boxed w.heap.size b A n c wr) (hwn : w.heap.size < nb) (hnd : nb < d) (hdi : d < it) (hig : it < gs) (hgd : gs < d2) (hdi2 : d2 < it2) (hp : rst2.Perm (p :: L2)) (hit1 : IterOf Try.prog 3 gI fA w1 d2 it2 (shD s) L2) (hu1 : Upd wr w1 it2)
    (hB : Below w1.heap.size w1 w3) (hm3 : MapOf Try.prog 63 fA gI w3 nb M) (hq : Counts Try.prog 90 63 fA w3 nb M ((s.take 6).set p.1.toNat (-2)) cc v0 st w5 w6) : ID w b A n c d it nb MD done L' s gs d2 it2 L2.length w6 ∧ L2.length < k := by
  obtain ⟨M', hm6, hk6, hc6, hu⟩ := counted hm3 hkeys hcnt hq
  obtain ⟨hl1, hl2, hl3⟩ := hit1.lt
  obtain ⟨ho1, ho2, ho3⟩ := hito.lt
  have hs1 := hu1.size
  have hBs := hB.size
  refine ⟨⟨done2 ++ [p], L2, M', Nat.le_refl _, ?_, ?_, ?_, hm6, fun y => ?_, fun q hq => ?_, ?_, ?_, ?_⟩, ?_⟩
  · exact (hit1.below hB hl1 hl2).same (hu.block d2 (by omega)) (hu.block it2 (by omega))
  · refine List.Perm.trans ?_ hperm
    rw [List.append_assoc]
    exact List.Perm.append_left _ (by simpa using hp.symm)
  · exact ((hito.same (hu1.block d (by omega)) (hu1.block it (by omega))).below hB (by omega) (by omega)).same (hu.block d (by omega)) (hu.block it (by omega))
  · rw [hk6 y]
    simp only [List.mem_append, List.mem_singleton]
    constructor
    · rintro ((h | h | ⟨q, hq, e⟩) | h)
      · exact .inl h
      · exact .inr (.inl h)
      · exact .inr (.inr ⟨q, .inl hq, e⟩)
      · exact .inr (.inr ⟨p, .inr rfl, h⟩)
    · rintro (h | h | ⟨q, hq | rfl, e⟩)
      · exact .inl (.inl h)
      · exact .inl (.inr (.inl h))
      · exact .inl (.inr (.inr ⟨q, hq, e⟩))
      · exact .inr e
  · have := hc6 q hq
    rw [List.length_append, List.length_singleton]
    omega
  · have hgl := hbs.lt
    unfold Blk
    rw [hu.block _ (by omega), hB.block _ (by omega), hu1.block _ (by omega)]
    exact hbs
  · exact (((hbel.trans (hu1.below (by omega))).trans (hB.mono (by have := hbel.size; omega))).trans (hu.below (by omega)))
  · unfold Boxed
    rw [hu.block _ (by omega), hB.block _ (by omega), hu1.block _ (by omega)]
    exact hbox
  · have := hp.length_eq; simp at this; omega
theorem ID.done {w wr : World} {b : Int} {A : Option Addr} {n c : Nat} {d it nb k : Nat} {MD done rst L' M : List (List Int × Int)} {p : List Int × Int} {s : List Int} (hs : s = p.1) {done2 : List (Int × List Int)} (hk : rst.length ≤ k) (hp : rst.Perm (p :: L')) (hpo : (done ++ rst).Perm MD) (hperm : done2.Perm (shD s))
    (hito : IterOf Try.prog 86 fA gI wr d it MD L') (hmap : MapOf Try.prog 63 fA gI wr nb M) (hkeys : ∀ y, y ∈ M.map (·.1) ↔ (∃ q ∈ done, ImgOf q.1 y) ∨ y = s.take 6 ∨ ∃ q ∈ done2, y = (s.take 6).set q.1.toNat (-2)) (hcnt : ∀ p ∈ M, 1 ≤ p.2 ∧ p.2 ≤ ((7 * done.length + 1 + done2.length : Nat) : Int))
    (hbel : Below w.heap.size w wr) (hbox : Boxed w.heap.size b A n c wr) : IC w b A n c d it nb MD L'.length wr ∧ L'.length < k := by
  subst hs
  have hl := hperm.length_eq
  have hl6 := shD_le p.1
  refine ⟨⟨done ++ [p], L', M, Nat.le_refl _, hito, ?_, hmap, fun y => ?_, fun q hq => ?_, hbel, hbox⟩, ?_⟩
  · refine List.Perm.trans ?_ hpo
    rw [List.append_assoc]
    exact List.Perm.append_left _ (by simpa using hp.symm)
  · rw [hkeys y]
    simp only [List.mem_append, List.mem_singleton]
    constructor
    · rintro (⟨q, hq, e⟩ | h | ⟨q, hq, e⟩)
      · exact ⟨q, .inl hq, e⟩
      · exact ⟨p, .inr rfl, .inl h⟩
      · exact ⟨p, .inr rfl, .inr ⟨q, hperm.subset hq, e⟩⟩
    · rintro ⟨q, hq | rfl, h | ⟨r, hr, e⟩⟩
      · exact .inl ⟨q, hq, .inl h⟩
      · exact .inl ⟨q, hq, .inr ⟨r, hr, e⟩⟩
      · exact .inr (.inl h)
      · exact .inr (.inr ⟨r, hperm.symm.subset hr, e⟩)
  · have := hcnt q hq
    rw [List.length_append, List.length_singleton]
    omega
  · have := hp.length_eq; simp at this; omega
theorem IC.done {h : Hist} {os : List Int} {MA MD done M : List (List Int × Int)} (hMk : ∀ s, s ∈ MA.map (·.1) ↔ ShR h os.reverse s) (hmk : ∀ s, s ∈ MD.map (·.1) ↔ ∃ p ∈ MA, DStar p.1 s)
    (hperm : done.Perm MD) (hkeys : ∀ y, y ∈ M.map (·.1) ↔ ∃ q ∈ done, ImgOf q.1 y) (y : List Int) : y ∈ M.map (·.1) ↔ ImgKey h os y := by
  rw [hkeys y]
  constructor
  · rintro ⟨q, hq, e⟩
    obtain ⟨p, hp, hst⟩ := (hmk q.1).1 (List.mem_map.2 ⟨q, hperm.subset hq, rfl⟩)
    exact ⟨p.1, q.1, (hMk p.1).1 (List.mem_map.2 ⟨p, hp, rfl⟩), hst, e⟩
  · rintro ⟨s0, s, h0, h1, e⟩
    obtain ⟨p, hp, rfl⟩ := List.mem_map.1 ((hMk s0).2 h0)
    obtain ⟨q, hq, rfl⟩ := List.mem_map.1 ((hmk s).2 ⟨p, hp, h1⟩)
    exact ⟨q, hperm.symm.subset hq, e⟩
def isLoadOf (t : TypeId) : Op → Bool
  | .load t' _ => t' == t
  | _ => false
def loadArg : Op → Operand
  | .load _ x => x
  | _ => .const undef
theorem wp_load_pre {t : TypeId} (o : Oper) (a : Act) (w : World) (K : Act → World → Prop) (Q : Exit → Act → World → Prop) (h : isLoadOf t o.op = true) :
    Oper.wp Try.prog o a w K Q = loadTo Try.prog o t (a.eval (loadArg o.op)) a w K Q := by
  cases o with
  | mk d op ty pos af gd =>
    cases op <;> simp [isLoadOf] at h
    subst h
    rfl
theorem wp_pre86 (o : Oper) (a : Act) (w : World) (K : Act → World → Prop) (Q : Exit → Act → World → Prop) (h : isLoadOf 86 o.op = true) :
    Oper.wp Try.prog o a w K Q = loadTo Try.prog o 86 (a.eval (loadArg o.op)) a w K Q := wp_load_pre o a w K Q h

theorem blk_zero6 (w : World) : Blk (w.alloc (.cells #[.int .i64 0, .int .i64 0, .int .i64 0, .int .i64 0, .int .i64 0, .int .i64 0] 63)) w.heap.size [0, 0, 0, 0, 0, 0] 63 := blk_new w [0, 0, 0, 0, 0, 0] _
theorem wp_pre63 (o : Oper) (a : Act) (w : World) (K : Act → World → Prop) (Q : Exit → Act → World → Prop) (h : isLoadOf 63 o.op = true) :
    Oper.wp Try.prog o a w K Q = loadTo Try.prog o 63 (a.eval (loadArg o.op)) a w K Q := wp_load_pre o a w K Q h

end Go.Proofs.Ytagekhgfoabgbaa
end
