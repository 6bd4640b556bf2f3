/- Reads of a history; the examples' reads. -/
import Derived.Test.YtagekhgfoabgbaaK09

section
/- slices.Sort and slices.Compact over whole numbers: a set in ascending order. -/
set_option linter.unusedSimpArgs false
set_option linter.unusedVariables false
namespace Go.Proofs.Ytagekhgfoabgbaa
open Go.RowKit Go.Maps

/-- The numbers of l, each once, in ascending order. -/
def SetOf (l L : List Int) : Prop := L.Pairwise (· < ·) ∧ ∀ x, x ∈ L ↔ x ∈ l
theorem SetOf.unique : ∀ {L L' : List Int}, L.Pairwise (· < ·) → L'.Pairwise (· < ·) → (∀ x, x ∈ L ↔ x ∈ L') → L = L'
  | [], [], _, _, _ => rfl
  | [], y :: r, _, _, h => by have := (h y).2 (by simp); simp at this
  | x :: r, [], _, _, h => by have := (h x).1 (by simp); simp at this
  | x :: r, y :: q, h1, h2, h => by
    rw [List.pairwise_cons] at h1 h2
    have hxy : x = y := by
      have a := (h x).1 (by simp)
      have b := (h y).2 (by simp)
      rcases List.mem_cons.1 a with a | a
      · exact a
      · rcases List.mem_cons.1 b with b | b
        · exact b.symm
        · have := h2.1 x a; have := h1.1 y b; omega
    subst hxy
    congr 1
    refine SetOf.unique h1.2 h2.2 fun z => ⟨fun hz => ?_, fun hz => ?_⟩
    · have := h1.1 z hz
      rcases List.mem_cons.1 ((h z).1 (List.mem_cons_of_mem _ hz)) with e | e
      · omega
      · exact e
    · have := h2.1 z hz
      rcases List.mem_cons.1 ((h z).2 (List.mem_cons_of_mem _ hz)) with e | e
      · omega
      · exact e
theorem compact_set (d : Array Int) (hs : ∀ i j, i < j → j < d.size → d[i]! ≤ d[j]!) : ∀ m, m ≤ d.size → (Lib.compactUpTo d m).Pairwise (· < ·) ∧ ∀ x, x ∈ Lib.compactUpTo d m ↔ ∃ j, j < m ∧ x = d[j]!
  | 0, _ => by simp [Lib.compactUpTo]
  | m + 1, hm => by
    obtain ⟨h1, h2⟩ := compact_set d hs m (by omega)
    rw [Lib.compactUpTo_succ]
    by_cases hk : Lib.keeps d m = true
    · rw [if_pos hk]
      refine ⟨List.pairwise_append.2 ⟨h1, by simp, fun a ha b hb => ?_⟩, fun x => ?_⟩
      · simp at hb
        subst hb
        obtain ⟨j, hj, rfl⟩ := (h2 a).1 ha
        have hne : m = 0 ∨ d[m]! ≠ d[m - 1]! := by simpa [Lib.keeps] using hk
        have hne2 : d[m]! ≠ d[m - 1]! := by rcases hne with h | h; omega; exact h
        have a1 := hs (m - 1) m (by omega) (by omega)
        by_cases e : j = m - 1
        · subst e; omega
        · have := hs j (m - 1) (by omega) (by omega); omega
      · rw [List.mem_append, h2]
        constructor
        · rintro (⟨j, hj, e⟩ | e)
          · exact ⟨j, by omega, e⟩
          · exact ⟨m, by omega, by simpa using e⟩
        · rintro ⟨j, hj, e⟩
          by_cases h : j < m
          · exact .inl ⟨j, h, e⟩
          · obtain rfl : j = m := by omega
            exact .inr (by simpa using e)
    · rw [if_neg hk, List.append_nil]
      refine ⟨h1, fun x => ?_⟩
      rw [h2]
      have hne : ¬ (m = 0 ∨ d[m]! ≠ d[m - 1]!) := by simpa [Lib.keeps] using hk
      constructor
      · rintro ⟨j, hj, e⟩; exact ⟨j, by omega, e⟩
      · rintro ⟨j, hj, e⟩
        by_cases h : j < m
        · exact ⟨j, h, e⟩
        · obtain rfl : j = m := by omega
          exact ⟨j - 1, by omega, by rw [e]; by_cases h : d[j]! = d[j - 1]!; exact h; exact absurd (.inr h) hne⟩
open Go.Sort in
/-- slices.Sort. -/
theorem sortInts_any (w : World) (g off cap : Nat) (xs : List Int) (cs : Array Value) (hg : w.heap[g]? = some (.cells cs 3 (0, 0))) (hx : ∀ (j : Nat) (x : Int), xs[j]? = some x → w.cell? ⟨g, off + j, none⟩ = some (gI x)) (hlen : xs.length < 4611686018427387904) :
    Calls Try.prog 45 #[.slice (some ⟨g, off, none⟩) xs.length cap] w fun e w' => e = .returned (.tuple #[]) ∧ w.grownBy w' (some g) ∧ (∃ cs', w'.heap[g]? = some (.cells cs' 3 (0, 0))) ∧ ∃ ys : List Int, ys.length = xs.length ∧ (∀ x, x ∈ ys ↔ x ∈ xs) ∧ ys.Pairwise (· ≤ ·) ∧ ∀ (j : Nat) (y : Int), ys[j]? = some y → w'.cell? ⟨g, off + j, none⟩ = some (gI y) := by
  have hgl : g < w.heap.size := (Array.getElem?_eq_some_iff.1 hg).1
  have hH : Holds (Value.int .i64) w g off xs.toArray := fun j hj => by
    have hj' : j < xs.length := by simpa using hj
    have e1 : xs.toArray[j]! = xs[j] := by rw [getElem!_pos _ j (by simpa using hj')]; simp
    rw [e1]
    exact ⟨hx j _ (List.getElem?_eq_getElem hj'), frozen_of_row w g _ cs _ hg⟩
  have h := AnyM.slices_Sort_int Try.laidSortInts g off cap xs w hH hgl hlen
  change Calls Try.prog 45 _ _ _ at h
  refine h.mono ?_
  rintro e w' ⟨rfl, n, os, rfl⟩
  obtain ⟨ys, hys⟩ : ∃ ys, ys = xs.mergeSort fun x y => decide (x ≤ y) := ⟨_, rfl⟩
  have hperm : ys.Perm xs := by rw [hys]; exact List.mergeSort_perm _ _
  have hpw : ys.Pairwise (· ≤ ·) := by
    rw [hys]
    have := List.pairwise_mergeSort (le := fun x y : Int => decide (x ≤ y)) (fun a b c h1 h2 => by simp at *; omega) (fun a b => by simp; omega) xs
    exact this.imp fun h => by simpa using h
  rw [← hys]
  have hW := holds_sortWorld (Value.int .i64) w g off n xs.toArray ys.toArray os hgl hH (by simp [hperm.length_eq])
  have hblk : ∀ k, k < w.heap.size → k ≠ g → (sortWorld (Value.int .i64) w g off n ys.toArray os).heap[k]? = w.heap[k]? := fun k hk hkg => by
    unfold sortWorld
    rw [heap_grow_old _ _ (by rw [show (putRow (Value.int .i64) (Sort.ahead w n) g off ys.toArray).heap.size = w.heap.size by simp [putRow, mapBlock, Sort.ahead]]; exact hk)]
    simp only [putRow, mapBlock, Sort.ahead, Array.getElem?_modify]
    rw [if_neg (fun e => hkg e.symm)]
  refine ⟨rfl, ⟨rfl, rfl, rfl, by simp [grow, putRow, mapBlock, Sort.ahead], fun k hk hkg => hblk k hk fun e => hkg (by rw [e])⟩, ?_, ys, hperm.length_eq, fun x => hperm.mem_iff, hpw, fun j y hj => ?_⟩
  · show ∃ cs', (sortWorld (Value.int .i64) w g off n ys.toArray os).heap[g]? = _
    unfold sortWorld
    rw [heap_grow_old _ _ (by rw [show (putRow (Value.int .i64) (Sort.ahead w n) g off ys.toArray).heap.size = w.heap.size by simp [putRow, mapBlock, Sort.ahead]]; exact hgl)]
    simp only [putRow, mapBlock, Sort.ahead, Array.getElem?_modify, if_true, hg, Option.map_some]
    exact ⟨_, rfl⟩
  · have hj' := (List.getElem?_eq_some_iff.1 hj).1
    have := (hW j (by simpa using hj')).1
    have e1 : ys.toArray[j]! = y := by
      rw [getElem!_pos _ j (by simpa using hj')]
      have := (List.getElem?_eq_some_iff.1 hj).2
      simpa using this
    rw [e1] at this
    exact this

end Go.Proofs.Ytagekhgfoabgbaa
end

section
/- slices.Compact; an append of many. -/
set_option linter.unusedSimpArgs false
set_option linter.unusedVariables false
namespace Go.Proofs.Ytagekhgfoabgbaa
open Go.RowKit Go.Maps

open Go.Sort in
/-- slices.Compact of an ascending row: the set. -/
theorem compactInts_any (w : World) (g off cap : Nat) (xs : List Int) (cs : Array Value) (hg : w.heap[g]? = some (.cells cs 3 (0, 0))) (hx : ∀ (j : Nat) (x : Int), xs[j]? = some x → w.cell? ⟨g, off + j, none⟩ = some (gI x)) (hlen : xs.length ≤ 9223372036854775807) (hcap : xs.length ≤ cap) (hs : xs.Pairwise (· ≤ ·)) :
    Calls Try.prog 46 #[.slice (some ⟨g, off, none⟩) xs.length cap] w fun e w' => ∃ L : List Int, e = .returned (.slice (some ⟨g, off, none⟩) L.length cap) ∧ L.length ≤ cap ∧ SetOf xs L ∧ IntsAt w' (some ⟨g, off, none⟩) L.length L ∧ w.grownBy w' (some g) := by
  have hgl : g < w.heap.size := (Array.getElem?_eq_some_iff.1 hg).1
  have hH : Holds (Value.int .i64) w g off xs.toArray := fun j hj => by
    have hj' : j < xs.length := by simpa using hj
    have e1 : xs.toArray[j]! = xs[j] := by rw [getElem!_pos _ j (by simpa using hj')]; simp
    rw [e1]
    exact ⟨hx j _ (List.getElem?_eq_getElem hj'), frozen_of_row w g _ cs _ hg⟩
  have h := AnyE.slices_Compact Try.laidCompact (Value.int .i64) (fun _ => rfl) (EqlAt.intD _ _ _) (NeqAt.intD _ _ _) 0 (fun w => by kernel_rfl) g off cap xs.toArray w hH (by simpa using hlen) (by simpa using hcap)
  change Calls Try.prog 46 _ _ _ at h
  have es : xs.toArray.size = xs.length := by simp
  rw [es] at h
  refine h.mono ?_
  rintro e w' ⟨rfl, q, rfl⟩
  obtain ⟨h1, h2⟩ := compact_set xs.toArray (fun i j hij hj => by
    have hj' : j < xs.length := by simpa using hj
    rw [getElem!_pos _ i (by simp; omega), getElem!_pos _ j (by simpa using hj')]
    simp
    exact List.pairwise_iff_getElem.1 hs i j (by omega) hj' hij) xs.length (by simp)
  obtain ⟨L, hL⟩ : ∃ L, L = Lib.compactUpTo xs.toArray xs.length := ⟨_, rfl⟩
  rw [← hL] at h1 h2 ⊢
  have hLl : L.length ≤ xs.length := by
    rw [hL]; unfold Lib.compactUpTo
    rw [List.length_map]
    have := List.length_filter_le (Lib.keeps xs.toArray) (List.range xs.length)
    simpa using this
  have hblk : ∀ (d : Array Int) (k : Nat), k ≠ g → (putRow (Value.int .i64) (Sort.ahead w q) g off d).heap[k]? = w.heap[k]? := fun d k hkg => by
    simp only [putRow, mapBlock, Sort.ahead, Array.getElem?_modify]
    rw [if_neg (fun e => hkg e.symm)]
  refine ⟨L, rfl, by omega, ⟨h1, fun x => ?_⟩, ⟨rfl, fun i x hi => ⟨g, off, rfl, by simpa [putRow, mapBlock, Sort.ahead] using hgl, ?_⟩⟩, ⟨rfl, rfl, rfl, by simp [putRow, mapBlock, Sort.ahead], fun k _ hkg => hblk _ k fun e => hkg (by rw [e])⟩⟩
  · rw [h2]
    constructor
    · rintro ⟨j, hj, e⟩
      rw [getElem!_pos _ j (by simpa using hj)] at e
      rw [e]; simp
    · intro hm
      obtain ⟨j, hj, e⟩ := List.mem_iff_getElem.1 hm
      exact ⟨j, hj, by rw [getElem!_pos _ j (by simpa using hj)]; simp [e]⟩
  · have hi' := (List.getElem?_eq_some_iff.1 hi).1
    have hsz : (L ++ List.replicate (xs.length - L.length) (0 : Int)).toArray.size = xs.toArray.size := by simp; omega
    have hW := holds_sortWorld (Value.int .i64) w g off q xs.toArray (L ++ List.replicate (xs.length - L.length) (0 : Int)).toArray #[] hgl hH hsz
    have h3 := (hW i (by rw [hsz]; simp; omega)).1
    have e1 : (L ++ List.replicate (xs.length - L.length) (0 : Int)).toArray[i]! = x := by
      rw [getElem!_pos _ i (by rw [hsz]; simp; omega)]
      have := (List.getElem?_eq_some_iff.1 hi).2
      simp [List.getElem_append_left hi', this]
    rw [e1] at h3
    unfold sortWorld at h3
    rw [grow_empty] at h3
    exact h3
section
variable {P : Program}
/-- Many more elements, at the operation. -/
theorem row_append_many_op {w : World} {ops : Array Oper} {rest : List Oper} {o : Oper} {a : Act} {Q : Exit → Act → World → Prop} (base : Nat) (hgd : o.guard = none) (s x : Operand) (t e : TypeId) (z : Value) (size bytes : Nat)
    (ho : o.op = .call { callee := .builtin .append, args := #[s, x], argTypes := #[t, t] }) (ht : P.underlying t = some (.slice e)) (hi : (P.info? e).map (fun i => (i.zero, i.size, i.bytes)) = some (some z, size, bytes))
    (hzs : z.cells.size = size) (hsz : 0 < size) {v : Value} {n : Nat} {xs : List Value} (hown : Row w base e size v n xs) (hs : a.eval s = v)
    (ad : Addr) (m c : Nat) (news : List Value) (hx : a.eval x = .slice (some ad) m c) (hl : news.length = m * size) (hnews : ∀ j u, news[j]? = some u → w.cell? (ad.add j) = some u) (h1 : ∀ u ∈ news, u.oneCell' = true) (hm : 0 < m)
    (hn : (n + m) * bytes ≤ 140737488355328) (hn2 : n + m ≤ maxLen) (hbase : base ≤ w.heap.size)
    (h : ∀ v' w', Row w' base e size v' (n + m) (xs ++ news) → w.grownBy w' v.ownBlock → wpList P ops Q rest (a.put o.dst v') w') : wpList P ops Q (o :: rest) a w := by
  refine wpList_plain hgd fun K hK => ?_
  cases hq : P.info? e with
  | none => simp [hq] at hi
  | some i =>
    simp only [hq, Option.map_some, Option.some.injEq, Prod.mk.injEq] at hi
    obtain ⟨v', w', hr, h2, h3, h4⟩ := row_append (P := P) w base t o.type e i z size bytes ht hq hi.1 hi.2.1 hi.2.2 hzs hsz v n xs hown ad m c news hl hnews h1 hm hn2 hn hbase
    unfold Oper.wp execOp
    simp only [ho, resolve, invoke, builtin, Sem.run_bind, Sem.run_pure, Result.andThen_ok, List.map_toArray, List.map_cons, List.map_nil, hs, hx, hr]
    exact hK _ _ (h v' w' h2 h3)
end

end Go.Proofs.Ytagekhgfoabgbaa
end

section
/- results: what all ends of a history give. -/
set_option linter.unusedSimpArgs false
set_option linter.unusedVariables false
namespace Go.Proofs.Ytagekhgfoabgbaa
open Go.RowKit Go.Maps

/-- What is asked of the function that results is handed: it gives a few numbers for a stage. -/
def GivePost (G : Sg → Int → Prop) (K : Nat) (s : Sg) (W : World) (e : Ending) (w' : World) : Prop :=
  ∃ A l c, e = .returned (.slice A l.length c) ∧ 0 < l.length ∧ l.length ≤ K ∧ IntsAt w' A l.length l ∧ (∀ x, x ∈ l ↔ G s x) ∧ Below W.heap.size W w'
def GiveAt (h : Hist) (fg : Nat) (lb : Array Value) (G : Sg → Int → Prop) (K : Nat) (W0 : World) : Prop :=
  ∀ (W : World) (g : Nat) (s : Sg) (bf : Option Nat), Below W0.heap.size W0 W → StB W g s bf → StOk h s → Calls Try.prog fg (#[ptr g] ++ lb) W (GivePost G K s W)
def ResultsPost (h : Hist) (G : Sg → Int → Prop) (w : World) (e : Ending) (w' : World) : Prop :=
  Below w.heap.size w w' ∧ ((¬ legalP h ∧ e = .returned (.tuple #[.slice none 0 0, .int .i64 3])) ∨
    (legalP h ∧ ∃ A L c, e = .returned (.tuple #[.slice A L.length c, .int .i64 0]) ∧ IntsAt w' A L.length L ∧ L.length ≤ c ∧ L.Pairwise (· < ·) ∧ ∀ x, x ∈ L ↔ ∃ s, Reach h s ∧ fullS h s ∧ G s x))
/-- The loop over the ends: j of them are behind it; W1 is the world behind the search. -/
def RS (G : Sg → Int → Prop) (K : Nat) (W1 : World) (E : List (Nat × List Sg)) (j : Nat) (v : Value) (wr : World) : Prop :=
  ∃ xs : List Int, Row wr W1.heap.size 3 1 v xs.length (xs.map gI) ∧ (∀ x, x ∈ xs ↔ ∃ (i : Nat) (p : Nat × List Sg), i < j ∧ E[i]? = some p ∧ G (hd p.2) x) ∧ j ≤ xs.length ∧ xs.length ≤ K * j ∧ Below W1.heap.size W1 wr
theorem RS.add {G : Sg → Int → Prop} {K : Nat} {W1 wr w3 w4 : World} {E : List (Nat × List Sg)} {j : Nat} {v v' : Value} {xs l : List Int} {p : Nat × List Sg} (h1 : Row wr W1.heap.size 3 1 v xs.length (xs.map gI)) (h2 : ∀ x, x ∈ xs ↔ ∃ (i : Nat) (p : Nat × List Sg), i < j ∧ E[i]? = some p ∧ G (hd p.2) x) (h3 : j ≤ xs.length) (h4 : xs.length ≤ K * j) (h5 : Below W1.heap.size W1 wr)
    (hp : E[j]? = some p) (hl : 0 < l.length) (hK : l.length ≤ K) (hlG : ∀ x, x ∈ l ↔ G (hd p.2) x) (hb : Below wr.heap.size wr w3) (hrow : Row w4 W1.heap.size 3 1 v' (xs.length + l.length) (xs.map gI ++ l.map gI)) (hg : w3.grownBy w4 v.ownBlock) : RS G K W1 E (j + 1) v' w4 := by
  refine ⟨xs ++ l, by rw [List.length_append, List.map_append]; exact hrow, fun x => ?_, by simp; omega, by rw [List.length_append, Nat.mul_succ]; omega, ?_⟩
  · rw [List.mem_append, h2, hlG]
    constructor
    · rintro (⟨i, q, hi, hq, hx⟩ | hx)
      · exact ⟨i, q, by omega, hq, hx⟩
      · exact ⟨j, p, by omega, hp, hx⟩
    · rintro ⟨i, q, hi, hq, hx⟩
      by_cases e : i < j
      · exact .inl ⟨i, q, e, hq, hx⟩
      · obtain rfl : i = j := by omega
        rw [hp] at hq; injection hq with hq; subst hq
        exact .inr hx
  · have hb3 := h5.trans (hb.mono h5.size)
    exact hb3.trans (grown_below' hg (fun k hk => (row_typed h1 k hk).1) hb3.size)

theorem ints_news {w : World} {g o n : Nat} {l : List Int} (h : IntsAt w (some ⟨g, o, none⟩) n l) {j : Nat} {u : Value} (hu : (l.map gI)[j]? = some u) : w.cell? ((⟨g, o, none⟩ : Addr).add j) = some u := by
  rw [List.getElem?_map] at hu
  cases hj : l[j]? with
  | none => rw [hj] at hu; cases hu
  | some x =>
    rw [hj] at hu
    obtain ⟨g', o', he, _, hc⟩ := h.2 j x hj
    injection he with he
    injection he with e1 e2 _
    subst e1; subst e2
    rw [addr_add, hc]
    exact hu
set_option maxRecDepth 100000 in
set_option maxHeartbeats 4000000 in
theorem results_any (w : World) (h : Hist) (A : Option Addr) (n c b fg K : Nat) (lb : Array Value) (G : Sg → Int → Prop) (v : Vd h) (hC : CmdsAt w A n h.cmds) (hnc : n ≤ c) (hb : (b : Int) < h.blocks) (eg : ∀ args w, (callFunc fg args).run Try.prog w = .ok (.enter fg args) w)
    (hG : GiveAt h fg lb G K w) (hGA : ∀ s t x, Alike s t → (G s x ↔ G t x)) (hK : K ≤ 10) :
    Calls Try.prog 32 #[hV h.blocks A n c, gI b, .func (.func fg) #[] lb] w (ResultsPost h G w) := by
  have hCW0 : CW h w A n c (w.alloc (.cells #[gI h.blocks, .slice A n c] 24)) := ⟨below_alloc0 _ _, heap_alloc_new _ _⟩
  have hcw : ∀ W, Below (w.alloc (.cells #[gI h.blocks, .slice A n c] 24)).heap.size (w.alloc (.cells #[gI h.blocks, .slice A n c] 24)) W → W.cell? ⟨w.heap.size, 0, none⟩ = some (gI h.blocks) ∧ W.cell? ⟨w.heap.size, 1, none⟩ = some (.slice A n c) ∧ CW h w A n c W ∧ CmdsAt W A n h.cmds := fun W hW => by
    have hx := (hCW0.next hW).2
    unfold Boxed at hx
    exact ⟨by rw [cell_of_row _ _ 0 _ _ _ hx]; rfl, by rw [cell_of_row _ _ 1 _ _ _ hx]; rfl, hCW0.next hW, hC.below (hCW0.next hW).1 (Nat.le_refl _)⟩
  have HCW := Lib.hid hcw
  have hwb : wi (b : Int) 0 (h.blocks - 1) = true := (wi_iff _ _ _).2 (by omega)
  have hbl := v.ok.blocks
  have HWB := Lib.hid hwb
  have HG := Lib.hid hG
  have HGA := Lib.hid hGA
  have hck := check_any (w.alloc (.cells #[gI h.blocks, .slice A n c] 24)) h A n c v.chk (HCW.out _ (Below.refl _ _)).2.2.2 hnc
  clear hcw hCW0 hwb hG hGA
  go_enter Try.func32, Try.ntmps32
  go_wp2_with (first
    | (go_at_call 22; refine hck.mono ?_; rintro e w9 ⟨rfl, hb9⟩; obtain ⟨y0, y1, hcw9, hC9⟩ := HCW.out _ hb9; have hends := ends_any w9 h A n c v.ok hC9 hnc)
    | (go_at_call 28; refine (within_is _ _ _ HWB.out _).mono ?_; rintro e w' ⟨rfl, rfl⟩))
  refine hends.mono ?_
  intro e w10 he
  obtain ⟨E, ev, rfl, hrow, hE, hall, hEl, hb10⟩ := he
  obtain ⟨A2, c2, hev, _⟩ := row_slice hrow
  subst hev
  have hb0 := hcw9.1.trans (hb10.mono hcw9.1.size)
  have hlegal : 0 < E.length ↔ legalP h := ⟨fun h0 => by
    obtain ⟨p, hp⟩ := List.exists_mem_of_length_pos h0
    obtain ⟨_, _, h1, h2⟩ := hE p hp
    exact ⟨_, h1.reach, h2⟩, fun ⟨s, hr, hf⟩ => by
    obtain ⟨p, hp, _⟩ := hall s hr hf
    exact List.length_pos_of_mem hp⟩
  have hEl2 : E.length ≤ 1200000000000 := Nat.le_trans hEl wgt6
  have HE := Lib.hid (And.intro hrow (And.intro hE hall))
  have HL := Lib.hid hlegal
  have HB0 := Lib.hid hb0
  have HR0 := Lib.hid (show RS G K w10 E 0 (.slice none 0 0) w10 from ⟨[], row_nil _ _ _ _, fun x => by simp, Nat.le_refl _, by simp, Below.refl _ _⟩)
  clear hends hrow hE hall hEl hb10 hlegal hb0 hcw9 hC9 hck y0 y1 hb9 HCW
  obtain ⟨NE, hNE⟩ : ∃ NE, NE = E.length := ⟨_, rfl⟩
  rw [← hNE] at hEl2 ⊢
  have HNE := Lib.hid hNE
  clear hNE
  go_wp2_with fail
  go_loopw [9, 26] (fun v i wr => ∃ j : Nat, j ≤ NE ∧ i = .int .i64 j ∧ RS G K w10 E j v wr) (fun _ i _ => NE - (intOf i).toNat)
  case atStart => exact ⟨0, Nat.zero_le _, rfl, HR0.out⟩
  case round =>
    clear HR0
    obtain ⟨j, hj, rfl, hR⟩ := hrel
    by_cases hlt : j < NE
    · obtain ⟨xs, r1, r2, r3, r4, r5⟩ := hR
      obtain ⟨p, hp⟩ : ∃ p, E[j]? = some p := ⟨_, List.getElem?_eq_getElem (by rw [← HNE.out]; exact hlt)⟩
      obtain ⟨hst, _, hpath, _⟩ := HE.out.2.1 p (List.mem_of_getElem? hp)
      obtain ⟨s1, q1, e1, hsok, _, _⟩ := hpath.ok v.ok
      have hhd : hd p.2 = s1 := by rw [e1]; rfl
      obtain ⟨bf, hSB⟩ : ∃ bf, StB w10 p.1 s1 bf := by rw [e1] at hst; exact hst.head
      obtain ⟨ge, oe, ce, hev, _, _, hgel, hcells⟩ := row_cells HE.out.1 (by rw [← HNE.out]; omega)
      injection hev with hA2 hnl2 hc2
      clear hnl2
      subst hA2; subst hc2
      have hce : wr.cell? ⟨ge, oe + j, none⟩ = some (ptr p.1) := (r5.cell (p := ⟨ge, oe + j, none⟩) hgel).trans (hcells j _ (by rw [List.getElem?_map, hp]; rfl))
      have hgive := HG.out wr p.1 s1 bf (HB0.out.trans (r5.mono HB0.out.size)) (hSB.below r5 (Nat.le_refl _)) hsok
      obtain ⟨gp, hgp⟩ : ∃ gp, gp = p.1 := ⟨_, rfl⟩
      rw [← hgp] at hce hgive
      have hjz : (j : Int) < (NE : Int) := by omega
      have hxl : xs.length ≤ 10 * 1200000000000 := by have := Nat.mul_le_mul hK (show j ≤ 1200000000000 by omega); omega
      have HXS := Lib.hid (And.intro r1 (And.intro r2 (And.intro r3 (And.intro r4 r5))))
      have HP := Lib.hid (show E[j]? = some p ∧ hd p.2 = s1 from ⟨hp, hhd⟩)
      have hws : w10.heap.size ≤ wr.heap.size := r5.size
      have HGV := Lib.hid hgive
      clear r1 r2 r3 r4 r5 hp hst hpath e1 hsok hhd hSB hgel hcells hgp hgive
      go_wp2_with (first
        | (go_at_fn fg; go_must (refine HGV.out.mono ?_; rintro e w11 ⟨A3, l, c3, rfl, hl0, hlK, hIl, hlG, hb11⟩; obtain ⟨g3, o3, hA3, hq1, hq2⟩ := hIl.2 0 _ (List.getElem?_eq_getElem hl0); clear hq1 hq2; subst hA3; have HIL := Lib.hid hIl; have hll : l.length ≤ 10 := Nat.le_trans hlK hK; have hs11 := hb11.size; have HLL := Lib.hid (And.intro hl0 (And.intro hlK (And.intro hlG hb11))); clear hIl hl0 hlK hlG hb11))
        | (at_builtin; go_must (refine row_append_many_op w10.heap.size rfl _ _ 40 3 _ 1 8 rfl Try.underlying40 info3' (by rfl) (by decide) (row_below HXS.out.1 HLL.out.2.2.2) rfl ⟨g3, o3, none⟩ l.length c3 (l.map gI) rfl (by simp) (fun jj u hu => ints_news HIL.out hu) (by simp [Value.oneCell']) HLL.out.1 (by omega) (by unfold maxLen; omega) (by omega) ?_); intro v' w4 hrow4 hg4; have HNX := Lib.hid (RS.add HXS.out.1 HXS.out.2.1 HXS.out.2.2.1 HXS.out.2.2.2.1 HXS.out.2.2.2.2 HP.out.1 HLL.out.1 HLL.out.2.1 (by rw [HP.out.2]; exact HLL.out.2.2.1) HLL.out.2.2.2 hrow4 hg4); clear hrow4 hg4))
      go_roundw
      case rel => exact ⟨j + 1, by omega, by go_num, HNX.out⟩
      case measure => simp [intOf]; omega
    · have hjn : j = NE := by omega
      subst hjn
      obtain ⟨xs, r1, r2, r3, r4, r5⟩ := hR
      have hxl : xs.length ≤ 10 * 1200000000000 := by have := Nat.mul_le_mul hK (show j ≤ 1200000000000 by omega); omega
      have hout : ∀ x, x ∈ xs ↔ ∃ s, Reach h s ∧ fullS h s ∧ G s x := fun x => by
        rw [r2]
        constructor
        · rintro ⟨i, p, _, hp, hx⟩
          obtain ⟨_, _, h1, h2⟩ := HE.out.2.1 p (List.mem_of_getElem? hp)
          exact ⟨_, h1.reach, h2, hx⟩
        · rintro ⟨s, hr, hf, hx⟩
          obtain ⟨p, hp, ha⟩ := HE.out.2.2 s hr hf
          obtain ⟨i, hi, e⟩ := List.mem_iff_getElem.1 hp
          exact ⟨i, p, by rw [HNE.out]; exact hi, by rw [List.getElem?_eq_getElem hi, e], (HGA.out _ _ x ha).1 hx⟩
      by_cases h0 : j = 0
      · subst h0
        have hx0 : xs.length = 0 := by simpa using r4
        obtain ⟨A5, c5, hv5, _⟩ := row_slice r1
        rw [hx0] at hv5
        subst hv5
        have HF := Lib.hid (show Below w.heap.size w wr ∧ ¬ legalP h from ⟨HB0.out.trans (r5.mono HB0.out.size), fun hl => by have := HL.out.2 hl; have := HNE.out; omega⟩)
        clear r1 r2 r3 r4 r5 hout hx0
        go_wp2_with fail
        go_ret2
        exact ⟨HF.out.1, .inl ⟨HF.out.2, rfl⟩⟩
      · have hx0 : 0 < xs.length := by omega
        obtain ⟨g5, o5, c5, hv5, hc5, hgb5, hgl5, hcells5⟩ := row_cells r1 hx0
        obtain ⟨_, cs5, hcs5⟩ := row_typed r1 g5 (by rw [hv5]; simp [Value.ownBlock])
        subst hv5
        have hsort := sortInts_any wr g5 o5 c5 xs cs5 hcs5 (fun i x hi => hcells5 i _ (by rw [List.getElem?_map, hi]; rfl)) (by omega)
        have HF := Lib.hid (show Below w.heap.size w wr ∧ legalP h ∧ w.heap.size ≤ g5 from ⟨HB0.out.trans (r5.mono HB0.out.size), HL.out.1 (by have := HNE.out; omega), by have := HB0.out.size; omega⟩)
        have HOUT := Lib.hid hout
        obtain ⟨NX, hNX⟩ : ∃ NX, NX = xs.length := ⟨_, rfl⟩
        rw [← hNX] at hsort hx0 ⊢
        have hnxz : ((NX : Int) == 0) = false := by simp; omega
        have hnxn : (NX == 0) = false := by simp; omega
        have HNX := Lib.hid (show NX = xs.length ∧ xs.length ≤ c5 ∧ xs.length ≤ 10 * 1200000000000 from ⟨hNX, hc5, hxl⟩)
        clear r1 r2 r3 r4 r5 hout hcells5 hcs5 hNX hc5
        go_wp2_with (first
          | (go_at_call 45; go_must (refine hsort.mono ?_; rintro e w12 ⟨rfl, hgr, ⟨cs6, hcs6⟩, ys, hyl, hym, hyp, hyc⟩; have hcomp := compactInts_any w12 g5 o5 c5 ys cs6 hcs6 hyc (by have := HNX.out; omega) (by have := HNX.out; omega) hyp; rw [hyl] at hcomp; have HYM := Lib.hid (And.intro hgr hym); clear hgr hym hcs6 hyc hyl hyp))
          | (go_at_call 46; go_must (refine hcomp.mono ?_; rintro e w13 ⟨L, rfl, hLc, hLs, hLi, hgr2⟩)))
        go_ret2
        refine ⟨?_, .inr ⟨HF.out.2.1, _, L, c5, rfl, hLi, hLc, hLs.1, fun x => ?_⟩⟩
        · exact (HF.out.1.trans (grown_below' HYM.out.1 (fun k hk => by injection hk with hk; have := HF.out.2.2; omega) HF.out.1.size)).trans (grown_below' hgr2 (fun k hk => by injection hk with hk; have := HF.out.2.2; omega) (by have := HF.out.1.size; have := HYM.out.1.size; omega))
        · rw [hLs.2, HYM.out.2, HOUT.out]

end Go.Proofs.Ytagekhgfoabgbaa
end

section
/- Reads. -/
set_option linter.unusedSimpArgs false
set_option linter.unusedVariables false
namespace Go.Proofs.Ytagekhgfoabgbaa
open Go.RowKit Go.Maps

def GR (h : Hist) (b : Nat) (s : Sg) (x : Int) : Prop := x = resultS h s b
set_option maxHeartbeats 1000000 in
theorem reads1_any (W : World) (h : Hist) (A : Option Addr) (n c b g gh gb : Nat) (s : Sg) (bf : Option Nat) (hC : CmdsAt W A n h.cmds) (hnc : n ≤ c) (hh : W.heap[gh]? = some (.cells #[gI h.blocks, .slice A n c] 24 (0, 0))) (hb : W.heap[gb]? = some (.cells #[gI b] 3 (0, 0))) (hb6 : b < 6) (hS : StB W g s bf) (hs : StOk h s) :
    Calls Try.prog 33 #[ptr g, ptr gh, ptr gb] W (GivePost (GR h b) 1 s W) := by
  have x0 : W.cell? ⟨gh, 0, none⟩ = some (gI h.blocks) := by rw [cell_of_row _ _ 0 _ _ _ hh]; rfl
  have x1 : W.cell? ⟨gh, 1, none⟩ = some (.slice A n c) := by rw [cell_of_row _ _ 1 _ _ _ hh]; rfl
  have x2 : W.cell? ⟨gb, 0, none⟩ = some (gI b) := by rw [cell_of_row _ _ 0 _ _ _ hb]; rfl
  have hres := result_any W g b s bf h A n c hS hC hnc hb6 hs.ords.len (fun o ho => ⟨(hs.ords.each o ho).1, (hs.ords.each o ho).2.1⟩)
  obtain ⟨r, hr⟩ : ∃ r, r = resultS h s b := ⟨_, rfl⟩
  rw [← hr] at hres
  have HR := Lib.hid hr
  clear hr hh hb hC hS
  go_enter Try.func33, Try.ntmps33
  go_wp2_with (go_at_call 34; refine hres.mono ?_; rintro e w9 ⟨rfl, hb9⟩)
  go_ret
  refine ⟨_, [r], _, rfl, by simp, by simp, ⟨rfl, fun i x hi => ⟨_, _, rfl, by simp, ?_⟩⟩, fun x => ?_, hb9.alloc hb9.size _⟩
  · cases i with
    | zero =>
      simp at hi; subst hi
      rw [cell_of_row _ _ _ _ _ _ (heap_alloc_new w9 _)]; rfl
    | succ i => simp at hi
  · unfold GR; rw [← HR.out]; simp
theorem GR_alike {h : Hist} {b : Nat} (s t : Sg) (x : Int) (a : Alike s t) : GR h b s x ↔ GR h b t x := by unfold GR; rw [a.result]
set_option maxHeartbeats 1000000 in
theorem reads_any (w : World) (h : Hist) (A : Option Addr) (n c b : Nat) (v : Vd h) (hC : CmdsAt w A n h.cmds) (hnc : n ≤ c) (hb : (b : Int) < h.blocks) :
    Calls Try.prog 15 #[hV h.blocks A n c, gI b] w (ResultsPost h (GR h b) w) := by
  have hbk := v.ok.blocks
  obtain ⟨W0, hW0⟩ : ∃ W0, W0 = (w.alloc (.cells #[gI h.blocks, .slice A n c] 24)).alloc (.cells #[gI b] 3) := ⟨_, rfl⟩
  have hB0 : Below w.heap.size w W0 := by rw [hW0]; exact (below_alloc0 w _).alloc (by simp) _
  have hx0 : W0.heap[w.heap.size]? = some (.cells #[gI h.blocks, .slice A n c] 24 (0, 0)) := by rw [hW0]; exact (Below.heap_alloc _ _ _ (by simp)).trans (heap_alloc_new _ _)
  have hx1 : W0.heap[w.heap.size + 1]? = some (.cells #[gI b] 3 (0, 0)) := by rw [hW0]; exact heap_alloc2_new _ _ _
  have hC0 : CmdsAt W0 A n h.cmds := hC.below hB0 (Nat.le_refl _)
  have hgive : GiveAt h 33 #[ptr w.heap.size, ptr (w.heap.size + 1)] (GR h b) 1 W0 := fun W g s bf hW hS hs =>
    reads1_any W h A n c b g w.heap.size (w.heap.size + 1) s bf (hC0.below hW (Nat.le_refl _)) hnc ((hW.block _ (Array.getElem?_eq_some_iff.1 hx0).1).trans hx0) ((hW.block _ (Array.getElem?_eq_some_iff.1 hx1).1).trans hx1) (by omega) hS hs
  have hr := results_any W0 h A n c b 33 1 #[ptr w.heap.size, ptr (w.heap.size + 1)] (GR h b) v hC0 hnc hb (enters_of Try.func33 (by kernel_rfl) rfl) hgive (fun s t x a => GR_alike s t x a) (by decide)
  rw [hW0] at hr
  have HW0 := Lib.hid hW0
  have HB0 := Lib.hid hB0
  clear hW0 hB0 hx0 hx1 hC0 hgive
  go_enter Try.func15, Try.ntmps15
  go_wp2_with fail
  refine hr.mono ?_
  intro e w9 he
  rw [← HW0.out] at he
  obtain ⟨hb9, ⟨hl, rfl⟩ | ⟨hl, A2, L, c2, rfl, h1, h2, h3, h4⟩⟩ := he
  · have HF := Lib.hid (And.intro hb9 hl)
    clear hb9 hl hr
    go_wp2_with fail
    go_ret2
    exact ⟨HB0.out.trans (HF.out.1.mono HB0.out.size), .inl ⟨HF.out.2, rfl⟩⟩
  · have HF := Lib.hid (And.intro hb9 (And.intro hl (And.intro h1 (And.intro h2 (And.intro h3 h4)))))
    clear hb9 hl hr h1 h2 h3 h4
    go_wp2_with fail
    go_ret2
    exact ⟨HB0.out.trans (HF.out.1.mono HB0.out.size), .inr ⟨HF.out.2.1, A2, L, c2, rfl, HF.out.2.2.1, HF.out.2.2.2.1, HF.out.2.2.2.2.1, HF.out.2.2.2.2.2⟩⟩

end Go.Proofs.Ytagekhgfoabgbaa
end

section
/- sameInts; the examples. -/
set_option linter.unusedSimpArgs false
set_option linter.unusedVariables false
namespace Go.Proofs.Ytagekhgfoabgbaa
open Go.RowKit Go.Maps

theorem IntsAt.get {w : World} {A : Option Addr} {n : Nat} {xs : List Int} (h : IntsAt w A n xs) {i : Nat} (hi : i < n) : ∃ g o, A = some ⟨g, o, none⟩ ∧ g < w.heap.size ∧ w.cell? ⟨g, o + i, none⟩ = some (gI (xs.getD i 0)) := by
  have hl := h.1
  refine h.2 i _ ?_
  rw [List.getD_eq_getElem?_getD, List.getElem?_eq_getElem (by omega)]; rfl
set_option maxHeartbeats 1000000 in
theorem sameInts_any (w : World) (A B : Option Addr) (n c m d : Nat) (xs ys : List Int) (hX : IntsAt w A n xs) (hY : IntsAt w B m ys) (hn : n ≤ 1000000000000000) :
    Calls Try.prog 17 #[.slice A n c, .slice B m d] w fun e w' => e = .returned (.bool (decide (xs = ys))) ∧ Below w.heap.size w w' := by
  have hlx := hX.1
  have hly := hY.1
  by_cases hnm : n = m
  · subst hnm
    have HX := Lib.hid (And.intro hlx hly)
    clear hlx hly
    go_enter Try.func17, Try.ntmps17
    go_wp2_with fail
    go_loopw [5] (fun i wr => ∃ j : Nat, j ≤ n ∧ i = .int .i64 j ∧ (∀ k, k < j → xs.getD k 0 = ys.getD k 0) ∧ ∃ q, wr = w.drewN q) (fun i _ => n - (intOf i).toNat)
    case atStart => exact ⟨0, Nat.zero_le _, rfl, fun k hk => by omega, 0, rfl⟩
    case round =>
      obtain ⟨j, hj, rfl, hsame, q, rfl⟩ := hrel
      by_cases hlt : j < n
      · obtain ⟨gA, oA, hAe, _, hxc⟩ := hX.get hlt
        obtain ⟨gB, oB, hBe, _, hyc⟩ := hY.get hlt
        subst hAe; subst hBe
        obtain ⟨x, hx⟩ : ∃ x, x = xs.getD j 0 := ⟨_, rfl⟩
        obtain ⟨y, hy⟩ : ∃ y, y = ys.getD j 0 := ⟨_, rfl⟩
        rw [← hx] at hxc
        rw [← hy] at hyc
        have hjz : (j : Int) < (n : Int) := by omega
        have hj0 : (0 : Int) ≤ (j : Int) := by omega
        have HS := Lib.hid (show (∀ k, k < j → xs.getD k 0 = ys.getD k 0) ∧ x = xs.getD j 0 ∧ y = ys.getD j 0 from ⟨hsame, hx, hy⟩)
        clear hsame hx hy
        by_cases hxy : x = y
        · have hb : (x != y) = false := by simp [hxy]
          have HE := Lib.hid hxy
          clear hxy
          go_wp2_with fail
          go_quiet (fail)
          go_wp2_with fail
          go_roundw
          case rel => exact ⟨j + 1, by omega, by go_num, fun k hk => by
            by_cases e : k < j
            · exact HS.out.1 k e
            · obtain rfl : k = j := by omega
              rw [← HS.out.2.1, ← HS.out.2.2]; exact HE.out, _, by first | rfl | exact World.drewN_drewN _ _ _⟩
          case measure => simp [intOf]; omega
        · have hb : (x != y) = true := by simp [hxy]
          have HE := Lib.hid hxy
          clear hxy
          go_wp2_with fail
          go_quiet (fail)
          go_wp2_with fail
          go_ret
          refine ⟨ret_bool ?_, below_drewN (below_drewN (Below.refl _ _) _) _⟩
          simp
          intro e
          apply HE.out
          rw [HS.out.2.1, HS.out.2.2, e]
      · have hjn : j = n := by omega
        subst hjn
        have HS := Lib.hid hsame
        clear hsame
        go_wp2_with fail
        go_ret
        refine ⟨ret_bool ?_, below_drewN (Below.refl _ _) _⟩
        simp
        apply List.ext_getElem (by rw [HX.out.1, HX.out.2])
        intro k h1 h2
        have := HS.out k (by rw [← HX.out.1]; exact h1)
        rw [List.getD_eq_getElem?_getD, List.getD_eq_getElem?_getD, List.getElem?_eq_getElem h1, List.getElem?_eq_getElem h2] at this
        exact this
  · have hb : ((n : Int) != (m : Int)) = true := by simp; omega
    have hb2 : (n != m) = true := by simp; omega
    have hne : xs ≠ ys := fun e => hnm (by rw [← hlx, ← hly, e])
    have HE := Lib.hid hne
    clear hne hlx hly hnm
    go_enter Try.func17, Try.ntmps17
    go_wp2_with fail
    go_ret
    exact ⟨ret_bool (by simp [HE.out]), Below.refl _ _⟩

def exH : Hist := ⟨1, [⟨1, 0, 5, 1, 4⟩, ⟨10, 0, 0, 2, 3⟩, ⟨9, 0, 0, 6, 6⟩, ⟨10, 0, 5, 7, 8⟩]⟩
def exJ : Hist := ⟨1, [⟨2, 0, 5, 1, 2⟩, ⟨9, 0, 0, 3, 3⟩, ⟨10, 0, 0, 4, 5⟩]⟩
theorem exH_ok : Vd exH := validB_iff.1 (by decide)
theorem exJ_ok : Vd exJ := validB_iff.1 (by decide)
theorem cmds_block {X : World} {g : Nat} {l : List Cmd} (h : X.heap[g]? = some (.cells (cFlat l).toArray 36 (0, 0))) : CmdsAt X (some ⟨g, 0, none⟩) l.length l := by
  have hg := (Array.getElem?_eq_some_iff.1 h).1
  refine ⟨rfl, fun i x hi => ⟨g, 0, rfl, hg, ?_, ?_, ?_, ?_, ?_⟩⟩
  · rw [cell_of_row _ _ _ _ _ _ h]; have := cFlat_get hi (k := 0) rfl; simpa using this
  · rw [cell_of_row _ _ _ _ _ _ h]; have := cFlat_get hi (k := 1) rfl; simpa using this
  · rw [cell_of_row _ _ _ _ _ _ h]; have := cFlat_get hi (k := 2) rfl; simpa using this
  · rw [cell_of_row _ _ _ _ _ _ h]; have := cFlat_get hi (k := 3) rfl; simpa using this
  · rw [cell_of_row _ _ _ _ _ _ h]; have := cFlat_get hi (k := 4) rfl; simpa using this
theorem heap_four (w : World) (a b c d : Obj) : ((((w.alloc a).alloc b).alloc c).alloc d).drew.heap[w.heap.size]? = some a ∧ ((((w.alloc a).alloc b).alloc c).alloc d).drew.heap[w.heap.size + 1]? = some b ∧ ((((w.alloc a).alloc b).alloc c).alloc d).drew.heap[w.heap.size + 1 + 1]? = some c ∧
    ((((w.alloc a).alloc b).alloc c).alloc d).drew.heap[w.heap.size + 1 + 1 + 1]? = some d ∧ Below w.heap.size w ((((w.alloc a).alloc b).alloc c).alloc d).drew := by
  refine ⟨?_, ?_, ?_, ?_, ((((below_alloc0 w a).alloc (by simp) b).alloc (by simp; omega) c).alloc (by simp; omega) d).drew⟩
  · exact (Below.heap_alloc _ _ _ (by simp only [World.size_alloc]; omega)).trans ((Below.heap_alloc _ _ _ (by simp only [World.size_alloc]; omega)).trans ((Below.heap_alloc _ _ _ (by simp only [World.size_alloc]; omega)).trans (heap_alloc_new _ _)))
  · exact (Below.heap_alloc _ _ _ (by simp only [World.size_alloc]; omega)).trans ((Below.heap_alloc _ _ _ (by simp only [World.size_alloc]; omega)).trans (heap_alloc2_new _ _ _))
  · exact (Below.heap_alloc _ _ _ (by simp only [World.size_alloc]; omega)).trans (heap_alloc3_new _ _ _ _)
  · have := heap_alloc_new (((w.alloc a).alloc b).alloc c) d
    rw [World.size_alloc, World.size_alloc, World.size_alloc] at this
    exact this
set_option maxRecDepth 100000 in
set_option maxHeartbeats 1000000 in
theorem example_any (w : World) :
    Calls Try.prog 21 #[] w fun e w' => ∃ A c B d, e = .returned (.tuple #[hV 1 A 4 c, hV 1 B 3 d]) ∧ 4 ≤ c ∧ 3 ≤ d ∧ CmdsAt w' A 4 exH.cmds ∧ CmdsAt w' B 3 exJ.cmds ∧ Below w.heap.size w w' := by
  go_enter Try.func21, Try.ntmps21
  go_wp2_with fail
  go_region
  go_wp2_with fail
  obtain ⟨h0, h1, h2, h3, hB⟩ := heap_four w (.cells #[gI 1, .slice (some ⟨w.heap.size + 1 + 1, 0, none⟩) 4 4] 24) (.cells #[gI 1, .slice (some ⟨w.heap.size + 1 + 1 + 1, 0, none⟩) 3 3] 24) (.cells (cFlat exH.cmds).toArray 36) (.cells (cFlat exJ.cmds).toArray 36)
  obtain ⟨X, hX⟩ : ∃ X, X = ((((w.alloc (.cells #[gI 1, .slice (some ⟨w.heap.size + 1 + 1, 0, none⟩) 4 4] 24)).alloc (.cells #[gI 1, .slice (some ⟨w.heap.size + 1 + 1 + 1, 0, none⟩) 3 3] 24)).alloc (.cells (cFlat exH.cmds).toArray 36)).alloc (.cells (cFlat exJ.cmds).toArray 36)).drew := ⟨_, rfl⟩
  rw [← hX] at h0 h1 h2 h3 hB
  change bodyPost _ _ _ _ _ ((((w.alloc (.cells #[gI 1, .slice (some ⟨w.heap.size + 1 + 1, 0, none⟩) 4 4] 24)).alloc (.cells #[gI 1, .slice (some ⟨w.heap.size + 1 + 1 + 1, 0, none⟩) 3 3] 24)).alloc (.cells (cFlat exH.cmds).toArray 36)).alloc (.cells (cFlat exJ.cmds).toArray 36)).drew
  rw [← hX]
  clear hX
  have c0 : X.cell? ⟨w.heap.size, 0, none⟩ = some (gI 1) := by rw [cell_of_row _ _ 0 _ _ _ h0]; rfl
  have c1 : X.cell? ⟨w.heap.size, 1, none⟩ = some (.slice (some ⟨w.heap.size + 1 + 1, 0, none⟩) 4 4) := by rw [cell_of_row _ _ 1 _ _ _ h0]; rfl
  have d0 : X.cell? ⟨w.heap.size + 1, 0, none⟩ = some (gI 1) := by rw [cell_of_row _ _ 0 _ _ _ h1]; rfl
  have d1 : X.cell? ⟨w.heap.size + 1, 1, none⟩ = some (.slice (some ⟨w.heap.size + 1 + 1 + 1, 0, none⟩) 3 3) := by rw [cell_of_row _ _ 1 _ _ _ h1]; rfl
  refine bodyPost_ret (v := .tuple #[hV 1 (some ⟨w.heap.size + 1 + 1, 0, none⟩) 4 4, hV 1 (some ⟨w.heap.size + 1 + 1 + 1, 0, none⟩) 3 3]) ?_ rfl ⟨_, _, _, _, rfl, by decide, by decide, cmds_block h2, cmds_block h3, hB⟩
  simp [results, Try.f21, go_sem, c0, c1, d0, d1]

end Go.Proofs.Ytagekhgfoabgbaa
end
