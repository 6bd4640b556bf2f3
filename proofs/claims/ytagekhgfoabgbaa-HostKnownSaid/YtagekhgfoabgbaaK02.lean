/- Keys of shelves; rows of whole numbers that a call makes. -/
import Derived.Test.YtagekhgfoabgbaaK01
import Derived.DeepKeys4
import Derived.ArgAppend

section
/- Arrays and structs of whole numbers as keys of maps. -/
set_option linter.unusedSimpArgs false
set_option linter.unusedVariables false
namespace Go.Proofs.Ytagekhgfoabgbaa
open Go.RowKit Go.Maps

theorem mapM_some {α β : Type} {f : α → Option β} : ∀ {l : List α}, (∀ x ∈ l, ∃ y, f x = some y) → ∃ ys, l.mapM f = some ys
  | [], _ => ⟨[], rfl⟩
  | a :: r, h => by
    obtain ⟨y, hy⟩ := h a (by simp)
    obtain ⟨ys, hys⟩ := mapM_some (l := r) fun x hx => h x (by simp [hx])
    exact ⟨y :: ys, by rw [List.mapM_cons, hy, hys]; rfl⟩

/-- Numbers that an int holds, with room to spare. -/
def Mild (xs : List Int) : Prop := ∀ x ∈ xs, -1000000 ≤ x ∧ x ≤ 1000000
/-- Whatever mild numbers lie in a variable of type t, of c cells, it is a key. -/
def Lits (P : Program) (d : Nat) (t : TypeId) (c : Nat) : Prop := P.cellsOf t = c ∧ ∀ xs : List Int, xs.length = c → Mild xs → ∃ l, P.keyLits d t (xs.map (Value.int .i64)) = some l
theorem Mild.part {xs : List Int} (h : Mild xs) (o n : Nat) : Mild ((xs.drop o).take n) := fun x hx => h x (List.mem_of_mem_drop (List.mem_of_mem_take hx))

theorem lits_int {P : Program} {t : TypeId} (d : Nat) (hu : P.underlying t = some (.int .i64)) (hc : P.cellsOf t = 1) : Lits P (d + 1) t 1 := by
  refine ⟨hc, fun xs hl hm => ?_⟩
  match xs, hl with
  | [x], _ =>
    have hx := hm x (by simp)
    exact ⟨[.int .i64 x], by simp [Program.keyLits, hu, wf64 x hx.1 hx.2]⟩
theorem lits_arr {P : Program} {t e : TypeId} {n c : Nat} (d : Nat) (hu : P.underlying t = some (.array n e)) (hc : P.cellsOf t = n * c) (he : Lits P d e c) : Lits P (d + 1) t (n * c) := by
  refine ⟨hc, fun xs hl hm => ?_⟩
  have h1 : ∃ ys, (List.range n).mapM (fun i => P.keyLits d e (((xs.map (Value.int .i64)).drop (i * P.cellsOf e)).take (P.cellsOf e))) = some ys := by
    refine mapM_some fun i hi => ?_
    rw [he.1, ← List.map_drop, ← List.map_take]
    refine he.2 _ ?_ (hm.part _ _)
    have hi' : i < n := by simpa using hi
    have : (i + 1) * c ≤ n * c := Nat.mul_le_mul_right c hi'
    have e1 : (i + 1) * c = i * c + c := Nat.succ_mul i c
    simp
    omega
  obtain ⟨ys, hys⟩ := h1
  refine ⟨ys.flatten, ?_⟩
  have hlen : (xs.map (Value.int .i64)).length = P.cellsOf t := by rw [hc]; simpa using hl
  unfold Program.keyLits
  rw [hu]
  simp only [hlen, if_true, hys, Option.map_some]
theorem lits_struct {P : Program} {t : TypeId} {fs : Array Field} {c : Nat} (d : Nat) (hu : P.underlying t = some (.struct fs)) (hc : P.cellsOf t = c) (hn : fs.all (·.name != "_") = true)
    (hf : ∀ f ∈ fs.toList, ∃ k, Lits P d f.type k ∧ f.offset + k ≤ c) : Lits P (d + 1) t c := by
  refine ⟨hc, fun xs hl hm => ?_⟩
  have h1 : ∃ ys, fs.toList.mapM (fun f => P.keyLits d f.type (((xs.map (Value.int .i64)).drop f.offset).take (P.cellsOf f.type))) = some ys := by
    refine mapM_some fun f hfm => ?_
    obtain ⟨k, hk, hle⟩ := hf f hfm
    rw [hk.1, ← List.map_drop, ← List.map_take]
    refine hk.2 _ ?_ (hm.part _ _)
    simp
    omega
  obtain ⟨ys, hys⟩ := h1
  refine ⟨ys.flatten, ?_⟩
  have hlen : (xs.map (Value.int .i64)).length = P.cellsOf t := by rw [hc]; simpa using hl
  unfold Program.keyLits
  rw [hu]
  simp only [hlen, hn, and_self, if_true, hys, Option.map_some]

theorem many_types : Nat.ble 4 Try.prog.types.size = true := by kernel_rfl
theorem deep5 : ∃ d, Try.prog.types.size + 1 = d + 5 := by
  have := Nat.le_of_ble_eq_true many_types
  exact ⟨Try.prog.types.size - 4, by omega⟩
theorem lits3 (d : Nat) : Lits Try.prog (d + 1) 3 1 := lits_int d Try.underlying3 (by kernel_rfl)
theorem lits63 (d : Nat) : Lits Try.prog (d + 2) 63 6 := lits_arr (d + 1) Try.underlying63 (by kernel_rfl) (lits3 d)
theorem lits84 (d : Nat) : Lits Try.prog (d + 3) 84 66 := lits_arr (n := 11) (c := 6) (d + 2) Try.underlying84 (by kernel_rfl) (lits63 d)
theorem lits70 (d : Nat) : Lits Try.prog (d + 2) 70 10 := lits_arr (n := 10) (c := 1) (d + 1) Try.underlying70 (by kernel_rfl) (lits3 d)
theorem lits86 (d : Nat) : Lits Try.prog (d + 4) 86 73 := by
  refine lits_struct (d + 3) Try.underlying86 (by kernel_rfl) (by kernel_rfl) fun f hf => ?_
  simp only [List.mem_cons, List.not_mem_nil, or_false] at hf
  rcases hf with rfl | rfl | rfl
  · exact ⟨6, lits63 (d + 1), by decide⟩
  · exact ⟨1, lits3 (d + 2), by decide⟩
  · exact ⟨66, lits84 d, by decide⟩
theorem lits72 (d : Nat) : Lits Try.prog (d + 4) 72 18 := by
  refine lits_struct (d + 3) Try.underlying72 (by kernel_rfl) (by kernel_rfl) fun f hf => ?_
  simp only [List.mem_cons, List.not_mem_nil, or_false] at hf
  rcases hf with rfl | rfl | rfl | rfl
  · exact ⟨1, lits3 (d + 2), by decide⟩
  · exact ⟨1, lits3 (d + 2), by decide⟩
  · exact ⟨10, lits70 (d + 1), by decide⟩
  · exact ⟨6, lits63 (d + 1), by decide⟩

theorem key_of_lits {P : Program} {t : TypeId} {c : Nat} (hL : Lits P (P.types.size + 1) t c) (hd : (match P.underlying t with | some (.array _ _) | some (.struct _) => true | _ => false) = true) (hk : P.keyType t = true)
    {xs : List Int} (hl : xs.length = c) (hm : Mild xs) : ∃ l, keyOf P t (.agg (ints xs)) = some l := by
  obtain ⟨ls, h⟩ := hL.2 xs hl hm
  have hcl : (Value.agg (ints xs)).cells.toList = xs.map (Value.int .i64) := by simp [Value.cells, ints]
  have hf : Value.formed P t (.agg (ints xs)) = true := by
    unfold Value.formed
    split at hd
    · rename_i hq; rw [hq]; simp [ints_size, hL.1, hl]
    · rename_i hq; rw [hq]; simp [ints_size, hL.1, hl]
    · cases hd
  unfold keyOf
  split at hd
  · rename_i hq; rw [hq]; simp only [hk, hf, Bool.and_self, if_true, hcl, h, Option.map_some]; exact ⟨_, rfl⟩
  · rename_i hq; rw [hq]; simp only [hk, hf, Bool.and_self, if_true, hcl, h, Option.map_some]; exact ⟨_, rfl⟩
  · cases hd
theorem key86 {xs : List Int} (hl : xs.length = 73) (hm : Mild xs) : ∃ l, keyOf Try.prog 86 (.agg (ints xs)) = some l := by
  obtain ⟨d, hd⟩ := deep5
  exact key_of_lits (by rw [hd]; exact lits86 (d + 1)) (by kernel_rfl) (by kernel_rfl) hl hm
theorem key63 {xs : List Int} (hl : xs.length = 6) (hm : Mild xs) : ∃ l, keyOf Try.prog 63 (.agg (ints xs)) = some l := by
  obtain ⟨d, hd⟩ := deep5
  exact key_of_lits (by rw [hd]; exact lits63 (d + 3)) (by kernel_rfl) (by kernel_rfl) hl hm
theorem key72 {xs : List Int} (hl : xs.length = 18) (hm : Mild xs) : ∃ l, keyOf Try.prog 72 (.agg (ints xs)) = some l := by
  obtain ⟨d, hd⟩ := deep5
  exact key_of_lits (by rw [hd]; exact lits72 (d + 1)) (by kernel_rfl) (by kernel_rfl) hl hm

theorem laidOut : laidOutB Try.prog = true := by kernel_rfl
theorem row86 : 86 < Try.prog.types.size := of_decide_eq_true (by kernel_rfl)
theorem law86 : Keyed Try.prog 86 := .of_law (deep_law_laid laidOut (m := 20) (by decide) row86 (by kernel_rfl) (by kernel_rfl))
theorem row63 : 63 < Try.prog.types.size := of_decide_eq_true (by kernel_rfl)
theorem law63 : Keyed Try.prog 63 := .of_law (deep_law_laid laidOut (m := 20) (by decide) row63 (by kernel_rfl) (by kernel_rfl))
theorem row72 : 72 < Try.prog.types.size := of_decide_eq_true (by kernel_rfl)
theorem law72 : Keyed Try.prog 72 := .of_law (deep_law_laid laidOut (m := 20) (by decide) row72 (by kernel_rfl) (by kernel_rfl))
theorem agg_inj (xs ys : List Int) (h : Value.agg (ints xs) = Value.agg (ints ys)) : xs = ys := by
  injection h with h
  have h2 : xs.map (Value.int .i64) = ys.map (Value.int .i64) := by simpa [ints] using h
  exact (List.map_inj_right (fun a b h => by injection h)).1 h2

end Go.Proofs.Ytagekhgfoabgbaa
end

section
/- Slices of the call's own, which may begin inside their block: nothing, one more element, the head cut off. (The laws follow the printed words of the kit's print.sh.) -/
set_option linter.unusedSimpArgs false
set_option linter.unusedVariables false
namespace Go.Proofs.Ytagekhgfoabgbaa
open Go.RowKit

/-- The slice v, of n elements of type e (size cells each), lies in a block from base on (or nowhere) and has the cells xs. -/
def Row (w : World) (base : Nat) (e : TypeId) (size : Nat) (v : Value) (n : Nat) (xs : List Value) : Prop :=
  xs.length = n * size ∧
  ((n = 0 ∧ ∃ A : Option Addr, v = .slice A 0 0 ∧ ∀ a, A = some a → base ≤ a.block ∧ ∃ cells, w.heap[a.block]? = some (.cells cells e (0, 0))) ∨
   ∃ g off cap cur, v = .slice (some ⟨g, off * size, none⟩) n cap ∧ base ≤ g ∧ w.heap[g]? = some (.cells cur e (0, 0)) ∧ n ≤ cap ∧ cap ≤ maxLen ∧ cur.size = (off + cap) * size ∧ (cur.toList.drop (off * size)).take (n * size) = xs)

section
variable {w w' : World} {base e size n : Nat} {v : Value} {xs : List Value}

theorem row_nil (w : World) (base e size : Nat) : Row w base e size (.slice none 0 0) 0 [] := ⟨by simp, .inl ⟨rfl, none, rfl, fun a h => by cases h⟩⟩
theorem row_of_own (h : w.ownsRow base e size v n xs) : Row w base e size v n xs := by
  obtain ⟨h1, h2⟩ := h
  refine ⟨h1, ?_⟩
  rcases h2 with ⟨rfl, rfl⟩ | ⟨g, cap, cur, rfl, hb, hh, hn, hm, hs, ht⟩
  · exact .inl ⟨rfl, none, rfl, fun a h => by cases h⟩
  · exact .inr ⟨g, 0, cap, cur, by simp, hb, hh, hn, hm, by simpa using hs, by simpa using ht⟩
theorem row_typed (h : Row w base e size v n xs) (k : Nat) (hk : v.ownBlock = some k) : base ≤ k ∧ ∃ cells, w.heap[k]? = some (.cells cells e (0, 0)) := by
  rcases h.2 with ⟨_, A, rfl, hA⟩ | ⟨g, off, cap, cur, rfl, hg, hh, r⟩
  · cases A with
    | none => simp [Value.ownBlock] at hk
    | some a =>
      have : a.block = k := by simpa [Value.ownBlock] using hk
      subst this
      exact hA a rfl
  · have : g = k := by simpa [Value.ownBlock] using hk
    subst this
    exact ⟨hg, cur, hh⟩
theorem row_lt (h : Row w base e size v n xs) (k : Nat) (hk : v.ownBlock = some k) : k < w.heap.size := by
  obtain ⟨_, cells, hc⟩ := row_typed h k hk
  exact (Array.getElem?_eq_some_iff.1 hc).1
/-- It stays while its own block does. -/
theorem row_same (h : Row w base e size v n xs) (hm : ∀ k, v.ownBlock = some k → w'.heap[k]? = w.heap[k]?) : Row w' base e size v n xs := by
  obtain ⟨h1, h2⟩ := h
  refine ⟨h1, ?_⟩
  rcases h2 with ⟨h0, A, rfl, hA⟩ | ⟨g, off, cap, cur, rfl, hg, hh, r⟩
  · refine .inl ⟨h0, A, rfl, fun a ha => ?_⟩
    obtain ⟨hb, cur, hc⟩ := hA a ha
    subst ha
    exact ⟨hb, cur, (hm a.block (by simp [Value.ownBlock])).trans hc⟩
  · exact .inr ⟨g, off, cap, cur, rfl, hg, (hm g (by simp [Value.ownBlock])).trans hh, r⟩
theorem row_below (h : Row w base e size v n xs) (hb : Below w.heap.size w w') : Row w' base e size v n xs := row_same h fun k hk => hb.block k (row_lt h k hk)
theorem row_upd {g : Nat} (h : Row w base e size v n xs) (hu : Upd w w' g) (hne : v.ownBlock ≠ some g) : Row w' base e size v n xs := row_same h fun k hk => hu.block k fun e => hne (by rw [hk, e])
/-- A block that is not the row's: of another type. -/
theorem row_ne {g : Nat} {c : Array Value} {t : TypeId} {fr : Nat × Nat} (h : Row w base e size v n xs) (hg : w.heap[g]? = some (.cells c t fr)) (ht : t ≠ e) : v.ownBlock ≠ some g := by
  intro hk
  obtain ⟨_, cells, hc⟩ := row_typed h g hk
  rw [hg] at hc
  injection hc with hc
  injection hc with _ h2 _
  exact ht h2
theorem row_ne_map {g : Nat} {es : Array MapEntry} {c : Nat} (h : Row w base e size v n xs) (hg : w.heap[g]? = some (.map es c)) : v.ownBlock ≠ some g := by
  intro hk
  obtain ⟨_, cells, hc⟩ := row_typed h g hk
  rw [hg] at hc
  cases hc
theorem row_ne_iter {g : Nat} {m : Option Nat} {s : Nat} {seen : Array Nat} {c : Nat} (h : Row w base e size v n xs) (hg : w.heap[g]? = some (.mapIter m s seen c)) : v.ownBlock ≠ some g := by
  intro hk
  obtain ⟨_, cells, hc⟩ := row_typed h g hk
  rw [hg] at hc
  cases hc
theorem row_slice (h : Row w base e size v n xs) : ∃ A c, v = .slice A n c ∧ n ≤ c := by
  rcases h.2 with ⟨h0, A, rfl, _⟩ | ⟨g, off, cap, cur, rfl, hg, hh, hnc, r⟩
  · exact ⟨A, 0, by rw [h0], by omega⟩
  · exact ⟨_, cap, rfl, hnc⟩
theorem row_max (h : Row w base e size v n xs) : n ≤ 9223372036854775807 := by
  rcases h.2 with ⟨h0, _⟩ | ⟨g, off, cap, cur, rfl, hg, hh, hnc, hm, r⟩
  · omega
  · simp only [maxLen] at hm
    omega
theorem addr_add (g o j : Nat) : (⟨g, o, none⟩ : Addr).add j = ⟨g, o + j, none⟩ := by unfold Addr.add; split <;> simp_all
/-- Its cells, read; and where they lie. -/
theorem row_cells (h : Row w base e size v n xs) (hn : 0 < n) : ∃ g o c, v = .slice (some ⟨g, o, none⟩) n c ∧ n ≤ c ∧ base ≤ g ∧ g < w.heap.size ∧ ∀ j u, xs[j]? = some u → w.cell? ⟨g, o + j, none⟩ = some u := by
  rcases h.2 with ⟨h0, _⟩ | ⟨g, off, cap, cur, he, hg, hh, hnc, hm, hcs, ht⟩
  · omega
  · refine ⟨g, off * size, cap, he, hnc, hg, (Array.getElem?_eq_some_iff.1 hh).1, fun j u hu => ?_⟩
    rw [cell_of_row w g _ cur e (0, 0) hh]
    rw [← ht, List.getElem?_take] at hu
    split at hu
    · rw [List.getElem?_drop] at hu
      rw [← Array.getElem?_toList]
      exact hu
    · cases hu
theorem row_drop {A : Option Addr} {c k : Nat} (h : Row w base e size (.slice A n c) n xs) (hk : k ≤ n) : Row w base e size (.slice (if c = k then A else A.map (·.add (k * size))) (n - k) (c - k)) (n - k) (xs.drop (k * size)) := by
  obtain ⟨h1, h2⟩ := h
  refine ⟨by rw [List.length_drop, h1, Nat.sub_mul], ?_⟩
  rcases h2 with ⟨h0, A', he, hA⟩ | ⟨g, off, cap, cur, he, hb, hh, hnc, hcm, hcs, ht⟩
  · injection he with ha hb hc
    subst ha; subst hc
    have hk0 : k = 0 := by omega
    subst hk0
    exact .inl ⟨by omega, A, by rw [if_pos rfl, h0], hA⟩
  · injection he with ha _ hc
    subst ha; subst hc
    by_cases hck : c = k
    · rw [if_pos hck]
      refine .inl ⟨by omega, some ⟨g, off * size, none⟩, ?_, fun a ha => ?_⟩
      · rw [show n - k = 0 by omega, show c - k = 0 by omega]
      · injection ha with ha
        subst ha
        exact ⟨hb, cur, hh⟩
    · rw [if_neg hck]
      refine .inr ⟨g, off + k, c - k, cur, ?_, hb, hh, by omega, by omega, by rw [hcs]; congr 1; omega, ?_⟩
      · rw [Option.map_some, addr_add, Nat.add_mul]
      · rw [← ht, List.drop_take, List.drop_drop, Nat.add_mul, Nat.sub_mul]
theorem row_cells_far {g : Nat} : ∀ (vs : List Value) (o : Nat) {w : World} (k : Nat), k ≠ g → (w.setCells g o vs).heap[k]? = w.heap[k]?
  | [], _, _, _, _ => rfl
  | v :: r, o, w, k, hk => by
    rw [World.setCells, row_cells_far r (o + 1) k hk]
    exact Below.heap_setCell w ⟨g, o, none⟩ v k hk
theorem row_cells_same (g : Nat) : ∀ (vs : List Value) (o : Nat) (w : World), (w.setCells g o vs).os = w.os ∧ (w.setCells g o vs).tape = w.tape ∧ (w.setCells g o vs).output = w.output ∧ (w.setCells g o vs).heap.size = w.heap.size
  | [], _, _ => ⟨rfl, rfl, rfl, rfl⟩
  | v :: r, o, w => by
    obtain ⟨h1, h2, h3, h4⟩ := row_cells_same g r (o + 1) (w.setCell ⟨g, o, none⟩ v)
    rw [World.setCells]
    exact ⟨h1, h2, h3, by rw [h4]; simp [World.setCell]⟩
theorem row_cells_row {g : Nat} {e : TypeId} : ∀ (vs : List Value) (o : Nat) (w : World) (cur : Array Value), w.heap[g]? = some (.cells cur e (0, 0)) → o + vs.length ≤ cur.size →
    ∃ cur', (w.setCells g o vs).heap[g]? = some (.cells cur' e (0, 0)) ∧ cur'.size = cur.size ∧ cur'.toList = cur.toList.take o ++ vs ++ cur.toList.drop (o + vs.length)
  | [], o, w, cur, h, _ => ⟨cur, h, rfl, by simp⟩
  | v :: r, o, w, cur, h, hl => by
    have h2 := heap_setCell_same w g o cur e v h
    simp only [List.length_cons] at hl
    obtain ⟨cur', h3, h4, h5⟩ := row_cells_row r (o + 1) (w.setCell ⟨g, o, none⟩ v) _ h2 (by simp; omega)
    refine ⟨cur', h3, by rw [h4]; simp, ?_⟩
    rw [h5, Array.toList_setIfInBounds]
    have ho : o < cur.toList.length := by rw [Array.length_toList]; omega
    rw [List.take_set, List.drop_set_of_lt (by omega)]
    simp only [List.length_cons]
    rw [show o + 1 + r.length = o + (r.length + 1) by omega]
    congr 1
    rw [List.take_succ_eq_append_getElem ho, List.set_append_right _ _ (by rw [List.length_take]; omega)]
    have ho' : o < cur.size := by omega
    simp [Nat.min_eq_left (Nat.le_of_lt ho')]
end

section
variable {P : Program}
theorem row_append (w : World) (base : Nat) (t ty e : TypeId) (i : TypeInfo) (z : Value) (size bytes : Nat) (ht : P.underlying t = some (.slice e)) (hi : P.info? e = some i) (hz : i.zero = some z)
    (hsize : i.size = size) (hby : i.bytes = bytes) (hzs : z.cells.size = size) (hsz : 0 < size)
    (v : Value) (n : Nat) (xs : List Value) (hown : Row w base e size v n xs)
    (a : Addr) (m c : Nat) (news : List Value) (hl : news.length = m * size) (hnews : ∀ j u, news[j]? = some u → w.cell? (a.add j) = some u) (h1 : ∀ u ∈ news, u.oneCell' = true) (hm : 0 < m)
    (h63 : n + m ≤ maxLen) (hbytes : (n + m) * bytes ≤ 140737488355328) (hbase : base ≤ w.heap.size) :
    ∃ v' w', (Builtin.append_ #[t, t] ty #[v, .slice (some a) m c]).run P w = .ok v' w' ∧ Row w' base e size v' (n + m) (xs ++ news) ∧ w.grownBy w' v.ownBlock ∧ (v'.ownBlock = v.ownBlock ∨ ∃ b, v'.ownBlock = some b ∧ w.heap.size ≤ b) := by
  have lower : ∀ {w' : World} {v' : Value} {xs' : List Value} {k : Nat}, Row w' w.heap.size e size v' k xs' → Row w' base e size v' k xs' := by
    intro w' v' xs' k h
    obtain ⟨h1, h2⟩ := h
    refine ⟨h1, ?_⟩
    rcases h2 with ⟨h0, A, rfl, hA⟩ | ⟨g, off, cap, cur, rfl, hg, r⟩
    · exact .inl ⟨h0, A, rfl, fun a ha => ⟨Nat.le_trans hbase (hA a ha).1, (hA a ha).2⟩⟩
    · exact .inr ⟨g, off, cap, cur, rfl, Nat.le_trans hbase hg, r⟩
  have grows : ∀ (b : Addr) (cap : Nat), cap < n + m → (∀ j u, xs[j]? = some u → w.cell? (b.add j) = some u) → v = .slice (some b) n cap →
      ∃ v' w', (Builtin.append_ #[t, t] ty #[v, .slice (some a) m c]).run P w = .ok v' w' ∧ Row w' base e size v' (n + m) (xs ++ news) ∧ w.grownBy w' v.ownBlock ∧ (v'.ownBlock = v.ownBlock ∨ ∃ b, v'.ownBlock = some b ∧ w.heap.size ≤ b) := by
    intro b cap hcap hcells hv
    obtain ⟨v', w', hr, ho, hg⟩ := run_append_arg_grows (P := P) (w := w) t ty e i z size bytes ht hi hz hsize hby hzs hsz b n cap xs hown.1 hcells a m c news hl hnews hcap h63 hbytes
    have hq := row_of_own ho
    refine ⟨v', w', by rw [hv]; exact hr, lower hq, ⟨hg.os, hg.tape, hg.output, hg.size, fun k hk _ => hg.block k hk (by simp)⟩, ?_⟩
    rcases hq.2 with ⟨h0, _⟩ | ⟨g, off, cap, cur, rfl, hgb, _⟩
    · omega
    · exact .inr ⟨g, by simp [Value.ownBlock], hgb⟩
  rcases hown.2 with ⟨h0, A, hv, hA⟩ | ⟨g, off, cap, cur, hv, hbg, hg, hnc, hcm, hcs, htake⟩
  · cases A with
    | none =>
      subst h0
      have ho : w.ownsRow base e size v 0 xs := ⟨hown.1, .inl ⟨hv, rfl⟩⟩
      obtain ⟨v', w', hr, ho', hg, _, hat⟩ := run_append_own_at (P := P) w base t ty e i z size bytes ht hi hz hsize hby hzs hsz v 0 xs ho a m c news hl hnews h1 h63 hbytes hbase
      refine ⟨v', w', hr, row_of_own ho', hg, ?_⟩
      rcases hat with hat | hat
      · exact .inl hat
      · exact .inr ⟨_, hat, Nat.le_refl _⟩
    | some b =>
      have hx : xs = [] := List.eq_nil_of_length_eq_zero (by rw [hown.1, h0, Nat.zero_mul])
      exact grows b 0 (by omega) (fun j u hu => by rw [hx] at hu; simp at hu) (by rw [hv, h0])
  · by_cases hroom : n + m ≤ cap
    · have hfit : off * size + n * size + news.length ≤ cur.size := by
        rw [hl, hcs, ← Nat.add_mul, ← Nat.add_mul]
        exact Nat.mul_le_mul_right _ (by omega)
      subst hsize
      have hr := run_append_room_cells (P := P) (w := w) t ty e i ht hi g (off * i.size) n cap a m c news hl hnews h1 hroom
        (fun j hj => by rw [cell_of_row w g _ cur e (0, 0) hg]; simp; omega) (fun j _ => frozen_of_row w g _ cur e hg)
      obtain ⟨cur', h3, h4, h5⟩ := row_cells_row news (off * i.size + n * i.size) w cur hg hfit
      obtain ⟨s1, s2, s3, s4⟩ := row_cells_same g news (off * i.size + n * i.size) w
      refine ⟨_, _, by rw [hv]; exact hr, ⟨by rw [List.length_append, hown.1, hl, Nat.add_mul], .inr ⟨g, off, cap, cur', rfl, hbg, h3, hroom, hcm, by rw [h4, hcs], ?_⟩⟩,
        ⟨s1, s2, s3, by rw [s4]; exact Nat.le_refl _, fun k _ hk => row_cells_far news _ k (fun he => hk (by rw [hv, he]; simp [Value.ownBlock]))⟩, .inl (by rw [hv]; rfl)⟩
      rw [h5, List.append_assoc, List.drop_append_of_le_length (by rw [List.length_take, Array.length_toList]; omega), List.drop_take]
      rw [show off * i.size + n * i.size - off * i.size = n * i.size by omega, htake]
      rw [← List.append_assoc]
      exact List.take_left' (by rw [List.length_append, hown.1, hl, Nat.add_mul])
    · refine grows ⟨g, off * size, none⟩ cap (by omega) (fun j u hu => ?_) hv
      rw [addr_add, cell_of_row w g _ cur e (0, 0) hg]
      rw [← htake, List.getElem?_take] at hu
      split at hu
      · rw [List.getElem?_drop] at hu
        rw [← Array.getElem?_toList]
        exact hu
      · cases hu

/-- One more element, which lies in a block of its own, at the operation. -/
theorem row_append_op {w : World} {ops : Array Oper} {rest : List Oper} {o : Oper} {a : Act} {Q : Exit → Act → World → Prop} (base : Nat) (hgd : o.guard = none) (s x : Operand) (t e : TypeId) (z : Value) (size bytes : Nat)
    (ho : o.op = .call { callee := .builtin .append, args := #[s, x], argTypes := #[t, t] }) (ht : P.underlying t = some (.slice e)) (hi : (P.info? e).map (fun i => (i.zero, i.size, i.bytes)) = some (some z, size, bytes))
    (hzs : z.cells.size = size) (hsz : 0 < size) {v : Value} {n : Nat} {xs : List Value} (hown : Row w base e size v n xs) (hs : a.eval s = v)
    (g : Nat) (news : Array Value) (tn : TypeId) (hx : a.eval x = .slice (some ⟨g, 0, none⟩) 1 1) (hg : w.heap[g]? = some (.cells news tn (0, 0))) (hl : news.size = size) (h1 : news.all (·.oneCell') = true)
    (hn : (n + 1) * bytes ≤ 140737488355328) (hn2 : n + 1 ≤ maxLen) (hbase : base ≤ w.heap.size)
    (h : ∀ v' w', Row w' base e size v' (n + 1) (xs ++ news.toList) → w.grownBy w' v.ownBlock → (v'.ownBlock = v.ownBlock ∨ ∃ b, v'.ownBlock = some b ∧ w.heap.size ≤ b) → wpList P ops Q rest (a.put o.dst v') w') : wpList P ops Q (o :: rest) a w := by
  refine wpList_plain hgd fun K hK => ?_
  cases hq : P.info? e with
  | none => simp [hq] at hi
  | some i =>
    simp only [hq, Option.map_some, Option.some.injEq, Prod.mk.injEq] at hi
    obtain ⟨v', w', hr, h2, h3, h4⟩ := row_append (P := P) w base t o.type e i z size bytes ht hq hi.1 hi.2.1 hi.2.2 hzs hsz v n xs hown ⟨g, 0, none⟩ 1 1 news.toList (by simpa using hl)
      (fun j u hu => by rw [addr_add, cell_of_row w g _ news tn (0, 0) hg]; simpa using hu) (fun u hu => (Array.all_eq_true_iff_forall_mem.1 h1) u (by simpa using hu)) (by decide) hn2 hn hbase
    unfold Oper.wp execOp
    simp only [ho, resolve, invoke, builtin, Sem.run_bind, Sem.run_pure, Result.andThen_ok, List.map_toArray, List.map_cons, List.map_nil, hs, hx, hr]
    exact hK _ _ (h v' w' h2 h3 h4)
end

end Go.Proofs.Ytagekhgfoabgbaa
end
