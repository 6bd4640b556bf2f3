/- The images of a history of orders, sorted. -/
import Derived.Test.YtagekhgfoabgbaaK03
import Derived.Test.YtagekhgfoabgbaaShelf

section
/- Contracts of Go's library at this program's types: slices.Compare, slices.Clone, slices.SortFunc at images. -/
set_option linter.unusedSimpArgs false
set_option linter.unusedVariables false
namespace Go.Proofs.Ytagekhgfoabgbaa
open Go.RowKit Go.Maps

theorem isNaN_any (x : Int) (w : World) : Calls Try.prog 99 #[.int .i64 x] w fun e w' => e = .returned (.bool false) ∧ w = w' := by
  go_enter Try.func99, Try.ntmps99
  go_wp2
  go_ret
  exact ⟨rfl, rfl⟩
def cmpI (x y : Int) : Int := if x < y then -1 else if y < x then 1 else 0
theorem compare_any (x y : Int) (w : World) : Calls Try.prog 75 #[.int .i64 x, .int .i64 y] w fun e w' => e = .returned (.int .i64 (cmpI x y)) ∧ w = w' := by
  unfold cmpI
  by_cases h1 : x < y
  · rw [if_pos h1]
    go_enter Try.func75, Try.ntmps75
    go_wp2_with (go_at_call 99; refine (isNaN_any _ _).mono ?_; rintro e w' ⟨rfl, rfl⟩)
    go_ret
    exact ⟨rfl, rfl⟩
  · rw [if_neg h1]
    by_cases h2 : y < x
    · rw [if_pos h2]
      go_enter Try.func75, Try.ntmps75
      go_wp2_with (go_at_call 99; refine (isNaN_any _ _).mono ?_; rintro e w' ⟨rfl, rfl⟩)
      go_ret
      exact ⟨rfl, rfl⟩
    · rw [if_neg h2]
      go_enter Try.func75, Try.ntmps75
      go_wp2_with (go_at_call 99; refine (isNaN_any _ _).mono ?_; rintro e w' ⟨rfl, rfl⟩)
      go_ret
      exact ⟨rfl, rfl⟩

def cmpL : List Int → List Int → Int
  | [], [] => 0
  | [], _ :: _ => -1
  | _ :: _, [] => 1
  | x :: a, y :: b => if x < y then -1 else if y < x then 1 else cmpL a b
theorem cmpL_neg : ∀ (a b : List Int), cmpL a b = - cmpL b a
  | [], [] => rfl
  | [], _ :: _ => rfl
  | _ :: _, [] => rfl
  | x :: a, y :: b => by
    unfold cmpL
    have := cmpL_neg a b
    by_cases h1 : x < y
    · simp [h1, show ¬ y < x by omega]
    · by_cases h2 : y < x
      · simp [h1, h2]
      · simp [h1, h2, this]
theorem cmpL_irrefl : ∀ a : List Int, cmpL a a = 0
  | [] => rfl
  | x :: a => by unfold cmpL; rw [if_neg (by omega), if_neg (by omega)]; exact cmpL_irrefl a
theorem cmpL_trans : ∀ {a b c : List Int}, cmpL a b ≤ 0 → cmpL b c ≤ 0 → cmpL a c ≤ 0 ∧ (cmpL a b < 0 ∨ cmpL b c < 0 → cmpL a c < 0)
  | [], [], [], _, _ => by simp [cmpL]
  | [], [], _ :: _, _, _ => by simp [cmpL]
  | [], _ :: _, [], _, h => by simp [cmpL] at h
  | [], _ :: _, _ :: _, _, _ => by simp [cmpL]
  | _ :: _, [], _, h, _ => by simp [cmpL] at h
  | _ :: _, _ :: _, [], _, h => by simp [cmpL] at h
  | x :: a, y :: b, z :: c, h1, h2 => by
    have ih := @cmpL_trans a b c
    unfold cmpL at h1 h2 ⊢
    by_cases e1 : x < y
    · by_cases e2 : y < z
      · simp [e1, e2, show x < z by omega]
      · by_cases e3 : z < y
        · rw [if_neg e2, if_pos e3] at h2; omega
        · have : y = z := by omega
          subst this; simp [e1]
    · by_cases e1' : y < x
      · rw [if_neg e1, if_pos e1'] at h1; omega
      · have : x = y := by omega
        subst this
        rw [if_neg e1, if_neg e1] at h1 ⊢
        by_cases e2 : x < z
        · simp [e2]
        · by_cases e3 : z < x
          · rw [if_neg e2, if_pos e3] at h2; omega
          · simp only [if_neg e2, if_neg e3] at h2 ⊢
            exact ih h1 h2
theorem cmpL_swo {α : Type} [Inhabited α] (f : α → List Int) : Go.Sort.SWO (ltOf fun x y => cmpL (f x) (f y)) where
  irrefl x := by simp [ltOf, cmpL_irrefl]
  trans x y z h1 h2 := by
    simp only [ltOf, decide_eq_true_eq] at *
    exact (cmpL_trans (by omega) (by omega)).2 (.inl h1)
  ntrans x y z h1 h2 := by
    simp only [ltOf, decide_eq_false_iff_not, Int.not_lt] at *
    have a := cmpL_neg (f x) (f y)
    have b := cmpL_neg (f y) (f z)
    have c := cmpL_neg (f x) (f z)
    have := (cmpL_trans (a := f z) (b := f y) (c := f x) (by omega) (by omega)).1
    omega
theorem cmpL_drop {xs ys : List Int} {i : Nat} {x y : Int} (hx : xs[i]? = some x) (hy : ys[i]? = some y) : cmpL (xs.drop i) (ys.drop i) = if cmpI x y ≠ 0 then cmpI x y else cmpL (xs.drop (i + 1)) (ys.drop (i + 1)) := by
  obtain ⟨h1, e1⟩ := List.getElem?_eq_some_iff.1 hx
  obtain ⟨h2, e2⟩ := List.getElem?_eq_some_iff.1 hy
  rw [List.drop_eq_getElem_cons h1, List.drop_eq_getElem_cons h2, e1, e2, cmpL]
  unfold cmpI
  by_cases a : x < y
  · simp [a]
  · by_cases b : y < x
    · simp [a, b]
    · simp [a, b]

set_option maxHeartbeats 1000000 in
theorem compareL_any (w : World) (A B : Option Addr) (n c m d : Nat) (xs ys : List Int) (hX : IntsAt w A n xs) (hY : IntsAt w B m ys) (hn : n ≤ 1000000) (hm : m ≤ 1000000) :
    Calls Try.prog 56 #[.slice A n c, .slice B m d] w fun e w' => e = .returned (.int .i64 (cmpL xs ys)) ∧ w = w' := by
  obtain ⟨hxn, hX⟩ := hX
  obtain ⟨hym, hY⟩ := hY
  go_enter Try.func56, Try.ntmps56
  go_wp2_with fail
  go_loopw [11] (fun i wr => w = wr ∧ ∃ k : Nat, k ≤ n ∧ k ≤ m ∧ i = .int .i64 k ∧ cmpL (xs.drop k) (ys.drop k) = cmpL xs ys) (fun i _ => n - (intOf i).toNat)
  case atStart => exact ⟨rfl, 0, Nat.zero_le _, Nat.zero_le _, rfl, rfl⟩
  case round =>
    obtain ⟨rfl, k, hk, hkm, rfl, hd⟩ := hrel
    by_cases hlt : k < n
    · obtain ⟨x, hx⟩ : ∃ x, xs[k]? = some x := ⟨_, List.getElem?_eq_getElem (by omega)⟩
      obtain ⟨gA, oA, rfl, hgA, hcA⟩ := hX k x hx
      by_cases hltm : k < m
      · obtain ⟨y, hy⟩ : ∃ y, ys[k]? = some y := ⟨_, List.getElem?_eq_getElem (by omega)⟩
        obtain ⟨gB, oB, rfl, hgB, hcB⟩ := hY k y hy
        have hdr := cmpL_drop hx hy
        obtain ⟨r, hr⟩ : ∃ r, r = cmpI x y := ⟨_, rfl⟩
        have hcmp := compare_any x y w
        rw [← hr] at hdr hcmp
        have HDR := Lib.hid hdr
        have HD := Lib.hid hd
        have HL := Lib.hid (show xs.length = n ∧ ys.length = m from ⟨hxn, hym⟩)
        clear hr hdr hd hx hy hX hY hxn hym
        by_cases hr0 : r ≠ 0
        · have hrb : (r != 0) = true := by simpa using hr0
          go_wp2_with (go_at_call 75; refine hcmp.mono ?_; rintro e w' ⟨rfl, rfl⟩)
          go_ret
          refine ⟨?_, rfl⟩
          rw [← HD.out, HDR.out, if_pos hr0]
          try rfl
        · have hr1 : r = 0 := by omega
          subst hr1
          go_wp2_with (go_at_call 75; refine hcmp.mono ?_; rintro e w' ⟨rfl, rfl⟩)
          go_roundw
          case rel => exact ⟨trivial, k + 1, by omega, by omega, by go_num, by rw [← HD.out, HDR.out, if_neg (by simp)]⟩
          case measure => simp [intOf]; omega
      · have HD := Lib.hid hd
        have HL := Lib.hid (show xs.length = n ∧ ys.length = m from ⟨hxn, hym⟩)
        clear hd hX hY hxn hym
        go_wp2_with fail
        go_ret
        refine ⟨?_, rfl⟩
        rw [← HD.out, List.drop_eq_getElem_cons (show k < xs.length by have := HL.out; omega), List.drop_of_length_le (show ys.length ≤ k by have := HL.out; omega), cmpL]
        try rfl
    · have HD := Lib.hid hd
      have HL := Lib.hid (show xs.length = n ∧ ys.length = m from ⟨hxn, hym⟩)
      clear hd hX hY hxn hym
      by_cases hltm : k < m
      · go_wp2_with fail
        go_ret
        refine ⟨?_, rfl⟩
        rw [← HD.out, List.drop_eq_getElem_cons (show k < ys.length by have := HL.out; omega), List.drop_of_length_le (show xs.length ≤ k by have := HL.out; omega), cmpL]
        try rfl
      · go_wp2_with fail
        go_ret
        refine ⟨?_, rfl⟩
        rw [← HD.out, List.drop_of_length_le (show ys.length ≤ k by have := HL.out; omega), List.drop_of_length_le (show xs.length ≤ k by have := HL.out; omega), cmpL]
        try rfl
theorem compareC_any (w : World) (A B : Option Addr) (n c m d : Nat) (xs ys : List Int) (hX : IntsAt w A n xs) (hY : IntsAt w B m ys) (hn : n ≤ 1000000) (hm : m ≤ 1000000) :
    Calls Try.prog 55 #[.slice A n c, .slice B m d] w fun e w' => e = .returned (.int .i64 (cmpL xs ys)) ∧ w = w' := by
  have hc := compareL_any w A B n c m d xs ys hX hY hn hm
  obtain ⟨r, hr⟩ : ∃ r, r = cmpL xs ys := ⟨_, rfl⟩
  rw [← hr] at hc ⊢
  clear hr hX hY
  go_enter Try.func55, Try.ntmps55
  go_wp2_with (go_at_call 56; refine hc.mono ?_; rintro e w' ⟨rfl, rfl⟩)
  go_ret
  exact ⟨rfl, rfl⟩

end Go.Proofs.Ytagekhgfoabgbaa
end

section
/- slices.Clone and slices.SortFunc as this program calls them. -/
set_option linter.unusedSimpArgs false
set_option linter.unusedVariables false
namespace Go.Proofs.Ytagekhgfoabgbaa
open Go.RowKit Go.Maps

theorem info3 : ∃ i, Try.prog.info? 3 = some i ∧ i.zero = some (.int .i64 0) ∧ i.size = 1 ∧ i.bytes = 8 := by
  have h : (Try.prog.info? 3).map (fun i => (i.zero, i.size, i.bytes)) = some (some (.int .i64 0), 1, 8) := by kernel_rfl
  cases hi : Try.prog.info? 3 with
  | none => rw [hi] at h; cases h
  | some i => rw [hi] at h; simp at h; exact ⟨i, rfl, h.1, h.2.1, h.2.2⟩
set_option maxRecDepth 100000 in
/-- A slice of whole numbers, copied. -/
theorem clone_any (w : World) (A : Option Addr) (n c : Nat) (xs : List Int) (hX : IntsAt w A n xs) (hA : A = none ∨ ∃ b off, A = some ⟨b, off, none⟩) (hn : n ≤ 1000000) :
    Calls Try.prog 53 #[.slice A n c] w fun e w' => ∃ v', e = .returned v' ∧ Row w' w.heap.size 3 1 v' n (ints xs).toList ∧ Below w.heap.size w w' := by
  obtain ⟨hl, hX⟩ := hX
  rcases hA with rfl | ⟨b, off, rfl⟩
  · have h0 : n = 0 := by
      cases xs with
      | nil => simpa using hl.symm
      | cons x r => obtain ⟨g, o, h, _⟩ := hX 0 x rfl; cases h
    subst h0
    have hxs : xs = [] := List.length_eq_zero_iff.1 hl
    subst hxs
    have h := AnyE.slices_Clone_nil Try.laidClone 0 c w
    change Calls Try.prog 53 _ _ _ at h
    refine h.mono ?_
    rintro e w' ⟨rfl, rfl⟩
    exact ⟨_, rfl, row_nil _ _ _ _, Below.refl _ _⟩
  · obtain ⟨i0, hi, h0, h1, h2⟩ := info3
    have h := AnyE.slices_Clone Try.laidClone i0 (.int .i64 0) 1 8 hi h0 h1 h2 rfl (by decide) Try.sizeOf3 b off n c (ints xs).toList w (by simp [ints_toList, hl]) (by unfold maxLen; omega) (by omega) (fun j u hu => by
      have hj := (List.getElem?_eq_some_iff.1 hu).1
      simp [ints_toList] at hj
      obtain ⟨g, o, he, hg, hc⟩ := hX j xs[j] (List.getElem?_eq_getElem hj)
      injection he with he
      injection he with he1 he2 _
      subst he1; subst he2
      rw [hc]
      rw [ints_toList, List.getElem?_map, List.getElem?_eq_getElem hj] at hu
      exact hu) (fun u hu => by
      rw [ints_toList] at hu
      obtain ⟨x, _, rfl⟩ := List.mem_map.1 hu
      rfl)
    change Calls Try.prog 53 _ _ _ at h
    refine h.mono ?_
    rintro e w' ⟨v', rfl, hr, _, hb⟩
    exact ⟨v', rfl, row_of_own hr, hb⟩

/-- A slice that is not empty and has these numbers; its block is one of ints. -/
def IntsOwn (w : World) (v : Value) (xs : List Int) : Prop :=
  ∃ g o c cur, v = .slice (some ⟨g, o, none⟩) xs.length c ∧ xs.length ≤ c ∧ w.heap[g]? = some (.cells cur 3 (0, 0)) ∧ ∀ j x, xs[j]? = some x → w.cell? ⟨g, o + j, none⟩ = some (gI x)
theorem IntsOwn.at {w : World} {v : Value} {xs : List Int} (h : IntsOwn w v xs) : ∃ A c, v = .slice A xs.length c ∧ IntsAt w A xs.length xs ∧ xs.length ≤ c ∧ ∃ b off, A = some ⟨b, off, none⟩ := by
  obtain ⟨g, o, c, cur, rfl, hc, hg, hx⟩ := h
  exact ⟨_, c, rfl, ⟨rfl, fun i x hi => ⟨g, o, rfl, (Array.getElem?_eq_some_iff.1 hg).1, hx i x hi⟩⟩, hc, g, o, rfl⟩
theorem IntsOwn.kept {w w' : World} {v : Value} {xs : List Int} {g : Nat} {t : TypeId} {cs : Array Value} (h : IntsOwn w v xs) (hg : w.heap[g]? = some (.cells cs t (0, 0))) (ht : t ≠ 3) (hb : ∀ k, k < w.heap.size → k ≠ g → w'.heap[k]? = w.heap[k]?) : IntsOwn w' v xs := by
  obtain ⟨g1, o, c, cur, rfl, hc, hg1, hx⟩ := h
  have hne : g1 ≠ g := fun e => by
    subst e
    rw [hg1] at hg
    injection hg with hg
    injection hg with _ ht' _
    exact ht ht'.symm
  have e := hb g1 (Array.getElem?_eq_some_iff.1 hg1).1 hne
  exact ⟨g1, o, c, cur, rfl, hc, e.trans hg1, fun j x hj => (World.cell?_of_block e).trans (hx j x hj)⟩
theorem IntsOwn.below {w w' : World} {v : Value} {xs : List Int} (h : IntsOwn w v xs) (hb : Below w.heap.size w w') : IntsOwn w' v xs := by
  obtain ⟨g1, o, c, cur, rfl, hc, hg1, hx⟩ := h
  have e := hb.block g1 (Array.getElem?_eq_some_iff.1 hg1).1
  exact ⟨g1, o, c, cur, rfl, hc, e.trans hg1, fun j x hj => (World.cell?_of_block e).trans (hx j x hj)⟩
theorem intsOwn_of_row {w : World} {base : Nat} {v : Value} {xs : List Int} (h : Row w base 3 1 v xs.length (ints xs).toList) (hn : 0 < xs.length) : IntsOwn w v xs := by
  obtain ⟨g, o, c, rfl, hnc, hb, hg, hc⟩ := row_cells h hn
  rcases h.2 with ⟨h0, _⟩ | ⟨g', off, cap, cur, he, hg', hh, _⟩
  · omega
  · injection he with he _ _
    injection he with he
    injection he with he1 he2 _
    subst he1
    refine ⟨g, o, c, cur, rfl, hnc, hh, fun j x hj => hc j _ ?_⟩
    rw [ints_toList, List.getElem?_map, hj]
    rfl

open Go.Sort in
/-- slices.SortFunc over images: they come in another order. -/
theorem sortImages_any (w : World) (g off cap : Nat) (F : List (Value × List Int)) (cs : Array Value) (hg : w.heap[g]? = some (.cells cs 40 (0, 0))) (hF : ∀ i p, F[i]? = some p → w.cell? ⟨g, off + i, none⟩ = some p.1 ∧ IntsOwn w p.1 p.2 ∧ p.2.length ≤ 1000000) (hlen : F.length ≤ 1000000) :
    Calls Try.prog 54 #[.slice (some ⟨g, off, none⟩) F.length cap, .func (.func 55) #[] #[]] w fun e w' => e = .returned (.tuple #[]) ∧ w.grownBy w' (some g) ∧ (∃ cs, w'.heap[g]? = some (.cells cs 40 (0, 0))) ∧
      ∃ F' : List (Value × List Int), F'.Perm F ∧ ∀ i p, F'[i]? = some p → w'.cell? ⟨g, off + i, none⟩ = some p.1 ∧ IntsOwn w' p.1 p.2 := by
  have hgl : g < w.heap.size := (Array.getElem?_eq_some_iff.1 hg).1
  obtain ⟨enc, henc⟩ : ∃ enc : Nat → Value, enc = fun i => (F.getD i (.slice none 0 0, [])).1 := ⟨_, rfl⟩
  obtain ⟨cont, hcont⟩ : ∃ cont : Nat → List Int, cont = fun i => (F.getD i (.slice none 0 0, [])).2 := ⟨_, rfl⟩
  have he : ∀ i p, F[i]? = some p → enc i = p.1 ∧ cont i = p.2 := fun i p h => by
    rw [henc, hcont]; simp [List.getD_eq_getElem?_getD, h]
  have hd : ∀ i, F[i]? = none → enc i = .slice none 0 0 ∧ cont i = [] := fun i h => by
    rw [henc, hcont]; simp [List.getD_eq_getElem?_getD, h]
  have hat : ∀ W, (∀ k, k < w.heap.size → k ≠ g → W.heap[k]? = w.heap[k]?) → ∀ i, ∃ A n c, enc i = .slice A n c ∧ IntsAt W A n (cont i) ∧ n ≤ 1000000 := fun W hW i => by
    cases hi : F[i]? with
    | none =>
      obtain ⟨h1, h2⟩ := hd i hi
      exact ⟨none, 0, 0, h1, by rw [h2]; exact ⟨rfl, fun j x hj => by simp at hj⟩, by omega⟩
    | some p =>
      obtain ⟨h1, h2⟩ := he i p hi
      obtain ⟨_, ho, hl⟩ := hF i p hi
      obtain ⟨A, c, hv, hA, hc, _⟩ := (ho.kept hg (by decide) hW).at
      exact ⟨A, _, c, by rw [h1, hv], by rw [h2]; exact hA, hl⟩
  have h1 : OneCell enc := fun i => by
    obtain ⟨A, n, c, h, _⟩ := hat w (fun _ _ _ => rfl) i
    rw [h]; rfl
  have hblk : ∀ (m : Nat) (os : Array Obj) (dk : Array Nat) (k : Nat), k < w.heap.size → k ≠ g → (sortWorld enc w g off m dk os).heap[k]? = w.heap[k]? := fun m os dk k hk hkg => by
    unfold sortWorld
    rw [heap_grow_old _ _ (by rw [show (putRow enc (Sort.ahead w m) g off dk).heap.size = w.heap.size by simp [putRow, mapBlock, Sort.ahead]]; exact hk)]
    simp only [putRow, mapBlock, Sort.ahead, Array.getElem?_modify]
    rw [if_neg (fun e => hkg e.symm)]
  have hcmp : CmpLays1 Try.prog 55 #[] enc (fun x y => cmpL (cont x) (cont y)) g off (List.range F.length).toArray.size w := fun m os dk hs x y => by
    obtain ⟨A, n, c, hx, hX, hn⟩ := hat (sortWorld enc w g off m dk os) (hblk m os dk) x
    obtain ⟨B, n', c', hy, hY, hn'⟩ := hat (sortWorld enc w g off m dk os) (hblk m os dk) y
    rw [hx, hy]
    refine (compareC_any _ A B n c n' c' (cont x) (cont y) hX hY hn hn').mono ?_
    rintro e w' ⟨rfl, rfl⟩
    exact ⟨rfl, 0, #[], by simp [World.drewN]⟩
  have hH : Holds enc w g off (List.range F.length).toArray := fun j hj => by
    have hj' : j < F.length := by simpa using hj
    have e1 : (List.range F.length).toArray[j]! = j := by
      rw [getElem!_pos _ j (by simpa using hj')]; simp
    rw [e1, (he j _ (List.getElem?_eq_getElem hj')).1]
    exact ⟨(hF j _ (List.getElem?_eq_getElem hj')).1, frozen_of_row w g _ cs _ hg⟩
  have h := Any.slices_SortFunc Try.laidSortImages enc h1 _ (cmpL_swo cont) 55 #[] g off cap (List.range F.length).toArray w (enters_of Try.func55 (by kernel_rfl) rfl) hcmp hH hgl (by simp; omega)
  change Calls Try.prog 54 _ _ _ at h
  have es : (List.range F.length).toArray.size = F.length := by simp
  rw [es] at h
  refine h.mono ?_
  rintro e w' ⟨rfl, d', m, os, hp, _, rfl⟩
  have hgr : w.grownBy (sortWorld enc w g off m d' os) (some g) := ⟨rfl, rfl, rfl, by simp [sortWorld, putRow, mapBlock, Sort.ahead], fun k hk hkg => hblk m os d' k hk fun e => hkg (by rw [e])⟩
  obtain ⟨hp1, _, hp3⟩ := hp
  replace hp1 : d'.size = F.length := by simpa using hp1
  have hperm : d'.toList.Perm (List.range F.length) := by
    have e1 : d'.extract 0 F.length = d' := by rw [← hp1]; simp
    have e2 : (List.range F.length).toArray.extract 0 F.length = (List.range F.length).toArray := by
      have : (List.range F.length).toArray.size = F.length := by simp
      conv => lhs; rw [← this]
      simp
    rw [e1, e2] at hp3
    simpa using hp3
  have hty : ∃ cs, (sortWorld enc w g off m d' os).heap[g]? = some (.cells cs 40 (0, 0)) := by
    unfold sortWorld
    rw [heap_grow_old _ _ (by rw [show (putRow enc (Sort.ahead w m) g off d').heap.size = w.heap.size by simp [putRow, mapBlock, Sort.ahead]]; exact hgl)]
    simp only [putRow, mapBlock, Sort.ahead, Array.getElem?_modify, if_true, hg, Option.map_some]
    exact ⟨_, rfl⟩
  refine ⟨rfl, hgr, hty, d'.toList.map fun i => (enc i, cont i), ?_, fun i p hi => ?_⟩
  · refine (hperm.map _).trans (List.Perm.of_eq ?_)
    apply List.ext_getElem?
    intro i
    rw [List.getElem?_map]
    by_cases hi : i < F.length
    · rw [List.getElem?_range hi]
      obtain ⟨a, b⟩ := he i _ (List.getElem?_eq_getElem hi)
      rw [List.getElem?_eq_getElem hi]
      simp [a, b]
    · rw [List.getElem?_eq_none (by simpa using hi), List.getElem?_eq_none (by omega)]
      rfl
  · rw [List.getElem?_map] at hi
    cases hd' : d'.toList[i]? with
    | none => rw [hd'] at hi; simp at hi
    | some j =>
      rw [hd'] at hi
      simp only [Option.map_some, Option.some.injEq] at hi
      subst hi
      have hisz : i < d'.size := by simpa using (List.getElem?_eq_some_iff.1 hd').1
      have hj : j < F.length := by
        have := hperm.subset (List.mem_of_getElem? hd')
        simpa using this
      have e1 : d'[i]! = j := by
        rw [getElem!_pos d' i hisz]
        have := (List.getElem?_eq_some_iff.1 hd').2
        simpa using this
      have hW := holds_sortWorld enc w g off m (List.range F.length).toArray d' os hgl hH (by simpa using hp1)
      have := (hW i hisz).1
      rw [e1] at this
      refine ⟨this, ?_⟩
      obtain ⟨a, b⟩ := he j _ (List.getElem?_eq_getElem hj)
      obtain ⟨_, ho, _⟩ := hF j _ (List.getElem?_eq_getElem hj)
      simp only [a, b]
      exact ho.kept hg (by decide) (hblk m os d')


theorem IntsOwn.grown {w w' : World} {v : Value} {xs : List Int} {row : Option Nat} (h : IntsOwn w v xs) (hg : w.grownBy w' row) (hr : ∀ k, row = some k → ∃ cs t, w.heap[k]? = some (.cells cs t (0, 0)) ∧ t ≠ 3) : IntsOwn w' v xs := by
  cases row with
  | none =>
    obtain ⟨g1, o, c, cur, rfl, hc, hg1, hx⟩ := h
    have e := hg.block g1 (Array.getElem?_eq_some_iff.1 hg1).1 (by simp)
    exact ⟨g1, o, c, cur, rfl, hc, e.trans hg1, fun j x hj => (World.cell?_of_block e).trans (hx j x hj)⟩
  | some k =>
    obtain ⟨cs, t, hk, ht⟩ := hr k rfl
    exact h.kept hk ht fun j hj hjk => hg.block j hj fun e => hjk (by injection e)

/-- The loop that lists the images. -/
def IE (w : World) (b : Int) (A : Option Addr) (n c : Nat) (nb it : Nat) (M : List (List Int × Int)) (k : Nat) (v : Value) (wr : World) : Prop :=
  ∃ (done rest : List (List Int × Int)) (F : List (Value × List Int)), rest.length ≤ k ∧ IterOf Try.prog 63 fA gI wr nb it M rest ∧ (done ++ rest).Perm M ∧ Row wr w.heap.size 40 1 v F.length (F.map (·.1)) ∧
    F.map (·.2) = done.map (fun p => p.1.take b.toNat) ∧ (∀ (i : Nat) (p : Value × List Int), F[i]? = some p → IntsOwn wr p.1 p.2) ∧ Below w.heap.size w wr ∧ Boxed w.heap.size b A n c wr
theorem IE.start {w wr : World} {b : Int} {A : Option Addr} {n c nb c7 : Nat} {M : List (List Int × Int)} (hbel : Below w.heap.size w wr) (hbox : Boxed w.heap.size b A n c wr) (hsz : w.heap.size < wr.heap.size)
    (hit : IterOf Try.prog 63 fA gI (wr.alloc (.mapIter (some nb) c7 #[] c7)) nb wr.heap.size M M) : IE w b A n c nb wr.heap.size M M.length (.slice none 0 0) (wr.alloc (.mapIter (some nb) c7 #[] c7)) :=
  ⟨[], M, [], Nat.le_refl _, hit, by simp, row_nil _ _ _ _, rfl, fun i p h => by simp at h, hbel.alloc (by omega) _, by unfold Boxed; rw [Below.heap_alloc _ _ _ hsz]; exact hbox⟩
theorem IE.next {w wr w1 w2 w3 w4 : World} {b : Int} {A : Option Addr} {n c nb it k : Nat} {M done rst L' : List (List Int × Int)} {F : List (Value × List Int)} {p : List Int × Int} {v v' vc : Value} {X Y : Obj} (hk : rst.length ≤ k) (hit : IterOf Try.prog 63 fA gI wr nb it M rst) (hperm : (done ++ rst).Perm M)
    (hrow : Row wr w.heap.size 40 1 v F.length (F.map (·.1))) (hF2 : F.map (·.2) = done.map (fun p => p.1.take b.toNat)) (hF : ∀ (i : Nat) (p : Value × List Int), F[i]? = some p → IntsOwn wr p.1 p.2) (hbel : Below w.heap.size w wr) (hbox : Boxed w.heap.size b A n c wr) (hwn : w.heap.size < nb) (hni : nb < it)
    (hp : rst.Perm (p :: L')) (hit1 : IterOf Try.prog 63 fA gI w1 nb it M L') (hu1 : Upd wr w1 it) (hu2 : Upd (w1.alloc X) w2 w1.heap.size) (hb3 : Below w2.heap.size w2 w3) (hcl : IntsOwn w3 vc (p.1.take b.toNat))
    (hrow4 : Row w4 w.heap.size 40 1 v' (F.length + 1) (F.map (·.1) ++ [vc])) (hg4 : (w3.alloc Y).grownBy w4 v.ownBlock) : IE w b A n c nb it M L'.length v' w4 ∧ L'.length < k := by
  have hB : Below w1.heap.size w1 w3 := ((below_alloc0 w1 X).trans (hu2.below (Nat.le_refl _))).trans (hb3.mono (by rw [hu2.size]; simp))
  have g1 : w1.grownBy w3 v.ownBlock := ⟨hB.os, hB.tape, hB.output, hB.size, fun k hk _ => hB.block k hk⟩
  have g2 : w3.grownBy w4 v.ownBlock := (World.grownBy_alloc w3 Y _).trans hg4
  have g3 := g1.trans g2
  have hrow1 := row_upd hrow hu1 (fun e => row_not_iter hrow hit e.symm)
  have hrow3 := row_below hrow1 hB
  have hty : ∀ W, Row W w.heap.size 40 1 v F.length (F.map (·.1)) → ∀ k, v.ownBlock = some k → ∃ cs t, W.heap[k]? = some (.cells cs t (0, 0)) ∧ t ≠ 3 := fun W hW k hk => by
    obtain ⟨_, cs, h⟩ := row_typed hW k hk
    exact ⟨cs, _, h, by decide⟩
  refine ⟨⟨done ++ [p], L', F ++ [(vc, p.1.take b.toNat)], Nat.le_refl _, iter_grown hit1 g3 (row_not_map hrow1 hit1.map) (row_not_iter hrow1 hit1), ?_, ?_, ?_, fun i q hi => ?_, ?_, ?_⟩, ?_⟩
  · refine List.Perm.trans ?_ hperm
    rw [List.append_assoc]
    exact List.Perm.append_left _ (by simpa using hp.symm)
  · simpa using hrow4
  · simp [hF2]
  · by_cases hlt : i < F.length
    · rw [List.getElem?_append_left hlt] at hi
      have h1 := hF i q hi
      obtain ⟨g0, o, c0, cur, e1, e2, hg0, e3⟩ := h1
      have hne : g0 ≠ it := fun e => by
        subst e
        obtain ⟨_, _, _, _, hr, _⟩ := hit
        rw [hg0] at hr; cases hr
      have h2 : IntsOwn w1 q.1 q.2 := ⟨g0, o, c0, cur, e1, e2, (hu1.block g0 hne).trans hg0, fun j x hj => (World.cell?_of_block (hu1.block g0 hne)).trans (e3 j x hj)⟩
      exact (h2.below hB).grown g2 (hty w3 hrow3)
    · rw [List.getElem?_append_right (by omega)] at hi
      have : i - F.length = 0 := by
        have := (List.getElem?_eq_some_iff.1 hi).1
        simp at this; omega
      rw [this] at hi
      simp at hi
      subst hi
      exact hcl.grown g2 (hty w3 hrow3)
  · refine (hbel.trans (hu1.below (by omega))).trans (grown_below' g3 (fun g hg => (row_typed hrow1 g hg).1) ?_)
    have := hbel.size; have := hu1.size; omega
  · unfold Boxed
    have hlt : w.heap.size < w1.heap.size := by have := hit1.lt; omega
    rw [g3.block _ hlt, hu1.block _ (by omega)]
    · exact hbox
    · intro e
      obtain ⟨_, cs, h⟩ := row_typed hrow1 _ e.symm
      have h1 : w1.heap[w.heap.size]? = wr.heap[w.heap.size]? := hu1.block _ (by omega)
      rw [h1] at h
      rw [hbox] at h
      injection h with h
      injection h with _ ht _
      exact absurd ht (by decide)
  · have := hp.length_eq; simp at this; omega

/-- What images hands back. -/
def ImgsPost (h : Hist) (os : List Int) (w : World) (x : Ending) (w' : World) : Prop :=
  ∃ (g off c : Nat) (F : List (Value × List Int)) (cs : Array Value), x = .returned (.slice (some ⟨g, off, none⟩) F.length c) ∧ F.length ≤ c ∧ w.heap.size ≤ g ∧ w'.heap[g]? = some (.cells cs 40 (0, 0)) ∧
    (∀ (i : Nat) (p : Value × List Int), F[i]? = some p → w'.cell? ⟨g, off + i, none⟩ = some p.1 ∧ IntsOwn w' p.1 p.2) ∧ (∀ y, y ∈ F.map (·.2) ↔ ImgSet h os y) ∧ F.length ≤ (ImgU h os).length ∧ Below w.heap.size w w'
theorem shR_some (h : Hist) : ∀ r : List Int, ∃ s, ShR h r s
  | [] => ⟨_, rfl⟩
  | n :: r => by
    obtain ⟨s, hs⟩ := shR_some h r
    exact ⟨_, s, s, hs, DStar.refl _, rfl⟩
theorem IE.done {w wr : World} {h : Hist} {os : List Int} (ho : OrdOk h os) (hB : h.blocks ≤ 2) {M done : List (List Int × Int)} {F : List (Value × List Int)} {v : Value} (hn : (M.map (·.1)).Nodup) (hM : ∀ y, y ∈ M.map (·.1) ↔ ImgKey h os y) (hperm : done.Perm M) (hrow : Row wr w.heap.size 40 1 v F.length (F.map (·.1)))
    (hF2 : F.map (·.2) = done.map (fun p => p.1.take h.blocks.toNat)) (hF : ∀ (i : Nat) (p : Value × List Int), F[i]? = some p → IntsOwn wr p.1 p.2) (hbel : Below w.heap.size w wr) : ∃ g off c cs, v = .slice (some ⟨g, off, none⟩) F.length c ∧ F.length ≤ c ∧ w.heap.size ≤ g ∧ wr.heap[g]? = some (.cells cs 40 (0, 0)) ∧
      (∀ (i : Nat) (p : Value × List Int), F[i]? = some p → wr.cell? ⟨g, off + i, none⟩ = some p.1 ∧ IntsOwn wr p.1 p.2 ∧ p.2.length ≤ 1000000) ∧ F.length ≤ 1000000 ∧
      ∀ (F' : List (Value × List Int)) (w' : World), F'.Perm F → wr.grownBy w' (some g) → (∀ (i : Nat) (p : Value × List Int), F'[i]? = some p → w'.cell? ⟨g, off + i, none⟩ = some p.1 ∧ IntsOwn w' p.1 p.2) → (∃ cs, w'.heap[g]? = some (.cells cs 40 (0, 0))) → ImgsPost h os w (.returned (.slice (some ⟨g, off, none⟩) F.length c)) w' := by
  have hU : M.length ≤ (ImgU h os).length := by
    have := nodup_le hn (U := ImgU h os) fun y hy => ho.key_mem ((hM y).1 hy)
    simpa using this
  have hlen : F.length = M.length := by
    have := congrArg List.length hF2
    simp at this
    rw [this, hperm.length_eq]
  have hpos : 0 < F.length := by
    obtain ⟨s, hs⟩ := shR_some h os.reverse
    have := (hM (s.take 6)).2 ⟨s, s, hs, DStar.refl _, .inl rfl⟩
    have := List.length_pos_of_mem this
    simp at this
    omega
  have hUl : (ImgU h os).length ≤ 1000000 := by
    have := ho.few hB
    have hl := ho.len
    have : (os.length + 2) * (os.length + 2) ≤ 11 * 11 := Nat.mul_le_mul (by omega) (by omega)
    omega
  obtain ⟨g, off, c, rfl, hnc, hb, hg, hc⟩ := row_cells hrow hpos
  have hcs : ∃ cs, wr.heap[g]? = some (.cells cs 40 (0, 0)) := by
    obtain ⟨_, cs, h⟩ := row_typed hrow g (by simp [Value.ownBlock])
    exact ⟨cs, h⟩
  obtain ⟨cs, hcs⟩ := hcs
  refine ⟨g, off, c, cs, rfl, hnc, hb, hcs, fun i p hi => ⟨hc i p.1 (by rw [List.getElem?_map, hi]; rfl), hF i p hi, ?_⟩, by omega, fun F' w' hp hgr hF' hcs' => ?_⟩
  · have h1 : p.2 ∈ F.map (·.2) := List.mem_map.2 ⟨p, List.mem_of_getElem? hi, rfl⟩
    rw [hF2] at h1
    obtain ⟨q, hq, e⟩ := List.mem_map.1 h1
    have := ho.mild ((hM q.1).1 (List.mem_map.2 ⟨q, hperm.subset hq, rfl⟩))
    rw [← e]
    simp; omega
  · obtain ⟨cs', hcs'⟩ := hcs'
    refine ⟨g, off, c, F', cs', by rw [hp.length_eq], by rw [hp.length_eq]; exact hnc, hb, hcs', hF', fun y => ?_, by rw [hp.length_eq]; omega, hbel.trans (grown_below hgr hb (by have := hbel.size; omega))⟩
    rw [(hp.map (·.2)).mem_iff, hF2]
    constructor
    · intro h1
      obtain ⟨q, hq, e⟩ := List.mem_map.1 h1
      exact ⟨q.1, (hM q.1).1 (List.mem_map.2 ⟨q, hperm.subset hq, rfl⟩), e.symm⟩
    · rintro ⟨c, hc, rfl⟩
      obtain ⟨q, hq, rfl⟩ := List.mem_map.1 ((hM c).2 hc)
      exact List.mem_map.2 ⟨q, hperm.symm.subset hq, rfl⟩

theorem box0 {w wr w1 w2 : World} {b : Int} {A : Option Addr} {n c nb it : Nat} {X : Obj} (hbox : Boxed w.heap.size b A n c wr) (hu1 : Upd wr w1 it) (hu2 : Upd (w1.alloc X) w2 w1.heap.size) (hn : w.heap.size < nb ∧ nb < it) (hlt : w.heap.size < w1.heap.size) : w2.cell? ⟨w.heap.size, 0, none⟩ = some (gI b) := by
  have e : w2.heap[w.heap.size]? = some (.cells #[gI b, .slice A n c] 24 (0, 0)) := by
    rw [hu2.block _ (by omega), Below.heap_alloc w1 _ _ hlt, hu1.block _ (by omega)]
    exact hbox
  rw [cell_of_row _ _ 0 _ _ _ e]; rfl

theorem run_sliceCells (g Bn : Nat) (hB : Bn ≤ 6) (W : World) : (Instr.sliceAt 63 (.pointer (some ⟨g, 0, none⟩)) none (some (gI Bn)) none).run Try.prog W = .ok (.slice (some ⟨g, 0, none⟩) Bn 6) W := by
  have h1 : (0 : Int) ≤ (Bn : Int) := by omega
  have h2 : (Bn : Int) ≤ 6 := by omega
  have hz : ∀ W, (sizeOf 3).run Try.prog W = .ok 1 W := Try.sizeOf3
  have hu : ∀ W, (underlying 63).run Try.prog W = .ok (.array 6 3) W := run_underlying Try.underlying63
  simp [Instr.sliceAt, Instr.sliceBounds, Instr.sliceBound, asIntOf, hu, hz, gI, h1, h2, hB, Instr.slice, Instr.sureAddr, Addr.add]

theorem info40 : (Try.prog.info? 40).map (fun i => (i.zero, i.size, i.bytes)) = some (some (.slice none 0 0), 1, 24) := by kernel_rfl

end Go.Proofs.Ytagekhgfoabgbaa
end

section
/- images, walked. -/
set_option linter.unusedSimpArgs false
set_option linter.unusedVariables false
namespace Go.Proofs.Ytagekhgfoabgbaa
open Go.RowKit Go.Maps
attribute [local go_sem] ints_lit6
attribute [local go_sem] isLoadOf loadArg
attribute [local go_sem ↓] wp_pre86
attribute [local go_sem] loadTo86
attribute [local go_sem ↓] wp_pre63
attribute [local go_sem] loadTo63p loadTo63
set_option maxRecDepth 100000 in
set_option maxHeartbeats 2000000 in
theorem images_any (h : Hist) (os : List Int) (w : World) (A O : Option Addr) (n c n2 c2 : Nat) (hC : CmdsAt w A n h.cmds) (hO : IntsAt w O n2 os) (ho : OrdOk h os) (hB2 : h.blocks ≤ 2) (hnc : n ≤ c) (hnc2 : n2 ≤ c2) :
    Calls Try.prog 36 #[hV h.blocks A n c, .slice O n2 c2] w (ImgsPost h os w) := by
  have hmm := run_makeMap0
  go_enter Try.func36, Try.ntmps36
  go_wp2_with fail
  refine (clean_any _ _).mono ?_
  rintro e w1 ⟨rfl, hb1⟩
  go_wp2_with (refine store_blk rfl 86 _ _ rfl w1.heap.size shPre rfl (congrArg Value.agg build_pre) (t := 86) (xs := List.replicate 73 0) (by rw [zero86]; exact blk_at _ _ _ _ rfl) i86 (by decide) (by decide) ?_; intro w2 hb2 hu2)
  clear hmm
  obtain ⟨g1, hg1⟩ : ∃ g1, g1 = w1.heap.size := ⟨_, rfl⟩
  rw [← hg1] at hb2 hu2 ⊢
  have HG1 := Lib.hid hg1
  clear hg1
  refine (clean_any _ _).mono ?_
  rintro e w3 ⟨rfl, hb3⟩
  have hB3 := hb2.below hb3 hb2.lt
  have hfr := hB3.free
  have hd7 := hB3.cell (j := 7) (by decide)
  have hd8 := hB3.cell (j := 8) (by decide)
  have hd9 := hB3.cell (j := 9) (by decide)
  have hd10 := hB3.cell (j := 10) (by decide)
  have hd11 := hB3.cell (j := 11) (by decide)
  have hd12 := hB3.cell (j := 12) (by decide)
  go_wp2_with fail
  have hN := ((((((hB3.set 7 (-3)).set 8 (-3)).set 9 (-3)).set 10 (-3)).set 11 (-3)).set 12 (-3))
  have hU := ((((((Upd.refl w3 g1).set 7 (gI (-3))).set 8 (gI (-3))).set 9 (gI (-3))).set 10 (gI (-3))).set 11 (gI (-3))).set 12 (gI (-3))
  have e0 : (((((shPre.set 7 (-3)).set 8 (-3)).set 9 (-3)).set 10 (-3)).set 11 (-3)).set 12 (-3) = shFirst := by decide
  rw [e0] at hN
  generalize ((((((w3.setCell ⟨g1, 7, none⟩ (.int .i64 (-3))).setCell ⟨g1, 8, none⟩ (.int .i64 (-3))).setCell ⟨g1, 9, none⟩ (.int .i64 (-3))).setCell ⟨g1, 10, none⟩ (.int .i64 (-3))).setCell ⟨g1, 11, none⟩ (.int .i64 (-3))).setCell ⟨g1, 12, none⟩ (.int .i64 (-3))) = w4 at *
  clear hd7 hd8 hd9 hd10 hd11 hd12 hfr e0
  have hs1 : w.heap.size + 1 ≤ w1.heap.size := by have := hb1.size; simpa using this
  have hs2 := hu2.size
  rw [World.size_alloc] at hs2
  have hs3 := hb3.size
  have hs4 := hU.size
  have hg1 := HG1.out
  have B1 : Below w.heap.size w w1 := (below_alloc0 w _).trans (hb1.mono (by simp))
  have B4 : Below w.heap.size w w4 := (((B1.alloc (by omega) _).trans (hu2.below (by omega))).trans (hb3.mono (by omega))).trans (hU.below (by omega))
  have hbox : w4.heap[w.heap.size]? = some (.cells #[gI h.blocks, .slice A n c] 24 (0, 0)) := by
    rw [hU.block _ (by omega), hb3.block _ (by omega), hu2.block _ (by omega), Below.heap_alloc w1 _ _ (by omega), hb1.block _ (by simp)]
    exact heap_alloc_new w _
  have hm0 := MapOf.made Try.prog 86 fA gI w4
  obtain ⟨w5, hup, hm5, hu5⟩ := hm0.update law86 agg_inj Try.underlying87 (key86 (xs := shFirst) (by decide) (by unfold Mild; decide)) 1
  have B5 : Below w.heap.size w w5 := (B4.alloc (by omega) _).trans (hu5.below (by omega))
  have hbox5 : w5.heap[w.heap.size]? = some (.cells #[gI h.blocks, .slice A n c] 24 (0, 0)) := by
    rw [hu5.block _ (by omega), Below.heap_alloc _ _ _ (by omega)]; exact hbox
  obtain ⟨g4, hg4⟩ : ∃ g4, g4 = w4.heap.size := ⟨_, rfl⟩
  have hm5' : MapOf Try.prog 86 fA gI w5 g4 [(shFirst, 1)] := by rw [hg4]; exact hm5
  have HX : IA h os w A n c 0 g4 w5 := ⟨_, by omega, hm5', fun s => by simp [ShR], B5, hbox5⟩
  have HX0 := Lib.hid (show MapOf Try.prog 86 fA gI w5 g4 [(shFirst, 1)] ∧ Below w.heap.size w w5 ∧ w5.heap[w.heap.size]? = some (.cells #[gI h.blocks, .slice A n c] 24 (0, 0)) ∧ w.heap.size < g4 from ⟨hm5', B5, hbox5, by omega⟩)
  have hup' : (Instr.mapUpdate 87 (.map (some w4.heap.size)) (.agg (ints shFirst)) (.int .i64 1)).run Try.prog (w4.alloc (.map #[] 0)) = .ok () w5 := hup
  clear hs1 hs2 hs3 hs4 hg1 B1 B4 hbox B5 hbox5 hm5 hm5' hm0 hu5 hup HG1 hB3 hb1 hu2 hb2 hb3 hU
  rw [run_makeMap0]
  go_wp2_with (refine load_blk rfl 86 _ rfl g1 rfl (hN.alloc _) Try.underlying86 rfl i86 (by decide) ?_)
  rw [← hg4]
  clear HX0 hup' hg4 hN
  have hn2 := hO.1
  have hn9 : n2 ≤ 9 := by have := ho.len; omega
  go_loopw [6, 27] (fun v i wr => ∃ j g : Nat, j ≤ n2 ∧ i = .int .i64 j ∧ v = .map (some g) ∧ IA h os w A n c j g wr) (fun _ i _ => n2 - (intOf i).toNat)
  case atStart => exact ⟨0, g4, Nat.zero_le _, rfl, rfl, HX⟩
  case round =>
    clear HX
    obtain ⟨j, g, hj, rfl, rfl, hA⟩ := hrel
    by_cases hlt : j < n2
    ·
      -- [[
      obtain ⟨M, hwg, hM, hMk, hbel, hbox⟩ := hA
      obtain ⟨x, hx⟩ : ∃ x, os[j]? = some x := ⟨_, List.getElem?_eq_getElem (by rw [hn2]; exact hlt)⟩
      obtain ⟨gO, oO, hOe, hgO, hcO⟩ := hO.2 j x hx
      subst hOe
      have hxm : x ∈ os := List.mem_of_getElem? hx
      obtain ⟨x0, x1, x2, x3, x4, x5, x6⟩ := ho.each x hxm
      have hcm : h.cmds[x.toNat]? = some (h.cmd x) := by
        unfold Hist.cmd
        rw [List.getD_eq_getElem?_getD, List.getElem?_eq_getElem (by omega)]; rfl
      obtain ⟨gA, oA, hAe, hgA, hc0, hc1, hc2, hc3, hc4⟩ := hC.2 _ _ hcm
      subst hAe
      obtain ⟨x, rfl⟩ := Int.eq_ofNat_of_zero_le x0
      rw [Int.toNat_natCast] at hc0 hc1 hc2 hc3 hc4
      have hcr : wr.cell? ⟨gO, oO + j, none⟩ = some (gI x) := by rw [hbel.cell (p := ⟨gO, oO + j, none⟩) hgO]; exact hcO
      have hU := (ho.take j).uni
      have hM1 : MapOf Try.prog 86 fA gI (wr.alloc (.map #[] 0)) g M := hM.below (below_alloc0 wr _) hM.lt
      have hL : ∀ p ∈ M, p.1 ∈ OrdU h (os.take j) := fun p hp => (ho.take j).mem ((hMk p.1).1 (List.mem_map.2 ⟨p, hp, rfl⟩)) (DStar.refl _)
      have hmm := run_makeMap0
      have HM := Lib.hid hM
      have HH := Lib.hid hbox
      clear hM hbox
      go_wp2_with fail
      clear hmm hcr
      refine (drained_any _ hU g M _ hM1 hL).mono ?_
      rintro e w7 ⟨d, MD, rfl, hd1, hmd, hmk, hb7⟩
      obtain ⟨hrg, hit⟩ := hmd.range Try.underlying87
      generalize hmd.choose_spec.choose = c0 at hrg hit
      have H0 := IB.start (cm := h.cmd x) (x := x) hbel HH.out (by have := HM.out.lt; omega) hb7 hit
      have hnd : wr.heap.size < d := by have := hd1; rw [World.size_alloc] at this; omega
      have hdi : d < w7.heap.size := by have := hmd.lt; exact this
      have hwn : w.heap.size < wr.heap.size := by have := HM.out.lt; omega
      have HN := Lib.hid (show wr.heap.size < d ∧ d < w7.heap.size ∧ w.heap.size < wr.heap.size from ⟨hnd, hdi, hwn⟩)
      have hMD : ∀ q ∈ MD, ∃ s0, ShR h (os.take j).reverse s0 ∧ DStar s0 q.1 := fun q hq => by
        obtain ⟨p, hp, hst⟩ := (hmk q.1).1 (List.mem_map.2 ⟨q, hq, rfl⟩)
        exact ⟨p.1, (hMk p.1).1 (List.mem_map.2 ⟨p, hp, rfl⟩), hst⟩
      have hMl : MD.length ≤ 1048576 := by
        have := nodup_le hmd.nodup (U := OrdU h (os.take j)) fun y hy => by
          obtain ⟨q, hq, rfl⟩ := List.mem_map.1 hy
          obtain ⟨s0, h1, h2⟩ := hMD q hq
          exact (ho.take j).mem h1 h2
        have := hU.small
        simp at *
        omega
      have HD := Lib.hid (show (∀ q ∈ MD, ∃ s0, ShR h (os.take j).reverse s0 ∧ DStar s0 q.1) ∧ MD.length ≤ 1048576 ∧ _ ∧ _ from ⟨hMD, hMl, hMk, hmk⟩)
      clear hit hb7 hd1 hmd hnd hdi hwn hM1 HM HH hMD hMl hMk hmk
      obtain ⟨nb, hnb⟩ : ∃ nb, nb = wr.heap.size := ⟨_, rfl⟩
      obtain ⟨it, hit⟩ : ∃ it, it = w7.heap.size := ⟨_, rfl⟩
      rw [← hnb, ← hit] at H0 HN
      go_wp2_with fail
      rw [← hnb, ← hit]
      clear hnb hit hrg
      go_loopg [] MD.length (fun k wr => IB w h.blocks (some ⟨gA, oA, none⟩) n c (h.cmd x) x d it nb MD k wr)
      case atStart => exact H0
      case round =>
        clear H0
        obtain ⟨done, rst, M1, hk, hit, hperm, hmap, hkeys, hcnt, hbel, hbox⟩ := hrel
        rcases hit.next 0 with ⟨hnil, hrun⟩ | ⟨p, L', w1, hp, hrun, hit1, hu1, hen⟩
        · have hnx : ∀ ty, (Instr.next (.pointer (some ⟨it, 0, none⟩)) false ty).run Try.prog wr = .ok (.tuple #[.bool false]) wr := fun ty => hrun
          clear hrun
          subst hnil
          rw [List.append_nil] at hperm
          have HE := Lib.hid (IB.done hx HD.out.2.2.1 HD.out.2.2.2 hperm hkeys hmap HN.out.2.2 hbel hbox)
          clear hit hperm hmap hkeys hcnt hbel hbox
          go_wp2_with fail
          go_roundw
          case rel => exact ⟨j + 1, nb, by omega, by go_num, rfl, HE.out⟩
          case measure => simp [intOf]; omega
        · have hnx : ∀ ty, (Instr.next (.pointer (some ⟨it, 0, none⟩)) false ty).run Try.prog wr = .ok (.tuple #[.bool true, .agg (ints p.1), .int .i64 p.2]) w1 := fun ty => hrun
          clear hrun
          have hpm : p ∈ MD := hperm.subset (List.mem_append.2 (.inr (hp.symm.subset (by simp))))
          obtain ⟨s0, hs0, hst⟩ := HD.out.1 p hpm
          have hpU := (ho.take j).mem hs0 hst
          obtain ⟨s, hs⟩ : ∃ s, s = p.1 := ⟨_, rfl⟩
          rw [← hs] at hnx hen hpU hst
          have hlen := hU.len _ hpU
          obtain ⟨hch1, hch2, _⟩ := (ho.take j).all
          have hm6 := hch1.six hpU
          obtain ⟨m, hm⟩ : ∃ m, m = (chR h (os.take j).reverse).2 := ⟨_, rfl⟩
          rw [← hm] at hm6 hch1 hch2
          have hmp := hch1.pos
          have hol := ho.len
          have hm10 : m ≤ 10 := by simp at hch2; omega
          have hmi : (ints s)[6]? = some (.int .i64 m) := by rw [ints_getD (by omega), hm6]
          have hyU : shO s (h.cmd x) x ∈ OrdU h (os.take (j + 1)) := (ho.take (j + 1)).mem (s0 := shO s (h.cmd x) x) (by rw [List.take_add_one, hx]; simp [ShR]; exact ⟨s0, hs0, s, hst, rfl⟩) (DStar.refl _)
          have hky := (ho.take (j + 1)).uni.key hyU
          have HP := Lib.hid hlen
          have HS := Lib.hid (show s = p.1 ∧ (ints s)[6]? = some (.int .i64 m) ∧ 1 ≤ m ∧ m ≤ 10 from ⟨hs, hmi, hmp, hm10⟩)
          have hsz1 := hu1.size
          have hen' : (Instr.entry (.pointer (some ⟨it, 0, none⟩))).run Try.prog w1 = .ok (.tuple #[.agg (ints s), .int .i64 p.2]) w1 := hen
          have HSZ := Lib.hid hsz1
          clear hs hpm hs0 hst hpU hlen hch1 hch2 hm6 hm hmp hol hm10 hmi hyU hsz1 hen
          go_wp2_with (refine store_blk rfl 86 _ _ rfl w1.heap.size s rfl rfl (t := 86) (xs := List.replicate 73 0) (by rw [zero86]; exact blk_at _ _ _ _ rfl) i86 (by simp) HP.out ?_; intro w2 hb2 hu2)
          have hne : w1.heap.size ≠ w.heap.size := by have := hit1.lt; have := HN.out; omega
          have hBx : Below w.heap.size w w2 := ((hbel.trans (hu1.below (by have := HN.out; omega))).trans ((below_alloc0 w1 _).mono (by have := hit1.lt; have := HN.out; omega))).trans (hu2.below (by have := hit1.lt; have := HN.out; omega))
          have hbx : w2.drew.cell? ⟨w.heap.size, 1, none⟩ = some (.slice (some ⟨gA, oA, none⟩) n c) := by
            have e : w2.drew.heap[w.heap.size]? = some (.cells #[gI h.blocks, .slice (some ⟨gA, oA, none⟩) n c] 24 (0, 0)) := by
              show w2.heap[w.heap.size]? = _
              rw [hu2.block _ (Ne.symm hne), Below.heap_alloc w1 _ _ (by have := hit1.lt; have := HN.out; omega), hu1.block _ (by have := HN.out; omega)]
              exact hbox
            rw [cell_of_row _ _ 1 _ _ _ e]; rfl
          have ec : ∀ k, w2.drew.cell? ⟨gA, k, none⟩ = w.cell? ⟨gA, k, none⟩ := fun k => hBx.cell (p := ⟨gA, k, none⟩) hgA
          have hd0 := (ec _).trans hc0
          have hd1 := (ec _).trans hc1
          have hd2 := (ec _).trans hc2
          have hd3 := (ec _).trans hc3
          have hd4 := (ec _).trans hc4
          have i2 : IsBlk w2.drew w1.heap.size 73 86 := ⟨s, hb2, HP.out⟩
          have e2 : blkOf w2.drew w1.heap.size = s := blkOf_eq (t := 86) (show Blk w2.drew w1.heap.size s 86 from hb2)
          have hxn : (x : Int) < (n : Int) := by rw [← hC.1]; exact x1
          have hz3 : ∀ W, (zeroValue 3).run Try.prog W = .ok (gI 0) W := fun W => by kernel_rfl
          have HZ := Lib.hid (show (∀ W, (zeroValue 3).run Try.prog W = .ok (gI 0) W) ∧ MD.length ≤ 1048576 ∧ (done.length ≤ MD.length) ∧ (1 ≤ (h.cmd x).kind ∧ (h.cmd x).kind ≤ 4 ∧ 0 ≤ (h.cmd x).block ∧ (h.cmd x).block < h.blocks ∧ h.blocks ≤ 6) from ⟨hz3, HD.out.2.1, by have := hperm.length_eq; simp at this; omega, x3, x4, x5, x6, ho.blocks.2⟩)
          clear ec hBx hne hz3
          rw [put_none]
          go_region_with (go_at_call 51; go_must ((with_reducible refine (order_any s m _ _ _ _ _ _ _ HS.out.2.1 HS.out.2.2.1 HS.out.2.2.2 HP.out (by have := HZ.out.2.2.2; omega) HZ.out.2.2.2.2.2.1 (by have := HZ.out.2.2.2; omega)).mono ?_); rintro e w9 ⟨rfl, hb9⟩; obtain ⟨hm9, hB9⟩ := IB.mid hmap hu1 (by have := HN.out; omega) hu2 hb9; obtain ⟨cc, v0, st, w5, w6, hq⟩ := hm9.counts law86 agg_inj Try.underlying87 HZ.out.1 hky; have HQ := Lib.hid hq; obtain ⟨hce, hlk0, hen, hlk5, hes, hm6', hu5, hu6⟩ := hq; have hle := mget_le hcnt hm9.nodup (shO s (h.cmd x) x); rw [← hce] at hle; have hwr : IntKind.i64.wrap (cc + 1) = cc + 1 := IntWalk.i64_in _ (by have := HZ.out; omega); clear hce))
          all_goals
            rw [HS.out.1] at HQ
            have HNX := Lib.hid (IB.next hk hperm hkeys hcnt hbel hbox HN.out.2.2 HN.out.1 HN.out.2.1 hp hit1 hu1 hB9 hm9 HQ.out)
            clear hk hperm hkeys hcnt hbel hbox hit1 hu1 hu2 hb9 hm9 hB9 HQ hlk0 hen hlk5 hes hm6' hu5 hu6 hle hwr
            go_wp2_with fail
            go_roundg L'.length
            case measure => exact HNX.out.2
            case rel => exact HNX.out.1
      -- ]]
    · have hjn : j = n2 := by omega
      subst hjn
      obtain ⟨M, hwg, hM, hMk, hbel, hbox⟩ := hA
      rw [List.take_of_length_le (by omega)] at hMk
      have hU := ho.uni
      have hM1 : MapOf Try.prog 86 fA gI (wr.alloc (.map #[] 0)) g M := hM.below (below_alloc0 wr _) hM.lt
      have hL : ∀ p ∈ M, p.1 ∈ OrdU h os := fun p hp => ho.mem ((hMk p.1).1 (List.mem_map.2 ⟨p, hp, rfl⟩)) (DStar.refl _)
      have hmm := run_makeMap0
      have HM := Lib.hid hM
      have HH := Lib.hid hbox
      clear hM hbox
      go_wp2_with fail
      clear hmm
      refine (drained_any _ hU g M _ hM1 hL).mono ?_
      rintro e w7 ⟨d, MD, rfl, hd1, hmd, hmk, hb7⟩
      obtain ⟨hrg, hit⟩ := hmd.range Try.underlying87
      generalize hmd.choose_spec.choose = c0 at hrg hit
      have H0 := IC.start (b := h.blocks) hbel HH.out (by have := HM.out.lt; omega) hb7 hit
      have hnd : wr.heap.size < d := by have := hd1; rw [World.size_alloc] at this; omega
      have hdi : d < w7.heap.size := by have := hmd.lt; exact this
      have hwn : w.heap.size < wr.heap.size := by have := HM.out.lt; omega
      have HN := Lib.hid (show wr.heap.size < d ∧ d < w7.heap.size ∧ w.heap.size < wr.heap.size from ⟨hnd, hdi, hwn⟩)
      have hMD : ∀ q ∈ MD, ∃ s0, ShR h os.reverse s0 ∧ DStar s0 q.1 := fun q hq => by
        obtain ⟨p, hp, hst⟩ := (hmk q.1).1 (List.mem_map.2 ⟨q, hq, rfl⟩)
        exact ⟨p.1, (hMk p.1).1 (List.mem_map.2 ⟨p, hp, rfl⟩), hst⟩
      have hMl : MD.length ≤ 1048576 := by
        have := nodup_le hmd.nodup (U := OrdU h os) fun y hy => by
          obtain ⟨q, hq, rfl⟩ := List.mem_map.1 hy
          obtain ⟨s0, h1, h2⟩ := hMD q hq
          exact ho.mem h1 h2
        have := hU.small
        simp at *
        omega
      have HD := Lib.hid (show (∀ q ∈ MD, ∃ s0, ShR h os.reverse s0 ∧ DStar s0 q.1) ∧ MD.length ≤ 1048576 ∧ _ ∧ _ from ⟨hMD, hMl, hMk, hmk⟩)
      clear hit hb7 hd1 hmd hnd hdi hwn hM1 HM HH hMD hMl hMk hmk
      obtain ⟨nb, hnb⟩ : ∃ nb, nb = wr.heap.size := ⟨_, rfl⟩
      obtain ⟨it, hit⟩ : ∃ it, it = w7.heap.size := ⟨_, rfl⟩
      rw [← hnb, ← hit] at H0 HN
      go_wp2_with fail
      rw [← hnb, ← hit]
      clear hnb hit hrg
      go_loopg [] MD.length (fun k wr => IC w h.blocks A n c d it nb MD k wr)
      case atStart => exact H0
      case round =>
        clear H0
        obtain ⟨done, rst, M1, hk, hit, hperm, hmap, hkeys, hcnt, hbel, hbox⟩ := hrel
        rcases hit.next 0 with ⟨hnil, hrun⟩ | ⟨p, L', w1, hp, hrun, hit1, hu1, hen⟩
        · have hnx : ∀ ty, (Instr.next (.pointer (some ⟨it, 0, none⟩)) false ty).run Try.prog wr = .ok (.tuple #[.bool false]) wr := fun ty => hrun
          clear hrun
          subst hnil
          rw [List.append_nil] at hperm
          have HE := Lib.hid (show MapOf Try.prog 63 fA gI wr nb M1 ∧ (∀ y, y ∈ M1.map (·.1) ↔ ImgKey h os y) ∧ Below w.heap.size w wr ∧ Boxed w.heap.size h.blocks A n c wr from ⟨hmap, IC.done HD.out.2.2.1 HD.out.2.2.2 hperm hkeys, hbel, hbox⟩)
          clear hit hperm hmap hkeys hcnt hbel hbox
          obtain ⟨hrg2, hit2⟩ := HE.out.1.range Try.underlying90
          generalize HE.out.1.choose_spec.choose = c7 at hrg2 hit2
          have H1 := IE.start HE.out.2.2.1 HE.out.2.2.2 (by have := HE.out.1.lt; have := HN.out; omega) hit2
          have hni : nb < wr.heap.size := HE.out.1.lt
          have HN3 := Lib.hid (show w.heap.size < nb ∧ nb < wr.heap.size from ⟨HN.out.2.2, hni⟩)
          have HM1 := Lib.hid (show (M1.map (·.1)).Nodup ∧ (∀ y, y ∈ M1.map (·.1) ↔ ImgKey h os y) from ⟨HE.out.1.nodup, HE.out.2.1⟩)
          obtain ⟨it3, hit3⟩ : ∃ it3, it3 = wr.heap.size := ⟨_, rfl⟩
          rw [← hit3] at H1 HN3
          clear HE hni hit2
          obtain ⟨Bn, hBn⟩ : ∃ Bn : Nat, h.blocks = (Bn : Int) := ⟨h.blocks.toNat, by have := ho.blocks; omega⟩
          have hB1 : 1 ≤ Bn ∧ Bn ≤ 2 := by have := ho.blocks; omega
          go_wp2_with fail
          rw [← hit3]
          clear hit3 hrg2 hnx
          go_loopg [15] M1.length (fun k v wr => IE w h.blocks A n c nb it3 M1 k v wr)
          case atStart => exact H1
          case round =>
            clear H1
            obtain ⟨done3, rst3, F, hk3, hit3, hperm3, hrow, hF2, hF, hbel, hbox⟩ := hrel
            rcases hit3.next 0 with ⟨hnil, hrun⟩ | ⟨p, L', w1, hp, hrun, hit1, hu1, hen⟩
            · have hnx : ∀ ty, (Instr.next (.pointer (some ⟨it3, 0, none⟩)) false ty).run Try.prog wr = .ok (.tuple #[.bool false]) wr := fun ty => hrun
              clear hrun
              subst hnil
              rw [List.append_nil] at hperm3
              obtain ⟨g, off, cc, cs, rfl, hcap, hbg, hcs, hFs, hFl, hend⟩ := IE.done ho hB2 HM1.out.1 HM1.out.2 hperm3 hrow hF2 hF hbel
              have hsort := sortImages_any wr g off cc F cs hcs hFs hFl
              have HCS := Lib.hid hcs
              obtain ⟨N, hN⟩ : ∃ N, N = F.length := ⟨_, rfl⟩
              rw [← hN] at hsort hend ⊢
              have HEND := Lib.hid hend
              clear hN hFs hFl hcs hend hrow hF2 hF hbel hbox hperm3 hit3
              go_wp2_with (go_at_call 54; refine hsort.mono ?_; rintro e w9 ⟨rfl, hgr, hty, F', hpF, hF'⟩)
              go_ret
              exact HEND.out F' w9 hpF hgr hF' hty
            · have hnx : ∀ ty, (Instr.next (.pointer (some ⟨it3, 0, none⟩)) false ty).run Try.prog wr = .ok (.tuple #[.bool true, .agg (ints p.1), .int .i64 p.2]) w1 := fun ty => hrun
              clear hrun
              have hkey := (HM1.out.2 p.1).1 (List.mem_map.2 ⟨p, hperm3.subset (List.mem_append.2 (.inr (hp.symm.subset (by simp)))), rfl⟩)
              have hyl := (ho.mild hkey).1
              obtain ⟨y, hy⟩ : ∃ y, y = p.1 := ⟨_, rfl⟩
              rw [← hy] at hnx hen hyl
              have hFl : F.length ≤ 1000000 := by
                have h1 := congrArg List.length hF2
                have h2 := hperm3.length_eq
                have h3 := nodup_le HM1.out.1 (U := ImgU h os) fun y hy => ho.key_mem ((HM1.out.2 y).1 hy)
                have h4 := ho.few hB2
                have : (os.length + 2) * (os.length + 2) ≤ 11 * 11 := Nat.mul_le_mul (by omega) (by omega)
                simp at h1 h2 h3
                omega
              have hlt1 : w.heap.size < w1.heap.size := by have := hit1.lt; have := HN3.out; omega
              have hrow1 := row_upd hrow hu1 (fun e => row_not_iter hrow hit3 e.symm)
              have HY := Lib.hid (show y = p.1 ∧ y.length = 6 ∧ F.length ≤ 1000000 ∧ w.heap.size < w1.heap.size from ⟨hy, hyl, hFl, hlt1⟩)
              have hen' : (Instr.entry (.pointer (some ⟨it3, 0, none⟩))).run Try.prog w1 = .ok (.tuple #[.agg (ints y), .int .i64 p.2]) w1 := hen
              have HBOX := Lib.hid hbox
              clear hy hyl hFl hlt1 hkey hen hbox
              have hsl := fun W => run_sliceCells w1.heap.size Bn (by omega) W
              go_wp2_with (refine store_blk rfl 63 _ _ rfl w1.heap.size y rfl rfl (t := 63) (xs := [0, 0, 0, 0, 0, 0]) (blk_zero6 w1) i63 rfl HY.out.2.1 ?_; intro w2 hb2 hu2; have hbx := box0 (w := w) (wr := wr) (w1 := w1) (w2 := w2) HBOX.out hu1 hu2 HN3.out HY.out.2.2.2; rw [hBn] at hbx)
              have hIA : IntsAt w2 (some ⟨w1.heap.size, 0, none⟩) Bn (y.take Bn) := by
                refine ⟨by rw [List.length_take, HY.out.2.1]; omega, fun i x hx => ⟨_, _, rfl, hb2.lt, ?_⟩⟩
                have hi := (List.getElem?_eq_some_iff.1 hx).1
                rw [List.length_take, HY.out.2.1] at hi
                rw [Nat.zero_add, hb2.cell (by rw [HY.out.2.1]; omega)]
                rw [List.getElem?_take, if_pos (by omega)] at hx
                rw [List.getD_eq_getElem?_getD, hx]; rfl
              have hcl := clone_any w2 _ Bn 6 (y.take Bn) hIA (.inr ⟨_, _, rfl⟩) (by omega)
              clear hsl hIA hbx
              refine hcl.mono ?_
              rintro e w3 ⟨vc, rfl, hrc, hb3⟩
              clear hcl
              have htl : (y.take Bn).length = Bn := by rw [List.length_take, HY.out.2.1]; omega
              have hown : IntsOwn w3 vc (y.take Bn) := intsOwn_of_row (by rw [htl]; exact hrc) (by omega)
              obtain ⟨vs, hvs⟩ : ∃ vs, vs = vc := ⟨_, rfl⟩
              have hvs2 : ∃ gc oc cx, vc = .slice (some ⟨gc, oc, none⟩) Bn cx := by
                obtain ⟨gc, oc, cx, _, hv, _⟩ := hown
                rw [htl] at hv
                exact ⟨gc, oc, cx, hv⟩
              obtain ⟨gc, oc, cx, rfl⟩ := hvs2
              have HO := Lib.hid hown
              clear hvs
              have hB3 : Below w1.heap.size w1 w3 := ((below_alloc0 w1 _).trans (hu2.below (Nat.le_refl _))).trans (hb3.mono (by rw [hu2.size]; simp))
              have hsz3 := hB3.size
              have HB3 := Lib.hid hB3
              clear hrc hown hB3 htl
              obtain ⟨N, hN⟩ : ∃ N, N = F.length := ⟨_, rfl⟩
              have HNF := Lib.hid hN
              rw [← hN] at hrow1
              clear hN
              go_wp2_with (at_builtin; go_must (refine row_append_op w.heap.size rfl _ _ 60 40 _ 1 24 rfl Try.underlying60 info40 (by rfl) (by decide) (row_below (row_below hrow1 HB3.out) (below_alloc0 _ _)) rfl _ #[.slice (some ⟨gc, oc, none⟩) Bn cx] 40 rfl (heap_alloc_new _ _) rfl (by simp [Value.oneCell']) (by have := HY.out; have := HNF.out; omega) (by unfold maxLen; have := HY.out; have := HNF.out; omega) (by rw [World.size_alloc]; have := HY.out; omega) ?_); intro v' w4 hrow4 hg4 hat4)
              rw [HNF.out] at hrow4
              have hNX := IE.next hk3 hit3 hperm3 hrow hF2 hF hbel HBOX.out HN3.out.1 HN3.out.2 hp hit1 hu1 hu2 hb3 (by rw [← HY.out.1, hBn, Int.toNat_natCast]; exact HO.out) hrow4 hg4
              have HNX := Lib.hid hNX
              clear hNX hrow4 hg4 hat4 hk3 hit3 hperm3 hrow hF2 hF hbel hp hit1 hu1 hu2 hb3
              go_roundg L'.length
              case measure => exact HNX.out.2
              case rel => exact HNX.out.1
        · have hnx : ∀ ty, (Instr.next (.pointer (some ⟨it, 0, none⟩)) false ty).run Try.prog wr = .ok (.tuple #[.bool true, .agg (ints p.1), .int .i64 p.2]) w1 := fun ty => hrun
          clear hrun
          have hpm : p ∈ MD := hperm.subset (List.mem_append.2 (.inr (hp.symm.subset (by simp))))
          obtain ⟨s0, hs0, hst⟩ := HD.out.1 p hpm
          have hpU := ho.mem hs0 hst
          obtain ⟨s, hs⟩ : ∃ s, s = p.1 := ⟨_, rfl⟩
          rw [← hs] at hnx hen hpU hst
          have hlen := hU.len _ hpU
          have HK := Lib.hid (show (∀ y, ImgOf s y → ∃ l, keyOf Try.prog 63 (fA y) = some l) ∧ s ∈ OrdU h os from ⟨fun y hy => by
            have := ho.mild (c := y) ⟨s0, s, hs0, hst, hy⟩
            exact key63 this.1 this.2, hpU⟩)
          have HP := Lib.hid hlen
          have HS := Lib.hid hs
          have hsz1 := hu1.size
          have hen' : (Instr.entry (.pointer (some ⟨it, 0, none⟩))).run Try.prog w1 = .ok (.tuple #[.agg (ints s), .int .i64 p.2]) w1 := hen
          have HSZ := Lib.hid hsz1
          clear hs hpm hs0 hst hpU hlen hsz1 hen
          go_wp2_with (refine store_blk rfl 86 _ _ rfl w1.heap.size s rfl rfl (t := 86) (xs := List.replicate 73 0) (by rw [zero86]; exact blk_at _ _ _ _ rfl) i86 (by simp) HP.out ?_; intro w2 hb2 hu2)
          rw [put_none]
          have hz3 : ∀ W, (zeroValue 3).run Try.prog W = .ok (gI 0) W := fun W => by kernel_rfl
          have hB : Below w1.heap.size w1 w2.drew := ((below_alloc0 w1 _).trans (hu2.below (Nat.le_refl _))).drew
          have hm3 : MapOf Try.prog 63 fA gI w2.drew nb M1 := (hmap.same (hu1.block nb (by have := HN.out; omega))).below hB (by have := hmap.lt; have := hu1.size; omega)
          have hle := mget_le hcnt hm3.nodup (s.take 6)
          obtain ⟨cc, v0, st, w5, w6, hq⟩ := hm3.counts law63 agg_inj Try.underlying90 hz3 (HK.out.1 _ (.inl rfl))
          rw [← hq.1] at hle
          have hwr : IntKind.i64.wrap (cc + 1) = cc + 1 := IntWalk.i64_in _ (by have := HD.out.2.1; have := hperm.length_eq; simp at this; omega)
          have i2 : IsBlk w2.drew w1.heap.size 73 86 := ⟨s, hb2, HP.out⟩
          have e2 : blkOf w2.drew w1.heap.size = s := blkOf_eq (t := 86) (show Blk w2.drew w1.heap.size s 86 from hb2)
          have hne : w1.heap.size ≠ nb := by have := hmap.lt; have := hu1.size; omega
          have hb6 : Blk w6 w1.heap.size s 86 := by unfold Blk; rw [hq.2.2.2.2.2.2.2.block _ hne, hq.2.2.2.2.2.2.1.block _ hne]; exact hb2
          have HQ := Lib.hid hq
          have HZ := Lib.hid hz3
          obtain ⟨hcc, hlk0, hen2, hlk5, hes, _, _, _⟩ := hq
          clear hcc
          have HB := Lib.hid hB
          have HM3 := Lib.hid hm3
          have HB6 := Lib.hid hb6
          clear hle hz3 hB hm3 hne hb6
          go_region
          clear hlk0 hen2 hlk5 hes hwr i2 e2
          have hch := ho.all.1
          obtain ⟨m, hm⟩ : ∃ m, m = (chR h os.reverse).2 := ⟨_, rfl⟩
          have hm11 : m ≤ 11 := by have := ho.all.2.1; have := ho.len; omega
          have hmi : (ints s)[6]? = some (.int .i64 m) := by rw [ints_getD (by rw [HP.out]; omega), hm, hch.six HK.out.2]
          have HMI := Lib.hid hmi
          have HCH := Lib.hid (show ∀ q ∈ shD s, ∃ b : Nat, q.1 = b ∧ b < h.blocks.toNat ∧ b < 6 from fun q hq => (hch.drain HK.out.2 (by omega) hq).2)
          clear hmi hm hch
          go_wp2_with (refine load_blk rfl 86 _ rfl w1.heap.size rfl HB6.out Try.underlying86 rfl i86 HP.out ?_)
          refine (drains_any s m _ HMI.out hm11 HP.out).mono ?_
          rintro e w7 ⟨d2, rfl, hd2, hmd2, hb7⟩
          obtain ⟨hrg2, hit2⟩ := hmd2.range Try.underlying91
          generalize hmd2.choose_spec.choose = c7 at hrg2 hit2
          have hgs : it < w1.heap.size := hit1.lt.2.1
          have HI := ID.start hkeys hcnt hbel hbox HN.out.2.2 HN.out.1 HN.out.2.1 hit1 hu1 (Nat.le_refl _) HB.out (show Blk w2.drew w1.heap.size s 86 from hb2) HM3.out HQ.out hb7 hit2
          have hd2' : w1.heap.size < d2 := by have := HB6.out.lt; omega
          have hdi2 : d2 < w7.heap.size := hmd2.lt
          have HO := Lib.hid (show rst.length ≤ gk ∧ (done ++ rst).Perm MD ∧ rst.Perm (p :: L') ∧ s = p.1 from ⟨hk, hperm, hp, HS.out⟩)
          obtain ⟨ko, rfl⟩ : ∃ ko : Nat, ko = gk := ⟨_, rfl⟩
          obtain ⟨gs, hgs1⟩ : ∃ gs, gs = w1.heap.size := ⟨_, rfl⟩
          obtain ⟨it2, hit21⟩ : ∃ it2, it2 = w7.heap.size := ⟨_, rfl⟩
          rw [← hgs1, ← hit21] at HI
          rw [← hgs1] at hgs hd2'
          rw [← hit21] at hdi2
          have HN2 := Lib.hid (show it < gs ∧ gs < d2 ∧ d2 < it2 from ⟨hgs, hd2', hdi2⟩)
          clear hit2 hmd2 hd2 hb7 HMI hm11 HB6 HM3 HB HQ hb2 hu2 HSZ hen' hnx hu1 hit1 hp hbox hbel hcnt hkeys hmap hperm hit hk hgs hd2' hdi2
          go_wp2_with fail
          rw [← hgs1, ← hit21]
          clear hgs1 hit21 hrg2
          go_loopg [] (shD s).length (fun k wr => ID w h.blocks A n c d it nb MD done L' s gs d2 it2 k wr)
          case atStart => exact HI
          case round =>
            clear HI
            obtain ⟨done2, rst2, M2, hk2, hit2, hperm2, hito, hmap, hkeys, hcnt, hbs, hbel, hbox⟩ := hrel
            rcases hit2.next 0 with ⟨hnil, hrun⟩ | ⟨q, L2, w1, hp2, hrun, hit21, hu1, hen⟩
            · have hnx : ∀ ty, (Instr.next (.pointer (some ⟨it2, 0, none⟩)) false ty).run Try.prog wr = .ok (.tuple #[.bool false]) wr := fun ty => hrun
              clear hrun
              subst hnil
              rw [List.append_nil] at hperm2
              have HE := Lib.hid (ID.done HO.out.2.2.2 HO.out.1 HO.out.2.2.1 HO.out.2.1 hperm2 hito hmap hkeys hcnt hbel hbox)
              clear hit2 hperm2 hmap hkeys hcnt hbel hbox hito hbs
              go_wp2_with fail
              go_roundg L'.length
              case measure => exact HE.out.2
              case rel => exact HE.out.1
            · have hnx : ∀ ty, (Instr.next (.pointer (some ⟨it2, 0, none⟩)) false ty).run Try.prog wr = .ok (.tuple #[.bool true, .int .i64 q.1, .agg (ints q.2)]) w1 := fun ty => hrun
              clear hrun
              have hqm : q ∈ shD s := hperm2.subset (List.mem_append.2 (.inr (hp2.symm.subset (by simp))))
              obtain ⟨b, hqb, hbB, hb6⟩ := HCH.out q hqm
              have hen' : (Instr.entry (.pointer (some ⟨it2, 0, none⟩))).run Try.prog w1 = .ok (.tuple #[.int .i64 b, .agg (ints q.2)]) w1 := by rw [← hqb]; exact hen
              rw [hqb] at hnx
              have hbs1 : Blk w1 gs s 86 := by unfold Blk; rw [hu1.block _ (by have := HN2.out; omega)]; exact hbs
              obtain ⟨y, hy⟩ : ∃ y, y = s.take 6 := ⟨_, rfl⟩
              have hyl : y.length = 6 := by rw [hy, List.length_take, HP.out]; rfl
              have hcs : ∀ j u, (ints y).toList[j]? = some u → w1.cell? ⟨gs, 0 + j, none⟩ = some u := fun j u hu => by
                have hj := (List.getElem?_eq_some_iff.1 hu).1
                simp [ints_toList, hyl] at hj
                rw [Nat.zero_add, hbs1.cell (by rw [HP.out]; omega)]
                rw [ints_toList, hy, List.getElem?_map, List.getElem?_take, if_pos hj, List.getElem?_eq_getElem (by rw [HP.out]; omega)] at hu
                rw [← hu, List.getD_eq_getElem?_getD, List.getElem?_eq_getElem (by rw [HP.out]; omega)]
                rfl
              have HY := Lib.hid (show y = s.take 6 ∧ y.length = 6 ∧ q.1 = (b : Int) ∧ q ∈ shD s from ⟨hy, hyl, hqb, hqm⟩)
              have HCS := Lib.hid hcs
              clear hy hyl hqb hqm hcs hbs1 hen
              go_wp2_with (first
                | (refine load_cells rfl 63 _ rfl gs 0 rfl HCS.out Try.underlying63 rfl i63 HY.out.2.1 ?_)
                | (refine store_blk rfl 63 _ _ rfl w1.heap.size y rfl rfl (t := 63) (xs := [0, 0, 0, 0, 0, 0]) (blk_zero6 w1) i63 rfl HY.out.2.1 ?_; intro w2 hb2 hu2; have hcw := hb2.cell (j := b) (by rw [HY.out.2.1]; omega); have hfw := hb2.free b))
              have hb3 := hb2.set b (-2)
              have hu3 := hu2.set b (.int .i64 (-2))
              obtain ⟨w3, hw3⟩ : ∃ w3, w3 = w2.setCell ⟨w1.heap.size, b, none⟩ (.int .i64 (-2)) := ⟨_, rfl⟩
              rw [← hw3] at hb3 hu3 ⊢
              clear hw3 hcw hfw hb2 hu2
              obtain ⟨z, hz⟩ : ∃ z, z = y.set b (-2) := ⟨_, rfl⟩
              rw [← hz] at hb3
              have hzl : z.length = 6 := by rw [hz, List.length_set, HY.out.2.1]
              have hze : (s.take 6).set q.1.toNat (-2) = z := by rw [hz, HY.out.1, HY.out.2.2.1, Int.toNat_natCast]
              have hzk := HK.out.1 z (.inr ⟨q, HY.out.2.2.2, hze.symm⟩)
              have hB : Below w1.heap.size w1 w3.drew := ((below_alloc0 w1 _).trans (hu3.below (Nat.le_refl _))).drew
              have hm3 : MapOf Try.prog 63 fA gI w3.drew nb M2 := (hmap.same (hu1.block nb (by have := HN2.out; have := HN.out; omega))).below hB (by have := hmap.lt; have := hu1.size; omega)
              have hle := mget_le hcnt hm3.nodup z
              obtain ⟨cc, v0, st, w5, w6, hq⟩ := hm3.counts law63 agg_inj Try.underlying90 HZ.out hzk
              rw [← hq.1] at hle
              have hwr : IntKind.i64.wrap (cc + 1) = cc + 1 := IntWalk.i64_in _ (by have := HD.out.2.1; have := HO.out.2.1.length_eq; have := hperm2.length_eq; have := shD_le s; simp at *; omega)
              have i3 : IsBlk w3.drew w1.heap.size 6 63 := ⟨z, hb3, hzl⟩
              have e3 : blkOf w3.drew w1.heap.size = z := blkOf_eq (t := 63) (show Blk w3.drew w1.heap.size z 63 from hb3)
              have HQ := Lib.hid hq
              obtain ⟨hcc, hlk0, hen2, hlk5, hes, _, _, _⟩ := hq
              have HNX := Lib.hid (ID.next hk2 hperm2 hito hkeys hcnt hbs hbel hbox HN.out.2.2 HN.out.1 HN.out.2.1 HN2.out.1 HN2.out.2.1 HN2.out.2.2 hp2 hit21 hu1 hB hm3 (hze ▸ HQ.out))
              clear hcc hz hzl hze hzk hle hB hm3 HQ hk2 hperm2 hito hkeys hcnt hbs hbel hbox hp2 hit21 hu1 hb3 hu3 hit2 hmap
              go_region
              go_wp2_with fail
              go_roundg L2.length
              case measure => exact HNX.out.2
              case rel => exact HNX.out.1

end Go.Proofs.Ytagekhgfoabgbaa
end
