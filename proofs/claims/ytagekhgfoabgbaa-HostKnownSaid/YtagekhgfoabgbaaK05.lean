/- Stages: result, may, kept, do. -/
import Derived.Test.YtagekhgfoabgbaaK04

section
/- Stages in memory; the small functions on them. -/
set_option linter.unusedSimpArgs false
set_option linter.unusedVariables false
namespace Go.Proofs.Ytagekhgfoabgbaa
open Go.RowKit Go.Maps

/-- A slice's block, if any, is one of whole numbers. -/
def TyI (w : World) (A : Option Addr) : Prop := ∀ a, A = some a → ∃ cs, w.heap[a.block]? = some (.cells cs 3 (0, 0))
theorem tyI_none (w : World) : TyI w none := fun a h => by cases h
theorem TyI.kept {w w' : World} {A : Option Addr} (h : TyI w A) (hb : ∀ (k : Nat) (cs : Array Value), w.heap[k]? = some (.cells cs 3 (0, 0)) → w'.heap[k]? = w.heap[k]?) : TyI w' A := fun a ha => by
  obtain ⟨cs, hc⟩ := h a ha
  exact ⟨cs, (hb _ cs hc).trans hc⟩
/-- A stage, without the stage before it. -/
structure Sg where
  done : Nat
  orders : List Int
  keeps : List Int
  cmd : Int
  image : List Int
/-- .. in block g. -/
def StB (w : World) (g : Nat) (s : Sg) (bf : Option Nat) : Prop :=
  ∃ (A : Option Addr) (n c : Nat) (A2 : Option Addr) (n2 c2 : Nat) (k0 k1 k2 k3 k4 k5 : Int), s.keeps = [k0, k1, k2, k3, k4, k5] ∧
    w.heap[g]? = some (.cells #[gI s.done, .slice A n c, gI k0, gI k1, gI k2, gI k3, gI k4, gI k5, .pointer (bf.map fun b => ⟨b, 0, none⟩), gI s.cmd, .slice A2 n2 c2] 65 (0, 0)) ∧
    IntsAt w A n s.orders ∧ (A = none ∨ ∃ b off, A = some ⟨b, off, none⟩) ∧ n ≤ c ∧ IntsAt w A2 n2 s.image ∧ n2 ≤ c2 ∧ TyI w A ∧ TyI w A2
theorem StB.lt {w : World} {g : Nat} {s : Sg} {bf : Option Nat} (h : StB w g s bf) : g < w.heap.size := by
  obtain ⟨_, _, _, _, _, _, _, _, _, _, _, _, _, h, _⟩ := h
  exact (Array.getElem?_eq_some_iff.1 h).1
theorem StB.below {w w' : World} {g B : Nat} {s : Sg} {bf : Option Nat} (h : StB w g s bf) (hb : Below B w w') (hB : w.heap.size ≤ B) : StB w' g s bf := by
  have hl := h.lt
  obtain ⟨A, n, c, A2, n2, c2, k0, k1, k2, k3, k4, k5, hk, h, h1, h2, h3, h4, h5, h6, h7⟩ := h
  have hty : ∀ (k : Nat) (cs : Array Value), w.heap[k]? = some (.cells cs 3 (0, 0)) → w'.heap[k]? = w.heap[k]? := fun k cs hk => hb.block k (by have := (Array.getElem?_eq_some_iff.1 hk).1; omega)
  exact ⟨A, n, c, A2, n2, c2, k0, k1, k2, k3, k4, k5, hk, (hb.block g (by omega)).trans h, h1.below hb hB, h2, h3, h4.below hb hB, h5, h6.kept hty, h7.kept hty⟩
/-- It stays where the blocks of stages and of whole numbers stay. -/
theorem StB.kept {w w' : World} {g : Nat} {s : Sg} {bf : Option Nat} (h : StB w g s bf) (hg : w'.heap[g]? = w.heap[g]?) (hb : ∀ (k : Nat) (cs : Array Value), w.heap[k]? = some (.cells cs 3 (0, 0)) → w'.heap[k]? = w.heap[k]?) : StB w' g s bf := by
  obtain ⟨A, n, c, A2, n2, c2, k0, k1, k2, k3, k4, k5, hk, h, h1, h2, h3, h4, h5, h6, h7⟩ := h
  have ia : ∀ {A : Option Addr} {n : Nat} {xs : List Int}, IntsAt w A n xs → TyI w A → IntsAt w' A n xs := fun {A n xs} hx ht => ⟨hx.1, fun i x hi => by
    obtain ⟨g, o, hA, hg, hc⟩ := hx.2 i x hi
    obtain ⟨cs, hcs⟩ := ht _ hA
    have e := hb g cs hcs
    exact ⟨g, o, hA, (Array.getElem?_eq_some_iff.1 (e.trans hcs)).1, (World.cell?_of_block e).trans hc⟩⟩
  exact ⟨A, n, c, A2, n2, c2, k0, k1, k2, k3, k4, k5, hk, hg.trans h, ia h1 h6, h2, h3, ia h4 h7, h5, h6.kept hb, h7.kept hb⟩
/-- The stages of a play, the last one first. -/
def StAt (w : World) (g : Nat) : List Sg → Prop
  | [] => False
  | [s] => StB w g s none
  | s :: r => ∃ g', StB w g s (some g') ∧ StAt w g' r
theorem StAt.below {w w' : World} {B : Nat} (hb : Below B w w') (hB : w.heap.size ≤ B) : ∀ {p : List Sg} {g : Nat}, StAt w g p → StAt w' g p
  | [], _, h => h
  | [s], _, h => StB.below h hb hB
  | s :: t :: r, _, ⟨g', h1, h2⟩ => ⟨g', h1.below hb hB, StAt.below hb hB h2⟩
theorem StAt.head {w : World} {g : Nat} {s : Sg} {r : List Sg} (h : StAt w g (s :: r)) : ∃ bf, StB w g s bf := by
  cases r with
  | nil => exact ⟨_, h⟩
  | cons t r => obtain ⟨g', h1, _⟩ := h; exact ⟨_, h1⟩
theorem StAt.lt {w : World} {g : Nat} {s : Sg} {r : List Sg} (h : StAt w g (s :: r)) : g < w.heap.size := by obtain ⟨_, h⟩ := h.head; exact h.lt

/-- The cells of a stage. -/
theorem StB.open {w : World} {g : Nat} {s : Sg} {bf : Option Nat} (h : StB w g s bf) : ∃ (A : Option Addr) (n c : Nat) (A2 : Option Addr) (n2 c2 : Nat) (k0 k1 k2 k3 k4 k5 : Int), s.keeps = [k0, k1, k2, k3, k4, k5] ∧
    w.cell? ⟨g, 0, none⟩ = some (gI s.done) ∧ w.cell? ⟨g, 1, none⟩ = some (.slice A n c) ∧ w.cell? ⟨g, 2, none⟩ = some (gI k0) ∧ w.cell? ⟨g, 3, none⟩ = some (gI k1) ∧ w.cell? ⟨g, 4, none⟩ = some (gI k2) ∧ w.cell? ⟨g, 5, none⟩ = some (gI k3) ∧
    w.cell? ⟨g, 6, none⟩ = some (gI k4) ∧ w.cell? ⟨g, 7, none⟩ = some (gI k5) ∧ w.cell? ⟨g, 8, none⟩ = some (.pointer (bf.map fun b => ⟨b, 0, none⟩)) ∧ w.cell? ⟨g, 9, none⟩ = some (gI s.cmd) ∧ w.cell? ⟨g, 10, none⟩ = some (.slice A2 n2 c2) ∧
    IntsAt w A n s.orders ∧ (A = none ∨ ∃ b off, A = some ⟨b, off, none⟩) ∧ n ≤ c ∧ IntsAt w A2 n2 s.image ∧ n2 ≤ c2 ∧ TyI w A ∧ TyI w A2 := by
  obtain ⟨A, n, c, A2, n2, c2, k0, k1, k2, k3, k4, k5, hk, h, r⟩ := h
  refine ⟨A, n, c, A2, n2, c2, k0, k1, k2, k3, k4, k5, hk, ?_, ?_, ?_, ?_, ?_, ?_, ?_, ?_, ?_, ?_, ?_, r⟩ <;> rw [cell_of_row w g _ _ _ _ h] <;> rfl

set_option maxRecDepth 100000 in
theorem bits_was : ∀ d : Nat, d < 64 → ∀ n : Nat, n < 6 → (Go.bits .and .i64 ((d : Int) / 2 ^ n) 1 == 1) = d.testBit n := of_decide_eq_true (by kernel_rfl)
set_option maxRecDepth 100000 in
theorem bits_or : ∀ d : Nat, d < 64 → ∀ n : Nat, n < 6 → Go.bits .or .i64 (d : Int) (2 ^ n : Int) = ((d ||| 2 ^ n : Nat) : Int) := of_decide_eq_true (by kernel_rfl)
set_option maxRecDepth 100000 in
theorem bits_all : ∀ d : Nat, d < 64 → ∀ a : Nat, a < 64 → (Go.bits .and .i64 (d : Int) (a : Int) == (a : Int)) = (d &&& a == a) := of_decide_eq_true (by kernel_rfl)

theorem was_any (w : World) (g n : Nat) (s : Sg) (bf : Option Nat) (h : StB w g s bf) (hd : s.done < 64) (hn : n < 6) :
    Calls Try.prog 76 #[.pointer (some ⟨g, 0, none⟩), .int .i64 n] w fun e w' => e = .returned (.bool (s.done.testBit n)) ∧ w = w' := by
  obtain ⟨A, m, c, A2, n2, c2, k0, k1, k2, k3, k4, k5, hk, h0, _⟩ := h.open
  go_enter Try.func76, Try.ntmps76
  go_wp2
  go_ret
  refine ⟨?_, rfl⟩
  rw [← bits_was s.done hd n hn]
  rfl

end Go.Proofs.Ytagekhgfoabgbaa
end

section
/- The key of a stage. -/
set_option linter.unusedSimpArgs false
set_option linter.unusedVariables false
namespace Go.Proofs.Ytagekhgfoabgbaa
open Go.RowKit Go.Maps

theorem i72 : (Try.prog.info? 72).map (·.size) = some 18 := by kernel_rfl
theorem i3 : (Try.prog.info? 3).map (·.size) = some 1 := by kernel_rfl
/-- copy of whole numbers into a block of whole numbers. -/
theorem run_copy_ints (W : World) (ty : TypeId) (g o dLen dCap : Nat) (A : Option Addr) (m c : Nat) (L0 xs : List Int) (t : TypeId) (hb : Blk W g L0 t) (hX : IntsAt W A m xs) (hA : A = none ∨ ∃ b off, A = some ⟨b, off, none⟩) (hm : m ≤ dLen) (hfit : o + m ≤ L0.length) :
    (Builtin.copy_ #[40, 40] ty #[.slice (some ⟨g, o, none⟩) dLen dCap, .slice A m c]).run Try.prog W = .ok (goInt m) (W.setRow g (ints (L0.take o ++ xs ++ L0.drop (o + m)))) := by
  obtain ⟨hl, hX⟩ := hX
  by_cases h0 : m = 0
  · subst h0
    have hx : xs = [] := List.length_eq_zero_iff.1 hl
    subst hx
    rw [run_copy_none W _ _ _ 3 _ _ _ _ _ _ Try.underlying40 i3 (by simp)]
    congr 1
    have : L0.take o ++ [] ++ L0.drop (o + 0) = L0 := by simp
    rw [this]
    exact (setRow_self W g (ints L0) t (0, 0) hb).symm
  · rcases hA with rfl | ⟨b, off, rfl⟩
    · cases xs with
      | nil => simp at hl; omega
      | cons x r => obtain ⟨g', o', h, _⟩ := hX 0 x rfl; cases h
    · have := run_copy_row (P := Try.prog) W 40 40 ty 3 g o dLen dCap ⟨b, off, none⟩ m c (ints L0) t (xs.map gI) Try.underlying40 i3 hb (by rw [List.length_map, hl]; exact (Nat.min_eq_left hm).symm) (fun j v hv => by
        rw [List.getElem?_map] at hv
        cases hj : xs[j]? with
        | none => rw [hj] at hv; cases hv
        | some x =>
          rw [hj] at hv
          obtain ⟨g', o', he, _, hc⟩ := hX j x hj
          injection he with he
          injection he with h1 h2 _
          subst h1; subst h2
          rw [addr_add, hc]
          exact hv) (by simp [ints_size, hl]; omega) (fun v hv => by obtain ⟨x, _, rfl⟩ := List.mem_map.1 hv; rfl)
      have e : ((ints L0).toList.take o ++ xs.map gI ++ (ints L0).toList.drop (o + m)).toArray = ints (L0.take o ++ xs ++ L0.drop (o + m)) := by
        rw [ints_toList]
        unfold ints
        rw [List.map_append, List.map_append, List.map_take, List.map_drop]
      rw [List.length_map, hl, e] at this
      exact this

def keyL (s : Sg) : List Int := [(s.done : Int), s.orders.length] ++ (s.orders ++ List.replicate (10 - s.orders.length) 0) ++ s.keeps
set_option maxRecDepth 100000 in
set_option maxHeartbeats 1000000 in
theorem key_any (w : World) (g : Nat) (s : Sg) (bf : Option Nat) (h : StB w g s bf) (ho : s.orders.length ≤ 10) :
    Calls Try.prog 41 #[.pointer (some ⟨g, 0, none⟩)] w fun e w' => e = .returned (.agg (ints (keyL s))) ∧ Below w.heap.size w w' := by
  have hlt := h.lt
  obtain ⟨A, m, c, A2, n2, c2, k0, k1, k2, k3, k4, k5, hk, h0, h1, h2, h3, h4, h5, h6, h7, _, _, _, hO, hA, hmc, _⟩ := h.open
  have hne : g ≠ w.heap.size := by omega
  go_enter Try.func41, Try.ntmps41
  go_wp2_with fail
  have hkl : keyL s = [(s.done : Int), (m : Int)] ++ (s.orders ++ List.replicate (10 - m) 0) ++ [k0, k1, k2, k3, k4, k5] := by unfold keyL; rw [hk, hO.1]
  have hm10 : m ≤ 10 := by rw [← hO.1]; exact ho
  have HK := Lib.hid hkl
  have HO := Lib.hid hO
  have HA := Lib.hid hA
  clear hkl hO hA hk ho h
  go_region
  obtain ⟨W, hW⟩ : ∃ W, W = ((w.alloc (.cells #[.int .i64 0, .int .i64 0, .int .i64 0, .int .i64 0, .int .i64 0, .int .i64 0, .int .i64 0, .int .i64 0, .int .i64 0, .int .i64 0, .int .i64 0, .int .i64 0, .int .i64 0, .int .i64 0, .int .i64 0, .int .i64 0, .int .i64 0, .int .i64 0] 72)).alloc (.cells #[.int .i64 s.done, .int .i64 m, .int .i64 0, .int .i64 0, .int .i64 0, .int .i64 0, .int .i64 0, .int .i64 0, .int .i64 0, .int .i64 0, .int .i64 0, .int .i64 0, .int .i64 k0, .int .i64 k1, .int .i64 k2, .int .i64 k3, .int .i64 k4, .int .i64 k5] 72)).drew := ⟨_, rfl⟩
  rw [← hW]
  have hL : Below w.heap.size w W := by rw [hW]; exact (((below_alloc0 w _).alloc (by simp) _)).drew
  have hz : W.heap.size = w.heap.size + 2 := by rw [hW]; simp
  have hB1 : Blk W (w.heap.size + 1) [(s.done : Int), (m : Int), 0, 0, 0, 0, 0, 0, 0, 0, 0, 0, k0, k1, k2, k3, k4, k5] 72 := by
    rw [hW]
    exact (blk_at (w.alloc _) _ [(s.done : Int), (m : Int), 0, 0, 0, 0, 0, 0, 0, 0, 0, 0, k0, k1, k2, k3, k4, k5] _ (by simp)).drew
  have hB0 : Blk W w.heap.size (List.replicate 18 0) 72 := by
    rw [hW]
    exact ((blk_new w (List.replicate 18 0) _).alloc _).drew
  have hcell := hL.cell (p := ⟨g, 1, none⟩) hlt
  have h1' : W.drew.cell? ⟨g, 1, none⟩ = some (.slice A m c) := hcell.trans h1
  have hcp := run_copy_ints W.drew 3 (w.heap.size + 1) 2 10 10 A m c _ s.orders 72 hB1.drew (HO.out.below hL.drew (Nat.le_refl _)) HA.out hm10 (by simp; omega)
  have hB2 : Blk (W.drew.setRow (w.heap.size + 1) (ints (List.take 2 [(s.done : Int), (m : Int), 0, 0, 0, 0, 0, 0, 0, 0, 0, 0, k0, k1, k2, k3, k4, k5] ++ s.orders ++ List.drop (2 + m) [(s.done : Int), (m : Int), 0, 0, 0, 0, 0, 0, 0, 0, 0, 0, k0, k1, k2, k3, k4, k5]))) (w.heap.size + 1) (keyL s) 72 := by
    have e : List.take 2 [(s.done : Int), (m : Int), 0, 0, 0, 0, 0, 0, 0, 0, 0, 0, k0, k1, k2, k3, k4, k5] ++ s.orders ++ List.drop (2 + m) [(s.done : Int), (m : Int), 0, 0, 0, 0, 0, 0, 0, 0, 0, 0, k0, k1, k2, k3, k4, k5] = keyL s := by
      rw [HK.out]
      have : List.drop (2 + m) [(s.done : Int), (m : Int), 0, 0, 0, 0, 0, 0, 0, 0, 0, 0, k0, k1, k2, k3, k4, k5] = List.replicate (10 - m) 0 ++ [k0, k1, k2, k3, k4, k5] := by
        rw [Nat.add_comm]
        show List.drop m (List.replicate 10 0 ++ [k0, k1, k2, k3, k4, k5]) = _
        rw [List.drop_append_of_le_length (by simp; omega), List.drop_replicate]
      rw [this]
      simp
    rw [e]
    exact blk_setRow hB1.drew _
  have hU2 := upd_setRow W.drew (w.heap.size + 1) (ints (List.take 2 [(s.done : Int), (m : Int), 0, 0, 0, 0, 0, 0, 0, 0, 0, 0, k0, k1, k2, k3, k4, k5] ++ s.orders ++ List.drop (2 + m) [(s.done : Int), (m : Int), 0, 0, 0, 0, 0, 0, 0, 0, 0, 0, k0, k1, k2, k3, k4, k5]))
  generalize W.drew.setRow (w.heap.size + 1) (ints (List.take 2 [(s.done : Int), (m : Int), 0, 0, 0, 0, 0, 0, 0, 0, 0, 0, k0, k1, k2, k3, k4, k5] ++ s.orders ++ List.drop (2 + m) [(s.done : Int), (m : Int), 0, 0, 0, 0, 0, 0, 0, 0, 0, 0, k0, k1, k2, k3, k4, k5])) = W2 at hcp hB2 hU2
  have hgi : goInt (m : Int) = .int .i64 m := rfl
  have HL := Lib.hid (show keyL s = keyL s ∧ (keyL s).length = 18 from ⟨rfl, by rw [HK.out]; simp [HO.out.1]; omega⟩)
  have HB0 := Lib.hid hB0
  have HL2 := Lib.hid (show Below w.heap.size w W ∧ W.heap.size = w.heap.size + 2 from ⟨hL, hz⟩)
  have HB1 := Lib.hid hB1
  clear hW hcell hL hz hB0 HK HO HA hB1
  go_wp2_with fail
  go_region
  have hne2 : w.heap.size ≠ w.heap.size + 1 := by omega
  have hB0' : Blk W2 w.heap.size (List.replicate 18 0) 72 := by unfold Blk; rw [hU2.block _ hne2]; exact HB0.out
  clear hcp hgi h1' h0 h1 h2 h3 h4 h5 h6 h7 hne2
  go_wp2_with (first
    | (refine load_blk rfl 72 _ rfl (w.heap.size + 1) rfl hB2 Try.underlying72 rfl i72 HL.out.2 ?_)
    | (refine store_blk rfl 72 _ _ rfl w.heap.size (keyL s) rfl rfl hB0' i72 (by simp) HL.out.2 ?_; intro w4 hb4 hu4))
  refine bodyPost_ret (v := .agg (ints (keyL s))) (results_blk rfl _ w.heap.size rfl hb4 Try.underlying72 rfl i72 HL.out.2) rfl ⟨rfl, ?_⟩
  exact ((HL2.out.1.drew).trans (hU2.below (by omega))).trans (hu4.below (Nat.le_refl _))

end Go.Proofs.Ytagekhgfoabgbaa
end

section
/- may: whether a command can be the next one. -/
set_option linter.unusedSimpArgs false
set_option linter.unusedVariables false
namespace Go.Proofs.Ytagekhgfoabgbaa
open Go.RowKit Go.Maps

/-- Command i stands in the way of c. -/
def badAt (s : Sg) (c o : Cmd) (i : Nat) : Bool := (!s.done.testBit i && !decide (o.to < 0) && decide (o.to < c.frm)) || (s.done.testBit i && decide (o.kind = 9) && decide (c.frm < o.frm))
def mayS (h : Hist) (s : Sg) (n : Nat) : Bool := !s.done.testBit n && (List.range h.cmds.length).all fun i => !badAt s (h.cmd n) (h.cmd i) i
/-- The first k do not. -/
def okTo (h : Hist) (s : Sg) (n k : Nat) : Prop := ∀ i, i < k → badAt s (h.cmd n) (h.cmd i) i = false
theorem mayS_true {h : Hist} {s : Sg} {n : Nat} (h1 : s.done.testBit n = false) (h2 : okTo h s n h.cmds.length) : mayS h s n = true := by
  unfold mayS
  rw [h1]
  simp only [Bool.not_false, Bool.true_and, List.all_eq_true]
  intro i hi
  rw [h2 i (by simpa using hi)]; rfl
theorem mayS_bad {h : Hist} {s : Sg} {n i : Nat} (hi : i < h.cmds.length) (h2 : badAt s (h.cmd n) (h.cmd i) i = true) : mayS h s n = false := by
  unfold mayS
  rw [Bool.and_eq_false_iff]
  right
  rw [List.all_eq_false]
  exact ⟨i, by simpa using hi, by rw [h2]; simp⟩
theorem mayS_done {h : Hist} {s : Sg} {n : Nat} (h1 : s.done.testBit n = true) : mayS h s n = false := by unfold mayS; rw [h1]; rfl

/-- What a loop over the commands keeps: the history's box, and one command's. -/
def MW (w : World) (h : Hist) (A : Option Addr) (n c : Nat) (cm : Cmd) (wr : World) : Prop :=
  Below w.heap.size w wr ∧ wr.heap[w.heap.size]? = some (.cells #[gI h.blocks, .slice A n c] 24 (0, 0)) ∧ wr.heap[w.heap.size + 1]? = some (.cells #[gI cm.kind, gI cm.block, gI cm.value, gI cm.frm, gI cm.to] 36 (0, 0)) ∧ w.heap.size + 1 < wr.heap.size
theorem CmdsAt.get {w : World} {A : Option Addr} {n : Nat} {h : Hist} (hC : CmdsAt w A n h.cmds) {i : Nat} (hi : i < n) : ∃ g o, A = some ⟨g, o, none⟩ ∧ g < w.heap.size ∧ w.cell? ⟨g, o + i * 5, none⟩ = some (gI (h.cmd i).kind) ∧ w.cell? ⟨g, o + i * 5 + 1, none⟩ = some (gI (h.cmd i).block) ∧ w.cell? ⟨g, o + i * 5 + 2, none⟩ = some (gI (h.cmd i).value) ∧
    w.cell? ⟨g, o + i * 5 + 3, none⟩ = some (gI (h.cmd i).frm) ∧ w.cell? ⟨g, o + i * 5 + 4, none⟩ = some (gI (h.cmd i).to) := by
  have hl := hC.1
  refine hC.2 i _ ?_
  unfold Hist.cmd
  rw [List.getD_eq_getElem?_getD, Int.toNat_natCast, List.getElem?_eq_getElem (by omega)]
  rfl

theorem MW.next {w wr w2 : World} {h : Hist} {A : Option Addr} {n c : Nat} {cm : Cmd} (hM : MW w h A n c cm wr) (hb : Below wr.heap.size wr w2) : MW w h A n c cm w2 := by
  obtain ⟨h1, h2, h3, h4⟩ := hM
  exact ⟨h1.trans (hb.mono h1.size), (hb.block _ (by omega)).trans h2, (hb.block _ h4).trans h3, by have := hb.size; omega⟩
theorem MW.cells {w wr : World} {h : Hist} {A : Option Addr} {n c : Nat} {cm : Cmd} (hM : MW w h A n c cm wr) : wr.cell? ⟨w.heap.size, 0, none⟩ = some (gI h.blocks) ∧ wr.cell? ⟨w.heap.size, 1, none⟩ = some (.slice A n c) ∧ wr.cell? ⟨w.heap.size + 1, 3, none⟩ = some (gI cm.frm) := by
  obtain ⟨h1, h2, h3, h4⟩ := hM
  refine ⟨?_, ?_, ?_⟩
  · rw [cell_of_row _ _ 0 _ _ _ h2]; rfl
  · rw [cell_of_row _ _ 1 _ _ _ h2]; rfl
  · rw [cell_of_row _ _ 3 _ _ _ h3]; rfl
theorem badAt_iff (s : Sg) (c o : Cmd) (i : Nat) : badAt s c o i = true ↔ (s.done.testBit i = false ∧ 0 ≤ o.to ∧ o.to < c.frm) ∨ (s.done.testBit i = true ∧ o.kind = 9 ∧ c.frm < o.frm) := by
  unfold badAt
  simp
  constructor
  · rintro (⟨⟨a, b⟩, c⟩ | ⟨⟨a, b⟩, c⟩)
    · exact .inl ⟨a, b, c⟩
    · exact .inr ⟨a, b, c⟩
  · rintro (⟨a, b, c⟩ | ⟨a, b, c⟩)
    · exact .inl ⟨⟨a, b⟩, c⟩
    · exact .inr ⟨⟨a, b⟩, c⟩

set_option maxHeartbeats 4000000 in
theorem may_any (w : World) (g k : Nat) (s : Sg) (bf : Option Nat) (h : Hist) (A : Option Addr) (n c : Nat) (hS : StB w g s bf) (hd : s.done < 64) (hC : CmdsAt w A n h.cmds) (hn : n ≤ 6) (hk : k < n) :
    Calls Try.prog 58 #[.pointer (some ⟨g, 0, none⟩), hV h.blocks A n c, .int .i64 k] w fun e w' => e = .returned (.bool (mayS h s k)) ∧ Below w.heap.size w w' := by
  obtain ⟨gA, oA, hAe, hgA, hc0, hc1, hc2, hc3, hc4⟩ := hC.get hk
  subst hAe
  obtain ⟨cm, hcm⟩ : ∃ cm, cm = h.cmd k := ⟨_, rfl⟩
  rw [← hcm] at hc0 hc1 hc2 hc3 hc4
  have hkn : (k : Int) < (n : Int) := by omega
  have hlen := hC.1
  obtain ⟨cd, hcd⟩ : ∃ d, d = s.done.testBit k := ⟨_, rfl⟩
  have hw0 := was_any ((w.alloc (.cells #[gI h.blocks, .slice (some ⟨gA, oA, none⟩) n c] 24)).alloc (.cells #[gI cm.kind, gI cm.block, gI cm.value, gI cm.frm, gI cm.to] 36)) g k s bf (hS.below (((below_alloc0 w _).trans ((below_alloc0 _ _).mono (by simp)))) (Nat.le_refl _)) hd (by omega)
  rw [← hcd] at hw0
  have HCM := Lib.hid hcm
  have HCD := Lib.hid hcd
  clear hcm hcd
  have hM0 : MW w h (some ⟨gA, oA, none⟩) n c cm ((w.alloc (.cells #[gI h.blocks, .slice (some ⟨gA, oA, none⟩) n c] 24)).alloc (.cells #[gI cm.kind, gI cm.block, gI cm.value, gI cm.frm, gI cm.to] 36)) :=
    ⟨((below_alloc0 w _).trans ((below_alloc0 _ _).mono (by simp))), (Below.heap_alloc _ _ _ (by simp)).trans (heap_alloc_new _ _), heap_alloc2_new _ _ _, by simp⟩
  have HM0 := Lib.hid hM0
  clear hM0
  cases cd with
  | true =>
    go_enter Try.func58, Try.ntmps58
    go_wp2_with (go_at_call 76; refine hw0.mono ?_; rintro e w' ⟨rfl, rfl⟩)
    go_ret
    exact ⟨by rw [mayS_done HCD.out.symm]; rfl, HM0.out.1⟩
  | false =>
    go_enter Try.func58, Try.ntmps58
    go_wp2_with (go_at_call 76; refine hw0.mono ?_; rintro e w' ⟨rfl, rfl⟩)
    clear hw0 hc0 hc1 hc2 hc3 hc4
    go_loopw [21] (fun i wr => ∃ j : Nat, j ≤ n ∧ i = .int .i64 j ∧ okTo h s k j ∧ MW w h (some ⟨gA, oA, none⟩) n c cm wr) (fun i _ => n - (intOf i).toNat)
    case atStart => exact ⟨0, Nat.zero_le _, rfl, fun i hi => by omega, HM0.out⟩
    case round =>
      clear HM0
      obtain ⟨j, hj, rfl, hok, hM⟩ := hrel
      by_cases hlt : j < n
      · obtain ⟨gA', oA', hAe, _, hc0, hc1, hc2, hc3, hc4⟩ := hC.get hlt
        injection hAe with hAe
        injection hAe with e1 e2 _
        subst e1; subst e2
        obtain ⟨o, ho⟩ : ∃ o, o = h.cmd j := ⟨_, rfl⟩
        rw [← ho] at hc0 hc1 hc2 hc3 hc4
        have eb : ∀ x, wr.cell? ⟨gA, x, none⟩ = w.cell? ⟨gA, x, none⟩ := fun x => hM.1.cell (p := ⟨gA, x, none⟩) hgA
        have hd0 := (eb _).trans hc0
        have hd1 := (eb _).trans hc1
        have hd2 := (eb _).trans hc2
        have hd3 := (eb _).trans hc3
        have hd4 := (eb _).trans hc4
        obtain ⟨_, _, hcf⟩ := hM.cells
        obtain ⟨jd, hjd⟩ : ∃ d, d = s.done.testBit j := ⟨_, rfl⟩
        have hB1 := below_alloc0 wr (.cells #[gI o.kind, gI o.block, gI o.value, gI o.frm, gI o.to] 36)
        have hw1 := was_any (wr.alloc (.cells #[gI o.kind, gI o.block, gI o.value, gI o.frm, gI o.to] 36)) g j s bf (hS.below (hM.1.trans (hB1.mono hM.1.size)) (Nat.le_refl _)) hd (by omega)
        rw [← hjd] at hw1
        have hbd := badAt_iff s cm o j
        rw [← hjd] at hbd
        have HB := Lib.hid hbd
        have HO := Lib.hid ho
        have HM1 := Lib.hid (hM.next hB1)
        have HOK := Lib.hid hok
        have hltz : (j : Int) < (n : Int) := by omega
        have hcf1 : (wr.alloc (.cells #[gI o.kind, gI o.block, gI o.value, gI o.frm, gI o.to] 36)).cell? ⟨w.heap.size + 1, 3, none⟩ = some (gI cm.frm) := HM1.out.cells.2.2
        have hlt1 := HM1.out.2.2.2
        have HLT := Lib.hid hlt1
        have hw2 : ∀ W, Below (wr.alloc (.cells #[gI o.kind, gI o.block, gI o.value, gI o.frm, gI o.to] 36)).heap.size (wr.alloc (.cells #[gI o.kind, gI o.block, gI o.value, gI o.frm, gI o.to] 36)) W → Calls Try.prog 76 #[.pointer (some ⟨g, 0, none⟩), .int .i64 j] W fun e w' => e = .returned (.bool jd) ∧ W = w' := fun W hW => by
          rw [hjd]
          exact was_any W g j s bf (hS.below ((hM.1.trans (hB1.mono hM.1.size)).trans (hW.mono (by have := hM.1.size; simp; omega))) (Nat.le_refl _)) hd (by omega)
        have HW2 := Lib.hid hw2
        have HCL := Lib.hid (fun W (hW : Below (wr.alloc (.cells #[gI o.kind, gI o.block, gI o.value, gI o.frm, gI o.to] 36)).heap.size (wr.alloc (.cells #[gI o.kind, gI o.block, gI o.value, gI o.frm, gI o.to] 36)) W) =>
          (show W.cell? ⟨w.heap.size + 1, 3, none⟩ = some (gI cm.frm) ∧ W.cell? ⟨wr.heap.size, 0, none⟩ = some (gI o.kind) ∧ W.cell? ⟨wr.heap.size, 3, none⟩ = some (gI o.frm) ∧ W.cell? ⟨wr.heap.size, 4, none⟩ = some (gI o.to) from by
            have e : W.heap[wr.heap.size]? = some (.cells #[gI o.kind, gI o.block, gI o.value, gI o.frm, gI o.to] 36 (0, 0)) := (hW.block _ (by simp)).trans (heap_alloc_new _ _)
            refine ⟨(HM1.out.next hW).cells.2.2, ?_, ?_, ?_⟩ <;> rw [cell_of_row _ _ _ _ _ _ e] <;> rfl))
        clear hbd hjd ho hc0 hc1 hc2 hc3 hc4 eb hcf hB1 hM hok hlt1 hw2
        have hnext : ∀ W, Below (wr.alloc (.cells #[gI o.kind, gI o.block, gI o.value, gI o.frm, gI o.to] 36)).heap.size (wr.alloc (.cells #[gI o.kind, gI o.block, gI o.value, gI o.frm, gI o.to] 36)) W → badAt s cm o j = false → ∃ j' : Nat, j' ≤ n ∧ Value.int .i64 ((j : Int) + 1) = .int .i64 j' ∧ okTo h s k j' ∧ MW w h (some ⟨gA, oA, none⟩) n c cm W := fun W hW hbad =>
          ⟨j + 1, by omega, by simp, fun i hi => by
            by_cases hij : i < j
            · exact HOK.out i hij
            · have : i = j := by omega
              subst this
              rw [← HCM.out, ← HO.out]; exact hbad, HM1.out.next hW⟩
        have HNX := Lib.hid hnext
        have HBAD := Lib.hid (fun hb : badAt s cm o j = true => mayS_bad (h := h) (s := s) (n := k) (i := j) (by omega) (by rw [← HCM.out, ← HO.out]; exact hb))
        clear hnext
        cases jd with
        | true =>
          by_cases hk9 : o.kind = 9
          · have hkb : (o.kind == 9) = true := by simp [hk9]
            by_cases hf : cm.frm < o.frm
            · have HE := Lib.hid (HBAD.out (HB.out.2 (.inr ⟨rfl, hk9, hf⟩)))
              clear hk9
              go_wp2_with (go_at_call 76; refine hw1.mono ?_; rintro e w' ⟨rfl, rfl⟩)
              go_ret
              exact ⟨by rw [HE.out]; rfl, HM1.out.1⟩
            · have HE := Lib.hid (show badAt s cm o j = false by rw [Bool.eq_false_iff]; intro h'; rcases HB.out.1 h' with ⟨h', _⟩ | ⟨_, _, h'⟩; cases h'; omega)
              clear hk9
              go_wp2_with (go_at_call 76; refine hw1.mono ?_; rintro e w' ⟨rfl, rfl⟩)
              go_roundw
              case rel => exact HNX.out _ (Below.refl _ _) HE.out
              case measure => simp [intOf]; omega
          · have hkb : (o.kind == 9) = false := by simp [hk9]
            have HE := Lib.hid (show badAt s cm o j = false by rw [Bool.eq_false_iff]; intro h'; rcases HB.out.1 h' with ⟨h', _⟩ | ⟨_, h', _⟩; cases h'; omega)
            clear hk9
            go_wp2_with (go_at_call 76; refine hw1.mono ?_; rintro e w' ⟨rfl, rfl⟩)
            go_roundw
            case rel => exact HNX.out _ (Below.refl _ _) HE.out
            case measure => simp [intOf]; omega
        | false =>
          by_cases ht : o.to < 0
          · have htd : decide (o.to < 0) = true := by simpa using ht
            have HE := Lib.hid (show badAt s cm o j = false by rw [Bool.eq_false_iff]; intro h'; rcases HB.out.1 h' with ⟨_, h', _⟩ | ⟨h', _⟩; omega; cases h')
            go_wp2_with (first
              | (go_at_call 76; first
                | (refine (HW2.out _ hb9).mono ?_; rintro e w' ⟨rfl, rfl⟩)
                | (refine hw1.mono ?_; rintro e w' ⟨rfl, rfl⟩))
              | (go_at_call 24; refine (open_any _ _ _ _ _ _).mono ?_; rintro e w9 ⟨rfl, hb9⟩))
            go_roundw
            case rel => exact HNX.out _ hb9 HE.out
            case measure => simp [intOf]; omega
          · have htd : decide (o.to < 0) = false := by simpa using ht
            by_cases hf : o.to < cm.frm
            · have HE := Lib.hid (HBAD.out (HB.out.2 (.inl ⟨rfl, by omega, hf⟩)))
              go_wp2_with (first
                | (go_at_call 76; first
                  | (refine (HW2.out _ hb9).mono ?_; rintro e w' ⟨rfl, rfl⟩)
                  | (refine hw1.mono ?_; rintro e w' ⟨rfl, rfl⟩))
                | (go_at_call 24; refine (open_any _ _ _ _ _ _).mono ?_; rintro e w9 ⟨rfl, hb9⟩; obtain ⟨hx1, hx2, hx3, hx4⟩ := HCL.out _ hb9))
              go_ret
              exact ⟨by rw [HE.out]; rfl, (HM1.out.next hb9).1⟩
            · have HE := Lib.hid (show badAt s cm o j = false by rw [Bool.eq_false_iff]; intro h'; rcases HB.out.1 h' with ⟨_, _, h'⟩ | ⟨h', _⟩; omega; cases h')
              go_wp2_with (first
                | (go_at_call 76; first
                  | (refine (HW2.out _ hb9).mono ?_; rintro e w' ⟨rfl, rfl⟩)
                  | (refine hw1.mono ?_; rintro e w' ⟨rfl, rfl⟩))
                | (go_at_call 24; refine (open_any _ _ _ _ _ _).mono ?_; rintro e w9 ⟨rfl, hb9⟩; obtain ⟨hx1, hx2, hx3, hx4⟩ := HCL.out _ hb9))
              go_roundw
              case rel => exact HNX.out _ hb9 HE.out
              case measure => simp [intOf]; omega
      · have hjn : j = n := by omega
        subst hjn
        have HR := Lib.hid (show mayS h s k = true ∧ Below w.heap.size w wr from ⟨mayS_true HCD.out.symm (by rw [hlen]; exact hok), hM.1⟩)
        clear hok hM
        go_wp2_with fail
        go_ret
        exact ⟨by rw [HR.out.1]; rfl, HR.out.2⟩

end Go.Proofs.Ytagekhgfoabgbaa
end

section
/- kept: what all blocks keep behind a fall of the power. -/
set_option linter.unusedSimpArgs false
set_option linter.unusedVariables false
namespace Go.Proofs.Ytagekhgfoabgbaa
open Go.RowKit Go.Maps

def keptTo (h : Hist) (s : Sg) (img : List Int) : Nat → List Int
  | 0 => s.keeps
  | i + 1 => if img.getD i 0 = -1 then keptTo h s img i else if img.getD i 0 = -2 then (keptTo h s img i).set i (-1) else (keptTo h s img i).set i (h.cmd (img.getD i 0)).value
def keptS (h : Hist) (s : Sg) (img : List Int) : List Int := keptTo h s img img.length
theorem keptTo_len (h : Hist) (s : Sg) (img : List Int) : ∀ i, (keptTo h s img i).length = s.keeps.length
  | 0 => rfl
  | i + 1 => by
    unfold keptTo
    have := keptTo_len h s img i
    split
    · exact this
    · split <;> simp [this]
/-- An image that a history's commands can have left. -/
def ImgOk (h : Hist) (img : List Int) : Prop := img.length ≤ 6 ∧ ∀ n ∈ img, n = -1 ∨ n = -2 ∨ (0 ≤ n ∧ n < h.cmds.length)
def KW (w : World) (h : Hist) (A : Option Addr) (n c : Nat) (xs : List Int) (wr : World) : Prop :=
  Below w.heap.size w wr ∧ Boxed w.heap.size h.blocks A n c wr ∧ Blk wr (w.heap.size + 1) (List.replicate 6 0) 63 ∧ Blk wr (w.heap.size + 1 + 1) xs 63 ∧ xs.length = 6

theorem KW.set {w wr : World} {h : Hist} {A : Option Addr} {n c : Nat} {xs : List Int} (hk : KW w h A n c xs wr) (j : Nat) (v : Int) : KW w h A n c (xs.set j v) (wr.setCell ⟨w.heap.size + 1 + 1, j, none⟩ (.int .i64 v)) := by
  obtain ⟨h1, h2, h3, h4, h5⟩ := hk
  have hu := (Upd.refl wr (w.heap.size + 1 + 1)).set j (.int .i64 v)
  refine ⟨h1.trans (hu.below (by omega)), ?_, ?_, h4.set j v, by simp [h5]⟩
  · unfold Boxed; rw [hu.block _ (by omega)]; exact h2
  · unfold Blk; rw [hu.block _ (by omega)]; exact h3

set_option maxHeartbeats 4000000 in
theorem kept_any (w : World) (g : Nat) (s : Sg) (bf : Option Nat) (h : Hist) (A O : Option Addr) (n c n2 c2 : Nat) (img : List Int) (hS : StB w g s bf) (hC : CmdsAt w A n h.cmds) (hO : IntsAt w O n2 img) (hI : ImgOk h img) (hnc : n ≤ c) :
    Calls Try.prog 37 #[.pointer (some ⟨g, 0, none⟩), hV h.blocks A n c, .slice O n2 c2] w fun e w' => e = .returned (.agg (ints (keptS h s img))) ∧ Below w.heap.size w w' := by
  obtain ⟨hl2, hO2⟩ := hO
  obtain ⟨_, _, _, _, _, _, k0, k1, k2, k3, k4, k5, hk, h0, h1, h2, h3, h4, h5, h6, h7, _⟩ := hS.open
  have hgl := hS.lt
  have hne : g ≠ w.heap.size := by omega
  have hne1 : g ≠ w.heap.size + 1 := by omega
  have HK := Lib.hid hk
  clear hk h0 h1
  go_enter Try.func37, Try.ntmps37
  go_wp2
  have hX0 : KW w h A n c s.keeps (((w.alloc (.cells #[gI h.blocks, .slice A n c] 24)).alloc (.cells #[.int .i64 0, .int .i64 0, .int .i64 0, .int .i64 0, .int .i64 0, .int .i64 0] 63)).alloc (.cells #[.int .i64 k0, .int .i64 k1, .int .i64 k2, .int .i64 k3, .int .i64 k4, .int .i64 k5] 63)) := by
    refine ⟨((below_alloc0 w _).alloc (by simp) _).alloc (by simp; omega) _, ?_, ?_, ?_, by rw [HK.out]; rfl⟩
    · exact ((Below.heap_alloc _ _ _ (by simp; omega)).trans (Below.heap_alloc _ _ _ (by simp))).trans (heap_alloc_new _ _)
    · exact (blk_at (w.alloc _) _ (List.replicate 6 0) _ (by simp)).alloc _
    · rw [HK.out]; exact blk_at ((w.alloc _).alloc _) _ [k0, k1, k2, k3, k4, k5] _ (by simp)
  have HX0 := Lib.hid hX0
  have hi6 := hI.1
  clear hX0 h2 h3 h4 h5 h6 h7 hS
  go_loopw [16] (fun i wr => ∃ j : Nat, j ≤ n2 ∧ i = .int .i64 j ∧ KW w h A n c (keptTo h s img j) wr) (fun i _ => n2 - (intOf i).toNat)
  case atStart => exact ⟨0, Nat.zero_le _, rfl, HX0.out⟩
  case round =>
    clear HX0
    obtain ⟨j, hj, rfl, hb, hbox, hz, hx, hxl⟩ := hrel
    by_cases hlt : j < n2
    · obtain ⟨gO, oO, hOe, hgO, hcO⟩ := hO2 j _ (List.getElem?_eq_getElem (by rw [hl2]; exact hlt))
      subst hOe
      have hge : img.getD j 0 = img[j]'(by rw [hl2]; exact hlt) := by rw [List.getD_eq_getElem?_getD, List.getElem?_eq_getElem (by rw [hl2]; exact hlt)]; rfl
      have hym := hI.2 _ (List.getElem_mem (show j < img.length by rw [hl2]; exact hlt))
      rw [← hge] at hcO hym
      obtain ⟨y, hy⟩ : ∃ y, y = img.getD j 0 := ⟨_, rfl⟩
      rw [← hy] at hcO hym
      have hcr : wr.cell? ⟨gO, oO + j, none⟩ = some (gI y) := by rw [hb.cell (p := ⟨gO, oO + j, none⟩) hgO]; exact hcO
      have hkt : keptTo h s img (j + 1) = if y = -1 then keptTo h s img j else if y = -2 then (keptTo h s img j).set j (-1) else (keptTo h s img j).set j (h.cmd y).value := by rw [hy]; rfl
      have HKT := Lib.hid hkt
      have hcell := hx.cell (j := j) (by rw [hxl]; omega)
      have hfree := hx.free j
      have HR := Lib.hid (show KW w h A n c (keptTo h s img j) wr from ⟨hb, hbox, hz, hx, hxl⟩)
      clear hcO hge hkt hy hz
      rcases hym with h1 | h1 | ⟨hy0, hyn⟩
      · have hb1 : (y == -1) = true := by simp [h1]
        have HE := Lib.hid h1
        clear h1 hx hbox hb
        go_wp2_with fail
        go_roundw
        case rel => exact ⟨j + 1, by omega, by go_num, by rw [HKT.out, if_pos HE.out]; exact HR.out⟩
        case measure => simp [intOf]; omega
      · have hb1 : (y == -1) = false := by simp [h1]
        have hb2 : (y == -2) = true := by simp [h1]
        have HE := Lib.hid h1
        have hx2 := hx.set j (-1)
        have hj6 : (j : Int) < 6 := by omega
        clear h1 hbox hb
        go_wp2_with fail
        go_roundw
        case rel => exact ⟨j + 1, by omega, by go_num, by rw [HKT.out, if_neg (by rw [HE.out]; decide), if_pos HE.out]; exact HR.out.set j (-1)⟩
        case measure => simp [intOf]; omega
      · have hb1 : (y == -1) = false := by simp; omega
        have hb2 : (y == -2) = false := by simp; omega
        have HE := Lib.hid (show y ≠ -1 ∧ y ≠ -2 from ⟨by omega, by omega⟩)
        obtain ⟨yn, rfl⟩ := Int.eq_ofNat_of_zero_le hy0
        have hyn2 : yn < n := by rw [← hC.1]; omega
        obtain ⟨gA, oA, hAe, hgA, _, _, hv, _, _⟩ := hC.get hyn2
        subst hAe
        have hv2 : wr.cell? ⟨gA, oA + yn * 5 + 2, none⟩ = some (gI (h.cmd yn).value) := by rw [hb.cell (p := ⟨gA, oA + yn * 5 + 2, none⟩) hgA]; exact hv
        have hbx : wr.cell? ⟨w.heap.size, 1, none⟩ = some (.slice (some ⟨gA, oA, none⟩) n c) := by rw [cell_of_row _ _ 1 _ _ _ hbox]; rfl
        have hj6 : (j : Int) < 6 := by omega
        have hynz : (yn : Int) < (n : Int) := by omega
        have hz0 : (0 : Int) ≤ (yn : Int) := by omega
        obtain ⟨v, hvv⟩ : ∃ v, v = (h.cmd yn).value := ⟨_, rfl⟩
        rw [← hvv] at hv2
        have HV := Lib.hid hvv
        clear hbox hb hv hvv hy0 hyn
        go_wp2_with fail
        go_roundw
        case rel => exact ⟨j + 1, by omega, by go_num, by rw [HKT.out, if_neg HE.out.1, if_neg HE.out.2, ← HV.out]; exact HR.out.set j v⟩
        case measure => simp [intOf]; omega
    · have hjn : j = n2 := by omega
      subst hjn
      have HR := Lib.hid (show keptTo h s img j = keptS h s img ∧ (keptS h s img).length = 6 ∧ Below w.heap.size w wr from ⟨by unfold keptS; rw [hl2], by unfold keptS; rw [hl2]; exact hxl, hb⟩)
      rw [HR.out.1] at hx
      clear hbox hb hxl
      go_wp2_with (first
        | (refine load_blk rfl 63 _ rfl (w.heap.size + 1 + 1) rfl hx Try.underlying63 rfl i63 HR.out.2.1 ?_)
        | (refine store_blk rfl 63 _ _ rfl (w.heap.size + 1) (keptS h s img) rfl rfl hz i63 (by simp) HR.out.2.1 ?_; intro w4 hb4 hu4))
      refine bodyPost_ret (v := .agg (ints (keptS h s img))) (results_blk rfl _ (w.heap.size + 1) rfl hb4 Try.underlying63 rfl i63 HR.out.2.1) rfl ⟨rfl, HR.out.2.2.trans (hu4.below (by omega))⟩

end Go.Proofs.Ytagekhgfoabgbaa
end

section
/- do: the stage behind one more command that is no fall. -/
set_option linter.unusedSimpArgs false
set_option linter.unusedVariables false
namespace Go.Proofs.Ytagekhgfoabgbaa
open Go.RowKit Go.Maps

def isOrd (c : Cmd) : Bool := !(c.kind == 10) && (!(c.kind == 4) || !decide (c.to < 0))
def doS (h : Hist) (s : Sg) (n : Nat) : Sg := ⟨s.done ||| 2 ^ n, if isOrd (h.cmd n) = true then s.orders ++ [(n : Int)] else s.orders, s.keeps, n, []⟩

set_option maxRecDepth 100000 in
theorem bits_or2 : ∀ d : Nat, d < 64 → ∀ n : Nat, n < 6 → Go.bits .or .i64 (d : Int) (wrap64 (2 ^ n : Int)) = ((d ||| 2 ^ n : Nat) : Int) := of_decide_eq_true (by kernel_rfl)
/-- The cells of a stage. -/
abbrev stC (d : Int) (v : Value) (k0 k1 k2 k3 k4 k5 : Int) (bf : Option Addr) (cmd : Int) (im : Value) : Array Value := #[gI d, v, gI k0, gI k1, gI k2, gI k3, gI k4, gI k5, .pointer bf, gI cmd, im]
theorem info3' : (Try.prog.info? 3).map (fun i => (i.zero, i.size, i.bytes)) = some (some (.int .i64 0), 1, 8) := by kernel_rfl
theorem intsAt_nil (w : World) : IntsAt w none 0 [] := ⟨rfl, fun i x h => by simp at h⟩
/-- A row of whole numbers that is not empty, as IntsAt. -/
theorem row_ints {w : World} {base : Nat} {v : Value} {xs : List Int} {n : Nat} (h : Row w base 3 1 v n (xs.map gI)) (hn : 0 < n) (hl : xs.length = n) : ∃ b off c, v = .slice (some ⟨b, off, none⟩) n c ∧ n ≤ c ∧ IntsAt w (some ⟨b, off, none⟩) n xs ∧ b < w.heap.size ∧ ∃ cs, w.heap[b]? = some (.cells cs 3 (0, 0)) := by
  obtain ⟨g, o, c, rfl, hnc, hb, hg, hc⟩ := row_cells h hn
  obtain ⟨_, cs, hcs⟩ := row_typed h g (by simp [Value.ownBlock])
  exact ⟨g, o, c, rfl, hnc, ⟨hl, fun i x hi => ⟨g, o, rfl, hg, hc i _ (by rw [List.getElem?_map, hi]; rfl)⟩⟩, hg, cs, hcs⟩
/-- Another slice is stored into a stage. -/
theorem StB.store {w : World} {g : Nat} {d : Nat} {v : Value} {k0 k1 k2 k3 k4 k5 : Int} {bf : Option Nat} {cmd : Int} {b off n c : Nat} {xs : List Int} {cs : Array Value} (h : w.heap[g]? = some (.cells (stC d v k0 k1 k2 k3 k4 k5 (bf.map fun b => ⟨b, 0, none⟩) cmd (.slice none 0 0)) 65 (0, 0)))
    (hx : IntsAt w (some ⟨b, off, none⟩) n xs) (hnc : n ≤ c) (hb : w.heap[b]? = some (.cells cs 3 (0, 0))) : StB (w.setCell ⟨g, 1, none⟩ (.slice (some ⟨b, off, none⟩) n c)) g ⟨d, xs, [k0, k1, k2, k3, k4, k5], cmd, []⟩ bf := by
  have hne : b ≠ g := fun e => by
    subst e
    rw [h] at hb
    injection hb with hb
    injection hb with _ ht _
    exact absurd ht (by decide)
  refine ⟨some ⟨b, off, none⟩, n, c, none, 0, 0, k0, k1, k2, k3, k4, k5, rfl, ?_, ?_, .inr ⟨_, _, rfl⟩, hnc, intsAt_nil _, Nat.le_refl _, fun a ha => ?_, tyI_none _⟩
  · rw [heap_setCell_same w g 1 _ _ _ h]; rfl
  · refine ⟨hx.1, fun i x hi => ?_⟩
    obtain ⟨g', o', he, hg', hc⟩ := hx.2 i x hi
    injection he with he
    injection he with h1 h2 _
    subst h1; subst h2
    refine ⟨b, off, rfl, ?_, ?_⟩
    · show b < (w.setCell ⟨g, 1, none⟩ _).heap.size
      simpa [World.setCell] using hg'
    · rw [World.cell?_of_block (heap_setCell_other w ⟨g, 1, none⟩ b _ hne)]; exact hc
  · injection ha with ha
    subst ha
    exact ⟨cs, (heap_setCell_other w ⟨g, 1, none⟩ b _ hne).trans hb⟩

theorem do_mid {w W W2 W3 W4 : World} {gs nb : Nat} {vc v' : Value} {os : List Int} {k : Int} {cs : Array Value} {Y : Obj} (hL : Below w.heap.size w W) (hgs : w.heap.size ≤ gs) (hst : W.heap[gs]? = some (.cells cs 65 (0, 0))) (h2 : Below W.heap.size W W2) (h3 : Below W2.heap.size W2 W3)
    (hrc : Row W3 W2.heap.size 3 1 vc nb (ints os).toList) (hl : os.length = nb) (hrow4 : Row W4 W2.heap.size 3 1 v' (nb + 1) ((ints os).toList ++ [gI k])) (hg4 : (W3.alloc Y).grownBy W4 vc.ownBlock) :
    ∃ b5 o5 c5, v' = .slice (some ⟨b5, o5, none⟩) (nb + 1) c5 ∧ nb + 1 ≤ c5 ∧ IntsAt W4 (some ⟨b5, o5, none⟩) (nb + 1) (os ++ [k]) ∧ (∃ cs', W4.heap[b5]? = some (.cells cs' 3 (0, 0))) ∧ W4.heap[gs]? = some (.cells cs 65 (0, 0)) ∧ Below w.heap.size w W4 := by
  obtain ⟨b5, o5, c5, hv, hc, hI, _, hcs⟩ := row_ints (xs := os ++ [k]) (by rw [List.map_append, ← ints_toList]; exact hrow4) (by omega) (by simp [hl])
  have hgl := (Array.getElem?_eq_some_iff.1 hst).1
  have s2 := h2.size
  have s3 := h3.size
  have g4 : W3.grownBy W4 vc.ownBlock := (World.grownBy_alloc W3 Y _).trans hg4
  have hne : some gs ≠ vc.ownBlock := fun e => by
    have := (row_typed hrc gs e.symm).1
    omega
  refine ⟨b5, o5, c5, hv, hc, hI, hcs, ?_, ?_⟩
  · rw [g4.block _ (by omega) hne, h3.block _ (by omega), h2.block _ hgl]; exact hst
  · refine ((hL.trans (h2.mono hL.size)).trans (h3.mono (by have := hL.size; omega))).trans (grown_below' g4 (fun g hg => ?_) (by have := hL.size; omega))
    have := (row_typed hrc g hg).1
    have := hL.size
    omega

set_option maxRecDepth 100000 in
set_option maxHeartbeats 4000000 in
theorem do_any (w : World) (g k : Nat) (s : Sg) (bf : Option Nat) (h : Hist) (A : Option Addr) (n c : Nat) (hS : StB w g s bf) (hd : s.done < 64) (hC : CmdsAt w A n h.cmds) (hk : k < n) (hn : n ≤ 6) (hnc : n ≤ c) (hol : s.orders.length ≤ 9) :
    Calls Try.prog 59 #[.pointer (some ⟨g, 0, none⟩), hV h.blocks A n c, .int .i64 k] w fun e w' => ∃ g', e = .returned (.pointer (some ⟨g', 0, none⟩)) ∧ StB w' g' (doS h s k) (some g) ∧ w.heap.size ≤ g' ∧ Below w.heap.size w w' := by
  have hgl := hS.lt
  obtain ⟨B, nb, cb, B2, nb2, cb2, k0, k1, k2, k3, k4, k5, hkp, h0, h1, h2, h3, h4, h5, h6, h7, _, _, _, hO, hB, hmc, _, _, hty, _⟩ := hS.open
  obtain ⟨gA, oA, hAe, hgA, hc0, hc1, hc2, hc3, hc4⟩ := hC.get hk
  subst hAe
  obtain ⟨cm, hcm⟩ : ∃ cm, cm = h.cmd k := ⟨_, rfl⟩
  rw [← hcm] at hc0 hc1 hc2 hc3 hc4
  have hkz : (k : Int) < (n : Int) := by omega
  have hk64 : (k : Int) < 64 := by omega
  have hne : g ≠ w.heap.size := by omega
  obtain ⟨dn, hdn⟩ : ∃ dn : Nat, dn = s.done ||| 2 ^ k := ⟨_, rfl⟩
  have hor := bits_or2 s.done hd k (by omega)
  rw [← hdn] at hor
  have HDN := Lib.hid hdn
  have HKP := Lib.hid hkp
  have HCM := Lib.hid hcm
  have HO := Lib.hid hO
  have HB := Lib.hid hB
  have HT := Lib.hid hty
  clear hkp hcm hO hB hdn hty
  go_enter Try.func59, Try.ntmps59
  go_wp2_with fail
  go_region
  obtain ⟨W, hW⟩ : ∃ W, W = ((w.alloc (.cells #[gI h.blocks, .slice (some ⟨gA, oA, none⟩) n c] 24)).alloc (.cells (stC dn (.slice B nb cb) k0 k1 k2 k3 k4 k5 (some ⟨g, 0, none⟩) k (.slice none 0 0)) 65)).drew := ⟨_, rfl⟩
  rw [← hW]
  have hL : Below w.heap.size w W := by rw [hW]; exact (((below_alloc0 w _).alloc (by simp) _)).drew
  have hz : W.heap.size = w.heap.size + 2 := by rw [hW]; simp
  have hbx : W.cell? ⟨w.heap.size, 1, none⟩ = some (.slice (some ⟨gA, oA, none⟩) n c) := by
    have e : W.heap[w.heap.size]? = some (.cells #[gI h.blocks, .slice (some ⟨gA, oA, none⟩) n c] 24 (0, 0)) := by rw [hW]; exact (Below.heap_alloc _ _ _ (by simp)).trans (heap_alloc_new _ _)
    rw [cell_of_row _ _ 1 _ _ _ e]; rfl
  have hst : W.heap[w.heap.size + 1]? = some (.cells (stC dn (.slice B nb cb) k0 k1 k2 k3 k4 k5 (some ⟨g, 0, none⟩) k (.slice none 0 0)) 65 (0, 0)) := by rw [hW]; exact heap_alloc2_new _ _ _
  have eb : ∀ x, W.cell? ⟨gA, x, none⟩ = w.cell? ⟨gA, x, none⟩ := fun x => hL.cell (p := ⟨gA, x, none⟩) hgA
  have hd0 := (eb _).trans hc0
  have hd1 := (eb _).trans hc1
  have hd2 := (eb _).trans hc2
  have hd3 := (eb _).trans hc3
  have hd4 := (eb _).trans hc4
  have HST := Lib.hid hst
  have HL := Lib.hid (show Below w.heap.size w W ∧ W.heap.size = w.heap.size + 2 from ⟨hL, hz⟩)
  have hgl1 : g < W.heap.size := by omega
  have h1' : W.cell? ⟨g, 1, none⟩ = some (.slice B nb cb) := (hL.cell (p := ⟨g, 1, none⟩) hgl).trans h1
  clear hW hL hz hst eb hc0 hc1 hc2 hc3 hc4 h0 h1 h2 h3 h4 h5 h6 h7 hor
  -- whatever comes behind: no order
  have HN := Lib.hid (fun (W2 : World) (hW2 : Below W.heap.size W W2) (hno : isOrd cm = false) => (show StB W2 (w.heap.size + 1) (doS h s k) (some g) ∧ Below w.heap.size w W2 from by
    have hs := HL.out.2
    have e : W2.heap[w.heap.size + 1]? = some (.cells (stC dn (.slice B nb cb) k0 k1 k2 k3 k4 k5 (some ⟨g, 0, none⟩) k (.slice none 0 0)) 65 (0, 0)) := (hW2.block _ (by omega)).trans HST.out
    have hB2 := HL.out.1.trans (hW2.mono (by omega))
    refine ⟨⟨B, nb, cb, none, 0, 0, k0, k1, k2, k3, k4, k5, HKP.out, ?_, ?_, HB.out, hmc, intsAt_nil _, Nat.le_refl _, HT.out.kept (fun k cs hk => hB2.block k (Array.getElem?_eq_some_iff.1 hk).1), tyI_none _⟩, hB2⟩
    · rw [HDN.out] at e; exact e
    · have : (doS h s k).orders = s.orders := by unfold doS; rw [← HCM.out, hno]; rfl
      rw [this]
      exact HO.out.below hB2 (Nat.le_refl _)))
  -- .. an order: its number behind the others
  have HY := Lib.hid (fun (W5 : World) (b off c' : Nat) (cs : Array Value) (hB5 : Below w.heap.size w W5) (hyes : isOrd cm = true) (he : W5.heap[w.heap.size + 1]? = some (.cells (stC dn (.slice B nb cb) k0 k1 k2 k3 k4 k5 (some ⟨g, 0, none⟩) k (.slice none 0 0)) 65 (0, 0)))
      (hx : IntsAt W5 (some ⟨b, off, none⟩) (nb + 1) (s.orders ++ [(k : Int)])) (hc' : nb + 1 ≤ c') (hcs : W5.heap[b]? = some (.cells cs 3 (0, 0))) => (show StB (W5.setCell ⟨w.heap.size + 1, 1, none⟩ (.slice (some ⟨b, off, none⟩) (nb + 1) c')) (w.heap.size + 1) (doS h s k) (some g) ∧ Below w.heap.size w (W5.setCell ⟨w.heap.size + 1, 1, none⟩ (.slice (some ⟨b, off, none⟩) (nb + 1) c')) from by
    have e : doS h s k = ⟨dn, s.orders ++ [(k : Int)], [k0, k1, k2, k3, k4, k5], k, []⟩ := by unfold doS; rw [← HCM.out, hyes, HDN.out, HKP.out]; rfl
    rw [e]
    exact ⟨StB.store (bf := some g) he hx hc' hcs, hB5.trans (((Upd.refl W5 (w.heap.size + 1)).set 1 _).below (by omega))⟩))
  by_cases hk10 : cm.kind = 10
  · have hkb : (cm.kind != 10) = false := by simp [hk10]
    have HE := Lib.hid (show isOrd cm = false by unfold isOrd; simp [hk10])
    clear hk10
    go_wp2_with fail
    go_ret
    obtain ⟨a, b⟩ := HN.out _ (below_alloc0 W _) HE.out
    exact ⟨_, rfl, a, by omega, b⟩
  · have hkb : (cm.kind != 10) = true := by simp [hk10]
    by_cases hk4 : cm.kind = 4
    · have hkb4 : (cm.kind != 4) = false := by simp [hk4]
      by_cases ht : cm.to < 0
      · have htd : decide (cm.to < 0) = true := by simpa using ht
        have HE := Lib.hid (show isOrd cm = false by unfold isOrd; simp [hk4, ht])
        clear hk10 hk4
        go_wp2_with (go_at_call 24; refine (open_any _ _ _ _ _ _).mono ?_; rintro e w9 ⟨rfl, hb9⟩)
        go_ret
        obtain ⟨a, b⟩ := HN.out w9 ((below_alloc0 W _).trans (hb9.mono (by simp))) HE.out
        exact ⟨_, rfl, a, by omega, b⟩
      · have htd : decide (cm.to < 0) = false := by simpa using ht
        have HE := Lib.hid (show isOrd cm = true by unfold isOrd; simp [hk4, ht])
        clear hk10 hk4
        go_wp2_with (go_at_call 24; refine (open_any _ _ _ _ _ _).mono ?_; rintro e w9 ⟨rfl, hb9⟩; have h19 := (hb9.cell (p := ⟨g, 1, none⟩) (by simp; omega)))
        have HW2 := Lib.hid ((below_alloc0 W (.cells #[gI cm.kind, gI cm.block, gI cm.value, gI cm.frm, gI cm.to] 36)).trans (hb9.mono (by simp)))
        clear hb9 h19
        obtain ⟨W2, hW2⟩ : ∃ W2, W2 = w9 := ⟨_, rfl⟩
        subst hW2
        refine (clone_any W2 B nb cb s.orders (HO.out.below (HL.out.1.trans (HW2.out.mono (by have := HL.out.2; omega))) (Nat.le_refl _)) HB.out (by have := HO.out.1; omega)).mono ?_
        rintro e W3 ⟨vc, rfl, hrc, hb3⟩
        have hcl : ∃ A' c', vc = .slice A' nb c' := by obtain ⟨A', c', hv, _⟩ := row_slice hrc; exact ⟨A', c', hv⟩
        obtain ⟨A', c', rfl⟩ := hcl
        have HRC := Lib.hid hrc
        have HB3 := Lib.hid hb3
        clear hrc hb3
        go_wp2_with (at_builtin; go_must (refine row_append_op W2.heap.size rfl _ _ 40 3 _ 1 8 rfl Try.underlying40 info3' (by rfl) (by decide) (row_below HRC.out (below_alloc0 _ _)) rfl _ #[.int .i64 k] 3 rfl (heap_alloc_new _ _) rfl (by simp [Value.oneCell']) (by have := HO.out.1; omega) (by unfold maxLen; have := HO.out.1; omega) (by rw [World.size_alloc]; have := HB3.out.size; omega) ?_); intro v' W4 hrow4 hg4 hat4; obtain ⟨b5, o5, c5, hv5, hc5, hI5, ⟨cs5, hcs5⟩, hst5, hB5⟩ := do_mid HL.out.1 (Nat.le_succ _) HST.out HW2.out HB3.out HRC.out HO.out.1 hrow4 hg4; subst hv5; have hcell5 := cell_of_row W4 _ 1 _ _ _ hst5; have hfr5 := frozen_of_row W4 _ 1 _ _ hst5; have HYY := Lib.hid (HY.out W4 b5 o5 c5 cs5 hB5 HE.out hst5 hI5 hc5 hcs5); clear hrow4 hg4 hat4 hst5 hI5 hcs5 hB5 hc5)
        go_ret
        obtain ⟨a, b⟩ := HYY.out
        exact ⟨_, rfl, a, by omega, b⟩
    · have hkb4 : (cm.kind != 4) = true := by simp [hk4]
      have HE := Lib.hid (show isOrd cm = true by unfold isOrd; simp [hk4, hk10])
      clear hk10 hk4
      go_wp2_with fail
      have HW2 := Lib.hid (below_alloc0 W (.cells #[.int .i64 cm.kind, .int .i64 cm.block, .int .i64 cm.value, .int .i64 cm.frm, .int .i64 cm.to] 36))
      generalize W.alloc (.cells #[.int .i64 cm.kind, .int .i64 cm.block, .int .i64 cm.value, .int .i64 cm.frm, .int .i64 cm.to] 36) = W2 at HW2 ⊢
      refine (clone_any W2 B nb cb s.orders (HO.out.below (HL.out.1.trans (HW2.out.mono (by have := HL.out.2; omega))) (Nat.le_refl _)) HB.out (by have := HO.out.1; omega)).mono ?_
      rintro e W3 ⟨vc, rfl, hrc, hb3⟩
      have hcl : ∃ A' c', vc = .slice A' nb c' := by obtain ⟨A', c', hv, _⟩ := row_slice hrc; exact ⟨A', c', hv⟩
      obtain ⟨A', c', rfl⟩ := hcl
      have HRC := Lib.hid hrc
      have HB3 := Lib.hid hb3
      clear hrc hb3
      go_wp2_with (at_builtin; go_must (refine row_append_op W2.heap.size rfl _ _ 40 3 _ 1 8 rfl Try.underlying40 info3' (by rfl) (by decide) (row_below HRC.out (below_alloc0 _ _)) rfl _ #[.int .i64 k] 3 rfl (heap_alloc_new _ _) rfl (by simp [Value.oneCell']) (by have := HO.out.1; omega) (by unfold maxLen; have := HO.out.1; omega) (by rw [World.size_alloc]; have := HB3.out.size; omega) ?_); intro v' W4 hrow4 hg4 hat4; obtain ⟨b5, o5, c5, hv5, hc5, hI5, ⟨cs5, hcs5⟩, hst5, hB5⟩ := do_mid HL.out.1 (Nat.le_succ _) HST.out HW2.out HB3.out HRC.out HO.out.1 hrow4 hg4; subst hv5; have hcell5 := cell_of_row W4 _ 1 _ _ _ hst5; have hfr5 := frozen_of_row W4 _ 1 _ _ hst5; have HYY := Lib.hid (HY.out W4 b5 o5 c5 cs5 hB5 HE.out hst5 hI5 hc5 hcs5); clear hrow4 hg4 hat4 hst5 hI5 hcs5 hB5 hc5)
      go_ret
      obtain ⟨a, b⟩ := HYY.out
      exact ⟨_, rfl, a, by omega, b⟩

end Go.Proofs.Ytagekhgfoabgbaa
end
