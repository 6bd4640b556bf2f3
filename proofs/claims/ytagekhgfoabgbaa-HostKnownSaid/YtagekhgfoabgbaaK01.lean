/- Words for the walks over package host: commands, shelves, writes, orders, maps. -/
import Derived.Test.YtagekhgfoabgbaaRows
import Derived.WalkKit
import Derived.WalkSpells
import Derived.WalkLawsBesides
import Derived.Deep.QuietTactic
import Derived.BigQuiet
import Derived.BigRegion
import Derived.Lib.Hide
import Derived.Deep.RegionWith
import Derived.Deep.RegionHeld3
import Derived.StillTailTactics
import Derived.Maps.RangeWalk

section
/- Words for the walks over package host: commands, shelves, blocks of whole numbers. -/
namespace Go.Proofs.Ytagekhgfoabgbaa
open Go.RowKit

/-- A command of a host. -/
structure Cmd where
  kind : Int
  block : Int
  value : Int
  frm : Int
  to : Int
  deriving DecidableEq

theorem ret_bool {a b : Bool} (h : a = b) : Ending.returned (.bool a) = .returned (.bool b) := by rw [h]
theorem ret_int {k : IntKind} {a b : Int} (h : a = b) : Ending.returned (.int k a) = .returned (.int k b) := by rw [h]

/-- Numbers as the cells of a block. -/
def ints (xs : List Int) : Array Value := (xs.map (Value.int .i64)).toArray
theorem ints_size (xs : List Int) : (ints xs).size = xs.length := by simp [ints]
theorem ints_get (xs : List Int) (j : Nat) : (ints xs)[j]? = (xs[j]?).map (Value.int .i64) := by simp [ints]
theorem ints_set (xs : List Int) (j : Nat) (v : Int) : (ints xs).setIfInBounds j (.int .i64 v) = ints (xs.set j v) := by
  simp [ints, List.map_set]
theorem ints_getD {xs : List Int} {j : Nat} (h : j < xs.length) : (ints xs)[j]? = some (.int .i64 (xs.getD j 0)) := by
  rw [ints_get]; simp [h]

/-- Block g of w holds these numbers. -/
def Blk (w : World) (g : Nat) (xs : List Int) (t : TypeId) : Prop := w.heap[g]? = some (.cells (ints xs) t (0, 0))
theorem Blk.cell {w : World} {g : Nat} {xs : List Int} {t : TypeId} (h : Blk w g xs t) {j : Nat} (hj : j < xs.length) : w.cell? ⟨g, j, none⟩ = some (.int .i64 (xs.getD j 0)) := by
  rw [cell_of_row w g j _ t _ h, ints_getD hj]
theorem Blk.free {w : World} {g : Nat} {xs : List Int} {t : TypeId} (h : Blk w g xs t) (j : Nat) : w.frozen? ⟨g, j, none⟩ = false := frozen_of_row w g j _ t h
theorem Blk.lt {w : World} {g : Nat} {xs : List Int} {t : TypeId} (h : Blk w g xs t) : g < w.heap.size := (Array.getElem?_eq_some_iff.1 h).1
theorem Blk.set {w : World} {g : Nat} {xs : List Int} {t : TypeId} (h : Blk w g xs t) (j : Nat) (v : Int) : Blk (w.setCell ⟨g, j, none⟩ (.int .i64 v)) g (xs.set j v) t := by
  unfold Blk; rw [heap_setCell_same w g j _ t _ h, ints_set]
theorem Blk.drew {w : World} {g : Nat} {xs : List Int} {t : TypeId} (h : Blk w g xs t) : Blk w.drew g xs t := h
theorem Blk.drewN {w : World} {g : Nat} {xs : List Int} {t : TypeId} (h : Blk w g xs t) (n : Nat) : Blk (w.drewN n) g xs t := h
theorem Blk.below {w w1 : World} {B g : Nat} {xs : List Int} {t : TypeId} (h : Blk w g xs t) (hb : Below B w w1) (hg : g < B) : Blk w1 g xs t := by
  unfold Blk; rw [hb.block g hg]; exact h
theorem Blk.alloc {w : World} {g : Nat} {xs : List Int} {t : TypeId} (h : Blk w g xs t) (o : Obj) : Blk (w.alloc o) g xs t := by
  unfold Blk; rw [Below.heap_alloc w o g h.lt]; exact h

/-- Only block g has turned, from w to w'. -/
structure Upd (w w' : World) (g : Nat) : Prop where
  os : w'.os = w.os
  tape : w'.tape = w.tape
  output : w'.output = w.output
  size : w'.heap.size = w.heap.size
  block : ∀ k, k ≠ g → w'.heap[k]? = w.heap[k]?
theorem Upd.refl (w : World) (g : Nat) : Upd w w g := ⟨rfl, rfl, rfl, rfl, fun _ _ => rfl⟩
theorem Upd.trans {a b c : World} {g : Nat} (h : Upd a b g) (k : Upd b c g) : Upd a c g :=
  ⟨k.os.trans h.os, k.tape.trans h.tape, k.output.trans h.output, k.size.trans h.size, fun i hi => (k.block i hi).trans (h.block i hi)⟩
theorem Upd.drew {a b : World} {g : Nat} (h : Upd a b g) : Upd a b.drew g := ⟨h.os, h.tape, h.output, h.size, h.block⟩
theorem Upd.drewN {a b : World} {g : Nat} (h : Upd a b g) (n : Nat) : Upd a (b.drewN n) g := ⟨h.os, h.tape, h.output, h.size, h.block⟩
theorem Upd.set {a b : World} {g : Nat} (h : Upd a b g) (j : Nat) (v : Value) : Upd a (b.setCell ⟨g, j, none⟩ v) g :=
  h.trans ⟨rfl, rfl, rfl, by simp [World.setCell], fun k hk => heap_setCell_other b _ k v hk⟩
theorem Upd.cell {w w' : World} {g : Nat} (h : Upd w w' g) (b o : Nat) (hb : b ≠ g) : w'.cell? ⟨b, o, none⟩ = w.cell? ⟨b, o, none⟩ :=
  World.cell?_of_block (h.block b hb)
theorem Upd.frozen {w w' : World} {g : Nat} (h : Upd w w' g) (b o : Nat) (hb : b ≠ g) : w'.frozen? ⟨b, o, none⟩ = w.frozen? ⟨b, o, none⟩ :=
  World.frozen?_of_block (h.block b hb)
/-- What was above B is not seen from below. -/
theorem Upd.below {w w' : World} {g B : Nat} (h : Upd w w' g) (hg : B ≤ g) : Below B w w' :=
  ⟨h.os, h.tape, h.output, Nat.le_of_eq h.size.symm, fun k hk => h.block k (by omega)⟩

theorem bcell {W w1 : World} (hb : Below W.heap.size W w1) : (∀ b o, b < W.heap.size → w1.cell? ⟨b, o, none⟩ = W.cell? ⟨b, o, none⟩) ∧ (∀ b o, b < W.heap.size → w1.frozen? ⟨b, o, none⟩ = W.frozen? ⟨b, o, none⟩) :=
  ⟨fun b o h => hb.cell (p := ⟨b, o, none⟩) h, fun b o h => hb.frozen (p := ⟨b, o, none⟩) h⟩
theorem below_alloc0 (w : World) (o : Obj) : Below w.heap.size w (w.alloc o) := (Below.refl _ _).alloc (Nat.le_refl _) o
theorem below_then {B : Nat} {w w1 w2 : World} (h : Below B w w1) (hB : B ≤ w1.heap.size) (k : Below w1.heap.size w1 w2) : Below B w w2 :=
  h.trans (k.mono hB)
theorem below_undrew {w w1 : World} (h : Below w.drew.heap.size w.drew w1) : Below w.heap.size w w1 := ⟨h.os, h.tape, h.output, h.size, h.block⟩
theorem below_drewN {B : Nat} {w W : World} (h : Below B w W) (n : Nat) : Below B w (W.drewN n) := ⟨h.os, h.tape, h.output, h.size, h.block⟩

theorem blk_new (w : World) (xs : List Int) (t : TypeId) : Blk (w.alloc (.cells (ints xs) t)) w.heap.size xs t := heap_alloc_new w _
theorem ints_one (xs : List Int) : (ints xs).all (·.oneCell') = true := by
  unfold ints
  simp [Value.oneCell']
theorem blk_setRow {w : World} {g : Nat} {xs : List Int} {t : TypeId} (h : Blk w g xs t) (ys : List Int) : Blk (w.setRow g (ints ys)) g ys t := setRow_heap w g (ints xs) (ints ys) t (0, 0) h
theorem upd_setRow (w : World) (g : Nat) (c : Array Value) : Upd w (w.setRow g c) g :=
  ⟨rfl, rfl, rfl, by simp, fun k hk => setRow_other w g k c hk⟩

section
variable {P : Program} {ops : Array Oper} {rest : List Oper} {o : Oper} {a : Act} {w : World} {Q : Exit → Act → World → Prop}
/-- A whole array or struct of whole numbers is loaded. -/
theorem load_blk (hgd : o.guard = none) (ty : TypeId) (x : Operand) (ho : o.op = .load ty x) (g : Nat) (hx : a.eval x = .pointer (some ⟨g, 0, none⟩)) {t : TypeId} {xs : List Int} (hg : Blk w g xs t)
    {d : TypeDesc} (hu : P.underlying ty = some d) (hd : (match d with | .struct _ | .array _ _ => true | _ => false) = true) {n : Nat} (hi : (P.info? ty).map (·.size) = some n) (hn : xs.length = n)
    (h : wpList P ops Q rest (a.put o.dst (.agg (ints xs))) w) : wpList P ops Q (o :: rest) a w :=
  wpList_load_row hgd ty x ho g hx t (ints xs) (0, 0) d hg hu hd (by rw [hi, ints_size, hn]) h
/-- .. is stored. -/
theorem store_blk (hgd : o.guard = none) (ty : TypeId) (x y : Operand) (ho : o.op = .store ty x y) (g : Nat) (ys : List Int) (hx : a.eval x = .pointer (some ⟨g, 0, none⟩)) (hy : a.eval y = .agg (ints ys))
    {t : TypeId} {xs : List Int} (hg : Blk w g xs t) {n : Nat} (hi : (P.info? ty).map (·.size) = some n) (hn : xs.length = n) (hm : ys.length = n)
    (h : ∀ w1, Blk w1 g ys t → Upd w w1 g → wpList P ops Q rest (a.put o.dst undef) w1) : wpList P ops Q (o :: rest) a w :=
  wpList_store_row hgd ty x y ho g (ints ys) hx hy t (ints xs) hg (by rw [hi, ints_size, hm]) (by rw [ints_size, ints_size, hn, hm]) (ints_one ys) (h _ (blk_setRow hg ys) (upd_setRow w g _))
/-- A result that lies in a block. -/
theorem results_blk {fn : Func} {p : Tmp} {ty : TypeId} (h : fn.results = #[.cell p ty]) (tmps : Array Value) (g : Nat) {t : TypeId} {xs : List Int}
    (hp : tmps.getD p undef = .pointer (some ⟨g, 0, none⟩)) (hg : Blk w g xs t) {d : TypeDesc}
    (hu : P.underlying ty = some d) (hd : (match d with | .struct _ | .array _ _ => true | _ => false) = true) {n : Nat} (hi : (P.info? ty).map (·.size) = some n) (hn : xs.length = n) :
    (results fn tmps).run P w = .ok (.agg (ints xs)) w :=
  results_cell_row h tmps w g t (ints xs) (0, 0) d hp hg hu hd (by rw [hi, ints_size, hn])
end

end Go.Proofs.Ytagekhgfoabgbaa
end

section
/- What package host computes on a shelf, as functions on lists of whole numbers. -/
namespace Go.Proofs.Ytagekhgfoabgbaa
open Go.RowKit

def epI (e b : Nat) : Nat := 7 + e * 6 + b
/-- A shelf behind the writing of an entry. -/
def shW (s : List Int) (e b : Nat) : List Int := if (s.getD (7 + e * 6 + b) 0 != -3) = true then (s.set b (s.getD (7 + e * 6 + b) 0)).set (7 + e * 6 + b) (-3) else s
def shWTo (s : List Int) (e : Nat) : Nat → List Int
  | 0 => s
  | k + 1 => shW (shWTo s e k) e k
def shAllTo (s : List Int) : Nat → List Int
  | 0 => s
  | k + 1 => shWTo (shAllTo s k) k 6
theorem shW_len (s : List Int) (e b : Nat) : (shW s e b).length = s.length := by unfold shW; split <;> simp
theorem shWTo_len (s : List Int) (e : Nat) : ∀ k, (shWTo s e k).length = s.length
  | 0 => rfl
  | k + 1 => by rw [shWTo, shW_len, shWTo_len s e k]
theorem shAllTo_len (s : List Int) : ∀ k, (shAllTo s k).length = s.length
  | 0 => rfl
  | k + 1 => by rw [shAllTo, shWTo_len, shAllTo_len s k]
/-- A row of six numbers laid from a place on. -/
def put6 (s : List Int) (o : Nat) (v : Int) : List Int := (((((s.set o v).set (o + 1) v).set (o + 2) v).set (o + 3) v).set (o + 4) v).set (o + 5) v
theorem put6_len (s : List Int) (o : Nat) (v : Int) : (put6 s o v).length = s.length := by simp [put6]
theorem getD_set_ne (s : List Int) {i j : Nat} (v : Int) (h : i ≠ j) : (s.set i v).getD j 0 = s.getD j 0 := by
  simp [List.getD_eq_getElem?_getD, h]
theorem getD_set_eq (s : List Int) {i : Nat} (v : Int) (h : i < s.length) : (s.set i v).getD i 0 = v := by
  simp [List.getD_eq_getElem?_getD, h]
theorem put6_lt (s : List Int) {o j : Nat} (v : Int) (h : j < o) : (put6 s o v).getD j 0 = s.getD j 0 := by
  unfold put6
  rw [getD_set_ne _ _ (by omega), getD_set_ne _ _ (by omega), getD_set_ne _ _ (by omega), getD_set_ne _ _ (by omega), getD_set_ne _ _ (by omega), getD_set_ne _ _ (by omega)]
/-- A shelf behind a command that is an order. -/
def shO (s : List Int) (c : Cmd) (n : Int) : List Int :=
  let m := (s.getD 6 0).toNat
  if c.kind = 3 then (put6 s (7 + m * 6) (-3)).set 6 ((m : Int) + 1)
  else if c.kind = 4 then shAllTo s m
  else
    let s1 := s.set (7 + (m - 1) * 6 + c.block.toNat) n
    if c.kind = 2 ∧ ¬ c.to < 0 then shW (shAllTo s1 (m - 1)) (m - 1) c.block.toNat else s1
theorem shO_len (s : List Int) (c : Cmd) (n : Int) : (shO s c n).length = s.length := by
  unfold shO
  simp only
  split
  · simp [put6_len]
  · split
    · exact shAllTo_len _ _
    · split
      · rw [shW_len, shAllTo_len]; simp
      · simp

/-- The entries of an epoch. -/
def shRow (s : List Int) (e : Nat) : List Int := [s.getD (7 + e * 6) 0, s.getD (7 + e * 6 + 1) 0, s.getD (7 + e * 6 + 2) 0, s.getD (7 + e * 6 + 3) 0, s.getD (7 + e * 6 + 4) 0, s.getD (7 + e * 6 + 5) 0]
def noRow : List Int := [-3, -3, -3, -3, -3, -3]
/-- The drains of an epoch, up to a block. -/
def shDTo (s : List Int) (e : Nat) : Nat → List (Int × List Int)
  | 0 => []
  | j + 1 => if ((shRow s e).getD j 0 != -3) = true then shDTo s e j ++ [((j : Int), shW s e j)] else shDTo s e j
/-- The drains that can come next: those of the first epoch from e on that has entries. -/
def shDFrom (s : List Int) (e : Nat) : Nat → List (Int × List Int)
  | 0 => []
  | n + 1 => if shRow s e = noRow then shDFrom s (e + 1) n else shDTo s e 6
def shD (s : List Int) : List (Int × List Int) := shDFrom s 0 (s.getD 6 0).toNat

end Go.Proofs.Ytagekhgfoabgbaa
end

section
/- The walks over a shelf's methods. -/
namespace Go.Proofs.Ytagekhgfoabgbaa
open Go.RowKit

set_option maxHeartbeats 1000000 in
theorem clean_any (n : Int) (w : World) :
    Calls Try.prog 49 #[.int .i64 n] w fun x w' => x = .returned (.agg (ints [n, n, n, n, n, n])) ∧ Below w.heap.size w w' := by
  go_enter Try.func49, Try.ntmps49
  go_wp2
  refine wp_loop_rounds 7 ?_
  rw [rounds_succ]; go_wp2
  rw [rounds_succ]; go_wp2
  rw [rounds_succ]; go_wp2
  rw [rounds_succ]; go_wp2
  rw [rounds_succ]; go_wp2
  rw [rounds_succ]; go_wp2
  rw [rounds_succ]; go_wp2
  refine bodyPost_ret (v := .agg (ints [n, n, n, n, n, n])) (by simp [results, Try.results49, go_sem, ints]) rfl ⟨rfl, below_alloc0 _ _⟩

set_option maxHeartbeats 1000000 in
theorem write_any (g e b : Nat) (s : List Int) (w : World) (he : e < 11) (hb : b < 6) (hs : s.length = 73) (hB : Blk w g s 86) :
    Calls Try.prog 73 #[.pointer (some ⟨g, 0, none⟩), .int .i64 e, .int .i64 b] w fun x w' => x = .returned (.tuple #[]) ∧ Blk w' g (shW s e b) 86 ∧ Upd w w' g := by
  have hc := hB.cell (j := 7 + e * 6 + b) (by omega)
  have hm := hB.cell (j := b) (by omega)
  have hf := hB.free (7 + e * 6 + b)
  have hf2 := hB.free b
  have HB := Lib.hid hB
  have HS := Lib.hid hs
  clear hB hs
  generalize hv : s.getD (7 + e * 6 + b) 0 = v at *
  have HV := Lib.hid hv
  clear hv
  by_cases hg : (v != -3) = true
  · go_enter Try.func73, Try.ntmps73
    go_wp2
    go_region
    go_wp2
    go_end0
    refine ⟨rfl, ?_, (((Upd.refl w g).set b _).set _ _).drew⟩
    unfold shW
    rw [HV.out, if_pos hg]
    exact ((HB.out.set b v).set _ _).drew
  · have hg' : (v != -3) = false := by simpa using hg
    clear hg
    go_enter Try.func73, Try.ntmps73
    go_wp2
    go_end0
    refine ⟨rfl, ?_, Upd.refl w g⟩
    unfold shW
    rw [HV.out, if_neg (by simp [hg'])]
    exact HB.out

/-- A loop's state over a shelf: hidden from the walk. -/
def AllRel (g : Nat) (s : List Int) (w : World) (k : Nat) (wr : World) : Prop := Blk wr g (shAllTo s k) 86 ∧ Upd w wr g
def RowRel (g : Nat) (s : List Int) (w : World) (e k : Nat) (wr : World) : Prop := Blk wr g (shWTo (shAllTo s e) e k) 86 ∧ Upd w wr g

set_option maxHeartbeats 1000000 in
theorem writeAll_any (g m : Nat) (s : List Int) (w : World) (hm : m ≤ 11) (hs : s.length = 73) (hB : Blk w g s 86) :
    Calls Try.prog 72 #[.pointer (some ⟨g, 0, none⟩), .int .i64 m] w fun x w' => x = .returned (.tuple #[]) ∧ Blk w' g (shAllTo s m) 86 ∧ Upd w w' g := by
  have HS := Lib.hid hs
  clear hs
  have H0 : AllRel g s w 0 w := ⟨hB, Upd.refl w g⟩
  clear hB
  go_enter Try.func72, Try.ntmps72
  go_wp2_with fail
  go_loopw [7] (fun i wr => ∃ k : Nat, k ≤ m ∧ i = .int .i64 k ∧ AllRel g s w k wr) (fun i _ => m - (intOf i).toNat)
  case atStart => exact ⟨0, Nat.zero_le _, rfl, H0⟩
  case round =>
    clear H0
    obtain ⟨k, hk, rfl, hrel⟩ := hrel
    by_cases hlt : k < m
    · have hR : RowRel g s w k 0 wr := hrel
      clear hrel
      go_wp2_with fail
      obtain ⟨wo, rfl⟩ : ∃ wo : World, wo = wr := ⟨_, rfl⟩
      go_loopw [10] (fun i wr => ∃ j : Nat, j ≤ 6 ∧ i = .int .i64 j ∧ RowRel g s w k j wr) (fun i _ => 6 - (intOf i).toNat)
      case atStart => exact ⟨0, by omega, rfl, hR⟩
      case round =>
        clear hR
        obtain ⟨j, hj, rfl, hR⟩ := hrel
        by_cases hlj : j < 6
        · go_wp2_with fail
          refine (write_any g k j _ _ (by omega) hlj (by rw [shWTo_len, shAllTo_len]; exact HS.out) hR.1).mono ?_
          rintro e w1 ⟨rfl, h1, h2⟩
          have hN : RowRel g s w k (j + 1) w1 := ⟨h1, hR.2.trans h2⟩
          clear hR h1 h2
          go_wp2_with fail
          go_roundw
          case rel => exact ⟨j + 1, by omega, by go_num, hN⟩
          case measure => simp [intOf]; omega
        · obtain rfl : j = 6 := by omega
          have hN : AllRel g s w (k + 1) wr := hR
          clear hR
          go_wp2_with fail
          go_roundw
          case rel => exact ⟨k + 1, by omega, by go_num, hN⟩
          case measure => simp [intOf]; omega
    · obtain rfl : k = m := by omega
      go_wp2_with fail
      go_end0
      exact ⟨rfl, hrel.1, hrel.2⟩

end Go.Proofs.Ytagekhgfoabgbaa
end

section
/- The walk over (shelf).order. -/
namespace Go.Proofs.Ytagekhgfoabgbaa
open Go.RowKit
theorem i86 : (Try.prog.info? 86).map (·.size) = some 73 := by kernel_rfl
theorem zero86 : Try.zeroCells86 = ints (List.replicate 73 0) := by kernel_rfl
theorem blk_at (w : World) (g : Nat) (xs : List Int) (t : TypeId) (h : g = w.heap.size) : Blk (w.alloc (.cells (ints xs) t)) g xs t := by subst h; exact blk_new w xs t
set_option maxHeartbeats 1000000 in
theorem order_flush (s : List Int) (m : Nat) (b v f t n : Int) (w : World) (hm : (ints s)[6]? = some (.int .i64 m)) (hm1 : 1 ≤ m) (hm2 : m ≤ 10) (hs : s.length = 73) :
    Calls Try.prog 51 #[.agg (ints s), .agg #[.int .i64 4, .int .i64 b, .int .i64 v, .int .i64 f, .int .i64 t], .int .i64 n] w fun x w' => x = .returned (.agg (ints (shAllTo s m))) ∧ Below w.heap.size w w' := by
  have HS := Lib.hid hs
  clear hs
  go_enter Try.func51, Try.ntmps51
  go_wp2_with fail
  refine (writeAll_any w.heap.size m s _ (by omega) HS.out (((blk_new w s 86).alloc _).alloc _)).mono ?_
  rintro e w1 ⟨rfl, hb1, hu1⟩
  have hz := hu1.size
  simp only [World.size_alloc] at hz
  have hr : Blk w1 (w.heap.size + 1 + 1) (List.replicate 73 0) 86 := by
    unfold Blk
    rw [hu1.block _ (by omega), zero86]
    exact blk_at _ _ _ _ (by simp)
  have HZ := Lib.hid hz
  have hbl : Below w.heap.size w w1 := ((((below_alloc0 w _).alloc (by simp) _).alloc (by simp; omega) _).trans (hu1.below (Nat.le_refl _)))
  have HBL := Lib.hid hbl
  clear hz hu1 hbl
  go_wp2_with (first
    | (refine load_blk rfl 86 _ rfl w.heap.size rfl hb1 Try.underlying86 rfl i86 (by rw [shAllTo_len]; exact HS.out) ?_)
    | (refine store_blk rfl 86 _ _ rfl (w.heap.size + 1 + 1) (shAllTo s m) rfl rfl hr i86 (by simp) (by rw [shAllTo_len]; exact HS.out) ?_; intro w2 hb2 hu2))
  refine bodyPost_ret (v := .agg (ints (shAllTo s m))) (results_blk rfl _ (w.heap.size + 1 + 1) rfl hb2 Try.underlying86 rfl i86 (by rw [shAllTo_len]; exact HS.out)) rfl ⟨rfl, HBL.out.trans (hu2.below (by omega))⟩
attribute [local go_sem] ints_set
theorem ints_lit6 (a b c d e f : Int) : ints [a, b, c, d, e, f] = #[.int .i64 a, .int .i64 b, .int .i64 c, .int .i64 d, .int .i64 e, .int .i64 f] := rfl
attribute [local go_sem] ints_lit6
set_option maxHeartbeats 1000000 in
theorem order_put (s : List Int) (m b : Nat) (v f t n : Int) (w : World) (hm : (ints s)[6]? = some (.int .i64 m)) (hm1 : 1 ≤ m) (hm2 : m ≤ 10) (hs : s.length = 73) (hb : b < 6) :
    Calls Try.prog 51 #[.agg (ints s), .agg #[.int .i64 1, .int .i64 b, .int .i64 v, .int .i64 f, .int .i64 t], .int .i64 n] w fun x w' => x = .returned (.agg (ints (s.set (7 + (m - 1) * 6 + b) n))) ∧ Below w.heap.size w w' := by
  have hq := ints_getD (xs := s) (j := 7 + (m - 1) * 6 + b) (by omega)
  have HS := Lib.hid hs
  clear hs
  go_enter Try.func51, Try.ntmps51
  go_wp2_with fail
  go_region
  go_wp2_with (first
    | (refine load_blk rfl 86 _ rfl w.heap.size rfl ((((blk_new w (s.set (7 + (m - 1) * 6 + b) n) 86).alloc _).alloc _).drew) Try.underlying86 rfl i86 (by rw [List.length_set]; exact HS.out) ?_)
    | (refine store_blk rfl 86 _ _ rfl (w.heap.size + 1 + 1) (s.set (7 + (m - 1) * 6 + b) n) rfl rfl (t := 86) (xs := List.replicate 73 0) (by rw [zero86]; exact (blk_at _ _ _ _ (by simp)).drew) i86 (by simp) (by rw [List.length_set]; exact HS.out) ?_; intro w2 hb2 hu2))
  refine bodyPost_ret (v := .agg (ints (s.set (7 + (m - 1) * 6 + b) n))) (results_blk rfl _ (w.heap.size + 1 + 1) rfl hb2 Try.underlying86 rfl i86 (by rw [List.length_set]; exact HS.out)) rfl ⟨rfl, ?_⟩
  exact ((((below_alloc0 w _).alloc (by simp) _).alloc (by simp; omega) _).drew).trans (hu2.below (by omega))
theorem open_any (k b v f t : Int) (w : World) :
    Calls Try.prog 24 #[.agg #[.int .i64 k, .int .i64 b, .int .i64 v, .int .i64 f, .int .i64 t]] w fun e w' => e = .returned (.bool (decide (t < 0))) ∧ Below w.heap.size w w' := by
  go_enter Try.func24, Try.ntmps24
  go_wp2
  go_ret
  exact ⟨rfl, below_alloc0 _ _⟩

theorem shO_force {s : List Int} {m b : Nat} {v f t n : Int} (hm : (ints s)[6]? = some (.int .i64 m)) : shO s ⟨2, b, v, f, t⟩ n = if t < 0 then s.set (7 + (m - 1) * 6 + b) n else shW (shAllTo (s.set (7 + (m - 1) * 6 + b) n) (m - 1)) (m - 1) b := by
  have h : s.getD 6 0 = m := by
    rw [ints_get] at hm
    cases h : s[6]? with
    | none => simp [h] at hm
    | some x => simp [h] at hm; simp [h, hm]
  unfold shO
  simp only [h]
  by_cases ht : t < 0 <;> simp [ht]
set_option maxHeartbeats 1000000 in
theorem order_force (s : List Int) (m b : Nat) (v f t n : Int) (w : World) (hm : (ints s)[6]? = some (.int .i64 m)) (hm1 : 1 ≤ m) (hm2 : m ≤ 10) (hs : s.length = 73) (hb : b < 6) :
    Calls Try.prog 51 #[.agg (ints s), .agg #[.int .i64 2, .int .i64 b, .int .i64 v, .int .i64 f, .int .i64 t], .int .i64 n] w fun x w' =>
      x = .returned (.agg (ints (shO s ⟨2, b, v, f, t⟩ n))) ∧ Below w.heap.size w w' := by
  have hq := ints_getD (xs := s) (j := 7 + (m - 1) * 6 + b) (by omega)
  have HS := Lib.hid hs
  clear hs
  go_enter Try.func51, Try.ntmps51
  go_wp2_with fail
  go_region
  obtain ⟨s1, hs1⟩ : ∃ s1, s1 = s.set (7 + (m - 1) * 6 + b) n := ⟨_, rfl⟩
  rw [← hs1]
  have hl1 : s1.length = 73 := by rw [hs1, List.length_set]; exact HS.out
  have HS1 := Lib.hid hs1
  have HL1 := Lib.hid hl1
  clear hs1 hl1
  obtain ⟨W, hW⟩ : ∃ W, W = (((w.alloc (.cells (ints s1) 86)).alloc (.cells #[.int .i64 2, .int .i64 b, .int .i64 v, .int .i64 f, .int .i64 t] 36)).alloc (.cells Try.zeroCells86 86)).drew := ⟨_, rfl⟩
  rw [← hW]
  have hz : W.heap.size = w.heap.size + 3 := by rw [hW]; simp
  have hB1 : Blk W w.heap.size s1 86 := by rw [hW]; exact (((blk_new w s1 86).alloc _).alloc _).drew
  have hB2 : Blk W (w.heap.size + 1 + 1) (List.replicate 73 0) 86 := by rw [hW, zero86]; exact (blk_at _ _ _ _ (by simp)).drew
  have hC : W.heap[w.heap.size + 1]? = some (.cells #[.int .i64 2, .int .i64 b, .int .i64 v, .int .i64 f, .int .i64 t] 36 (0, 0)) := by
    rw [hW]; exact (Below.heap_alloc _ _ _ (by simp)).trans (heap_alloc2_new _ _ _)
  have hL : Below w.heap.size w W := by rw [hW]; exact (((below_alloc0 w _).alloc (by simp) _).alloc (by simp; omega) _).drew
  clear hW
  have HZ := Lib.hid hz
  have c0 := cell_of_row W _ 0 _ _ _ hC
  have c1 := cell_of_row W _ 1 _ _ _ hC
  have c2 := cell_of_row W _ 2 _ _ _ hC
  have c3 := cell_of_row W _ 3 _ _ _ hC
  have c4 := cell_of_row W _ 4 _ _ _ hC
  simp only [List.getElem?_toArray, List.getElem?_cons_zero, List.getElem?_cons_succ] at c0 c1 c2 c3 c4
  clear hz hC
  by_cases ht : t < 0
  · have htd : decide (t < 0) = true := by simpa using ht
    go_wp2_with (first
      | (go_at_call 24; ((with_reducible refine (open_any _ _ _ _ _ _).mono ?_); rintro e w1 ⟨rfl, hb1⟩))
      | (refine load_blk rfl 86 _ rfl w.heap.size rfl (hB1.below hb1 (by have := HZ.out; omega)) Try.underlying86 rfl i86 HL1.out ?_)
      | (refine store_blk rfl 86 _ _ rfl (w.heap.size + 1 + 1) s1 rfl rfl (hB2.below hb1 (by have := HZ.out; omega)) i86 (by simp) HL1.out ?_; intro w2 hb2 hu2))
    refine bodyPost_ret (v := .agg (ints s1)) (results_blk rfl _ (w.heap.size + 1 + 1) rfl hb2 Try.underlying86 rfl i86 HL1.out) rfl ⟨by rw [shO_force hm, if_pos ht, HS1.out], ?_⟩
    exact (hL.trans (hb1.mono (by have := HZ.out; omega))).trans (hu2.below (by omega))
  · have htd : decide (t < 0) = false := by simpa using ht
    go_wp2_with (first
      | (go_at_call 24; ((with_reducible refine (open_any _ _ _ _ _ _).mono ?_); rintro e w1 ⟨rfl, hb1⟩)))
    have hB3 := hB1.below hb1 (by have := HZ.out; omega)
    have hB4 := hB2.below hb1 (by have := HZ.out; omega)
    have hc1 := hb1.cell (p := ⟨w.heap.size + 1, 1, none⟩) (by have := HZ.out; show w.heap.size + 1 < _; omega)
    rw [← show ((m - 1 : Nat) : Int) = (m : Int) - 1 from by omega]
    refine (writeAll_any w.heap.size (m - 1) s1 _ (by omega) HL1.out hB3).mono ?_
    rintro e w2 ⟨rfl, h1, h2⟩
    have hc2 := h2.cell (w.heap.size + 1) 1 (by omega)
    rw [hc1, c1] at hc2
    go_wp2_with fail
    refine (write_any w.heap.size (m - 1) b _ _ (by omega) hb (by rw [shAllTo_len]; exact HL1.out) h1).mono ?_
    rintro e w3 ⟨rfl, h3, h4⟩
    have hR : Blk w3 (w.heap.size + 1 + 1) (List.replicate 73 0) 86 := by
      unfold Blk; rw [h4.block _ (by omega), h2.block _ (by omega)]; exact hB4
    have hll : (shW (shAllTo s1 (m - 1)) (m - 1) b).length = 73 := by rw [shW_len, shAllTo_len]; exact HL1.out
    have HLL := Lib.hid hll
    clear hll
    go_wp2_with (first
      | (refine load_blk rfl 86 _ rfl w.heap.size rfl h3 Try.underlying86 rfl i86 HLL.out ?_)
      | (refine store_blk rfl 86 _ _ rfl (w.heap.size + 1 + 1) (shW (shAllTo s1 (m - 1)) (m - 1) b) rfl rfl hR i86 (by simp) HLL.out ?_; intro w4 hb2 hu2))
    refine bodyPost_ret (v := .agg (ints (shW (shAllTo s1 (m - 1)) (m - 1) b))) (results_blk rfl _ (w.heap.size + 1 + 1) rfl hb2 Try.underlying86 rfl i86 HLL.out) rfl ⟨by rw [shO_force hm, if_neg (by omega), HS1.out], ?_⟩
    exact (((hL.trans (hb1.mono (by have := HZ.out; omega))).trans (h2.below (Nat.le_refl _))).trans (h4.below (Nat.le_refl _))).trans (hu2.below (by omega))

theorem get6 {s : List Int} {m : Nat} (hm : (ints s)[6]? = some (.int .i64 m)) : s.getD 6 0 = m := by
  rw [ints_get] at hm
  cases h : s[6]? with
  | none => simp [h] at hm
  | some x => simp [h] at hm; simp [h, hm]
theorem row6 {w : World} {g m : Nat} {s : List Int} {t : TypeId} (h : Blk w g s t) (hs : s.length = 73) (hm2 : m ≤ 10) (hm : (ints s)[6]? = some (.int .i64 m)) :
    w.cell? ⟨g, 6, none⟩ = some (.int .i64 m) ∧ w.cell? ⟨g, 7 + m * 6, none⟩ = some (.int .i64 (s.getD (7 + m * 6) 0)) ∧ w.cell? ⟨g, 7 + m * 6 + 1, none⟩ = some (.int .i64 (s.getD (7 + m * 6 + 1) 0)) ∧ w.cell? ⟨g, 7 + m * 6 + 2, none⟩ = some (.int .i64 (s.getD (7 + m * 6 + 2) 0)) ∧
    w.cell? ⟨g, 7 + m * 6 + 3, none⟩ = some (.int .i64 (s.getD (7 + m * 6 + 3) 0)) ∧ w.cell? ⟨g, 7 + m * 6 + 4, none⟩ = some (.int .i64 (s.getD (7 + m * 6 + 4) 0)) ∧ w.cell? ⟨g, 7 + m * 6 + 5, none⟩ = some (.int .i64 (s.getD (7 + m * 6 + 5) 0)) :=
  ⟨by rw [h.cell (by omega), get6 hm], h.cell (by omega), h.cell (by omega), h.cell (by omega), h.cell (by omega), h.cell (by omega), h.cell (by omega)⟩
theorem row6_free {w : World} {g : Nat} {s : List Int} {t : TypeId} (h : Blk w g s t) (o : Nat) :
    w.frozen? ⟨g, o, none⟩ = false ∧ w.frozen? ⟨g, o + 1, none⟩ = false ∧ w.frozen? ⟨g, o + 2, none⟩ = false ∧ w.frozen? ⟨g, o + 3, none⟩ = false ∧ w.frozen? ⟨g, o + 4, none⟩ = false ∧ w.frozen? ⟨g, o + 5, none⟩ = false :=
  ⟨h.free _, h.free _, h.free _, h.free _, h.free _, h.free _⟩
set_option maxHeartbeats 1000000 in
theorem order_barrier (s : List Int) (m : Nat) (b v f t n : Int) (w : World) (hm : (ints s)[6]? = some (.int .i64 m)) (hm2 : m ≤ 10) (hs : s.length = 73) :
    Calls Try.prog 51 #[.agg (ints s), .agg #[.int .i64 3, .int .i64 b, .int .i64 v, .int .i64 f, .int .i64 t], .int .i64 n] w fun x w' => x = .returned (.agg (ints ((put6 s (7 + m * 6) (-3)).set 6 ((m : Int) + 1)))) ∧ Below w.heap.size w w' := by
  have HS := Lib.hid hs
  clear hs
  go_enter Try.func51, Try.ntmps51
  go_wp2_with fail
  obtain ⟨W, hW⟩ : ∃ W, W = (((w.alloc (.cells (ints s) 86)).alloc (.cells #[.int .i64 3, .int .i64 b, .int .i64 v, .int .i64 f, .int .i64 t] 36)).alloc (.cells Try.zeroCells86 86)) := ⟨_, rfl⟩
  rw [← hW]
  have hz : W.heap.size = w.heap.size + 3 := by rw [hW]; simp
  have hB1 : Blk W w.heap.size s 86 := by rw [hW]; exact (((blk_new w s 86).alloc _).alloc _)
  have hB2 : Blk W (w.heap.size + 1 + 1) (List.replicate 73 0) 86 := by rw [hW, zero86]; exact (blk_at _ _ _ _ (by simp))
  have hL : Below w.heap.size w W := by rw [hW]; exact (((below_alloc0 w _).alloc (by simp) _).alloc (by simp; omega) _)
  clear hW
  have HZ := Lib.hid hz
  clear hz
  obtain ⟨hc6, _, _, _, _, _, _⟩ := row6 hB1 HS.out hm2 hm
  go_region_with (go_at_call 49; go_must ((with_reducible refine (clean_any _ _).mono ?_); rintro e w1 ⟨rfl, hb1⟩; have hB3 := hB1.below (w := W) (B := W.heap.size) ⟨hb1.os, hb1.tape, hb1.output, hb1.size, hb1.block⟩ (by have := HZ.out; omega); obtain ⟨hf0, hf1, hf2, hf3, hf4, hf5⟩ := row6_free hB3 (7 + m * 6); obtain ⟨hd6, hd0, hd1, hd2, hd3, hd4, hd5⟩ := row6 hB3 HS.out hm2 hm))
  all_goals
    have hN : Blk (((((((w1.setCell ⟨w.heap.size, 7 + m * 6, none⟩ (.int .i64 (-3))).setCell ⟨w.heap.size, 7 + m * 6 + 1, none⟩ (.int .i64 (-3))).setCell ⟨w.heap.size, 7 + m * 6 + 2, none⟩ (.int .i64 (-3))).setCell ⟨w.heap.size, 7 + m * 6 + 3, none⟩ (.int .i64 (-3))).setCell ⟨w.heap.size, 7 + m * 6 + 4, none⟩ (.int .i64 (-3))).setCell ⟨w.heap.size, 7 + m * 6 + 5, none⟩ (.int .i64 (-3)))) w.heap.size (put6 s (7 + m * 6) (-3)) 86 := ((((((hB3.set _ _).set _ _).set _ _).set _ _).set _ _).set _ _)
    have hU := ((((((Upd.refl w1 w.heap.size).set (7 + m * 6) (.int .i64 (-3))).set (7 + m * 6 + 1) (.int .i64 (-3))).set (7 + m * 6 + 2) (.int .i64 (-3))).set (7 + m * 6 + 3) (.int .i64 (-3))).set (7 + m * 6 + 4) (.int .i64 (-3))).set (7 + m * 6 + 5) (.int .i64 (-3))
    generalize (((((((w1.setCell ⟨w.heap.size, 7 + m * 6, none⟩ (.int .i64 (-3))).setCell ⟨w.heap.size, 7 + m * 6 + 1, none⟩ (.int .i64 (-3))).setCell ⟨w.heap.size, 7 + m * 6 + 2, none⟩ (.int .i64 (-3))).setCell ⟨w.heap.size, 7 + m * 6 + 3, none⟩ (.int .i64 (-3))).setCell ⟨w.heap.size, 7 + m * 6 + 4, none⟩ (.int .i64 (-3))).setCell ⟨w.heap.size, 7 + m * 6 + 5, none⟩ (.int .i64 (-3)))) = w2 at *
    have hl2 : (put6 s (7 + m * 6) (-3)).length = 73 := by rw [put6_len]; exact HS.out
    have h6 : w2.cell? ⟨w.heap.size, 6, none⟩ = some (.int .i64 m) := by
      rw [hN.cell (by omega), put6_lt _ _ (by omega), get6 hm]
    have hf6 := hN.free 6
    have HL2 := Lib.hid hl2
    clear hd0 hd1 hd2 hd3 hd4 hd5 hd6 hf0 hf1 hf2 hf3 hf4 hf5 hl2
    have hr2 : Blk w2 (w.heap.size + 1 + 1) (List.replicate 73 0) 86 := by
      unfold Blk; rw [hU.block _ (by omega)]; exact hB2.below (w := W) (B := W.heap.size) ⟨hb1.os, hb1.tape, hb1.output, hb1.size, hb1.block⟩ (by have := HZ.out; omega)
    have hN2 := hN.set 6 ((m : Int) + 1)
    have hr3 : Blk (w2.setCell ⟨w.heap.size, 6, none⟩ (.int .i64 ((m : Int) + 1))) (w.heap.size + 1 + 1) (List.replicate 73 0) 86 := by
      unfold Blk; rw [heap_setCell_other _ _ _ _ (by show w.heap.size + 1 + 1 ≠ w.heap.size; omega)]; exact hr2
    go_wp2_with (first
      | (refine load_blk rfl 86 _ rfl w.heap.size rfl hN2 Try.underlying86 rfl i86 (by rw [List.length_set]; exact HL2.out) ?_)
      | (refine store_blk rfl 86 _ _ rfl (w.heap.size + 1 + 1) ((put6 s (7 + m * 6) (-3)).set 6 ((m : Int) + 1)) rfl rfl hr3 i86 (by simp) (by rw [List.length_set]; exact HL2.out) ?_; intro w4 hb2 hu2))
    refine bodyPost_ret (v := .agg (ints ((put6 s (7 + m * 6) (-3)).set 6 ((m : Int) + 1)))) (results_blk rfl _ (w.heap.size + 1 + 1) rfl hb2 Try.underlying86 rfl i86 (by rw [List.length_set]; exact HL2.out)) rfl ⟨rfl, ?_⟩
    have e1 : Below w.heap.size w w1 := hL.trans (Below.mono (B := W.heap.size) ⟨hb1.os, hb1.tape, hb1.output, hb1.size, hb1.block⟩ (by have := HZ.out; omega))
    exact (e1.trans ((hU.set 6 _).below (Nat.le_refl _))).trans (hu2.below (by omega))

/-- What a command that is an order does to a shelf. -/
theorem order_any (s : List Int) (m : Nat) (k b v f t n : Int) (w : World) (hm : (ints s)[6]? = some (.int .i64 m)) (hm1 : 1 ≤ m) (hm2 : m ≤ 10) (hs : s.length = 73)
    (hk : k = 1 ∨ k = 2 ∨ k = 3 ∨ k = 4) (hb0 : 0 ≤ b) (hb : b < 6) :
    Calls Try.prog 51 #[.agg (ints s), .agg #[.int .i64 k, .int .i64 b, .int .i64 v, .int .i64 f, .int .i64 t], .int .i64 n] w fun x w' => x = .returned (.agg (ints (shO s ⟨k, b, v, f, t⟩ n))) ∧ Below w.heap.size w w' := by
  obtain ⟨b, rfl⟩ := Int.eq_ofNat_of_zero_le hb0
  have h6 := get6 hm
  rcases hk with rfl | rfl | rfl | rfl
  · have e : shO s ⟨1, b, v, f, t⟩ n = s.set (7 + (m - 1) * 6 + b) n := by unfold shO; simp only [h6]; simp
    rw [e]
    exact order_put s m b v f t n w hm hm1 hm2 hs (by omega)
  · exact order_force s m b v f t n w hm hm1 hm2 hs (by omega)
  · have e : shO s ⟨3, b, v, f, t⟩ n = (put6 s (7 + m * 6) (-3)).set 6 ((m : Int) + 1) := by unfold shO; simp only [h6]; simp
    rw [e]
    exact order_barrier s m b v f t n w hm hm2 hs
  · have e : shO s ⟨4, b, v, f, t⟩ n = shAllTo s m := by unfold shO; simp only [h6]; simp
    rw [e]
    exact order_flush s m b v f t n w hm hm1 hm2 hs

end Go.Proofs.Ytagekhgfoabgbaa
end

section
/- Maps that a call makes, as lists of entries: what the operations on them do. -/
namespace Go.Proofs.Ytagekhgfoabgbaa
open Go.RowKit Go.Maps
open Go.ChangeMaps (setBlock)

section
variable {κ ν : Type}

/-- Block b of w is a map with the entries M, in this order; f and g give keys and elements as values. -/
structure MapAt (P : Program) (k : TypeId) (f : κ → Value) (g : ν → Value) (w : World) (b : Nat) (es : Array MapEntry) (clock : Nat) (M : List (κ × ν)) : Prop where
  blk : w.heap[b]? = some (.map es clock)
  ents : es.toList.map (fun e => (e.key, e.val)) = M.map (fun p => (f p.1, g p.2))
  keys : ∀ p ∈ M, ∃ l, keyOf P k (f p.1) = some l
  apart : (M.map (·.1)).Nodup
  stamps : (es.toList.map (·.born)).Nodup
  old : ∀ e ∈ es.toList, e.born < clock
def MapOf (P : Program) (k : TypeId) (f : κ → Value) (g : ν → Value) (w : World) (b : Nat) (M : List (κ × ν)) : Prop := ∃ es clock, MapAt P k f g w b es clock M

/-- A loop over the map b, whose iterator is block r: L is still to come. -/
def IterOf (P : Program) (k : TypeId) (f : κ → Value) (g : ν → Value) (w : World) (b r : Nat) (M L : List (κ × ν)) : Prop :=
  ∃ es clock seen, MapAt P k f g w b es clock M ∧ w.heap[r]? = some (.mapIter (some b) clock seen clock) ∧ (((es.toList.zip M).filter (fun q => !seen.contains q.1.born)).map (·.2)).Perm L

theorem MapOf.lt {P : Program} {k : TypeId} {f : κ → Value} {g : ν → Value} {w : World} {b : Nat} {M : List (κ × ν)} (h : MapOf P k f g w b M) : b < w.heap.size := by
  obtain ⟨_, _, h⟩ := h; exact (Array.getElem?_eq_some_iff.1 h.blk).1
theorem MapOf.same {P : Program} {k : TypeId} {f : κ → Value} {g : ν → Value} {w w' : World} {b : Nat} {M : List (κ × ν)} (h : MapOf P k f g w b M) (e : w'.heap[b]? = w.heap[b]?) : MapOf P k f g w' b M := by
  obtain ⟨es, c, h⟩ := h; exact ⟨es, c, e.trans h.blk, h.ents, h.keys, h.apart, h.stamps, h.old⟩
theorem MapOf.below {P : Program} {k : TypeId} {f : κ → Value} {g : ν → Value} {w w' : World} {b B : Nat} {M : List (κ × ν)} (h : MapOf P k f g w b M) (hb : Below B w w') (hB : b < B) : MapOf P k f g w' b M := h.same (hb.block b hB)
theorem IterOf.same {P : Program} {k : TypeId} {f : κ → Value} {g : ν → Value} {w w' : World} {b r : Nat} {M L : List (κ × ν)} (h : IterOf P k f g w b r M L) (e : w'.heap[b]? = w.heap[b]?) (e' : w'.heap[r]? = w.heap[r]?) : IterOf P k f g w' b r M L := by
  obtain ⟨es, c, seen, h, hr, hp⟩ := h; exact ⟨es, c, seen, ⟨e.trans h.blk, h.ents, h.keys, h.apart, h.stamps, h.old⟩, e'.trans hr, hp⟩
theorem IterOf.below {P : Program} {k : TypeId} {f : κ → Value} {g : ν → Value} {w w' : World} {b r B : Nat} {M L : List (κ × ν)} (h : IterOf P k f g w b r M L) (hb : Below B w w') (hB : b < B) (hr : r < B) : IterOf P k f g w' b r M L := h.same (hb.block b hB) (hb.block r hr)
theorem IterOf.lt {P : Program} {k : TypeId} {f : κ → Value} {g : ν → Value} {w : World} {b r : Nat} {M L : List (κ × ν)} (h : IterOf P k f g w b r M L) : b < w.heap.size ∧ r < w.heap.size ∧ b ≠ r := by
  obtain ⟨es, c, seen, h, hr, _⟩ := h
  refine ⟨(Array.getElem?_eq_some_iff.1 h.blk).1, (Array.getElem?_eq_some_iff.1 hr).1, fun e => ?_⟩
  rw [← e, h.blk] at hr
  cases hr
theorem IterOf.map {P : Program} {k : TypeId} {f : κ → Value} {g : ν → Value} {w : World} {b r : Nat} {M L : List (κ × ν)} (h : IterOf P k f g w b r M L) : MapOf P k f g w b M := by
  obtain ⟨es, c, seen, h, _⟩ := h; exact ⟨es, c, h⟩

theorem MapOf.made (P : Program) (k : TypeId) (f : κ → Value) (g : ν → Value) (w : World) : MapOf P k f g (w.alloc (.map #[] 0)) w.heap.size ([] : List (κ × ν)) :=
  ⟨#[], 0, heap_alloc_new w _, by simp, by simp, by simp, by simp, by simp⟩

variable [DecidableEq κ]
def mget (M : List (κ × ν)) (x : κ) : Option ν := (M.find? (fun p => decide (p.1 = x))).map (·.2)
def mput (M : List (κ × ν)) (x : κ) (v : ν) : List (κ × ν) := if x ∈ M.map (·.1) then M.map (fun p => if p.1 = x then (x, v) else p) else M ++ [(x, v)]
def ment (M : List (κ × ν)) (x : κ) (z : ν) : List (κ × ν) := if x ∈ M.map (·.1) then M else M ++ [(x, z)]

theorem mput_keys (M : List (κ × ν)) (x : κ) (v : ν) : (mput M x v).map (·.1) = if x ∈ M.map (·.1) then M.map (·.1) else M.map (·.1) ++ [x] := by
  unfold mput
  split
  · rw [List.map_map]
    refine List.map_congr_left fun p _ => ?_
    by_cases h : p.1 = x <;> simp [h]
  · simp
theorem ment_keys (M : List (κ × ν)) (x : κ) (v : ν) : (ment M x v).map (·.1) = if x ∈ M.map (·.1) then M.map (·.1) else M.map (·.1) ++ [x] := by
  unfold ment; split <;> simp
theorem nodup_snoc {α : Type} {l : List α} {x : α} (h : l.Nodup) (hx : x ∉ l) : (l ++ [x]).Nodup := by
  rw [List.nodup_append]
  exact ⟨h, by simp, fun a ha b hb => by simp at hb; subst hb; exact fun e => hx (e ▸ ha)⟩
theorem mput_ment (M : List (κ × ν)) (x : κ) (v z : ν) : mput (ment M x z) x v = mput M x v := by
  unfold ment
  split
  · rfl
  · rename_i h
    unfold mput
    rw [if_pos (by simp), if_neg h, List.map_append]
    have : M.map (fun p => if p.1 = x then (x, v) else p) = M := by
      conv => rhs; rw [← List.map_id M]
      refine List.map_congr_left fun p hp => ?_
      rw [if_neg fun e => h (List.mem_map.2 ⟨p, hp, e⟩)]; rfl
    rw [this]
    simp
theorem mget_of_mem {M : List (κ × ν)} (h : (M.map (·.1)).Nodup) {p : κ × ν} (hp : p ∈ M) : mget M p.1 = some p.2 := by
  unfold mget
  induction M with
  | nil => simp at hp
  | cons q r ih =>
    simp only [List.map_cons, List.nodup_cons] at h
    rcases List.mem_cons.1 hp with rfl | hp
    · simp
    · have hne : q.1 ≠ p.1 := fun e => h.1 (e ▸ List.mem_map.2 ⟨p, hp, rfl⟩)
      rw [List.find?_cons_of_neg (by simpa using hne)]
      exact ih h.2 hp
theorem mget_none {M : List (κ × ν)} {x : κ} (h : x ∉ M.map (·.1)) : mget M x = none := by
  unfold mget
  rw [List.find?_eq_none.2 fun p hp => by simpa using fun e => h (List.mem_map.2 ⟨p, hp, e⟩)]
  rfl
theorem mget_mput_same (M : List (κ × ν)) (x : κ) (v : ν) (h : (M.map (·.1)).Nodup) : mget (mput M x v) x = some v := by
  have hk : ((mput M x v).map (·.1)).Nodup := by
    rw [mput_keys]; split
    · exact h
    · rename_i hx; exact nodup_snoc h hx
  refine mget_of_mem (p := (x, v)) hk ?_
  unfold mput
  split
  · rename_i hx
    obtain ⟨p, hp, e⟩ := List.mem_map.1 hx
    exact List.mem_map.2 ⟨p, hp, by simp [e]⟩
  · simp
theorem mget_ment (M : List (κ × ν)) (x : κ) (z : ν) (h : (M.map (·.1)).Nodup) : (mget (ment M x z) x).getD z = (mget M x).getD z := by
  unfold ment
  split
  · rfl
  · rename_i hx
    rw [mget_none hx]
    have hk : ((M ++ [(x, z)]).map (·.1)).Nodup := by rw [List.map_append]; exact nodup_snoc h hx
    rw [mget_of_mem (p := (x, z)) hk (by simp)]
    rfl
theorem mput_set {M : List (κ × ν)} (h : (M.map (·.1)).Nodup) {j : Nat} {p : κ × ν} (hj : M[j]? = some p) (v : ν) : mput M p.1 v = M.set j (p.1, v) := by
  have hp : p ∈ M := List.mem_of_getElem? hj
  unfold mput
  rw [if_pos (List.mem_map.2 ⟨p, hp, rfl⟩)]
  clear hp
  induction M generalizing j with
  | nil => simp at hj
  | cons q r ih =>
    simp only [List.map_cons, List.nodup_cons] at h
    cases j with
    | zero =>
      simp only [List.getElem?_cons_zero, Option.some.injEq] at hj
      subst hj
      simp only [List.map_cons, List.set_cons_zero, if_true]
      congr 1
      conv => rhs; rw [← List.map_id r]
      refine List.map_congr_left fun x hx => ?_
      have hne : x.1 ≠ q.1 := fun e1 => h.1 (e1 ▸ List.mem_map.2 ⟨x, hx, rfl⟩)
      rw [if_neg hne]; rfl
    | succ j =>
      simp only [List.getElem?_cons_succ] at hj
      have hne : q.1 ≠ p.1 := fun e => h.1 (e ▸ List.mem_map.2 ⟨p, List.mem_of_getElem? hj, rfl⟩)
      simp only [List.map_cons, List.set_cons_succ, if_neg hne]
      rw [ih h.2 hj]

variable {P : Program} {k t e : TypeId} {f : κ → Value} {g : ν → Value} {w : World} {b : Nat} {M : List (κ × ν)} {es : Array MapEntry} {clock : Nat}

omit [DecidableEq κ] in
theorem MapAt.readable (h : MapAt P k f g w b es clock M) : ∀ x ∈ es.toList, ∃ l, keyOf P k x.key = some l := by
  intro x hx
  have : (x.key, x.val) ∈ es.toList.map (fun e => (e.key, e.val)) := List.mem_map.2 ⟨x, hx, rfl⟩
  rw [h.ents] at this
  obtain ⟨p, hp, e⟩ := List.mem_map.1 this
  simp only [Prod.mk.injEq] at e
  rw [← e.1]
  exact h.keys p hp
omit [DecidableEq κ] in
theorem MapAt.at_ (h : MapAt P k f g w b es clock M) {j : Nat} {x : MapEntry} (hj : es.toList[j]? = some x) : ∃ p, M[j]? = some p ∧ x.key = f p.1 ∧ x.val = g p.2 := by
  have e1 := congrArg (·[j]?) h.ents
  simp only [List.getElem?_map, hj, Option.map_some] at e1
  cases hm : M[j]? with
  | none => simp [hm] at e1
  | some p => simp [hm] at e1; exact ⟨p, rfl, e1.1, e1.2⟩
omit [DecidableEq κ] in
theorem MapAt.len (h : MapAt P k f g w b es clock M) : es.size = M.length := by
  have := congrArg List.length h.ents
  simpa using this
omit [DecidableEq κ] in
/-- Where a key stands, or that it does not. -/
theorem MapAt.find (h : MapAt P k f g w b es clock M) (K : Keyed P k) (inj : ∀ x y, f x = f y → x = y) {x : κ} (hx : ∃ l, keyOf P k (f x) = some l) :
    ((Instr.findKey k (f x) es.toList).run P w = .ok none w ∧ x ∉ M.map (·.1)) ∨
    ∃ j a p, (Instr.findKey k (f x) es.toList).run P w = .ok (some (j, a.val)) w ∧ es.toList[j]? = some a ∧ M[j]? = some p ∧ p.1 = x ∧ a.key = f x ∧ a.val = g p.2 := by
  obtain ⟨l, hl⟩ := hx
  rcases K.find w hl es.toList h.readable with ⟨h1, h2⟩ | ⟨j, a, h1, h2, h3⟩
  · refine .inl ⟨h1, fun hm => ?_⟩
    obtain ⟨p, hp, rfl⟩ := List.mem_map.1 hm
    have : (f p.1, g p.2) ∈ M.map (fun p => (f p.1, g p.2)) := List.mem_map.2 ⟨p, hp, rfl⟩
    rw [← h.ents] at this
    obtain ⟨a, ha, e⟩ := List.mem_map.1 this
    simp only [Prod.mk.injEq] at e
    exact h2 a ha e.1
  · obtain ⟨p, hp, e1, e2⟩ := h.at_ h2
    exact .inr ⟨j, a, p, h1, h2, hp, inj _ _ (e1.symm.trans h3), h3, e2⟩

theorem MapOf.lookup (h : MapOf P k f g w b M) (K : Keyed P k) (inj : ∀ x y, f x = f y → x = y) (ht : P.underlying t = some (.map k e)) {z : ν} (hz : (zeroValue e).run P w = .ok (g z) w)
    {x : κ} (hx : ∃ l, keyOf P k (f x) = some l) : (Instr.lookup t (.map (some b)) (f x) false).run P w = .ok (g ((mget M x).getD z)) w := by
  obtain ⟨es, clock, h⟩ := h
  obtain ⟨l, hl⟩ := id hx
  rcases h.find K inj hx with ⟨h1, h2⟩ | ⟨j, a, p, h1, h2, h3, h4, _, h5⟩
  · rw [mget_none h2]
    simp [Instr.lookup, run_underlying ht, MapKept.run_getObj_map h.blk, K.check w _ hl, h1, hz, Result.andThen]
  · subst h4
    rw [mget_of_mem h.apart (List.mem_of_getElem? h3)]
    simp [Instr.lookup, run_underlying ht, MapKept.run_getObj_map h.blk, K.check w _ hl, h1, Result.andThen, h5]

theorem list_map_set {α β : Type} (l : List α) (q : α → β) (j : Nat) (a : α) : (l.set j a).map q = (l.map q).set j (q a) := by simp [List.map_set]

theorem upd_setBlock (w : World) (b : Nat) (o : Obj) : Upd w (setBlock w b o) b := ⟨rfl, rfl, rfl, by simp [setBlock], fun k hk => by simp [setBlock]; rw [Array.getElem?_setIfInBounds_ne (fun e => hk e.symm)]⟩
theorem setBlock_at {w : World} {b : Nat} {o : Obj} (h : b < w.heap.size) (o' : Obj) (_ : w.heap[b]? = some o) : (setBlock w b o').heap[b]? = some o' := by simp [setBlock, h]

theorem MapOf.update (h : MapOf P k f g w b M) (K : Keyed P k) (inj : ∀ x y, f x = f y → x = y) (ht : P.underlying t = some (.map k e)) {x : κ} (hx : ∃ l, keyOf P k (f x) = some l) (v : ν) :
    ∃ w', (Instr.mapUpdate t (.map (some b)) (f x) (g v)).run P w = .ok () w' ∧ MapOf P k f g w' b (mput M x v) ∧ Upd w w' b := by
  have hlt := h.lt
  obtain ⟨es, clock, h⟩ := h
  obtain ⟨l, hl⟩ := id hx
  rcases h.find K inj hx with ⟨h1, h2⟩ | ⟨j, a, p, h1, h2, h3, h4, h5, h6⟩
  · refine ⟨setBlock w b (.map (es.push { key := f x, val := g v, born := clock }) (clock + 1)), ?_, ⟨_, _, ⟨setBlock_at hlt _ h.blk, ?_, ?_, ?_, ?_, ?_⟩⟩, upd_setBlock _ _ _⟩
    · simp [Instr.mapUpdate, run_underlying ht, MapKept.run_getObj_map h.blk, K.check w _ hl, h1, MapKept.run_setObj_map _ h.blk, Result.andThen, setBlock]
    · unfold mput; rw [if_neg h2]; simp [h.ents]
    · unfold mput; rw [if_neg h2]
      intro p hp
      rcases List.mem_append.1 hp with hp | hp
      · exact h.keys p hp
      · simp at hp; subst hp; exact ⟨l, hl⟩
    · rw [mput_keys, if_neg h2]; exact nodup_snoc h.apart h2
    · rw [Array.toList_push, List.map_append]
      refine nodup_snoc h.stamps fun hm => ?_
      obtain ⟨y, hy, e⟩ := List.mem_map.1 hm
      have := h.old y hy
      simp only at e
      omega
    · intro y hy
      rw [Array.toList_push] at hy
      rcases List.mem_append.1 hy with hy | hy
      · have := h.old y hy; omega
      · simp at hy; subst hy; simp
  · subst h4
    have hjs : j < es.size := by have := (List.getElem?_eq_some_iff.1 h2).1; simpa using this
    have hes : es[j] = a := by have := (List.getElem?_eq_some_iff.1 h2).2; simpa using this
    have hmod : (es.modify j fun c => { c with key := f p.1, val := g v }).toList = es.toList.set j { a with key := f p.1, val := g v } := by
      apply List.ext_getElem?
      intro i
      rw [Array.getElem?_toList, Array.getElem?_modify, List.getElem?_set]
      by_cases hij : j = i
      · subst hij; simp [hjs, hes]
      · simp [hij]
    refine ⟨setBlock w b (.map (es.modify j fun c => { c with key := f p.1, val := g v }) clock), ?_, ⟨_, _, ⟨setBlock_at hlt _ h.blk, ?_, ?_, ?_, ?_, ?_⟩⟩, upd_setBlock _ _ _⟩
    · have hk : (Instr.keyThatStays (((es[j]?).map (·.key)).getD (f p.1)) (f p.1)).run P w = .ok (f p.1) w := by
        rw [show ((es[j]?).map (·.key)).getD (f p.1) = f p.1 from by simp [hjs, hes, h5]]
        exact K.stays w hl
      simp [Instr.mapUpdate, run_underlying ht, MapKept.run_getObj_map h.blk, K.check w _ hl, h1, hk, MapKept.run_setObj_map _ h.blk, Result.andThen, setBlock]
    · rw [mput_set h.apart h3, hmod, list_map_set, list_map_set, h.ents]
    · intro q hq
      rw [mput_set h.apart h3] at hq
      rcases List.mem_or_eq_of_mem_set hq with hq | rfl
      · exact h.keys q hq
      · exact ⟨l, hl⟩
    · rw [mput_keys]; split
      · exact h.apart
      · rename_i hn; exact absurd (List.mem_map.2 ⟨p, List.mem_of_getElem? h3, rfl⟩) hn
    · rw [hmod, list_map_set]
      have : (es.toList.map (·.born)).set j a.born = es.toList.map (·.born) := by
        apply List.ext_getElem?
        intro i
        rw [List.getElem?_set]
        by_cases hij : j = i
        · subst hij; rw [if_pos rfl, List.getElem?_map, h2]; simp [hjs]
        · rw [if_neg hij]
      show ((es.toList.map (·.born)).set j a.born).Nodup
      rw [this]; exact h.stamps
    · intro y hy
      rw [hmod] at hy
      rcases List.mem_or_eq_of_mem_set hy with hy | rfl
      · exact h.old y hy
      · exact h.old a (List.mem_of_getElem? h2)

/-- Behind 'mapEntry': the map has the key, in the entry with a stamp. -/
def StampOf (P : Program) (k : TypeId) (f : κ → Value) (g : ν → Value) (w : World) (b : Nat) (M : List (κ × ν)) (x : κ) (st : Int) : Prop :=
  ∃ (es : Array MapEntry) (clock j : Nat) (a : MapEntry) (p : κ × ν), MapAt P k f g w b es clock M ∧ es.toList[j]? = some a ∧ M[j]? = some p ∧ p.1 = x ∧ (a.born : Int) = st
omit [DecidableEq κ] in
theorem MapOf.nodup (h : MapOf P k f g w b M) : (M.map (·.1)).Nodup := by obtain ⟨_, _, h⟩ := h; exact h.apart
omit [DecidableEq κ] in
theorem StampOf.map {x : κ} {st : Int} (h : StampOf P k f g w b M x st) : MapOf P k f g w b M := by obtain ⟨es, c, _, _, _, h, _⟩ := h; exact ⟨es, c, h⟩

theorem MapOf.entry (h : MapOf P k f g w b M) (K : Keyed P k) (inj : ∀ x y, f x = f y → x = y) (ht : P.underlying t = some (.map k e)) {z : ν} (hz : (zeroValue e).run P w = .ok (g z) w) {x : κ} (hx : ∃ l, keyOf P k (f x) = some l) :
    ∃ v st w', (Instr.mapEntry t (.map (some b)) (f x)).run P w = .ok (.tuple #[v, .int .i64 st]) w' ∧ StampOf P k f g w' b (ment M x z) x st ∧ Upd w w' b := by
  have hlt := h.lt
  obtain ⟨es, clock, h⟩ := h
  obtain ⟨l, hl⟩ := id hx
  rcases h.find K inj hx with ⟨h1, h2⟩ | ⟨j, a, p, h1, h2, h3, h4, h5, h6⟩
  · refine ⟨g z, clock, setBlock w b (.map (es.push { key := f x, val := g z, born := clock }) (clock + 1)), ?_, ⟨_, _, M.length, { key := f x, val := g z, born := clock }, (x, z), ⟨setBlock_at hlt _ h.blk, ?_, ?_, ?_, ?_, ?_⟩, ?_, ?_, rfl, rfl⟩, upd_setBlock _ _ _⟩
    · simp [Instr.mapEntry, run_underlying ht, MapKept.run_getObj_map h.blk, K.check w _ hl, h1, hz, MapKept.run_setObj_map _ h.blk, Result.andThen, setBlock, goInt]
    · unfold ment; rw [if_neg h2]; simp [h.ents]
    · unfold ment; rw [if_neg h2]
      intro p hp
      rcases List.mem_append.1 hp with hp | hp
      · exact h.keys p hp
      · simp at hp; subst hp; exact ⟨l, hl⟩
    · rw [ment_keys, if_neg h2]; exact nodup_snoc h.apart h2
    · rw [Array.toList_push, List.map_append]
      refine nodup_snoc h.stamps fun hm => ?_
      obtain ⟨y, hy, e⟩ := List.mem_map.1 hm
      have := h.old y hy
      simp only at e
      omega
    · intro y hy
      rw [Array.toList_push] at hy
      rcases List.mem_append.1 hy with hy | hy
      · have := h.old y hy; omega
      · simp at hy; subst hy; simp
    · rw [Array.toList_push, ← h.len]; simp
    · unfold ment; rw [if_neg h2]; simp
  · subst h4
    have hjs : j < es.size := by have := (List.getElem?_eq_some_iff.1 h2).1; simpa using this
    have hes : es[j] = a := by have := (List.getElem?_eq_some_iff.1 h2).2; simpa using this
    have hmod : (es.modify j fun c => { c with key := f p.1 }) = es := by
      apply Array.ext_getElem?
      intro i
      rw [Array.getElem?_modify]
      by_cases hij : j = i
      · subst hij; simp [hjs, hes, ← h5]
      · simp [hij]
    have hk : (Instr.keyThatStays a.key (f p.1)).run P w = .ok (f p.1) w := by
      rw [h5]; exact K.stays w hl
    refine ⟨a.val, a.born, setBlock w b (.map es clock), ?_, ⟨es, clock, j, a, p, ⟨setBlock_at hlt _ h.blk, ?_, ?_, ?_, h.stamps, h.old⟩, h2, ?_, rfl, rfl⟩, upd_setBlock _ _ _⟩
    · simp [Instr.mapEntry, run_underlying ht, MapKept.run_getObj_map h.blk, K.check w _ hl, h1, hk, hmod, MapKept.run_setObj_map _ h.blk, Result.andThen, setBlock, goInt, hjs, hes]
    · unfold ment; rw [if_pos (List.mem_map.2 ⟨p, List.mem_of_getElem? h3, rfl⟩)]; exact h.ents
    · unfold ment; rw [if_pos (List.mem_map.2 ⟨p, List.mem_of_getElem? h3, rfl⟩)]; exact h.keys
    · unfold ment; rw [if_pos (List.mem_map.2 ⟨p, List.mem_of_getElem? h3, rfl⟩)]; exact h.apart
    · unfold ment; rw [if_pos (List.mem_map.2 ⟨p, List.mem_of_getElem? h3, rfl⟩)]; exact h3

theorem StampOf.store {x : κ} {st : Int} (h : StampOf P k f g w b M x st) (v : ν) :
    ∃ w', (Instr.entryStore t (.map (some b)) (.int .i64 st) (g v)).run P w = .ok () w' ∧ MapOf P k f g w' b (mput M x v) ∧ Upd w w' b := by
  have hlt := h.map.lt
  obtain ⟨es, clock, j, a, p, h, h2, h3, rfl, rfl⟩ := h
  have hjs : j < es.size := by have := (List.getElem?_eq_some_iff.1 h2).1; simpa using this
  have hes : es[j] = a := by have := (List.getElem?_eq_some_iff.1 h2).2; simpa using this
  have hfind : es.findIdx? (fun e => (e.born : Int) == (a.born : Int)) = some j := by
    rw [Array.findIdx?_eq_some_iff_getElem]
    refine ⟨hjs, by simp [hes], fun i hi => ?_⟩
    have hn := h.stamps
    have hlt : i < es.size := by omega
    simp only [beq_iff_eq]
    intro e
    have e' : es[i].born = a.born := by omega
    have hij := (List.pairwise_iff_getElem.1 hn) i j (by simpa using hlt) (by simpa using hjs) hi
    apply hij
    simp [hes, e']
  have hmod : (es.modify j fun c => { c with val := g v }).toList = es.toList.set j { a with val := g v } := by
    apply List.ext_getElem?
    intro i
    rw [Array.getElem?_toList, Array.getElem?_modify, List.getElem?_set]
    by_cases hij : j = i
    · subst hij; simp [hjs, hes]
    · simp [hij]
  obtain ⟨_, hq, e1, _⟩ := h.at_ h2
  have hq' := hq.symm.trans h3
  simp only [Option.some.injEq] at hq'
  subst hq'
  refine ⟨setBlock w b (.map (es.modify j fun c => { c with val := g v }) clock), ?_, ⟨_, _, ⟨setBlock_at hlt _ h.blk, ?_, ?_, ?_, ?_, ?_⟩⟩, upd_setBlock _ _ _⟩
  · simp [Instr.entryStore, MapKept.run_getObj_map h.blk, hfind, MapKept.run_setObj_map _ h.blk, Result.andThen, setBlock, asInt, asIntOf]
  · rw [mput_set h.apart h3, hmod, list_map_set, list_map_set, h.ents, e1]
  · intro q hq
    rw [mput_set h.apart h3] at hq
    rcases List.mem_or_eq_of_mem_set hq with hq | e2
    · exact h.keys q hq
    · have hk := h.keys _ (List.mem_of_getElem? h3)
      rw [e2]; exact hk
  · rw [mput_keys]; split
    · exact h.apart
    · rename_i hn; exact absurd (List.mem_map.2 ⟨_, List.mem_of_getElem? h3, rfl⟩) hn
  · rw [hmod, list_map_set]
    have : (es.toList.map (·.born)).set j a.born = es.toList.map (·.born) := by
      apply List.ext_getElem?
      intro i
      rw [List.getElem?_set]
      by_cases hij : j = i
      · subst hij; rw [if_pos rfl, List.getElem?_map, h2]; simp [hjs]
      · rw [if_neg hij]
    show ((es.toList.map (·.born)).set j a.born).Nodup
    rw [this]; exact h.stamps
  · intro y hy
    rw [hmod] at hy
    rcases List.mem_or_eq_of_mem_set hy with hy | rfl
    · exact h.old y hy
    · exact h.old a (List.mem_of_getElem? h2)
end

section
variable {κ ν : Type} {P : Program} {k t e : TypeId} {f : κ → Value} {g : ν → Value} {w : World} {b r : Nat} {M L : List (κ × ν)}

theorem MapOf.range (h : MapOf P k f g w b M) (ht : P.underlying t = some (.map k e)) :
    (Instr.range t (.map (some b))).run P w = .ok (.pointer (some ⟨w.heap.size, 0, none⟩)) (w.alloc (.mapIter (some b) (h.choose_spec.choose) #[] (h.choose_spec.choose))) ∧ IterOf P k f g (w.alloc (.mapIter (some b) (h.choose_spec.choose) #[] (h.choose_spec.choose))) b w.heap.size M M := by
  have hlt := h.lt
  have hM := h.choose_spec.choose_spec
  refine ⟨run_range_map w t k e b _ _ ht hM.blk, h.choose, h.choose_spec.choose, #[], ⟨(Below.heap_alloc w _ b hlt).trans hM.blk, hM.ents, hM.keys, hM.apart, hM.stamps, hM.old⟩, heap_alloc_new w _, ?_⟩
  rw [List.filter_eq_self.2 (by simp), List.map_snd_zip (by have := hM.len; simp; omega)]

theorem perm_filter_ne {α : Type} (q : α → Nat) : ∀ {Z : List α}, (Z.map q).Nodup → ∀ {x : α}, x ∈ Z → Z.Perm (x :: Z.filter (fun y => !(q y == q x)))
  | [], _, _, hx => by simp at hx
  | a :: r, h, x, hx => by
    simp only [List.map_cons, List.nodup_cons] at h
    rcases List.mem_cons.1 hx with rfl | hx
    · rw [List.filter_cons_of_neg (by simp), List.filter_eq_self.2]
      intro y hy
      simp
      exact fun e => h.1 (e ▸ List.mem_map.2 ⟨y, hy, rfl⟩)
    · rw [List.filter_cons_of_pos (by simp; exact fun e => h.1 (e ▸ List.mem_map.2 ⟨x, hx, rfl⟩))]
      exact ((perm_filter_ne q h.2 hx).cons a).trans (List.Perm.swap _ _ _)

/-- One step of a loop over a map. -/
theorem IterOf.next (h : IterOf P k f g w b r M L) (ty : TypeId) :
    (L = [] ∧ (Instr.next (.pointer (some ⟨r, 0, none⟩)) false ty).run P w = .ok (.tuple #[.bool false]) w) ∨
    ∃ p L' w', L.Perm (p :: L') ∧ (Instr.next (.pointer (some ⟨r, 0, none⟩)) false ty).run P w = .ok (.tuple #[.bool true, f p.1, g p.2]) w' ∧ IterOf P k f g w' b r M L' ∧ Upd w w' r ∧
      (Instr.entry (.pointer (some ⟨r, 0, none⟩))).run P w' = .ok (.tuple #[f p.1, g p.2]) w' := by
  obtain ⟨hbl, hrl, hne⟩ := h.lt
  obtain ⟨es, clock, seen, hM, hr, hL⟩ := h
  have hlen : es.toList.length = M.length := by have := hM.len; simpa using this
  rcases run_next_at (P := P) w ty r b clock clock seen es clock hr hM.blk hM.old (Nat.le_refl _) with ⟨h0, hrun⟩ | ⟨a, ha, w1, hal, hrun⟩
  · refine .inl ⟨?_, hrun⟩
    have : (es.toList.zip M).filter (fun q => !seen.contains q.1.born) = [] := by
      rw [List.filter_eq_nil_iff]
      intro q hq
      have hq1 : q.1 ∈ es.toList := (List.of_mem_zip hq).1
      have hnil : leftOf es seen = #[] := Array.eq_empty_of_size_eq_zero h0
      unfold leftOf at hnil
      rw [Array.filter_eq_empty_iff] at hnil
      exact hnil q.1 (by simpa using hq1)
    rw [this] at hL
    simpa using hL.symm.eq_nil
  · have ham : a ∈ es.toList ∧ seen.contains a.born = false := by
      unfold leftOf at ha
      simp at ha
      exact ⟨by simpa using ha.1, by simpa using ha.2⟩
    obtain ⟨j, hj⟩ := List.mem_iff_getElem?.1 ham.1
    obtain ⟨p, hp, e1, e2⟩ := hM.at_ hj
    have hz : (a, p) ∈ es.toList.zip M := by
      refine List.mem_iff_getElem?.2 ⟨j, ?_⟩
      rw [List.getElem?_zip_eq_some]
      exact ⟨hj, hp⟩
    have hzf : (a, p) ∈ (es.toList.zip M).filter (fun q => !seen.contains q.1.born) := List.mem_filter.2 ⟨hz, by simp only [ham.2]; rfl⟩
    have hnd : (((es.toList.zip M).filter (fun q => !seen.contains q.1.born)).map (fun q => q.1.born)).Nodup := by
      have h1 : ((es.toList.zip M).map (fun q => q.1.born)).Nodup := by
        have : (es.toList.zip M).map (fun q => q.1.born) = es.toList.map (·.born) := by
          rw [show (fun q : MapEntry × (κ × ν) => q.1.born) = (fun e : MapEntry => e.born) ∘ Prod.fst from rfl, ← List.map_map, List.map_fst_zip (by omega)]
        rw [this]; exact hM.stamps
      exact (List.filter_sublist.map _).nodup h1
    have hperm := perm_filter_ne (fun q : MapEntry × (κ × ν) => q.1.born) hnd hzf
    have hr1 : w1.heap[r]? = some (.mapIter (some b) clock seen clock) := by rcases hal with rfl | rfl <;> exact hr
    have hb1 : w1.heap[b]? = some (.map es clock) := by rcases hal with rfl | rfl <;> exact hM.blk
    have hsz : r < w1.heap.size := (Array.getElem?_eq_some_iff.1 hr1).1
    have hu := upd_setBlock w1 r (.mapIter (some b) clock (seen.push a.born) clock)
    have hb2 := (hu.block b hne).trans hb1
    have hr2 := setBlock_at hsz (.mapIter (some b) clock (seen.push a.born) clock) hr1
    have hUU : Upd w (setBlock w1 r (.mapIter (some b) clock (seen.push a.born) clock)) r := by
      rcases hal with rfl | rfl
      · exact hu
      · exact ⟨hu.os, hu.tape, hu.output, hu.size, hu.block⟩
    refine .inr ⟨p, (((es.toList.zip M).filter (fun q => !seen.contains q.1.born)).filter (fun y => !(y.1.born == a.born))).map (·.2), _, ?_, ?_, ⟨es, clock, seen.push a.born, ⟨hb2, hM.ents, hM.keys, hM.apart, hM.stamps, hM.old⟩, hr2, ?_⟩, hUU, ?_⟩
    · exact hL.symm.trans (hperm.map (·.2))
    · rw [hrun, e1, e2]
    · rw [List.filter_filter]
      refine List.Perm.of_eq (congrArg _ (List.filter_congr fun q _ => ?_))
      rw [Array.contains_push]
      cases seen.contains q.1.born <;> cases hq : (q.1.born == a.born) <;> simp_all
    · rw [← e1, ← e2]
      exact run_entry_at _ r b clock seen es clock a hr2 hb2 ham.1 hM.stamps
end

end Go.Proofs.Ytagekhgfoabgbaa
end

section
/- The walk over (shelf).drains. -/
set_option linter.unusedSimpArgs false
set_option linter.unusedVariables false
namespace Go.Proofs.Ytagekhgfoabgbaa
open Go.RowKit Go.Maps
attribute [local go_sem] ints_lit6

theorem law3 : Keyed Try.prog 3 := int_keyed Try.underlying3
theorem part3 (cs : Array Value) (j : Nat) (x : Value) (h : cs[j]? = some x) (w : World) : (part 3 cs j).run Try.prog w = .ok x w := by
  simp [part, isAgg, run_underlying Try.underlying3, h]
theorem run_equalIn_cells (a b c d e f a' b' c' d' e' f' : Int) (w : World) : (Op.equalIn 10000 63 (.agg #[.int .i64 a, .int .i64 b, .int .i64 c, .int .i64 d, .int .i64 e, .int .i64 f]) (.agg #[.int .i64 a', .int .i64 b', .int .i64 c', .int .i64 d', .int .i64 e', .int .i64 f'])).run Try.prog w = .ok (decide (([a, b, c, d, e, f] : List Int) = [a', b', c', d', e', f'])) w := by
  have h3 : (sizeOf 3).run Try.prog w = .ok 1 w := by kernel_rfl
  rw [Op.equalIn]
  simp only [Sem.run_bind, run_underlying Try.underlying63, Result.andThen_ok, h3]
  have he : ∀ (x y : Int) w, (Op.equalIn 9999 3 (.int .i64 x) (.int .i64 y)).run Try.prog w = .ok (x == y) w := fun x y w => run_equalIn_int w 9998 3 .i64 .i64 x y Try.underlying3
  have hp : ∀ (x0 x1 x2 x3 x4 x5 : Value) w, (part 3 #[x0, x1, x2, x3, x4, x5] 0).run Try.prog w = .ok x0 w ∧ (part 3 #[x0, x1, x2, x3, x4, x5] 1).run Try.prog w = .ok x1 w ∧ (part 3 #[x0, x1, x2, x3, x4, x5] 2).run Try.prog w = .ok x2 w ∧ (part 3 #[x0, x1, x2, x3, x4, x5] 3).run Try.prog w = .ok x3 w ∧ (part 3 #[x0, x1, x2, x3, x4, x5] 4).run Try.prog w = .ok x4 w ∧ (part 3 #[x0, x1, x2, x3, x4, x5] 5).run Try.prog w = .ok x5 w := fun _ _ _ _ _ _ w => ⟨part3 _ _ _ rfl w, part3 _ _ _ rfl w, part3 _ _ _ rfl w, part3 _ _ _ rfl w, part3 _ _ _ rfl w, part3 _ _ _ rfl w⟩
  rw [Std.Legacy.Range.forIn_eq_forIn_range', show List.range' (Std.Legacy.Range.mk 0 6 1 (by decide)).start (Std.Legacy.Range.mk 0 6 1 (by decide)).size (Std.Legacy.Range.mk 0 6 1 (by decide)).step = [0, 1, 2, 3, 4, 5] from rfl]
  have hp0 := fun x0 x1 x2 x3 x4 x5 w => (hp x0 x1 x2 x3 x4 x5 w).1
  have hp1 := fun x0 x1 x2 x3 x4 x5 w => (hp x0 x1 x2 x3 x4 x5 w).2.1
  have hp2 := fun x0 x1 x2 x3 x4 x5 w => (hp x0 x1 x2 x3 x4 x5 w).2.2.1
  have hp3 := fun x0 x1 x2 x3 x4 x5 w => (hp x0 x1 x2 x3 x4 x5 w).2.2.2.1
  have hp4 := fun x0 x1 x2 x3 x4 x5 w => (hp x0 x1 x2 x3 x4 x5 w).2.2.2.2.1
  have hp5 := fun x0 x1 x2 x3 x4 x5 w => (hp x0 x1 x2 x3 x4 x5 w).2.2.2.2.2
  clear hp
  simp only [List.forIn_cons, List.forIn_nil, Sem.run_bind, Nat.zero_mul, Nat.mul_one]
  by_cases h0 : a = a'
  · by_cases h1 : b = b'
    · by_cases h2 : c = c'
      · by_cases h3 : d = d'
        · by_cases h4 : e = e'
          · by_cases h5 : f = f' <;> simp [h0, h1, h2, h3, h4, h5, hp0, hp1, hp2, hp3, hp4, hp5, he, Result.andThen]
          · simp [h0, h1, h2, h3, h4, hp0, hp1, hp2, hp3, hp4, hp5, he, Result.andThen]
        · simp [h0, h1, h2, h3, hp0, hp1, hp2, hp3, hp4, hp5, he, Result.andThen]
      · simp [h0, h1, h2, hp0, hp1, hp2, hp3, hp4, hp5, he, Result.andThen]
    · simp [h0, h1, hp0, hp1, hp2, hp3, hp4, hp5, he, Result.andThen]
  · simp [h0, hp0, hp1, hp2, hp3, hp4, hp5, he, Result.andThen]

theorem run_index_cells (xs : List Int) (hx : xs.length = 6) (j : Nat) (hj : j < 6) (w : World) : (Instr.index 63 (.agg (ints xs)) (.int .i64 j)).run Try.prog w = .ok (.int .i64 (xs.getD j 0)) w := by
  have h3 : (sizeOf 3).run Try.prog w = .ok 1 w := by kernel_rfl
  have hp := part3 (ints xs) j _ (ints_getD (by omega)) w
  have hc : (0 : Int) ≤ (j : Int) ∧ (j : Int) < (6 : Nat) := by omega
  simp only [Instr.index, asIntOf, Sem.run_bind, Sem.run_pure, Result.andThen_ok, run_underlying Try.underlying63, hc, and_self, if_true, h3, Int.toNat_natCast, Nat.mul_one]
  exact hp

theorem run_makeMap0 : ∀ (t : TypeId) (w : World), (Instr.makeMap t none).run Try.prog w = .ok (.map (some w.heap.size)) (w.alloc (.map #[] 0)) := fun t w => @run_makeMap Try.prog t w
theorem row_at {w : World} {g e : Nat} {s : List Int} {t : TypeId} (h : Blk w g s t) (hs : s.length = 73) (he : e ≤ 10) {x0 x1 x2 x3 x4 x5 : Int} (hx : shRow s e = [x0, x1, x2, x3, x4, x5]) :
    w.cell? ⟨g, 7 + e * 6, none⟩ = some (.int .i64 x0) ∧ w.cell? ⟨g, 7 + e * 6 + 1, none⟩ = some (.int .i64 x1) ∧ w.cell? ⟨g, 7 + e * 6 + 2, none⟩ = some (.int .i64 x2) ∧
    w.cell? ⟨g, 7 + e * 6 + 3, none⟩ = some (.int .i64 x3) ∧ w.cell? ⟨g, 7 + e * 6 + 4, none⟩ = some (.int .i64 x4) ∧ w.cell? ⟨g, 7 + e * 6 + 5, none⟩ = some (.int .i64 x5) := by
  unfold shRow at hx
  simp only [List.cons.injEq, and_true] at hx
  obtain ⟨h0, h1, h2, h3, h4, h5⟩ := hx
  refine ⟨?_, ?_, ?_, ?_, ?_, ?_⟩
  · rw [h.cell (by omega), h0]
  · rw [h.cell (by omega), h1]
  · rw [h.cell (by omega), h2]
  · rw [h.cell (by omega), h3]
  · rw [h.cell (by omega), h4]
  · rw [h.cell (by omega), h5]

theorem wf64 (n : Int) (h0 : -1000000 ≤ n) (h1 : n ≤ 1000000) : (Lit.int .i64 n).wf = true := by
  have e1 : IntKind.i64.min = -9223372036854775808 := by decide
  have e2 : IntKind.i64.max = 9223372036854775807 := by decide
  simp only [Lit.wf, e1, e2, Bool.and_eq_true, decide_eq_true_eq]
  omega
theorem shDTo_keys (s : List Int) (k : Nat) : ∀ j, ∀ p ∈ shDTo s k j, p.1 < (j : Int)
  | 0, p, hp => by simp [shDTo] at hp
  | j + 1, p, hp => by
    unfold shDTo at hp
    split at hp
    · rcases List.mem_append.1 hp with hp | hp
      · have := shDTo_keys s k j p hp; omega
      · simp at hp; subst hp; show (j : Int) < _; omega
    · have := shDTo_keys s k j p hp; omega
theorem shDTo_put (s : List Int) (k j : Nat) (h : ((shRow s k).getD j 0 != -3) = true) : shDTo s k (j + 1) = mput (shDTo s k j) (j : Int) (shW s k j) := by
  unfold mput
  rw [if_neg]
  · show (if _ then _ else _) = _
    rw [if_pos h]
  · intro hm
    obtain ⟨p, hp, e⟩ := List.mem_map.1 hm
    have := shDTo_keys s k j p hp
    omega
theorem shDTo_skip (s : List Int) (k j : Nat) (h : ¬ ((shRow s k).getD j 0 != -3) = true) : shDTo s k (j + 1) = shDTo s k j := by
  show (if _ then _ else _) = _
  rw [if_neg h]

/-- What drains hands back. -/
def DrainsPost (s : List Int) (w : World) (x : Ending) (w' : World) : Prop :=
  ∃ g, x = .returned (.map (some g)) ∧ w.heap.size ≤ g ∧ MapOf Try.prog 3 (Value.int .i64) (fun xs => .agg (ints xs)) w' g (shD s) ∧ Below w.heap.size w w'
/-- Its state at a round's head: the first k epochs have no entries. -/
def DR (s : List Int) (w : World) (k : Nat) (wr : World) : Prop :=
  Blk wr w.heap.size s 86 ∧ MapOf Try.prog 3 (Value.int .i64) (fun xs : List Int => .agg (ints xs)) wr (w.heap.size + 1) [] ∧ Below w.heap.size w wr ∧ w.heap.size + 1 < wr.heap.size ∧ ∀ i, i < k → shRow s i = noRow
def DR2 (s : List Int) (w : World) (k j : Nat) (wr : World) : Prop :=
  Blk wr w.heap.size s 86 ∧ MapOf Try.prog 3 (Value.int .i64) (fun xs : List Int => .agg (ints xs)) wr (w.heap.size + 1) (shDTo s k j) ∧ Below w.heap.size w wr ∧ w.heap.size + 1 < wr.heap.size

theorem DR.below {s : List Int} {w wr w1 : World} {k : Nat} (h : DR s w k wr) (hb : Below wr.heap.size wr w1) : DR s w k w1 :=
  ⟨h.1.below hb (by have := h.2.2.2.1; omega), h.2.1.below hb h.2.2.2.1, h.2.2.1.trans (hb.mono h.2.2.1.size), Nat.lt_of_lt_of_le h.2.2.2.1 hb.size, h.2.2.2.2⟩
theorem DR.next {s : List Int} {w wr : World} {k : Nat} (h : DR s w k wr) (he : shRow s k = noRow) : DR s w (k + 1) wr :=
  ⟨h.1, h.2.1, h.2.2.1, h.2.2.2.1, fun i hi => by
    by_cases e : i = k
    · rw [e]; exact he
    · exact h.2.2.2.2 i (by omega)⟩
theorem DR.two {s : List Int} {w wr : World} {k : Nat} (h : DR s w k wr) : DR2 s w k 0 wr := ⟨h.1, h.2.1, h.2.2.1, h.2.2.2.1⟩
theorem shDFrom_at (s : List Int) (k : Nat) (hne : shRow s k ≠ noRow) : ∀ n e, e ≤ k → k < e + n → (∀ i, e ≤ i → i < k → shRow s i = noRow) → shDFrom s e n = shDTo s k 6
  | 0, e, _, h, _ => by omega
  | n + 1, e, he, h, hr => by
    unfold shDFrom
    by_cases hek : e = k
    · subst hek; rw [if_neg hne]
    · rw [if_pos (hr e (Nat.le_refl _) (by omega))]
      exact shDFrom_at s k hne n (e + 1) (by omega) (by omega) (fun i h1 h2 => hr i (by omega) h2)
theorem shDFrom_none (s : List Int) : ∀ n e, (∀ i, e ≤ i → i < e + n → shRow s i = noRow) → shDFrom s e n = []
  | 0, _, _ => rfl
  | n + 1, e, hr => by
    unfold shDFrom
    rw [if_pos (hr e (Nat.le_refl _) (by omega))]
    exact shDFrom_none s n (e + 1) (fun i h1 h2 => hr i (by omega) (by omega))
theorem DR.found {s : List Int} {w w1 : World} {k m : Nat} (hm : (ints s)[6]? = some (.int .i64 m)) (hk : k < m) (hR : ∀ i, i < k → shRow s i = noRow) (he : shRow s k ≠ noRow) (h : DR2 s w k 6 w1) : DrainsPost s w (.returned (.map (some (w.heap.size + 1)))) w1 := by
  refine ⟨w.heap.size + 1, rfl, by omega, ?_, h.2.2.1⟩
  have e : shD s = shDTo s k 6 := by
    unfold shD
    rw [get6 hm]
    exact shDFrom_at s k he _ _ (Nat.zero_le _) (by simpa using hk) (fun i _ hi => hR i hi)
  rw [e]
  exact h.2.1
theorem DR.end_ {s : List Int} {w w1 : World} {m : Nat} (hm : (ints s)[6]? = some (.int .i64 m)) (h : DR s w m w1) : DrainsPost s w (.returned (.map (some (w.heap.size + 1)))) w1 := by
  refine ⟨w.heap.size + 1, rfl, by omega, ?_, h.2.2.1⟩
  have e : shD s = [] := by
    unfold shD
    rw [get6 hm]
    exact shDFrom_none s _ _ (fun i _ hi => h.2.2.2.2 i (by simpa using hi))
  rw [e]
  exact h.2.1

set_option maxRecDepth 100000 in
set_option maxHeartbeats 1000000 in
theorem drains_any (s : List Int) (m : Nat) (w : World) (hm : (ints s)[6]? = some (.int .i64 m)) (hm2 : m ≤ 11) (hs : s.length = 73) :
    Calls Try.prog 52 #[.agg (ints s)] w (DrainsPost s w) := by
  have HS := Lib.hid hs
  clear hs
  have hmm := run_makeMap0
  go_enter Try.func52, Try.ntmps52
  go_wp2_with fail
  clear hmm
  have H0 : DR s w 0 ((w.alloc (.cells (ints s) 86)).alloc (.map #[] 0)) :=
    ⟨(blk_new w s 86).alloc _, by have := MapOf.made Try.prog 3 (Value.int .i64) (fun xs : List Int => .agg (ints xs)) (w.alloc (.cells (ints s) 86)); rwa [World.size_alloc] at this, (below_alloc0 w _).alloc (by simp) _, by simp, fun i hi => by omega⟩
  go_loopw [11] (fun i wr => ∃ k : Nat, k ≤ m ∧ i = .int .i64 k ∧ DR s w k wr) (fun i _ => m - (intOf i).toNat)
  case atStart => exact ⟨0, Nat.zero_le _, rfl, H0⟩
  case round =>
    clear H0
    obtain ⟨k, hk, rfl, hR⟩ := hrel
    by_cases hlt : k < m
    · have hx : ∃ x0 x1 x2 x3 x4 x5, shRow s k = [x0, x1, x2, x3, x4, x5] := ⟨_, _, _, _, _, _, rfl⟩
      obtain ⟨x0, x1, x2, x3, x4, x5, hx⟩ := hx
      obtain ⟨r0, r1, r2, r3, r4, r5⟩ := row_at hR.1 HS.out (show k ≤ 10 by omega) hx
      have hlt0 : w.heap.size < wr.heap.size := by have := hR.2.2.2.1; omega
      have HR := Lib.hid hR
      have HX := Lib.hid hx
      clear hR hx
      by_cases he : [x0, x1, x2, x3, x4, x5] = noRow
      · have heq : ∀ W, (Op.equalIn 10000 63 (.agg #[.int .i64 x0, .int .i64 x1, .int .i64 x2, .int .i64 x3, .int .i64 x4, .int .i64 x5]) (.agg #[.int .i64 (-3), .int .i64 (-3), .int .i64 (-3), .int .i64 (-3), .int .i64 (-3), .int .i64 (-3)])).run Try.prog W = .ok true W := fun W => by
          rw [run_equalIn_cells]; exact congrArg (fun b => Result.ok b W) (decide_eq_true he)
        have HE := Lib.hid he
        clear he
        go_wp2_with fail
        go_region_with (go_at_call 49; go_must ((with_reducible refine (clean_any _ _).mono ?_); rintro e w1 ⟨rfl, hb1⟩; obtain ⟨d0, d1, d2, d3, d4, d5⟩ := row_at (HR.out.1.below (below_undrew hb1) hlt0) HS.out (show k ≤ 10 by omega) HX.out))
        all_goals
          have HN := (HR.out.below (below_undrew hb1)).next (HX.out.trans HE.out)
          clear d0 d1 d2 d3 d4 d5 r0 r1 r2 r3 r4 r5 heq hb1
          go_wp2_with fail
          go_roundw
          case rel => exact ⟨k + 1, by omega, by go_num, HN⟩
          case measure => simp [intOf]; omega
      · have heq : ∀ W, (Op.equalIn 10000 63 (.agg #[.int .i64 x0, .int .i64 x1, .int .i64 x2, .int .i64 x3, .int .i64 x4, .int .i64 x5]) (.agg #[.int .i64 (-3), .int .i64 (-3), .int .i64 (-3), .int .i64 (-3), .int .i64 (-3), .int .i64 (-3)])).run Try.prog W = .ok false W := fun W => by
          rw [run_equalIn_cells]; exact congrArg (fun b => Result.ok b W) (decide_eq_false he)
        have HE := Lib.hid he
        clear he
        go_wp2_with fail
        go_region_with (go_at_call 49; go_must ((with_reducible refine (clean_any _ _).mono ?_); rintro e w1 ⟨rfl, hb1⟩; obtain ⟨d0, d1, d2, d3, d4, d5⟩ := row_at (HR.out.1.below (below_undrew hb1) hlt0) HS.out (show k ≤ 10 by omega) HX.out))
        all_goals
          have H2 := (HR.out.below (below_undrew hb1)).two
          have HRR := Lib.hid HR.out.2.2.2.2
          clear heq hb1 HR r0 r1 r2 r3 r4 r5
          go_wp2_with fail
          clear d0 d1 d2 d3 d4 d5
          obtain ⟨wo, rfl⟩ : ∃ wo : World, wo = wr := ⟨_, rfl⟩
          go_loopw [24] (fun i wr => ∃ j : Nat, j ≤ 6 ∧ i = .int .i64 j ∧ DR2 s w k j wr) (fun i _ => 6 - (intOf i).toNat)
          case atStart => exact ⟨0, by omega, rfl, H2⟩
          case round =>
            clear H2
            obtain ⟨j, hj, rfl, H2⟩ := hrel
            by_cases hlj : j < 6
            · have hix := run_index_cells [x0, x1, x2, x3, x4, x5] rfl j hlj wr
              obtain ⟨y, hy⟩ : ∃ y, y = (shRow s k).getD j 0 := ⟨_, rfl⟩
              rw [← HX.out, ← hy, HX.out, ints_lit6] at hix
              have HY := Lib.hid hy
              clear hy
              by_cases hn : (y != -3) = true
              · have hB := H2.1
                have hlen := HS.out
                have HL := Lib.hid hlen
                have HH := Lib.hid H2
                clear H2 hlen
                go_wp2_with (first
                  | (refine load_blk rfl 86 _ rfl w.heap.size rfl hB Try.underlying86 rfl i86 HL.out ?_)
                  | (refine store_blk rfl 86 _ _ rfl wr.heap.size s rfl rfl (t := 86) (xs := List.replicate 73 0) (by rw [zero86]; exact blk_at _ _ _ _ rfl) i86 (by simp) HL.out ?_; intro w2 hb2 hu2))
                refine (write_any wr.heap.size k j s _ (by omega) hlj HL.out hb2).mono ?_
                rintro e w3 ⟨rfl, h3, h4⟩
                have hsz : w3.heap.size = wr.heap.size + 1 := by rw [h4.size, hu2.size]; simp
                have hmp : MapOf Try.prog 3 (Value.int .i64) (fun xs : List Int => .agg (ints xs)) w3 (w.heap.size + 1) (shDTo s k j) := by
                  refine HH.out.2.1.same ?_
                  have := HH.out.2.2.2
                  rw [h4.block _ (by omega), hu2.block _ (by omega), Below.heap_alloc _ _ _ (by omega)]
                obtain ⟨w4, hrun, hm4, hu4⟩ := hmp.update law3 (fun x y h => by injection h) Try.underlying91 ⟨_, keyOf_int_mk Try.underlying3 (wf64 _ (by omega) (by omega))⟩ (x := (j : Int)) (shW s k j)
                have hN : DR2 s w k (j + 1) w4 := by
                  have hsz4 := HH.out.2.2.2
                  refine ⟨?_, ?_, ?_, ?_⟩
                  · unfold Blk
                    rw [hu4.block _ (by omega), h4.block _ (by omega), hu2.block _ (by omega), Below.heap_alloc _ _ _ (by omega)]
                    exact HH.out.1
                  · rw [shDTo_put s k j (by rw [← HY.out]; exact hn)]; exact hm4
                  · exact (((HH.out.2.2.1.trans (Below.mono (below_alloc0 wr _) HH.out.2.2.1.size)).trans (hu2.below (by have := HH.out.2.2.1.size; omega))).trans (h4.below (by have := HH.out.2.2.1.size; omega))).trans (hu4.below (by omega))
                  · rw [hu4.size, hsz]; omega
                have HN := Lib.hid hN
                have hlw : (shW s k j).length = 73 := by rw [shW_len]; exact HL.out
                have HLW := Lib.hid hlw
                clear hN hlw hm4 hu4 hmp hsz h4 hb2 hu2 hix
                go_wp2_with (first
                  | (refine load_blk rfl 86 _ rfl wr.heap.size rfl h3 Try.underlying86 rfl i86 HLW.out ?_))
                go_roundw
                case rel => exact ⟨j + 1, by omega, by go_num, HN.out⟩
                case measure => simp [intOf]; omega
              · have hn' : (y != -3) = false := by simpa using hn
                have hN : DR2 s w k (j + 1) wr := ⟨H2.1, by rw [shDTo_skip s k j (by rw [← HY.out]; exact hn)]; exact H2.2.1, H2.2.2.1, H2.2.2.2⟩
                have HN := Lib.hid hN
                clear hN hn H2
                go_wp2_with fail
                go_roundw
                case rel => exact ⟨j + 1, by omega, by go_num, HN.out⟩
                case measure => simp [intOf]; omega
            · obtain rfl : j = 6 := by omega
              have hP := DR.found hm hlt HRR.out (by rw [HX.out]; exact HE.out) H2
              have HP := Lib.hid hP
              clear hP H2
              go_wp2_with fail
              go_ret
              exact HP.out
    · obtain rfl : k = m := by omega
      have hP := DR.end_ hm hR
      have HP := Lib.hid hP
      clear hP hR
      go_wp2_with fail
      go_ret
      exact HP.out

end Go.Proofs.Ytagekhgfoabgbaa
end
