/- The stages that may follow a stage; what plays are. -/
import Derived.Test.YtagekhgfoabgbaaK05
import Derived.RangeFuncNested
import Derived.RangeFuncBound
import Derived.RangeFuncCalls
import Derived.RangeFuncLeaves
import Derived.RangeFuncBox
import Derived.Shelf.Abstract
import Derived.Shelf.RegionOpen
import Derived.OwnWalkIn
import Derived.TacticsInMore
import Derived.LoopNIn
import Derived.LoopIn

section
/- slices.Backward over whole numbers: a contract for whoever ranges over it. (After the kit's worked text on slices.All.) -/
set_option linter.unusedSimpArgs false
set_option linter.unusedVariables false
namespace Go.Proofs.Ytagekhgfoabgbaa
open Go.RowKit Go.Shelf
attribute [local go_sem] Oper.semAt_some

/-- The j-th that comes. -/
def bwAt (zs : List Int) (j : Nat) : Nat × Int := (zs.length - 1 - j, zs.getD (zs.length - 1 - j) 0)
/-- What has come when k rounds are over: the first k. -/
abbrev bw (_ : List Int) (k : Nat) : List Nat := List.range k
theorem bw_succ (zs : List Int) (k : Nat) : bw zs (k + 1) = bw zs k ++ [k] := List.range_succ
theorem bw_length (zs : List Int) (k : Nat) : (bw zs k).length = k := List.length_range

set_option maxRecDepth 100000 in
set_option maxHeartbeats 2000000 in
theorem backward1_in (F : Fence) (n : Nat) (h7 : F.fn 71) (hro : F.round = none) (hn : 1 ≤ n) (l Bs n₀ b off cap : Nat) (zs : List Int) (hreach : zs.length ≤ 1000000) (hb : b < n₀) (hBl : Bs < n₀) (J Jx : List Nat → World → Prop)
    (hY : ∀ pre x W, J pre W → pre.length < zs.length → YieldAt F (n - 1) Try.prog l #[.int .i64 ((bwAt zs x).1 : Int), .int .i64 (bwAt zs x).2] W fun e W' =>
      (e = .returned (.bool true) ∧ J (pre ++ [x]) W' ∧ Below n₀ W W') ∨ (e = .returned (.bool false) ∧ Jx (pre ++ [x]) W'))
    (W : World) (hBs : W.cell? ⟨Bs, 0, none⟩ = some (.slice (some ⟨b, off, none⟩) zs.length cap)) (hc : ∀ j, j < zs.length → W.cell? ⟨b, off + j, none⟩ = some (.int .i64 (zs.getD j 0))) (h0 : J [] W) :
    CallsIn F n Try.prog 71 #[.func (.yield l) #[] #[], .pointer (some ⟨Bs, 0, none⟩)] W fun e W' => (∃ v, e = .returned v) ∧
      (J (bw zs zs.length) W' ∨ (∃ k, k ≤ zs.length ∧ Jx (bw zs k) W')) := by
  refine callsIn_of_wp Try.func71 rfl h7 ?_ hro
  simp only [Try.ntmps71, List.size_toArray, List.length_cons, List.length_nil, Nat.reduceAdd, Nat.reduceSub, Array.replicate_succ, Array.replicate_zero, List.push_toArray, List.append_toArray, List.nil_append, List.cons_append]
  obtain ⟨len, hlen⟩ : ∃ len, len = zs.length := ⟨_, rfl⟩
  rw [← hlen] at hreach hY hBs hc ⊢
  have HL := Lib.hid hlen
  clear hlen
  gi_wp2
  gi_loopw [3] (fun i wr => ∃ k : Nat, k ≤ len ∧ i = .int .i64 ((len : Int) - 1 - k) ∧ J (bw zs k) wr ∧ Below n₀ W wr)
    (fun i _ => (intOf i + 1).toNat)
  case atStart => exact ⟨0, Nat.zero_le _, by simp, h0, Below.refl _ _⟩
  case round =>
    obtain ⟨k, hk, rfl, hJs, hnx⟩ := hrel
    by_cases hlt : k < len
    · obtain ⟨m, hm⟩ : ∃ m : Nat, len - 1 - k = m := ⟨_, rfl⟩
      have hi : ((len : Int) - 1 - k) = (m : Int) := by omega
      have hml : m < len := by omega
      have hcx := (hnx.cell (p := ⟨b, off + m, none⟩) hb).trans (hc m hml)
      have hbx := (hnx.cell (p := ⟨Bs, 0, none⟩) hBl).trans hBs
      have hat : bwAt zs k = (m, zs.getD m 0) := by unfold bwAt; rw [← HL.out, hm]
      obtain ⟨x, hx⟩ : ∃ x, x = zs.getD m 0 := ⟨_, rfl⟩
      rw [← hx] at hcx hat
      obtain ⟨fn, tmps, assign, body, hy, hR⟩ := hY _ k wr hJs (by rw [bw_length]; exact hlt)
      rw [hat] at hy
      dsimp only at hy
      have hmz : (m : Int) < (len : Int) := by omega
      have hm0 : (0 : Int) ≤ (m : Int) := by omega
      have HAT := Lib.hid hat
      have HM := Lib.hid hm
      rw [hi]
      clear hat hx hm hi hc hBs
      gi_wp2
      refine hR.mono ?_
      rintro e W3 (⟨rfl, hJ3, hk3⟩ | ⟨rfl, hJx3⟩)
      · gi_wp2
        go_roundw
        case rel => exact ⟨k + 1, by omega, by first | (simp; done) | (simp; have := HM.out; omega), by rw [bw_succ]; exact hJ3, hnx.trans hk3⟩
        case measure => simp [intOf]
      · gi_wp2
        refine bodyPost_ret (results_none rfl _ _ _) rfl ?_
        exact ⟨⟨_, rfl⟩, .inr ⟨k + 1, by omega, by rw [bw_succ]; exact hJx3⟩⟩
    · have hkl : k = len := by omega
      subst hkl
      have hz1 : ((k : Int) - 1 - k) = -1 := by omega
      rw [hz1]
      gi_wp2
      go_end0
      exact ⟨⟨_, rfl⟩, .inl hJs⟩

set_option maxRecDepth 100000 in
set_option maxHeartbeats 1000000 in
theorem backward1_nil_in (F : Fence) (n : Nat) (h7 : F.fn 71) (hro : F.round = none) (l Bs cap : Nat) (a : Option Addr) (J : List Nat → World → Prop) (W : World) (hBs : W.cell? ⟨Bs, 0, none⟩ = some (.slice a 0 cap)) (h0 : J [] W) :
    CallsIn F n Try.prog 71 #[.func (.yield l) #[] #[], .pointer (some ⟨Bs, 0, none⟩)] W fun e W' => (∃ v, e = .returned v) ∧ J [] W' := by
  refine callsIn_of_wp Try.func71 rfl h7 ?_ hro
  simp only [Try.ntmps71, List.size_toArray, List.length_cons, List.length_nil, Nat.reduceAdd, Nat.reduceSub, Array.replicate_succ, Array.replicate_zero, List.push_toArray, List.append_toArray, List.nil_append, List.cons_append]
  gi_wp2
  gi_loopw [3] (fun i wr => i = .int .i64 (-1) ∧ J [] wr) (fun _ _ => 0)
  case atStart => exact ⟨rfl, h0⟩
  case round =>
    obtain ⟨rfl, hJs⟩ := hrel
    gi_wp2
    go_end0
    exact ⟨⟨_, rfl⟩, hJs⟩

set_option maxHeartbeats 1000000 in
theorem backward_in (F : Fence) (n : Nat) (h5 : F.fn 47) (hro : F.round = none) (a : Option Addr) (len cap : Nat) (w : World) :
    CallsIn F n Try.prog 47 #[.slice a len cap] w fun e w' => e = .returned (.func (.func 71) #[] #[.pointer (some ⟨w.heap.size, 0, none⟩)]) ∧ w' = w.alloc (.cells #[.slice a len cap] 40) := by
  refine callsIn_of_wp Try.func47 rfl h5 ?_ hro
  simp only [Try.ntmps47, List.size_toArray, List.length_cons, List.length_nil, Nat.reduceAdd, Nat.reduceSub, Array.replicate_succ, Array.replicate_zero, List.push_toArray, List.append_toArray, List.nil_append, List.cons_append]
  gi_wp2
  go_ret
  exact ⟨rfl, rfl⟩

/-- slices.Backward hands back a value that stops so: all of zs from the end, or the first k of that. -/
theorem backward_stops (F : Fence) (n : Nat) (h7 : F.fn 71) (hro : F.round = none) (hn : 1 ≤ n) (Bs n₀ : Nat) (a : Option Addr) (len cap : Nat) (zs : List Int) (hreach : zs.length ≤ 1000000) (w : World) (hBs : Bs < n₀) (hn₀ : n₀ ≤ w.heap.size)
    (hc : w.cell? ⟨Bs, 0, none⟩ = some (.slice a len cap)) (hI : IntsAt w a len zs) (hab : ∀ b off, a = some ⟨b, off, none⟩ → 0 < zs.length → b < n₀) :
    SeqStopsK F n Try.prog 71 #[.pointer (some ⟨Bs, 0, none⟩)] (fun x : Nat => #[Value.int .i64 ((bwAt zs x).1 : Int), .int .i64 (bwAt zs x).2]) (Below n₀) (fun ys => ys = bw zs zs.length) (fun pre => ∃ k, k ≤ zs.length ∧ pre = bw zs k) zs.length w := fun l J Jx W hW _ _ hY h0 => by
  have hc' := (hW.cell (p := ⟨Bs, 0, none⟩) (by show Bs < w.heap.size; omega)).trans hc
  obtain ⟨hl, hI⟩ := hI
  cases hz : zs with
  | nil =>
    have : len = 0 := by rw [← hl, hz]; rfl
    subst this
    refine (backward1_nil_in F n h7 hro l Bs cap a J W hc' h0).mono fun e W' ⟨he, hj⟩ => ⟨he, .inl ⟨_, rfl, hj⟩⟩
  | cons z r =>
    rw [← hz]
    obtain ⟨b, off, ha, hb, _⟩ := hI 0 z (by rw [hz]; rfl)
    subst ha
    subst hl
    refine (backward1_in F n h7 hro hn l Bs n₀ b off cap zs hreach (hab b off rfl (by rw [hz]; simp)) hBs J Jx hY W hc' (fun j hj => ?_) h0).mono ?_
    · obtain ⟨b', off', he, hb', hcj⟩ := hI j zs[j] (List.getElem?_eq_getElem hj)
      injection he with he
      injection he with e1 e2 _
      subst e1; subst e2
      rw [hW.cell (p := ⟨b, off + j, none⟩) hb', hcj, List.getD_eq_getElem?_getD, List.getElem?_eq_getElem hj]
      rfl
    · rintro e W' ⟨he, hj | ⟨k, hk, hj⟩⟩
      · exact ⟨he, .inl ⟨_, rfl, hj⟩⟩
      · exact ⟨he, .inr ⟨_, ⟨k, hk, rfl⟩, hj⟩⟩

end Go.Proofs.Ytagekhgfoabgbaa
end

section
/- result: what a Get of a block gives. -/
set_option linter.unusedSimpArgs false
set_option linter.unusedVariables false
namespace Go.Proofs.Ytagekhgfoabgbaa
open Go.RowKit Go.Shelf
attribute [local go_sem] Oper.semAt_some

def isPut (c : Cmd) : Bool := c.kind == 1 || c.kind == 2
def hitAt (h : Hist) (b : Int) (n : Int) : Bool := isPut (h.cmd n) && (h.cmd n).block == b
def resultS (h : Hist) (s : Sg) (b : Nat) : Int := ((s.orders.reverse.find? (hitAt h b)).map fun n => (h.cmd n).value).getD (s.keeps.getD b 0)
theorem puts_any (k b v f t : Int) (w : World) :
    Calls Try.prog 48 #[.agg #[.int .i64 k, .int .i64 b, .int .i64 v, .int .i64 f, .int .i64 t]] w fun e w' => e = .returned (.bool (k == 1 || k == 2)) ∧ w' = w.alloc (.cells #[.int .i64 k, .int .i64 b, .int .i64 v, .int .i64 f, .int .i64 t] 36) := by
  by_cases h1 : k = 1
  · have hb : (k == 1) = true := by simp [h1]
    have HE := Lib.hid (show (k == 1 || k == 2) = true by simp [h1])
    rw [HE.out]
    clear h1
    go_enter Try.func48, Try.ntmps48
    go_wp2
    go_ret
    exact ⟨rfl, rfl⟩
  · have hb : (k == 1) = false := by simp [h1]
    rw [hb, Bool.false_or]
    clear h1
    go_enter Try.func48, Try.ntmps48
    go_wp2
    go_ret
    exact ⟨rfl, rfl⟩

theorem bwAt_rev (zs : List Int) (j : Nat) (hj : j < zs.length) : zs.reverse[j]? = some (bwAt zs j).2 := by
  rw [List.getElem?_reverse hj]
  unfold bwAt
  rw [List.getD_eq_getElem?_getD, List.getElem?_eq_getElem (by omega)]
  rfl
theorem bwAt_mem (zs : List Int) (j : Nat) (h : 0 < zs.length) : (bwAt zs j).2 ∈ zs := by
  unfold bwAt
  rw [List.getD_eq_getElem?_getD, List.getElem?_eq_getElem (by omega)]
  exact List.getElem_mem _
theorem find_none {zs : List Int} {p : Int → Bool} (h : ∀ j, j < zs.length → p (bwAt zs j).2 = false) : zs.reverse.find? p = none := by
  rw [List.find?_eq_none]
  intro x hx
  obtain ⟨j, hj, e⟩ := List.mem_iff_getElem.1 hx
  have hj' : j < zs.length := by simpa using hj
  have h1 := bwAt_rev zs j hj'
  rw [List.getElem?_eq_getElem hj, e] at h1
  injection h1 with h1
  rw [h1, h j hj']
  simp
theorem find_first : ∀ {l : List Int} {p : Int → Bool} {j : Nat} {x : Int}, l[j]? = some x → p x = true → (∀ i, i < j → ∀ y, l[i]? = some y → p y = false) → l.find? p = some x
  | [], _, _, _, h, _, _ => by simp at h
  | y :: r, p, 0, x, h, hx, _ => by
    simp at h; subst h
    simp [List.find?, hx]
  | y :: r, p, j + 1, x, h, hx, hi => by
    have h0 := hi 0 (by omega) y rfl
    simp only [List.find?, h0]
    exact find_first (l := r) (j := j) (by simpa using h) hx fun i hij y hy => hi (i + 1) (by omega) y (by simpa using hy)

set_option maxRecDepth 100000 in
set_option maxHeartbeats 4000000 in
theorem result_any (w : World) (g b : Nat) (s : Sg) (bf : Option Nat) (h : Hist) (A : Option Addr) (n c : Nat) (hS : StB w g s bf) (hC : CmdsAt w A n h.cmds) (hnc : n ≤ c) (hb6 : b < 6) (hol : s.orders.length ≤ 9) (hoc : ∀ o ∈ s.orders, 0 ≤ o ∧ o < h.cmds.length) :
    Calls Try.prog 34 #[.pointer (some ⟨g, 0, none⟩), hV h.blocks A n c, .int .i64 b] w fun e w' => e = .returned (.int .i64 (resultS h s b)) ∧ Below w.heap.size w w' := by
  refine (callsIn_wide (n := 4)).1 ?_
  have hgl := hS.lt
  obtain ⟨B, nb, cb, B2, nb2, cb2, k0, k1, k2, k3, k4, k5, hkp, h0, h1, h2, h3, h4, h5, h6, h7, _, _, _, hO, hB, hmc, _⟩ := hS.open
  refine callsIn_of_wp_marks (F := Fence.wide) (n := 4) Try.func34 rfl trivial ?_ rfl
  simp only [Try.ntmps34, List.size_toArray, List.length_cons, List.length_nil, Nat.reduceAdd, Nat.reduceSub, Array.replicate_succ, Array.replicate_zero, List.push_toArray, List.append_toArray, List.nil_append, List.cons_append]
  have hne : g ≠ w.heap.size := by omega
  have hne1 : g ≠ w.heap.size + 1 := by omega
  have hW3 : Below w.heap.size w (((w.alloc (.cells #[gI h.blocks, .slice A n c] 24)).alloc (.cells #[.int .i64 b] 3)).alloc (.cells #[.int .i64 0] 3)) := ((below_alloc0 w _).alloc (by simp) _).alloc (by simp; omega) _
  have h1w := (hW3.cell (p := ⟨g, 1, none⟩) hgl).trans h1
  have hf1 : Fence.wide.fn 47 := trivial
  have hf2 : Fence.wide.fn 71 := trivial
  have hf3 : Fence.wide.fn 48 := trivial
  have HH := Lib.hid (show s.keeps = [k0, k1, k2, k3, k4, k5] ∧ IntsAt w B nb s.orders from ⟨hkp, hO⟩)
  clear hkp hO
  gi_wp2_with (gi_at_call 47; refine (backward_in Fence.wide (4 - 1) trivial rfl _ _ _ _).mono ?_; rintro e w' ⟨rfl, rfl⟩)
  obtain ⟨W3, hWW⟩ : ∃ W3, W3 = (((w.alloc (.cells #[gI h.blocks, .slice A n c] 24)).alloc (.cells #[.int .i64 b] 3)).alloc (.cells #[.int .i64 0] 3)) := ⟨_, rfl⟩
  have hWs : W3.heap.size = w.heap.size + 3 := by rw [hWW]; simp
  have hB4 : Below w.heap.size w (W3.alloc (.cells #[.slice B nb cb] 40)) := by rw [hWW]; exact hW3.alloc (by simp; omega) _
  have hb0 : W3.heap[w.heap.size]? = some (.cells #[gI h.blocks, .slice A n c] 24 (0, 0)) := by
    rw [hWW]; exact ((Below.heap_alloc _ _ _ (by simp; omega)).trans (Below.heap_alloc _ _ _ (by simp))).trans (heap_alloc_new _ _)
  have hb1 : W3.heap[w.heap.size + 1]? = some (.cells #[gI b] 3 (0, 0)) := by
    rw [hWW]; exact (Below.heap_alloc _ _ _ (by simp)).trans (heap_alloc2_new _ _ _)
  have hb2 : W3.heap[w.heap.size + 1 + 1]? = some (.cells #[gI 0] 3 (0, 0)) := by
    rw [hWW]
    have := heap_alloc_new ((w.alloc (.cells #[gI h.blocks, .slice A n c] 24)).alloc (.cells #[.int .i64 b] 3)) (.cells #[.int .i64 0] 3)
    simpa using this
  have ea : ∀ k, k < W3.heap.size → (W3.alloc (.cells #[.slice B nb cb] 40)).heap[k]? = W3.heap[k]? := fun k hk => Below.heap_alloc _ _ _ hk
  have c1 : (W3.alloc (.cells #[.slice B nb cb] 40)).cell? ⟨w.heap.size, 1, none⟩ = some (.slice A n c) := by rw [cell_of_row _ _ 1 _ _ _ ((ea _ (by omega)).trans hb0)]; rfl
  have c2 : (W3.alloc (.cells #[.slice B nb cb] 40)).cell? ⟨w.heap.size + 1, 0, none⟩ = some (gI b) := by rw [cell_of_row _ _ 0 _ _ _ ((ea _ (by omega)).trans hb1)]; rfl
  have c3 : (W3.alloc (.cells #[.slice B nb cb] 40)).cell? ⟨w.heap.size + 1 + 1, 0, none⟩ = some (gI 0) := by rw [cell_of_row _ _ 0 _ _ _ ((ea _ (by omega)).trans hb2)]; rfl
  have f3 : (W3.alloc (.cells #[.slice B nb cb] 40)).frozen? ⟨w.heap.size + 1 + 1, 0, none⟩ = false := frozen_of_row _ _ 0 _ _ ((ea _ (by omega)).trans hb2)
  have c4 : (W3.alloc (.cells #[.slice B nb cb] 40)).cell? ⟨w.heap.size + 1 + 1 + 1, 0, none⟩ = some (.slice B nb cb) := by
    have : (W3.alloc (.cells #[.slice B nb cb] 40)).heap[w.heap.size + 1 + 1 + 1]? = some (.cells #[.slice B nb cb] 40 (0, 0)) := by
      rw [show w.heap.size + 1 + 1 + 1 = W3.heap.size by omega]; exact heap_alloc_new _ _
    rw [cell_of_row _ _ 0 _ _ _ this]; rfl
  rw [← hWW]
  obtain ⟨W4, hW4⟩ : ∃ W4, W4 = W3.alloc (.cells #[.slice B nb cb] 40) := ⟨_, rfl⟩
  have hs4 : W4.heap.size = w.heap.size + 4 := by rw [hW4]; simp; omega
  rw [← hW4] at hB4 c1 c2 c3 f3 c4 ⊢
  obtain ⟨zs, hzs⟩ : ∃ zs, zs = s.orders := ⟨_, rfl⟩
  have hIz : IntsAt W4 B nb zs := by rw [hzs]; exact HH.out.2.below hB4 (Nat.le_refl _)
  have hzb : ∀ b' off, B = some ⟨b', off, none⟩ → 0 < zs.length → b' < w.heap.size := fun b' off e hz => by
    obtain ⟨g', o', e', hg', _⟩ := HH.out.2.2 0 _ (List.getElem?_eq_getElem (by rw [← hzs]; exact hz))
    rw [e] at e'; injection e' with e'; injection e' with e1 _ _; omega
  have HZS := Lib.hid hzs
  have hzl : zs.length ≤ 9 := by rw [hzs]; exact hol
  clear hW4 hWW hb0 hb1 hb2 ea h1w hWs hzs
  refine wpIn_rangeFunc_ownG rfl (by decide) (gf := 71) (lb := #[.pointer (some ⟨w.heap.size + 1 + 1 + 1, 0, none⟩)]) rfl trivial (enters_of Try.func71 (by kernel_rfl) rfl)
    (backward_stops Fence.wide (4 - 1) trivial rfl (by decide) (w.heap.size + 1 + 1 + 1) W4.heap.size B nb cb zs (by omega) W4 (by omega) (Nat.le_refl _) c4 hIz (fun b' off e hz => by have := hzb b' off e hz; omega)) belowK_t (belowK_b (Nat.le_refl _)) (Below.refl _ _) (fun _ => rfl)
    (fun pre W => ((∀ j ∈ pre, hitAt h b (bwAt zs j).2 = false) ∧ W.cell? ⟨w.heap.size, 1, none⟩ = some (.slice A n c) ∧ W.cell? ⟨w.heap.size + 1, 0, none⟩ = some (gI b) ∧ W.cell? ⟨w.heap.size + 1 + 1, 0, none⟩ = some (gI 0) ∧ W.frozen? ⟨w.heap.size + 1 + 1, 0, none⟩ = false) ∧ Below w.heap.size w W ∧ Below W4.heap.size W4 W)
    (fun c pre W => (c = .ret ∧ ∃ ini last, pre = ini ++ [last] ∧ (∀ j ∈ ini, hitAt h b (bwAt zs j).2 = false) ∧ hitAt h b (bwAt zs last).2 = true ∧ W.cell? ⟨w.heap.size + 1 + 1, 0, none⟩ = some (gI (h.cmd (bwAt zs last).2).value)) ∧ Below w.heap.size w W)
    (OwnFrom.and (Own.from (fun s A B row hs hg hr => ⟨hs.1, cell_kept hs.2.1 hg hr, cell_kept hs.2.2.1 hg hr, cell_kept hs.2.2.2.1 hg hr, (frozen_kept hs.2.2.2.1 hg hr).trans hs.2.2.2.2⟩) _) (OwnFrom.and (ownFrom_below (Nat.le_refl _) (by omega)) (ownFrom_below (Nat.le_refl _) (Nat.le_refl _))))
    (fun c => OwnFrom.and (Own.from (fun s A B row hs hg hr => by obtain ⟨hc, ini, last, e1, e2, e3, e4⟩ := hs; exact ⟨hc, ini, last, e1, e2, e3, cell_kept e4 hg hr⟩) _) (ownFrom_below (Nat.le_refl _) (by omega)))
    ⟨⟨by simp, c1, c2, c3, f3⟩, hB4, Below.refl _ _⟩
    (fun j => { tmps := #[.pointer (some ⟨g, 0, none⟩), hV h.blocks A n c, .int .i64 b, undef, .pointer (some ⟨w.heap.size, 0, none⟩), .pointer (some ⟨w.heap.size + 1, 0, none⟩), .pointer (some ⟨w.heap.size + 1 + 1, 0, none⟩), undef, .int .i64 (bwAt zs j).2, undef, .pointer (some ⟨g, 0, none⟩), .pointer (some ⟨g, 0, none⟩), .pointer (some ⟨g, 1, none⟩), .slice B nb cb,
      .func (.func 71) #[] #[.pointer (some ⟨w.heap.size + 1 + 1 + 1, 0, none⟩)], .int .i64 ((bwAt zs j).1 : Int), .int .i64 (bwAt zs j).2, undef, undef, undef, undef, undef, undef, undef, undef, undef, undef, undef, undef, undef, undef, undef, undef, undef, undef, undef, undef, undef], defers := [] }) ?assign ?body ?done ?stop
  case assign =>
    intro l x W K hK
    gi_wp2
    exact hK
  case body =>
    rintro l pre x W ⟨⟨hp, hx1, hx2, hx3, hf3⟩, hB, hBW⟩ hlp
    have hmem : 0 ≤ (bwAt zs x).2 ∧ (bwAt zs x).2 < h.cmds.length := hoc _ (by rw [← HZS.out]; exact bwAt_mem zs x (by omega))
    obtain ⟨y, hy⟩ : ∃ y : Nat, (bwAt zs x).2 = (y : Int) := ⟨(bwAt zs x).2.toNat, by omega⟩
    rw [hy] at hmem ⊢
    have hyn : y < n := by rw [← hC.1]; omega
    obtain ⟨gA, oA, hAe, hgA, hc0, hc1, hc2, hc3, hc4⟩ := hC.get hyn
    subst hAe
    obtain ⟨cm, hcm⟩ : ∃ cm, cm = h.cmd y := ⟨_, rfl⟩
    rw [← hcm] at hc0 hc1 hc2 hc3 hc4
    have eb : ∀ k, W.cell? ⟨gA, k, none⟩ = w.cell? ⟨gA, k, none⟩ := fun k => hB.cell (p := ⟨gA, k, none⟩) hgA
    have hd0 := (eb _).trans hc0
    have hd1 := (eb _).trans hc1
    have hd2 := (eb _).trans hc2
    have hd3 := (eb _).trans hc3
    have hd4 := (eb _).trans hc4
    have hyz : (y : Int) < (n : Int) := by omega
    have hfp : (Fence.wide.inRound l).fn 48 := trivial
    have hWl := hBW.size
    have HNX := Lib.hid (fun (W' : World) (hW' : Below W.heap.size W W') (hko : KeepsOthers W W') (hno : hitAt h b (y : Int) = false) => (show KeepsFrom W4.heap.size W W' ∧ Below W4.heap.size W W' ∧ ((∀ j ∈ pre ++ [x], hitAt h b (bwAt zs j).2 = false) ∧ W'.cell? ⟨w.heap.size, 1, none⟩ = some (.slice (some ⟨gA, oA, none⟩) n c) ∧ W'.cell? ⟨w.heap.size + 1, 0, none⟩ = some (gI b) ∧ W'.cell? ⟨w.heap.size + 1 + 1, 0, none⟩ = some (gI 0) ∧ W'.frozen? ⟨w.heap.size + 1 + 1, 0, none⟩ = false) ∧ Below w.heap.size w W' ∧ Below W4.heap.size W4 W' from
      ⟨hko.from _, hW'.mono hWl, ⟨fun j hj => (List.mem_append.1 hj).elim (hp j) (fun e => by simp at e; subst e; rw [hy]; exact hno), (hW'.cell (p := ⟨w.heap.size, 1, none⟩) (by show w.heap.size < _; omega)).trans hx1, (hW'.cell (p := ⟨w.heap.size + 1, 0, none⟩) (by show w.heap.size + 1 < _; omega)).trans hx2,
        (hW'.cell (p := ⟨w.heap.size + 1 + 1, 0, none⟩) (by show w.heap.size + 1 + 1 < _; omega)).trans hx3, (hW'.frozen (p := ⟨w.heap.size + 1 + 1, 0, none⟩) (by show w.heap.size + 1 + 1 < _; omega)).trans hf3⟩, hB.trans (hW'.mono (by omega)), hBW.trans (hW'.mono hWl)⟩))
    have HP := Lib.hid (show (∀ j ∈ pre, hitAt h b (bwAt zs j).2 = false) ∧ Below w.heap.size w W ∧ (bwAt zs x).2 = (y : Int) ∧ cm = h.cmd y from ⟨hp, hB, hy, hcm⟩)
    have hhit : hitAt h b (y : Int) = (isPut cm && cm.block == b) := by unfold hitAt; rw [← hcm]
    have HHIT := Lib.hid hhit
    have hA2 : Below W.heap.size W ((W.alloc (.cells #[gI cm.kind, gI cm.block, gI cm.value, gI cm.frm, gI cm.to] 36)).alloc (.cells #[gI cm.kind, gI cm.block, gI cm.value, gI cm.frm, gI cm.to] 36)) := (below_alloc0 W _).trans ((below_alloc0 _ _).mono (by simp))
    have hq1 := (hA2.cell (p := ⟨w.heap.size + 1, 0, none⟩) (by show w.heap.size + 1 < _; omega)).trans hx2
    have hq2 := (hA2.cell (p := ⟨w.heap.size + 1 + 1, 0, none⟩) (by show w.heap.size + 1 + 1 < _; omega)).trans hx3
    have hq3 := (hA2.frozen (p := ⟨w.heap.size + 1 + 1, 0, none⟩) (by show w.heap.size + 1 + 1 < _; omega)).trans hf3
    have HA2 := Lib.hid hA2
    clear hA2
    clear hhit hcm hy hp hB eb hc0 hc1 hc2 hc3 hc4 h0 h1 h2 h3 h4 h5 h6 h7 c1 c2 c3 f3 c4
    have hput := puts_any cm.kind cm.block cm.value cm.frm cm.to
    obtain ⟨pu, hpu⟩ : ∃ pu, pu = (cm.kind == 1 || cm.kind == 2) := ⟨_, rfl⟩
    rw [← hpu] at hput
    have HPU := Lib.hid (show isPut cm = pu from hpu.symm)
    clear hpu
    cases pu with
    | false =>
      gi_wp2_with (gi_at_call 48; refine (CallsIn.inRound l (callsIn_wide.2 (hput _))).mono ?_; rintro e w' ⟨rfl, rfl⟩)
      have HE := Lib.hid (HNX.out _ ((below_alloc0 W (.cells #[gI cm.kind, gI cm.block, gI cm.value, gI cm.frm, gI cm.to] 36)).trans ((below_alloc0 _ (.cells #[gI cm.kind, gI cm.block, gI cm.value, gI cm.frm, gI cm.to] 36)).mono (by simp))) ((KeepsOthers.alloc W _).trans (KeepsOthers.alloc _ _)) (by rw [HHIT.out, HPU.out]; rfl))
      exact HE.out
    | true =>
      by_cases hbk : cm.block = b
      · have hbb : (cm.block == (b : Int)) = true := by simp [hbk]
        have HH2 := Lib.hid (show hitAt h b (y : Int) = true by rw [HHIT.out, HPU.out, hbb]; rfl)
        clear hbk
        gi_wp2_with (gi_at_call 48; refine (CallsIn.inRound l (callsIn_wide.2 (hput _))).mono ?_; rintro e w' ⟨rfl, rfl⟩)
        have HE := Lib.hid (show KeepsFrom W4.heap.size W (((W.alloc (.cells #[gI cm.kind, gI cm.block, gI cm.value, gI cm.frm, gI cm.to] 36)).alloc (.cells #[gI cm.kind, gI cm.block, gI cm.value, gI cm.frm, gI cm.to] 36)).setCell ⟨w.heap.size + 1 + 1, 0, none⟩ (gI cm.value)) from (((KeepsOthers.alloc W _).trans (KeepsOthers.alloc _ _)).trans (KeepsOthers.setCell _ _ _)).from _)
        exact ⟨HE.out, ⟨rfl, pre, x, rfl, HP.out.1, by rw [HP.out.2.2.1]; exact HH2.out, by rw [HP.out.2.2.1, ← HP.out.2.2.2]; exact World.cell?_setCell_same' _ _ _ (by rw [hq2]; rfl)⟩, (HP.out.2.1.trans (HA2.out.mono (by omega))).setCell (p := ⟨w.heap.size + 1 + 1, 0, none⟩) (by show w.heap.size ≤ w.heap.size + 1 + 1; omega) _⟩
      · have hbb : (cm.block == (b : Int)) = false := by simp [hbk]
        have HH2 := Lib.hid (show hitAt h b (y : Int) = false by rw [HHIT.out, HPU.out, hbb]; rfl)
        clear hbk
        gi_wp2_with (gi_at_call 48; refine (CallsIn.inRound l (callsIn_wide.2 (hput _))).mono ?_; rintro e w' ⟨rfl, rfl⟩)
        have HE := Lib.hid (HNX.out _ ((below_alloc0 W (.cells #[gI cm.kind, gI cm.block, gI cm.value, gI cm.frm, gI cm.to] 36)).trans ((below_alloc0 _ (.cells #[gI cm.kind, gI cm.block, gI cm.value, gI cm.frm, gI cm.to] 36)).mono (by simp))) ((KeepsOthers.alloc W _).trans (KeepsOthers.alloc _ _)) HH2.out)
        exact HE.out
  case done =>
    rintro D ys W hD rfl ⟨⟨hp, hx1, hx2, hx3, hf3⟩, hB, hBW⟩ hK
    have hfn := find_none (zs := zs) (p := hitAt h b) (fun j hj => hp j (List.mem_range.2 hj))
    have HFN := Lib.hid hfn
    have hbz : (b : Int) < 6 := by omega
    obtain ⟨v, hv⟩ : ∃ v, v = s.keeps.getD b 0 := ⟨_, rfl⟩
    have hcv : W.cell? ⟨g, 2 + b, none⟩ = some (gI v) := by
      rw [hB.cell (p := ⟨g, 2 + b, none⟩) hgl, hv, HH.out.1]
      match b, hb6 with
      | 0, _ => exact h2
      | 1, _ => exact h3
      | 2, _ => exact h4
      | 3, _ => exact h5
      | 4, _ => exact h6
      | 5, _ => exact h7
    have HV := Lib.hid hv
    clear hfn hp hv h0 h1 h2 h3 h4 h5 h6 h7 c1 c2 c3 f3 c4
    gi_wp2
    refine Code.wpIn_mono NoPanic.imp ?_
    gi_region
    all_goals
      refine NoPanic.normal ?_
      gi_wp2
      have hK' : (W.setCell ⟨w.heap.size + 1 + 1, 0, none⟩ (.int .i64 v)).drew.heap[D]? = some (.deferred (some [])) := (KeepsOthers.setCell W ⟨w.heap.size + 1 + 1, 0, none⟩ (.int .i64 v)).same D _ hK rfl
      have hcc : (W.setCell ⟨w.heap.size + 1 + 1, 0, none⟩ (.int .i64 v)).drew.cell? ⟨w.heap.size + 1 + 1, 0, none⟩ = some (.int .i64 v) := World.cell?_setCell_same' W ⟨w.heap.size + 1 + 1, 0, none⟩ (.int .i64 v) (by rw [hx3]; rfl)
      refine ⟨by simp, .inl ⟨_, _, rfl, run_takeDeferred hK', ?_⟩⟩
      have hc5 := cell_kept hcc (grownBy_putObj' _ D (.deferred none)) (fun r e => by cases e; exact ⟨_, hK', rfl⟩)
      have hres : resultS h s b = v := by
        unfold resultS
        rw [← HZS.out, HFN.out, HV.out]; rfl
      refine ⟨.int .i64 v, ?_, by rw [hres], ((hB.setCell (p := ⟨w.heap.size + 1 + 1, 0, none⟩) (by show w.heap.size ≤ w.heap.size + 1 + 1; omega) _).drew).trans (belowK_b (w := w) (Nat.le_refl _) _ D _ _ (by omega) hK' rfl rfl)⟩
      simp [results, Try.f34, go_sem, hc5]
  case stop =>
    rintro D c' pre W hD ⟨k, hk, rfl⟩ ⟨⟨rfl, ini, last, e1, e2, e3, hcr⟩, hB⟩ hK
    have hlast : ini = List.range ini.length ∧ last = ini.length ∧ ini.length < zs.length := by
      have hl : k = ini.length + 1 := by have := congrArg List.length e1; simpa [bw] using this
      subst hl
      rw [bw_succ] at e1
      obtain ⟨a1, a2⟩ := List.append_inj' e1 rfl
      exact ⟨a1.symm, by simpa using a2.symm, by omega⟩
    obtain ⟨hin, hla, hil⟩ := hlast
    subst hla
    have hfd : zs.reverse.find? (hitAt h b) = some (bwAt zs ini.length).2 := find_first (j := ini.length) (bwAt_rev zs _ hil) e3 (fun i hi y hy => by
      rw [bwAt_rev zs i (by omega)] at hy
      injection hy with hy
      rw [← hy]
      exact e2 i (by rw [hin]; exact List.mem_range.2 hi))
    have hres : resultS h s b = (h.cmd (bwAt zs ini.length).2).value := by
      unfold resultS
      rw [← HZS.out, hfd]; rfl
    clear e1 hin
    gi_wp2
    refine ⟨by simp, .inl ⟨_, _, rfl, run_takeDeferred hK, ?_⟩⟩
    have hc5 := cell_kept hcr (grownBy_putObj' _ D (.deferred none)) (fun r e => by cases e; exact ⟨_, hK, rfl⟩)
    refine ⟨.int .i64 (h.cmd (bwAt zs ini.length).2).value, ?_, by rw [hres], hB.trans (belowK_b (w := w) (Nat.le_refl _) W D _ _ (by omega) hK rfl rfl)⟩
    simp [results, Try.f34, go_sem, hc5]

end Go.Proofs.Ytagekhgfoabgbaa
end

section
/- What an image can name: plain lists. NextSet: the stages behind one more command. -/
set_option linter.unusedSimpArgs false
set_option linter.unusedVariables false
namespace Go.Proofs.Ytagekhgfoabgbaa

theorem chR_med {h : Hist} (hB : 1 ≤ h.blocks ∧ h.blocks ≤ 6) : ∀ r : List Int, r.length ≤ 9 → (∀ n ∈ r, 0 ≤ n ∧ n < h.cmds.length ∧ n ≤ 1000000 ∧ 1 ≤ (h.cmd n).kind ∧ (h.cmd n).kind ≤ 4 ∧ 0 ≤ (h.cmd n).block ∧ (h.cmd n).block < h.blocks) →
    ∀ b, b < 6 → ∀ x ∈ (chR h r).1.getD b [], x = -1 ∨ x ∈ r
  | [], _, _, b, hb, x, hx => by
    have : ∀ b, b < 6 → chFirst.getD b [] = [-1] := by decide
    left
    have hx' : x ∈ chFirst.getD b [] := hx
    rw [this b hb] at hx'
    simpa using hx'
  | n :: r, hl, hn, b, hb, x, hx => by
    simp only [List.length_cons] at hl
    have hn' : ∀ n ∈ r, 0 ≤ n ∧ n < h.cmds.length ∧ n ≤ 1000000 ∧ 1 ≤ (h.cmd n).kind ∧ (h.cmd n).kind ≤ 4 ∧ 0 ≤ (h.cmd n).block ∧ (h.cmd n).block < h.blocks := fun n hn' => hn n (by simp [hn'])
    obtain ⟨h1, h2, _⟩ := chR_all hB r (by omega) hn'
    have ih := chR_med hB r (by omega) hn'
    obtain ⟨_, _, _, _, _, n5, n6⟩ := hn n (by simp)
    have hx' : x ∈ (chO (chR h r).1 (chR h r).2 (h.cmd n) n).getD b [] := hx
    have up : x = -1 ∨ x ∈ r → x = -1 ∨ x ∈ n :: r := fun h => h.imp id (List.mem_cons_of_mem _)
    unfold chO at hx'
    split at hx'
    · have hpos := h1.pos
      rw [getDL_six _ _ _ h1.len (by omega), if_neg (by omega), if_neg (by omega)] at hx'
      exact up (ih b hb x hx')
    · split at hx'
      · exact up (ih b hb x hx')
      · have hl1 := h1.len
        have hpos := h1.pos
        rw [getDL_set_ne _ (by omega)] at hx'
        by_cases e : (h.cmd n).block.toNat = b
        · rw [← e, getDL_set_eq _ (by omega)] at hx'
          rcases List.mem_cons.1 hx' with rfl | hx'
          · exact .inr (by simp)
          · exact up (ih _ (by omega) x hx')
        · rw [getDL_set_ne _ e] at hx'
          exact up (ih b hb x hx')
theorem ImgSet.ok {h : Hist} {os img : List Int} (ho : OrdOk h os) (hi : ImgSet h os img) : ImgOk h img := by
  obtain ⟨c, hc, rfl⟩ := hi
  have hm := ho.mild hc
  refine ⟨by simp; omega, fun n hn => ?_⟩
  have hn' := List.mem_of_mem_take hn
  obtain ⟨s0, s, hs0, hd, hc⟩ := hc
  have hs := ho.mem hs0 hd
  obtain ⟨l1, l2⟩ := mem_at hs ho.all.1.len
  have hmed := chR_med ho.blocks os.reverse (by simpa using ho.len) fun n hn => ho.each n (by simpa using hn)
  have key : ∀ x ∈ s.take 6, x = -1 ∨ (0 ≤ x ∧ x < h.cmds.length) := fun x hx => by
    obtain ⟨i, hi, rfl⟩ := List.mem_iff_getElem.1 hx
    have hi6 : i < 6 := by simp at hi; omega
    have h1 := l2 i (by omega)
    have e : s.getD i 0 = (s.take 6)[i] := by rw [← getD_take6 s hi6, List.getD_eq_getElem?_getD, List.getElem?_eq_getElem hi]; rfl
    rw [e] at h1
    rcases hmed i hi6 _ h1 with h1 | h1
    · exact .inl h1
    · have := ho.each _ (List.mem_reverse.1 h1)
      exact .inr ⟨this.1, this.2.1⟩
  rcases hc with rfl | ⟨p, hp, rfl⟩
  · rcases key n hn' with h1 | h1
    · exact .inl h1
    · exact .inr (.inr h1)
  · rcases List.mem_or_eq_of_mem_set hn' with h1 | h1
    · rcases key n h1 with h1 | h1
      · exact .inl h1
      · exact .inr (.inr h1)
    · exact .inr (.inl h1)

/-- The stage behind a fall that leaves an image. -/
def fallS (h : Hist) (s : Sg) (n : Nat) (img : List Int) : Sg := ⟨s.done ||| 2 ^ n, [], keptS h s img, n, img⟩
/-- The stages behind command n: none if it cannot be the next one. -/
def NextAt (h : Hist) (s : Sg) (n : Nat) (s' : Sg) : Prop :=
  mayS h s n = true ∧
    (((h.cmd n).kind = 9 ∧ ∃ img, ImgSet h s.orders img ∧ s' = fallS h s n img) ∨
     ((h.cmd n).kind ≠ 9 ∧ ¬ ((h.cmd n).kind = 10 ∧ ((h.cmd n).to < 0 ∨ resultS h s (h.cmd n).block.toNat ≠ (h.cmd n).value)) ∧ s' = doS h s n))
def NextSet (h : Hist) (s s' : Sg) : Prop := ∃ n, n < h.cmds.length ∧ NextAt h s n s'

end Go.Proofs.Ytagekhgfoabgbaa
end

section
/- Lists of stages in memory: what next and ends gather. -/
set_option linter.unusedSimpArgs false
set_option linter.unusedVariables false
namespace Go.Proofs.Ytagekhgfoabgbaa
open Go.RowKit Go.Maps

abbrev ptr (g : Nat) : Value := .pointer (some ⟨g, 0, none⟩)
theorem StB.typed {w : World} {g : Nat} {s : Sg} {bf : Option Nat} (h : StB w g s bf) : ∃ cs, w.heap[g]? = some (.cells cs 65 (0, 0)) := by
  obtain ⟨_, _, _, _, _, _, _, _, _, _, _, _, _, h, _⟩ := h
  exact ⟨_, h⟩
/-- A stage stays where blocks only grow, or one block of another type turns. -/
theorem StB.grown {w w' : World} {g : Nat} {s : Sg} {bf : Option Nat} {row : Option Nat} (h : StB w g s bf) (hg : w.grownBy w' row) (hr : ∀ k, row = some k → ∃ cs t, w.heap[k]? = some (.cells cs t (0, 0)) ∧ t ≠ 3 ∧ t ≠ 65) : StB w' g s bf := by
  have key : ∀ (k : Nat) (cs : Array Value) (t : TypeId), w.heap[k]? = some (.cells cs t (0, 0)) → t = 3 ∨ t = 65 → w'.heap[k]? = w.heap[k]? := fun k cs t hk ht => by
    refine hg.block k (Array.getElem?_eq_some_iff.1 hk).1 fun e => ?_
    obtain ⟨cs', t', hk', h1, h2⟩ := hr k e.symm
    rw [hk] at hk'
    injection hk' with hk'
    injection hk' with _ e' _
    rcases ht with rfl | rfl
    · exact h1 e'.symm
    · exact h2 e'.symm
  obtain ⟨cs, hcs⟩ := h.typed
  exact h.kept (key g cs _ hcs (.inr rfl)) fun k cs hk => key k cs _ hk (.inl rfl)
/-- Stages gathered so far: those that D says. -/
def NX (w : World) (b : Int) (A : Option Addr) (n c gs : Nat) (D : Sg → Prop) (N : Nat) (v : Value) (wr : World) : Prop :=
  ∃ L : List (Nat × Sg), Row wr w.heap.size 57 1 v L.length (L.map fun p => ptr p.1) ∧ (∀ p ∈ L, StB wr p.1 p.2 (some gs) ∧ w.heap.size ≤ p.1) ∧ (∀ s', (∃ p ∈ L, p.2 = s') ↔ D s') ∧ L.length ≤ N ∧ Below w.heap.size w wr ∧ Boxed w.heap.size b A n c wr
theorem NX.iff {w wr : World} {b : Int} {A : Option Addr} {n c gs N : Nat} {D D' : Sg → Prop} {v : Value} (h : NX w b A n c gs D N v wr) (hD : ∀ s, D s ↔ D' s) : NX w b A n c gs D' N v wr := by
  obtain ⟨L, h1, h2, h3, h4⟩ := h
  exact ⟨L, h1, h2, fun s => (h3 s).trans (hD s), h4⟩
theorem NX.below {w wr w' : World} {b : Int} {A : Option Addr} {n c gs N : Nat} {D : Sg → Prop} {v : Value} (h : NX w b A n c gs D N v wr) (hlt : w.heap.size < wr.heap.size) (hb : Below wr.heap.size wr w') : NX w b A n c gs D N v w' := by
  obtain ⟨L, h1, h2, h3, h4, h5, h6⟩ := h
  exact ⟨L, row_below h1 hb, fun p hp => ⟨(h2 p hp).1.below hb (Nat.le_refl _), (h2 p hp).2⟩, h3, h4, h5.trans (hb.mono h5.size), by unfold Boxed; rw [hb.block _ hlt]; exact h6⟩
theorem NX.lt {w wr : World} {b : Int} {A : Option Addr} {n c gs N : Nat} {D : Sg → Prop} {v : Value} (h : NX w b A n c gs D N v wr) : w.heap.size < wr.heap.size := by
  obtain ⟨L, h1, h2, h3, h4, h5, h6⟩ := h
  exact (Array.getElem?_eq_some_iff.1 h6).1
/-- One more stage. -/
theorem NX.add {w w3 w4 : World} {b : Int} {A : Option Addr} {n c gs N g' : Nat} {D : Sg → Prop} {s' : Sg} {v v' : Value} {L : List (Nat × Sg)} {Y : Obj} (hrow : Row w3 w.heap.size 57 1 v L.length (L.map fun p => ptr p.1)) (hL : ∀ p ∈ L, StB w3 p.1 p.2 (some gs) ∧ w.heap.size ≤ p.1) (hD : ∀ s', (∃ p ∈ L, p.2 = s') ↔ D s')
    (hN : L.length ≤ N) (hbel : Below w.heap.size w w3) (hbox : Boxed w.heap.size b A n c w3) (hs : StB w3 g' s' (some gs)) (hg' : w.heap.size ≤ g') (hrow4 : Row w4 w.heap.size 57 1 v' (L.length + 1) ((L.map fun p => ptr p.1) ++ [ptr g'])) (hg4 : (w3.alloc Y).grownBy w4 v.ownBlock) :
    NX w b A n c gs (fun x => D x ∨ x = s') (N + 1) v' w4 := by
  have g4 : w3.grownBy w4 v.ownBlock := (World.grownBy_alloc w3 Y _).trans hg4
  have hty : ∀ k, v.ownBlock = some k → ∃ cs t, w3.heap[k]? = some (.cells cs t (0, 0)) ∧ t ≠ 3 ∧ t ≠ 65 := fun k hk => by
    obtain ⟨_, cs, h⟩ := row_typed hrow k hk
    exact ⟨cs, _, h, by decide, by decide⟩
  refine ⟨L ++ [(g', s')], by simpa using hrow4, fun p hp => ?_, fun x => ?_, by simp; omega, ?_, ?_⟩
  · rcases List.mem_append.1 hp with hp | hp
    · exact ⟨(hL p hp).1.grown g4 hty, (hL p hp).2⟩
    · simp at hp; subst hp
      exact ⟨hs.grown g4 hty, hg'⟩
  · show _ ↔ D x ∨ x = s'
    rw [← hD x]
    simp only [List.mem_append, List.mem_singleton]
    constructor
    · rintro ⟨p, hp | rfl, e⟩
      · exact .inl ⟨p, hp, e⟩
      · exact .inr e.symm
    · rintro (⟨p, hp, e⟩ | e)
      · exact ⟨p, .inl hp, e⟩
      · exact ⟨_, .inr rfl, e.symm⟩
  · refine hbel.trans (grown_below' g4 (fun g hg => (row_typed hrow g hg).1) hbel.size)
  · unfold Boxed
    rw [g4.block _ (Array.getElem?_eq_some_iff.1 hbox).1 (fun e => by
      obtain ⟨_, cs, h⟩ := row_typed hrow _ e.symm
      rw [hbox] at h
      injection h with h
      injection h with _ ht _
      exact absurd ht (by decide))]
    exact hbox

end Go.Proofs.Ytagekhgfoabgbaa
end

section
/- Plays of a history: paths of stages, how long they are, what a search through them owes. Plain lists, no program. -/
set_option linter.unusedSimpArgs false
set_option linter.unusedVariables false
namespace Go.Proofs.Ytagekhgfoabgbaa

/-- A stage of which next may be asked. -/
structure StOk (h : Hist) (s : Sg) : Prop where
  done : s.done < 64
  ords : OrdOk h s.orders
  six : s.keeps.length = 6
  mild : ∀ x ∈ s.keeps, -1 ≤ x ∧ x ≤ 99
/-- A history of which ends may be asked. -/
structure HistOk (h : Hist) : Prop where
  blocks : 1 ≤ h.blocks ∧ h.blocks ≤ 2
  few : h.cmds.length ≤ 6
  kinds : ∀ n : Nat, n < h.cmds.length → 0 ≤ (h.cmd n).block ∧ (h.cmd n).block < h.blocks ∧ ((1 ≤ (h.cmd n).kind ∧ (h.cmd n).kind ≤ 4) ∨ (h.cmd n).kind = 9 ∨ (h.cmd n).kind = 10)
  mild : ∀ n : Nat, n < h.cmds.length → -1 ≤ (h.cmd n).value ∧ (h.cmd n).value ≤ 99

/-- The stage before the first command. -/
def sg0 : Sg := ⟨0, [], [0, 0, 0, 0, 0, 0], 0, []⟩
/-- The stages of a play, the last one first. -/
def Path (h : Hist) : List Sg → Prop
  | [] => False
  | [s] => s = sg0
  | s :: t :: r => NextSet h t s ∧ Path h (t :: r)
def fullS (h : Hist) (s : Sg) : Prop := ∀ n : Nat, n < h.cmds.length → 0 ≤ (h.cmd n).to → s.done.testBit n = true
/-- How many of the first n commands were done. -/
def cnt (d : Nat) : Nat → Nat
  | 0 => 0
  | n + 1 => cnt d n + if d.testBit n = true then 1 else 0
theorem cnt_le (d : Nat) : ∀ n, cnt d n ≤ n
  | 0 => Nat.le_refl _
  | n + 1 => by
    have := cnt_le d n
    unfold cnt
    split <;> omega
theorem cnt_lt {d i : Nat} (h : d.testBit i = false) : ∀ {n : Nat}, i < n → cnt d n < n
  | n + 1, hi => by
    unfold cnt
    by_cases e : i = n
    · subst e
      have := cnt_le d i
      rw [h]; simp; omega
    · have := cnt_lt h (n := n) (by omega)
      split <;> omega
theorem or_bit (d n i : Nat) : (d ||| 2 ^ n).testBit i = (d.testBit i || decide (n = i)) := by
  rw [Nat.testBit_or, Nat.testBit_two_pow]
theorem cnt_or_far (d k : Nat) : ∀ n, n ≤ k → cnt (d ||| 2 ^ k) n = cnt d n
  | 0, _ => rfl
  | n + 1, h => by
    unfold cnt
    rw [cnt_or_far d k n (by omega), or_bit, show decide (k = n) = false by simp; omega, Bool.or_false]
theorem cnt_or (d k : Nat) (h : d.testBit k = false) : ∀ n, k < n → cnt (d ||| 2 ^ k) n = cnt d n + 1
  | n + 1, hk => by
    unfold cnt
    by_cases e : k = n
    · subst e
      rw [cnt_or_far d k k (Nat.le_refl _), or_bit, h]
      simp
    · rw [cnt_or d k h n (by omega), or_bit, show decide (k = n) = false by simp; omega, Bool.or_false]
      omega
theorem cnt_zero : ∀ n, cnt 0 n = 0
  | 0 => rfl
  | n + 1 => by unfold cnt; rw [cnt_zero n]; simp

theorem mayS_bit {h : Hist} {s : Sg} {n : Nat} (hm : mayS h s n = true) : s.done.testBit n = false := by
  unfold mayS at hm
  rw [Bool.and_eq_true] at hm
  simpa using hm.1
/-- What one more command does. -/
theorem NextSet.done {h : Hist} {s s' : Sg} (hn : NextSet h s s') : ∃ n, n < h.cmds.length ∧ s.done.testBit n = false ∧ s'.done = s.done ||| 2 ^ n ∧ s'.cmd = n := by
  obtain ⟨n, hl, hm, hn⟩ := hn
  refine ⟨n, hl, mayS_bit hm, ?_⟩
  rcases hn with ⟨_, img, _, rfl⟩ | ⟨_, _, rfl⟩
  · exact ⟨rfl, rfl⟩
  · exact ⟨rfl, rfl⟩
theorem NextSet.cntS {h : Hist} {s s' : Sg} (hn : NextSet h s s') : cnt s'.done h.cmds.length = cnt s.done h.cmds.length + 1 ∧ cnt s.done h.cmds.length < h.cmds.length := by
  obtain ⟨n, hl, hb, hd, _⟩ := hn.done
  rw [hd]
  exact ⟨cnt_or _ _ hb _ hl, cnt_lt hb hl⟩
theorem keptTo_mild {h : Hist} (hh : HistOk h) {s : Sg} (hs : ∀ x ∈ s.keeps, -1 ≤ x ∧ x ≤ 99) {img : List Int} (hi : ImgOk h img) : ∀ i, i ≤ img.length → ∀ x ∈ keptTo h s img i, -1 ≤ x ∧ x ≤ 99
  | 0, _ => hs
  | i + 1, hl => fun x hx => by
    have ih := keptTo_mild hh hs hi i (by omega)
    have hm := hi.2 (img.getD i 0) (by rw [List.getD_eq_getElem?_getD, List.getElem?_eq_getElem (by omega)]; exact List.getElem_mem _)
    unfold keptTo at hx
    split at hx
    · exact ih x hx
    · split at hx
      · rcases List.mem_or_eq_of_mem_set hx with hx | rfl
        · exact ih x hx
        · omega
      · rcases List.mem_or_eq_of_mem_set hx with hx | rfl
        · exact ih x hx
        · have h0 : 0 ≤ img.getD i 0 ∧ img.getD i 0 < h.cmds.length := by omega
          have := hh.mild (img.getD i 0).toNat (by omega)
          rwa [show (((img.getD i 0).toNat : Nat) : Int) = img.getD i 0 by omega] at this
theorem NextSet.ok {h : Hist} (hh : HistOk h) {s s' : Sg} (hs : StOk h s) (hlen : s.orders.length ≤ cnt s.done h.cmds.length) (hn : NextSet h s s') : StOk h s' ∧ s'.orders.length ≤ cnt s'.done h.cmds.length := by
  obtain ⟨hc, hlt⟩ := hn.cntS
  rw [hc]
  have hf := hh.few
  obtain ⟨n, hl, hm, hn⟩ := hn
  have hd : (s.done ||| 2 ^ n) < 64 := Nat.or_lt_two_pow (n := 6) hs.done (Nat.pow_lt_pow_right (by omega) (by omega))
  rcases hn with ⟨_, img, hi, rfl⟩ | ⟨h9, h10, rfl⟩
  · exact ⟨⟨hd, ⟨Nat.zero_le _, hs.ords.blocks, fun n hn => by simp [fallS] at hn⟩, by show (keptTo _ _ _ _).length = 6; rw [keptTo_len, hs.six], keptTo_mild hh hs.mild (ImgSet.ok hs.ords hi) _ (Nat.le_refl _)⟩, Nat.zero_le _⟩
  · obtain ⟨hb0, hb1, hk⟩ := hh.kinds n hl
    refine ⟨⟨hd, ⟨?_, hs.ords.blocks, ?_⟩, hs.six, hs.mild⟩, ?_⟩
    · show (if _ then _ else _ : List Int).length ≤ 9
      split
      · simp; omega
      · omega
    · intro x hx
      have hx : x ∈ (if isOrd (h.cmd n) = true then s.orders ++ [(n : Int)] else s.orders) := hx
      split at hx
      · rename_i ho
        rcases List.mem_append.1 hx with hx | hx
        · exact hs.ords.each x hx
        · simp at hx
          subst hx
          have h10' : (h.cmd n).kind ≠ 10 := fun e => by unfold isOrd at ho; rw [e] at ho; simp at ho
          exact ⟨by omega, by omega, by omega, by omega, by omega, hb0, hb1⟩
      · exact hs.ords.each x hx
    · show (if _ then _ else _ : List Int).length ≤ _
      split
      · simp; omega
      · omega
theorem sg0_ok {h : Hist} (hh : HistOk h) : StOk h sg0 := ⟨by decide, ⟨by decide, ⟨hh.blocks.1, by have := hh.blocks.2; omega⟩, fun n hn => by simp [sg0] at hn⟩, rfl, fun x hx => by simp [sg0] at hx; omega⟩
theorem Path.ok {h : Hist} (hh : HistOk h) : ∀ {p : List Sg}, Path h p → ∃ s r, p = s :: r ∧ StOk h s ∧ s.orders.length ≤ cnt s.done h.cmds.length ∧ cnt s.done h.cmds.length = r.length
  | [], hp => hp.elim
  | [s], hp => by
    obtain rfl : s = sg0 := hp
    exact ⟨_, _, rfl, sg0_ok hh, Nat.zero_le _, cnt_zero _⟩
  | s :: t :: r, ⟨h1, h2⟩ => by
    obtain ⟨s', r', e, a, b, c⟩ := Path.ok hh h2
    injection e with e1 e2
    subst e1; subst e2
    obtain ⟨x, y⟩ := h1.ok hh a b
    exact ⟨_, _, rfl, x, y, by rw [h1.cntS.1, c]; simp⟩

/-- How much work a stage can bring, with so many commands left. -/
def wgt : Nat → Nat
  | 0 => 1
  | r + 1 => 1 + 6 * ((7 - r) * (7 - r)) * wgt r
theorem wgt_pos : ∀ r, 1 ≤ wgt r
  | 0 => Nat.le_refl _
  | r + 1 => by unfold wgt; omega
/-- The head of a path. -/
def hd (p : List Sg) : Sg := p.headD sg0
/-- The weight of a path. -/
def wp (p : List Sg) : Nat := wgt (7 - p.length)
def wps (T : List (Nat × List Sg)) : Nat := (T.map fun p => wp p.2).sum
theorem wps_cons (p : Nat × List Sg) (T : List (Nat × List Sg)) : wps (p :: T) = wp p.2 + wps T := by simp [wps]
theorem wps_append (T U : List (Nat × List Sg)) : wps (T ++ U) = wps T + wps U := by simp [wps]
theorem wp_pos (p : List Sg) : 1 ≤ wp p := wgt_pos _
theorem len_wps : ∀ T, T.length ≤ wps T
  | [] => Nat.zero_le _
  | p :: T => by rw [wps_cons]; have := wp_pos p.2; have := len_wps T; simp; omega

/-- What the search knows: T are the stages that it met, the first k are behind it, the next one has c of its followers behind it. -/
structure EI (h : Hist) (T : List (Nat × List Sg)) (k : Nat) (K : List (List Int)) : Prop where
  paths : ∀ p ∈ T, Path h p.2
  keys : K = T.map fun p => keyL (hd p.2)
  nodup : K.Nodup
  first : keyL sg0 ∈ K
  small : k + wps (T.drop k) ≤ wgt 6
  closed : ∀ i p, i < k → T[i]? = some p → ∀ s', NextSet h (hd p.2) s' → keyL s' ∈ K
theorem EI.start (h : Hist) (g : Nat) : EI h [(g, [sg0])] 0 [keyL sg0] :=
  ⟨fun p hp => by simp at hp; subst hp; rfl, rfl, by simp, by simp, by simp [wps, wp], fun i p hi => by omega⟩
/-- .. in the midst of a stage's followers: seen are those that were met. -/
structure EM (h : Hist) (T : List (Nat × List Sg)) (k : Nat) (K : List (List Int)) (s : Sg) (d : Nat) (L : List Sg) (j : Nat) : Prop where
  paths : ∀ p ∈ T, Path h p.2
  keys : K = T.map fun p => keyL (hd p.2)
  nodup : K.Nodup
  first : keyL sg0 ∈ K
  lt : k < T.length
  small : k + 1 + wps (T.drop (k + 1)) + (L.length - j) * wgt (6 - d) ≤ wgt 6
  closed : ∀ i p, i < k → T[i]? = some p → ∀ s', NextSet h (hd p.2) s' → keyL s' ∈ K
  here : ∃ p, T[k]? = some p ∧ hd p.2 = s ∧ p.2.length = d
  met : ∀ i s', i < j → L[i]? = some s' → keyL s' ∈ K
theorem EI.open {h : Hist} (hh : HistOk h) {T : List (Nat × List Sg)} {k : Nat} {K : List (List Int)} (hE : EI h T k K) (p : Nat × List Sg) (hp : T[k]? = some p) (L : List Sg) (hL : ∀ s', s' ∈ L → NextSet h (hd p.2) s') (hN : L.length ≤ 6 * ((p.2.length + 1) * (p.2.length + 1))) : EM h T k K (hd p.2) p.2.length L 0 := by
  have hlt : k < T.length := (List.getElem?_eq_some_iff.1 hp).1
  refine ⟨hE.paths, hE.keys, hE.nodup, hE.first, hlt, ?_, hE.closed, ⟨p, hp, rfl, rfl⟩, fun i s' hi => by omega⟩
  have h1 := hE.small
  rw [List.drop_eq_getElem_cons hlt, wps_cons] at h1
  have e : T[k] = p := by rw [List.getElem?_eq_getElem hlt] at hp; injection hp
  rw [e] at h1
  have hpp := hE.paths p (List.mem_of_getElem? hp)
  obtain ⟨s, r, he, hs, ho, hc⟩ := hpp.ok hh
  have hlen : p.2.length = r.length + 1 := by rw [he]; rfl
  have hhd : hd p.2 = s := by rw [he]; rfl
  have hcl := cnt_le s.done h.cmds.length
  have hf := hh.few
  rw [Nat.sub_zero]
  by_cases h0 : r.length = h.cmds.length
  · have : L = [] := by
      cases L with
      | nil => rfl
      | cons x l =>
        have := (hL x (by simp)).cntS.2
        rw [hhd] at this
        omega
    subst this
    have := wp_pos p.2
    simp
    omega
  · have hw : wp p.2 = 1 + 6 * ((p.2.length + 1) * (p.2.length + 1)) * wgt (6 - p.2.length) := by
      unfold wp
      rw [show 7 - p.2.length = (6 - p.2.length) + 1 by omega]
      show 1 + 6 * ((7 - (6 - p.2.length)) * (7 - (6 - p.2.length))) * _ = _
      rw [show 7 - (6 - p.2.length) = p.2.length + 1 by omega]
    have := Nat.mul_le_mul_right (wgt (6 - p.2.length)) hN
    omega
theorem EM.old {h : Hist} {T : List (Nat × List Sg)} {k : Nat} {K : List (List Int)} {s : Sg} {d : Nat} {L : List Sg} {j : Nat} (hE : EM h T k K s d L j) {s' : Sg} (hj : L[j]? = some s') (hin : keyL s' ∈ K) : EM h T k K s d L (j + 1) :=
  { hE with
    small := by
      have := hE.small
      have hm := Nat.mul_le_mul_right (wgt (6 - d)) (Nat.sub_le_sub_left (Nat.le_succ j) L.length)
      have : (L.length - (j + 1)) * wgt (6 - d) ≤ (L.length - j) * wgt (6 - d) := hm
      omega
    met := fun i s'' hi hs => by
      by_cases e : i < j
      · exact hE.met i s'' e hs
      · obtain rfl : i = j := by omega
        rw [hj] at hs; injection hs with hs; subst hs; exact hin }
theorem EM.new {h : Hist} {T : List (Nat × List Sg)} {k : Nat} {K : List (List Int)} {s : Sg} {d : Nat} {L : List Sg} {j : Nat} (hE : EM h T k K s d L j) {s' : Sg} (hj : L[j]? = some s') (hnot : keyL s' ∉ K) (hn : NextSet h s s') (g : Nat) (p : List Sg) (hp : ∃ q, T[k]? = some q ∧ p = s' :: q.2) :
    EM h (T ++ [(g, p)]) k (K ++ [keyL s']) s d L (j + 1) := by
  obtain ⟨q, hq, rfl⟩ := hp
  obtain ⟨q', hq', hh, hd'⟩ := hE.here
  rw [hq] at hq'; injection hq' with e; subst e
  have hqp := hE.paths q (List.mem_of_getElem? hq)
  have hpp : Path h (s' :: q.2) := by
    cases hq2 : q.2 with
    | nil => rw [hq2] at hqp; exact hqp.elim
    | cons t r =>
      rw [hq2] at hqp hh
      have : t = s := hh
      subst this
      exact ⟨hn, hqp⟩
  have hjl : j < L.length := (List.getElem?_eq_some_iff.1 hj).1
  refine ⟨fun p hp => ?_, ?_, ?_, List.mem_append_left _ hE.first, by have := hE.lt; simp; omega, ?_, fun i p hi hp => ?_, ⟨q, ?_, hh, hd'⟩, fun i s'' hi hs => ?_⟩
  · rcases List.mem_append.1 hp with hp | hp
    · exact hE.paths p hp
    · simp at hp; subst hp; exact hpp
  · rw [List.map_append, ← hE.keys]; rfl
  · exact nodup_snoc hE.nodup hnot
  · have h1 := hE.small
    have hlt := hE.lt
    rw [List.drop_append_of_le_length (by omega), wps_append]
    have hw : wps [(g, s' :: q.2)] = wgt (6 - d) := by
      rw [wps_cons]
      show wgt (7 - (s' :: q.2).length) + 0 = _
      rw [List.length_cons, hd', Nat.add_zero]
      congr 1
      omega
    rw [hw]
    have h3 : (L.length - j) * wgt (6 - d) = (L.length - (j + 1)) * wgt (6 - d) + wgt (6 - d) := by
      rw [show L.length - j = (L.length - (j + 1)) + 1 by omega, Nat.succ_mul]
    omega
  · have hlt := hE.lt
    rw [List.getElem?_append_left (by omega)] at hp
    intro s'' hs''
    exact List.mem_append_left _ (hE.closed i p hi hp s'' hs'')
  · rw [List.getElem?_append_left hE.lt]; exact hq
  · by_cases e : i < j
    · exact List.mem_append_left _ (hE.met i s'' e hs)
    · obtain rfl : i = j := by omega
      rw [hj] at hs; injection hs with hs; subst hs
      simp
theorem EM.close {h : Hist} {T : List (Nat × List Sg)} {k : Nat} {K : List (List Int)} {s : Sg} {d : Nat} {L : List Sg} (hE : EM h T k K s d L L.length) (hL : ∀ s', NextSet h s s' → s' ∈ L) : EI h T (k + 1) K := by
  refine ⟨hE.paths, hE.keys, hE.nodup, hE.first, ?_, fun i p hi hp s' hs => ?_⟩
  · have := hE.small
    rw [Nat.sub_self, Nat.zero_mul] at this
    omega
  · by_cases e : i < k
    · exact hE.closed i p e hp s' hs
    · obtain rfl : i = k := by omega
      obtain ⟨q, hq, hh, _⟩ := hE.here
      rw [hp] at hq; injection hq with hq; subst hq
      rw [hh] at hs
      obtain ⟨x, hx, e⟩ := List.mem_iff_getElem.1 (hL s' hs)
      exact hE.met x s' hx (by rw [List.getElem?_eq_getElem hx, e])

/-- Stages that go on alike. -/
structure Alike (s t : Sg) : Prop where
  done : s.done = t.done
  orders : s.orders = t.orders
  keeps : s.keeps = t.keeps
theorem Alike.refl (s : Sg) : Alike s s := ⟨rfl, rfl, rfl⟩
theorem Alike.symm {s t : Sg} (h : Alike s t) : Alike t s := ⟨h.done.symm, h.orders.symm, h.keeps.symm⟩
theorem Alike.trans {s t u : Sg} (h : Alike s t) (k : Alike t u) : Alike s u := ⟨h.done.trans k.done, h.orders.trans k.orders, h.keeps.trans k.keeps⟩
theorem keyL_alike {s t : Sg} (hs : s.orders.length ≤ 10) (ht : t.orders.length ≤ 10) (hk : s.keeps.length = t.keeps.length) (h : keyL s = keyL t) : Alike s t := by
  unfold keyL at h
  simp only [List.cons_append, List.nil_append, List.cons.injEq] at h
  obtain ⟨h1, h2, h3⟩ := h
  have hl : s.orders.length = t.orders.length := by omega
  rw [hl] at h3
  obtain ⟨a, b⟩ := List.append_inj_left' h3 hk |> fun a => (⟨a, List.append_inj_right' h3 hk⟩ : _ ∧ _)
  exact ⟨by omega, List.append_inj_left a hl, b⟩
theorem Alike.mayE {s t : Sg} (a : Alike s t) (h : Hist) (n : Nat) : mayS h s n = mayS h t n := by
  unfold mayS badAt
  rw [a.done]
theorem Alike.result {s t : Sg} (a : Alike s t) (h : Hist) (b : Nat) : resultS h s b = resultS h t b := by
  unfold resultS
  rw [a.orders, a.keeps]
theorem keptTo_alike {s t : Sg} (a : Alike s t) (h : Hist) (img : List Int) : ∀ i, keptTo h s img i = keptTo h t img i
  | 0 => a.keeps
  | i + 1 => by unfold keptTo; rw [keptTo_alike a h img i]
theorem Alike.next {h : Hist} {s t s' : Sg} (a : Alike s t) (hn : NextSet h s s') : ∃ t', NextSet h t t' ∧ Alike s' t' ∧ t'.cmd = s'.cmd ∧ t'.image = s'.image := by
  obtain ⟨n, hl, hm, hn⟩ := hn
  rcases hn with ⟨h9, img, hi, rfl⟩ | ⟨h9, h10, rfl⟩
  · exact ⟨fallS h t n img, ⟨n, hl, by rw [← a.mayE]; exact hm, .inl ⟨h9, img, by rw [← a.orders]; exact hi, rfl⟩⟩, ⟨by simp [fallS, a.done], rfl, keptTo_alike a h img _⟩, rfl, rfl⟩
  · exact ⟨doS h t n, ⟨n, hl, by rw [← a.mayE]; exact hm, .inr ⟨h9, by rw [← a.result]; exact h10, rfl⟩⟩, ⟨by simp [doS, a.done], by simp [doS, a.orders], a.keeps⟩, rfl, rfl⟩

/-- Stages that plays lead to. -/
inductive Reach (h : Hist) : Sg → Prop
  | init : Reach h sg0
  | step {s s' : Sg} : Reach h s → NextSet h s s' → Reach h s'
theorem Path.reach {h : Hist} : ∀ {p : List Sg}, Path h p → Reach h (hd p)
  | [], hp => hp.elim
  | [s], hp => by
    obtain rfl : s = sg0 := hp
    exact .init
  | s :: t :: r, ⟨h1, h2⟩ => .step (Path.reach h2) h1
theorem Reach.ok {h : Hist} (hh : HistOk h) {s : Sg} (hr : Reach h s) : StOk h s ∧ s.orders.length ≤ cnt s.done h.cmds.length := by
  induction hr with
  | init => exact ⟨sg0_ok hh, Nat.zero_le _⟩
  | step _ hn ih => exact hn.ok hh ih.1 ih.2
/-- When the search is over, it has met all. -/
theorem EI.all {h : Hist} (hh : HistOk h) {T : List (Nat × List Sg)} {K : List (List Int)} (hE : EI h T T.length K) {s : Sg} (hr : Reach h s) : ∃ p ∈ T, Alike s (hd p.2) := by
  have back : ∀ {s : Sg}, Reach h s → keyL s ∈ K → ∃ (i : Nat) (p : Nat × List Sg), T[i]? = some p ∧ Alike s (hd p.2) := fun {s} hr hk => by
    rw [hE.keys] at hk
    obtain ⟨p, hp, e⟩ := List.mem_map.1 hk
    obtain ⟨i, hi, ei⟩ := List.mem_iff_getElem.1 hp
    obtain ⟨s1, r1, e1, a1, b1, c1⟩ := (hE.paths p hp).ok hh
    have hs1 : hd p.2 = s1 := by rw [e1]; rfl
    rw [hs1] at e
    have := (hr.ok hh).1
    refine ⟨i, p, by rw [List.getElem?_eq_getElem hi, ei], ?_⟩
    rw [hs1]
    exact keyL_alike (by have := this.ords.len; omega) (by have := a1.ords.len; omega) (by rw [this.six, a1.six]) e.symm
  have key : ∀ {s : Sg}, Reach h s → keyL s ∈ K := fun {s} hr => by
    induction hr with
    | init => exact hE.first
    | step hr hn ih =>
      obtain ⟨i, p, hp, a⟩ := back hr ih
      obtain ⟨t', ht, at', _⟩ := a.next hn
      have := hE.closed i p (List.getElem?_eq_some_iff.1 hp).1 hp t' ht
      unfold keyL at this ⊢
      rw [at'.done, at'.orders, at'.keeps]
      exact this
  obtain ⟨i, p, hp, a⟩ := back hr (key hr)
  exact ⟨p, List.mem_of_getElem? hp, a⟩

end Go.Proofs.Ytagekhgfoabgbaa
end
