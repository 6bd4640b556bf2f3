/- The walks over the checks of a history. -/
import Derived.Test.YtagekhgfoabgbaaK07

section
/- The reference's Check: what is a valid history. -/
set_option linter.unusedSimpArgs false
set_option linter.unusedVariables false
namespace Go.Proofs.Ytagekhgfoabgbaa
open Go.RowKit Go.Maps

def wi (n lo hi : Int) : Bool := decide (lo ≤ n ∧ n ≤ hi)
theorem wi_iff (n lo hi : Int) : wi n lo hi = true ↔ lo ≤ n ∧ n ≤ hi := by unfold wi; simp
theorem refWithin_any (n lo hi : Int) (w : World) :
    Calls Try.prog 29 #[.int .i64 n, .int .i64 lo, .int .i64 hi] w fun e w' => e = .returned (.bool (wi n lo hi)) ∧ w = w' := by
  by_cases h1 : lo ≤ n
  · have hE : wi n lo hi = decide (n ≤ hi) := by unfold wi; simp [h1]
    rw [hE]
    clear hE
    go_enter Try.func29, Try.ntmps29
    go_wp2
    go_ret
    exact ⟨rfl, rfl⟩
  · have hE : wi n lo hi = false := by unfold wi; simp [h1]
    rw [hE]
    clear hE
    go_enter Try.func29, Try.ntmps29
    go_wp2
    go_ret
    exact ⟨rfl, rfl⟩
theorem within_any (n lo hi : Int) (w : World) :
    Calls Try.prog 28 #[.int .i64 n, .int .i64 lo, .int .i64 hi] w fun e w' => e = .returned (.bool (wi n lo hi)) ∧ w = w' := by
  by_cases h1 : lo ≤ n
  · have hE : wi n lo hi = decide (n ≤ hi) := by unfold wi; simp [h1]
    rw [hE]
    clear hE
    go_enter Try.func28, Try.ntmps28
    go_wp2
    go_ret
    exact ⟨rfl, rfl⟩
  · have hE : wi n lo hi = false := by unfold wi; simp [h1]
    rw [hE]
    clear hE
    go_enter Try.func28, Try.ntmps28
    go_wp2
    go_ret
    exact ⟨rfl, rfl⟩
theorem refOpen_any (k b v f t : Int) (w : World) :
    Calls Try.prog 31 #[.agg #[.int .i64 k, .int .i64 b, .int .i64 v, .int .i64 f, .int .i64 t]] w fun e w' => e = .returned (.bool (t == -1)) ∧ w' = w.alloc (.cells #[.int .i64 k, .int .i64 b, .int .i64 v, .int .i64 f, .int .i64 t] 36) := by
  go_enter Try.func31, Try.ntmps31
  go_wp2
  go_ret
  exact ⟨rfl, rfl⟩
/-- What the last test of isCommand says. -/
def lastB (c : Cmd) : Bool := wi c.frm 0 999 && (if c.kind == 9 then c.to == c.frm else (c.to == -1 || (decide (c.frm < c.to) && decide (c.to ≤ 999))))
def isCmdB (b : Int) (c : Cmd) : Bool :=
  if c.kind == 1 || c.kind == 2 then wi c.block 0 (b - 1) && wi c.value 0 99 && lastB c
  else if c.kind == 10 then wi c.block 0 (b - 1) && wi c.value (-1) 99 && !(c.to == -1 && c.value != 0) && lastB c
  else if c.kind == 3 || c.kind == 4 || c.kind == 9 then c.block == 0 && c.value == 0 && lastB c
  else false
set_option maxHeartbeats 4000000 in
theorem isCmd_any (b : Int) (c : Cmd) (w : World) (hb : 1 ≤ b ∧ b ≤ 6) :
    Calls Try.prog 30 #[gI b, cV c] w fun e w' => e = .returned (.bool (isCmdB b c)) ∧ Below w.heap.size w w' := by
  obtain ⟨hb1, hb2⟩ := hb
  obtain ⟨k, bl, v, f, t⟩ := c
  go_enter Try.func30, Try.ntmps30
  go_wp2_with (first
    | (go_at_call 29; refine (refWithin_any _ _ _ _).mono ?_; rintro e w' ⟨rfl, rfl⟩)
    | (go_at_call 31; refine (refOpen_any _ _ _ _ _ _).mono ?_; rintro e w9 ⟨rfl, rfl⟩))
  all_goals
    go_ret
    refine ⟨ret_bool ?_, ?_⟩
    · clear hb1 hb2
      simp only [isCmdB, lastB]
      simp_all
      all_goals first
        | (intros; omega)
        | (rw [show (t == -1) = false by simp; omega, show decide (f < t) = false by simp; omega]; simp)
    · first
        | exact below_alloc0 _ _
        | exact (below_alloc0 w _).alloc (by simp) _
        | exact ((below_alloc0 w _).alloc (by simp) _).alloc (by simp; omega) _

/-- Commands i and k do not go together. -/
def badP (c o : Cmd) (i k : Nat) : Prop := c.frm = o.frm ∨ c.frm = o.to ∨ (c.to ≠ -1 ∧ c.to = o.to) ∨ (k < i ∧ ¬ o.frm < c.frm) ∨ (¬ k < i ∧ o.frm < c.frm) ∨ (c.kind = 9 ∧ o.frm < c.frm ∧ c.frm < o.to)
instance (c o : Cmd) (i k : Nat) : Decidable (badP c o i k) := by unfold badP; infer_instance
/-- Command i is right, and goes together with the first m others. -/
def okIK (h : Hist) (i m : Nat) : Prop := ∀ k, k < m → k ≠ i → ¬ badP (h.cmd i) (h.cmd k) i k
def okI (h : Hist) (m : Nat) : Prop := ∀ i, i < m → isCmdB h.blocks (h.cmd i) = true ∧ okIK h i h.cmds.length
instance (h : Hist) (i m : Nat) : Decidable (okIK h i m) := by unfold okIK; infer_instance
instance (h : Hist) (m : Nat) : Decidable (okI h m) := by unfold okI; infer_instance
def checkP (h : Hist) : Prop := 1 ≤ h.blocks ∧ h.blocks ≤ 6 ∧ h.cmds.length ≤ 10 ∧ okI h h.cmds.length
instance (h : Hist) : Decidable (checkP h) := by unfold checkP; infer_instance
def checkE (h : Hist) : Int := if checkP h then 0 else 170
def CheckPost (h : Hist) (w : World) (e : Ending) (w' : World) : Prop := e = .returned (.int .i64 (checkE h)) ∧ Below w.heap.size w w'
/-- The history's box, and what is kept through a loop. -/
def CW (h : Hist) (w : World) (A : Option Addr) (n c : Nat) (wr : World) : Prop := Below w.heap.size w wr ∧ Boxed w.heap.size h.blocks A n c wr
theorem CW.alloc {h : Hist} {w wr : World} {A : Option Addr} {n c : Nat} (hw : CW h w A n c wr) (o : Obj) : CW h w A n c (wr.alloc o) :=
  ⟨hw.1.trans ((below_alloc0 wr o).mono hw.1.size), by unfold Boxed; rw [Below.heap_alloc _ _ _ (Array.getElem?_eq_some_iff.1 hw.2).1]; exact hw.2⟩
theorem CW.next {h : Hist} {w wr w' : World} {A : Option Addr} {n c : Nat} (hw : CW h w A n c wr) (hb : Below wr.heap.size wr w') : CW h w A n c w' :=
  ⟨hw.1.trans (hb.mono hw.1.size), by unfold Boxed; rw [hb.block _ (Array.getElem?_eq_some_iff.1 hw.2).1]; exact hw.2⟩

end Go.Proofs.Ytagekhgfoabgbaa
end

section
/- The reference's Check, walked. -/
set_option linter.unusedSimpArgs false
set_option linter.unusedVariables false
namespace Go.Proofs.Ytagekhgfoabgbaa
open Go.RowKit Go.Maps

/-- The inner loop: k of the others are looked at. -/
def RK (h : Hist) (w : World) (A : Option Addr) (n c j gb : Nat) (o : Cmd) (i : Value) (wr : World) : Prop :=
  ∃ k : Nat, k ≤ n ∧ i = .int .i64 k ∧ okIK h j k ∧ CW h w A n c wr ∧ wr.heap[gb]? = some (.cells #[gI o.kind, gI o.block, gI o.value, gI o.frm, gI o.to] 36 (0, 0))
set_option maxRecDepth 100000 in
set_option maxHeartbeats 8000000 in
theorem refCheck_any (w : World) (h : Hist) (A : Option Addr) (n c : Nat) (hC : CmdsAt w A n h.cmds) (hnc : n ≤ c) :
    Calls Try.prog 12 #[hV h.blocks A n c] w (CheckPost h w) := by
  have hlen := hC.1
  obtain ⟨wb, hwb⟩ : ∃ b, b = wi h.blocks 1 6 := ⟨_, rfl⟩
  have hwit := fun W => refWithin_any h.blocks 1 6 W
  rw [← hwb] at hwit
  have HWB := Lib.hid hwb
  have HLEN := Lib.hid hlen
  have hCW0 : CW h w A n c (w.alloc (.cells #[gI h.blocks, .slice A n c] 24)) := ⟨below_alloc0 _ _, heap_alloc_new _ _⟩
  clear hwb hlen
  cases wb with
  | false =>
    have HE := Lib.hid (show checkE h = 170 from if_neg (fun hc => by have h2 := HWB.out.symm; have := (wi_iff _ _ _).2 ⟨hc.1, hc.2.1⟩; rw [this] at h2; cases h2))
    go_enter Try.func12, Try.ntmps12
    go_wp2_with (go_at_call 29; refine (hwit _).mono ?_; rintro e w' ⟨rfl, rfl⟩)
    go_ret
    exact ⟨by rw [HE.out]; rfl, hCW0.1⟩
  | true =>
    by_cases h10 : n ≤ 10
    · have h10b : ¬ (10 : Int) < (n : Int) := by omega
      have hb16 : 1 ≤ h.blocks ∧ h.blocks ≤ 6 := (wi_iff _ _ _).1 HWB.out.symm
      go_enter Try.func12, Try.ntmps12
      go_wp2_with (go_at_call 29; refine (hwit _).mono ?_; rintro e w' ⟨rfl, rfl⟩)
      clear hwit
      go_loopw [3] (fun i wr => ∃ j : Nat, j ≤ n ∧ i = .int .i64 j ∧ okI h j ∧ CW h w A n c wr) (fun i _ => n - (intOf i).toNat)
      case atStart => exact ⟨0, Nat.zero_le _, rfl, fun i hi => by omega, hCW0⟩
      case round =>
        clear hCW0
        obtain ⟨j, hj, rfl, hok, hW⟩ := hrel
        have hbox := hW.2
        unfold Boxed at hbox
        have x0 : wr.cell? ⟨w.heap.size, 0, none⟩ = some (gI h.blocks) := by rw [cell_of_row _ _ 0 _ _ _ hbox]; rfl
        have x1 : wr.cell? ⟨w.heap.size, 1, none⟩ = some (.slice A n c) := by rw [cell_of_row _ _ 1 _ _ _ hbox]; rfl
        have HW := Lib.hid hW
        have HOK := Lib.hid hok
        clear hW hok hbox
        by_cases hlt : j < n
        · obtain ⟨gA, oA, hAe, hgA, hc0, hc1, hc2, hc3, hc4⟩ := hC.get hlt
          subst hAe
          obtain ⟨o, ho⟩ : ∃ o, o = h.cmd j := ⟨_, rfl⟩
          rw [← ho] at hc0 hc1 hc2 hc3 hc4
          have eb : ∀ x, wr.cell? ⟨gA, x, none⟩ = w.cell? ⟨gA, x, none⟩ := fun x => HW.out.1.cell (p := ⟨gA, x, none⟩) hgA
          have hd0 := (eb _).trans hc0
          have hd1 := (eb _).trans hc1
          have hd2 := (eb _).trans hc2
          have hd3 := (eb _).trans hc3
          have hd4 := (eb _).trans hc4
          have hltz : (j : Int) < (n : Int) := by omega
          have hjz : (0 : Int) ≤ (j : Int) := by omega
          obtain ⟨ib, hib⟩ : ∃ b, b = isCmdB h.blocks o := ⟨_, rfl⟩
          have hcmd := fun W => isCmd_any h.blocks o W hb16
          rw [← hib] at hcmd
          have HIB := Lib.hid (show ib = isCmdB h.blocks o ∧ o = h.cmd j from ⟨hib, ho⟩)
          have hw1 : w.heap.size < wr.heap.size := (Array.getElem?_eq_some_iff.1 HW.out.2).1
          clear hib ho eb hc0 hc1 hc2 hc3 hc4
          cases ib with
          | false =>
            have HE := Lib.hid (show checkE h = 170 from if_neg (fun hc => by have := (hc.2.2.2 j (by rw [HLEN.out]; exact hlt)).1; rw [← HIB.out.2, ← HIB.out.1] at this; cases this))
            go_wp2_with (go_at_call 30; refine (hcmd _).mono ?_; rintro e w9 ⟨rfl, hb9⟩)
            go_ret
            exact ⟨by rw [HE.out]; rfl, ((HW.out.alloc _).next hb9).1⟩
          | true =>
            go_wp2_with (go_at_call 30; refine (hcmd _).mono ?_; rintro e w9 ⟨rfl, hb9⟩)
            have HWN := Lib.hid ((HW.out.alloc _).next hb9)
            have hcb := (hb9.block wr.heap.size (by simp)).trans (heap_alloc_new _ _)
            have HCB := Lib.hid hcb
            obtain ⟨gb, hgb⟩ : ∃ gb, gb = wr.heap.size := ⟨_, rfl⟩
            have hgw : w.heap.size < gb := by rw [hgb]; exact (Array.getElem?_eq_some_iff.1 HW.out.2).1
            have hcb2 : w9.heap[gb]? = some (.cells #[gI o.kind, gI o.block, gI o.value, gI o.frm, gI o.to] 36 (0, 0)) := by rw [hgb]; exact hcb
            rw [← hgb]
            have HX := Lib.hid (show CW h w (some ⟨gA, oA, none⟩) n c w9 ∧ w9.heap[gb]? = some (.cells #[gI o.kind, gI o.block, gI o.value, gI o.frm, gI o.to] 36 (0, 0)) from ⟨HWN.out, hcb2⟩)
            clear hcmd hb9 hcb HWN HCB hgb hcb2 hd0 hd1 hd2 hd3 hd4 x0 x1 hw1 HW
            go_loopw [5] (fun i wr => RK h w (some ⟨gA, oA, none⟩) n c j gb o i wr) (fun i _ => n - (intOf i).toNat)
            case atStart => exact ⟨0, Nat.zero_le _, rfl, fun i hi => by omega, HX.out.1, HX.out.2⟩
            case round =>
              clear HX
              obtain ⟨k, hk, rfl, hok2, hW, hcb⟩ := hrel
              have hbox := hW.2
              unfold Boxed at hbox
              have y0 : wr.cell? ⟨w.heap.size, 0, none⟩ = some (gI h.blocks) := by rw [cell_of_row _ _ 0 _ _ _ hbox]; rfl
              have y1 : wr.cell? ⟨w.heap.size, 1, none⟩ = some (.slice (some ⟨gA, oA, none⟩) n c) := by rw [cell_of_row _ _ 1 _ _ _ hbox]; rfl
              have hgb2 : gb < wr.heap.size := (Array.getElem?_eq_some_iff.1 hcb).1
              have hgw2 : w.heap.size < wr.heap.size := by omega
              have b0 : wr.cell? ⟨gb, 0, none⟩ = some (gI o.kind) := by rw [cell_of_row _ _ 0 _ _ _ hcb]; rfl
              have b1 : wr.cell? ⟨gb, 1, none⟩ = some (gI o.block) := by rw [cell_of_row _ _ 1 _ _ _ hcb]; rfl
              have b2 : wr.cell? ⟨gb, 2, none⟩ = some (gI o.value) := by rw [cell_of_row _ _ 2 _ _ _ hcb]; rfl
              have b3 : wr.cell? ⟨gb, 3, none⟩ = some (gI o.frm) := by rw [cell_of_row _ _ 3 _ _ _ hcb]; rfl
              have b4 : wr.cell? ⟨gb, 4, none⟩ = some (gI o.to) := by rw [cell_of_row _ _ 4 _ _ _ hcb]; rfl
              have HW := Lib.hid (show CW h w (some ⟨gA, oA, none⟩) n c wr ∧ wr.heap[gb]? = some (.cells #[gI o.kind, gI o.block, gI o.value, gI o.frm, gI o.to] 36 (0, 0)) from ⟨hW, hcb⟩)
              have HOK2 := Lib.hid hok2
              clear hbox hcb hok2 hW
              by_cases hkl : k < n
              · obtain ⟨gA', oA', hAe, _, hc0, hc1, hc2, hc3, hc4⟩ := hC.get hkl
                injection hAe with hAe
                injection hAe with e1 e2 _
                subst e1; subst e2
                obtain ⟨q, hq⟩ : ∃ q, q = h.cmd k := ⟨_, rfl⟩
                rw [← hq] at hc0 hc1 hc2 hc3 hc4
                have eb : ∀ x, wr.cell? ⟨gA, x, none⟩ = w.cell? ⟨gA, x, none⟩ := fun x => HW.out.1.1.cell (p := ⟨gA, x, none⟩) hgA
                have hd0 := (eb _).trans hc0
                have hd1 := (eb _).trans hc1
                have hd2 := (eb _).trans hc2
                have hd3 := (eb _).trans hc3
                have hd4 := (eb _).trans hc4
                have hkz : (k : Int) < (n : Int) := by omega
                have hkz0 : (0 : Int) ≤ (k : Int) := by omega
                have HQ := Lib.hid hq
                obtain ⟨b1', hb1⟩ : ∃ b, (o.frm == q.frm) = b := ⟨_, rfl⟩
                obtain ⟨b2', hb2⟩ : ∃ b, (o.frm == q.to) = b := ⟨_, rfl⟩
                obtain ⟨b3', hb3⟩ : ∃ b, (o.to == -1) = b := ⟨_, rfl⟩
                obtain ⟨b4', hb4⟩ : ∃ b, (o.to == q.to) = b := ⟨_, rfl⟩
                obtain ⟨b5', hb5⟩ : ∃ b, decide (q.frm < o.frm) = b := ⟨_, rfl⟩
                obtain ⟨b6', hb6⟩ : ∃ b, (o.kind == 9) = b := ⟨_, rfl⟩
                obtain ⟨b7', hb7⟩ : ∃ b, decide (o.frm < q.to) = b := ⟨_, rfl⟩
                obtain ⟨b8', hb8⟩ : ∃ b, decide (k < j) = b := ⟨_, rfl⟩
                obtain ⟨b9', hb9⟩ : ∃ b, ((k : Int) == (j : Int)) = b := ⟨_, rfl⟩
                have HBB := Lib.hid (show (o.frm == q.frm) = b1' ∧ (o.frm == q.to) = b2' ∧ (o.to == -1) = b3' ∧ (o.to == q.to) = b4' ∧ decide (q.frm < o.frm) = b5' ∧ (o.kind == 9) = b6' ∧ decide (o.frm < q.to) = b7' ∧ decide (k < j) = b8' ∧ ((k : Int) == (j : Int)) = b9' from ⟨hb1, hb2, hb3, hb4, hb5, hb6, hb7, hb8, hb9⟩)
                clear hq eb hc0 hc1 hc2 hc3 hc4
                go_wp2_with (go_at_call 31; refine (refOpen_any _ _ _ _ _ _).mono ?_; rintro e w9 ⟨rfl, rfl⟩)
                all_goals
                  clear hd0 hd1 hd2 hd3 hd4 y0 y1 b0 b1 b2 b3 b4
                  first
                    | (go_ret
                       have hbad : badP o q j k ∧ k ≠ j := by
                         obtain ⟨e1, e2, e3, e4, e5, e6, e7, e8, e9⟩ := HBB.out
                         unfold badP
                         clear hC HW HOK HOK2 HIB HQ HBB HLEN HWB hgA hgw hgw2 hgb2 hnc hb16
                         (try cases b5') <;> (try cases b8') <;> simp_all <;> omega
                       have HE : checkE h = 170 := if_neg (fun hc => (hc.2.2.2 j (by rw [HLEN.out]; exact hlt)).2 k (by rw [HLEN.out]; exact hkl) hbad.2 (by rw [← HIB.out.2, ← HQ.out]; exact hbad.1))
                       exact ⟨by rw [HE]; rfl, by first | exact (HW.out.1.alloc _).1 | exact ((HW.out.1.alloc _).alloc _).1⟩)
                    | (clear hb1 hb2 hb3 hb4 hb5 hb6 hb7 hb8 hb9
                       go_roundw
                       case rel =>
                         have hnb : k ≠ j → ¬ badP o q j k := by
                           obtain ⟨e1, e2, e3, e4, e5, e6, e7, e8, e9⟩ := HBB.out
                           unfold badP
                           clear hC HW HOK HOK2 HIB HQ HBB HLEN HWB hgA hgw hgw2 hgb2 hnc hb16
                           (try cases b5') <;> (try cases b8') <;> simp_all <;> omega
                         have hcb := HW.out.2
                         exact ⟨k + 1, by omega, by go_num, fun i hi hne => by
                           by_cases e : i < k
                           · exact HOK2.out i e hne
                           · obtain rfl : i = k := by omega
                             rw [← HIB.out.2, ← HQ.out]; exact hnb hne,
                           by first | exact HW.out.1.alloc _ | exact (HW.out.1.alloc _).alloc _, by
                           first
                             | exact (Below.heap_alloc _ _ _ hgb2).trans hcb
                             | exact (Below.heap_alloc _ _ _ (by simp; omega)).trans ((Below.heap_alloc _ _ _ hgb2).trans hcb)⟩
                       case measure => simp [intOf]; omega)
              · have hkn : k = n := by omega
                subst hkn
                have HE := Lib.hid (show okI h (j + 1) from fun i hi => by
                  by_cases e : i < j
                  · exact HOK.out i e
                  · obtain rfl : i = j := by omega
                    exact ⟨by rw [← HIB.out.2, ← HIB.out.1], by rw [HLEN.out]; exact HOK2.out⟩)
                go_wp2_with fail
                go_roundw
                case rel => exact ⟨j + 1, by omega, by go_num, HE.out, HW.out.1⟩
                case measure => simp [intOf]; omega
        · have hjn : j = n := by omega
          subst hjn
          have HE := Lib.hid (show checkE h = 0 from if_pos ⟨hb16.1, hb16.2, by rw [HLEN.out]; exact h10, by rw [HLEN.out]; exact HOK.out⟩)
          go_wp2_with fail
          go_ret
          exact ⟨by rw [HE.out]; rfl, HW.out.1⟩
    · have h10b : (10 : Int) < (n : Int) := by omega
      have HE := Lib.hid (show checkE h = 170 from if_neg (fun hc => by have := hc.2.2.1; have := HLEN.out; omega))
      go_enter Try.func12, Try.ntmps12
      go_wp2_with (go_at_call 29; refine (hwit _).mono ?_; rintro e w' ⟨rfl, rfl⟩)
      go_ret
      exact ⟨by rw [HE.out]; rfl, hCW0.1⟩

end Go.Proofs.Ytagekhgfoabgbaa
end

section
/- Far and valid. -/
set_option linter.unusedSimpArgs false
set_option linter.unusedVariables false
namespace Go.Proofs.Ytagekhgfoabgbaa
open Go.RowKit Go.Maps

def farB (h : Hist) : Bool := decide (40 < h.cmds.length ∨ (checkP h ∧ (2 < h.blocks ∨ 6 < h.cmds.length)))
def validB (h : Hist) : Bool := decide (checkP h ∧ h.blocks ≤ 2 ∧ h.cmds.length ≤ 6)
theorem check_is {h : Hist} {cb : Bool} (hcb : decide (checkP h) = cb) (w : World) (A : Option Addr) (n c : Nat) (hC : CmdsAt w A n h.cmds) (hnc : n ≤ c) :
    Calls Try.prog 12 #[hV h.blocks A n c] w fun e w' => e = .returned (.int .i64 (if cb = true then 0 else 170)) ∧ Below w.heap.size w w' :=
  (refCheck_any w h A n c hC hnc).mono fun e w' ⟨he, hb⟩ => ⟨by rw [he]; unfold checkE; rw [← hcb]; by_cases hp : checkP h <;> simp [hp], hb⟩
set_option maxHeartbeats 4000000 in
theorem far_any (w : World) (h : Hist) (A : Option Addr) (n c : Nat) (hC : CmdsAt w A n h.cmds) (hnc : n ≤ c) :
    Calls Try.prog 20 #[hV h.blocks A n c] w fun e w' => e = .returned (.bool (farB h)) ∧ Below w.heap.size w w' := by
  have HLEN := Lib.hid hC.1
  have hCW0 : CW h w A n c (w.alloc (.cells #[gI h.blocks, .slice A n c] 24)) := ⟨below_alloc0 _ _, heap_alloc_new _ _⟩
  obtain ⟨cb, hcb⟩ : ∃ cb, decide (checkP h) = cb := ⟨_, rfl⟩
  have hck := check_is hcb (w.alloc (.cells #[gI h.blocks, .slice A n c] 24)) A n c (hC.below hCW0.1 (Nat.le_refl _)) hnc
  have HCB := Lib.hid hcb
  clear hcb
  obtain ⟨b1, hb1⟩ : ∃ b, decide ((40 : Int) < (n : Int)) = b := ⟨_, rfl⟩
  obtain ⟨b2, hb2⟩ : ∃ b, decide ((2 : Int) < h.blocks) = b := ⟨_, rfl⟩
  obtain ⟨b3, hb3⟩ : ∃ b, decide ((6 : Int) < (n : Int)) = b := ⟨_, rfl⟩
  have HB := Lib.hid (show farB h = (b1 || (cb && (b2 || b3))) by
    rw [← hb1, ← hb2, ← hb3, ← HCB.out]
    unfold farB
    have := HLEN.out
    rw [this, Bool.eq_iff_iff]
    simp
    by_cases hp : checkP h
    · simp [hp]; omega
    · simp [hp]; omega)
  have hcw : ∀ W, Below (w.alloc (.cells #[gI h.blocks, .slice A n c] 24)).heap.size (w.alloc (.cells #[gI h.blocks, .slice A n c] 24)) W → W.cell? ⟨w.heap.size, 0, none⟩ = some (gI h.blocks) ∧ W.cell? ⟨w.heap.size, 1, none⟩ = some (.slice A n c) ∧ Below w.heap.size w W := fun W hW => by
    have hx := (hCW0.next hW).2
    unfold Boxed at hx
    exact ⟨by rw [cell_of_row _ _ 0 _ _ _ hx]; rfl, by rw [cell_of_row _ _ 1 _ _ _ hx]; rfl, (hCW0.next hW).1⟩
  have HCW := Lib.hid hcw
  clear hcw
  have hbb := hCW0.1
  cases cb
  all_goals
    go_enter Try.func20, Try.ntmps20
    go_wp2_with (go_at_call 12; refine hck.mono ?_; rintro e w9 ⟨rfl, hb9⟩; obtain ⟨y0, y1, hbl⟩ := HCW.out _ hb9)
    all_goals
      go_ret
      refine ⟨ret_bool ?_, by first | exact hbl | exact hbb⟩
      rw [HB.out]
      clear hC hck hCW0 HCW HB
      simp_all
theorem far_is {h : Hist} {fb : Bool} (hfb : farB h = fb) (w : World) (A : Option Addr) (n c : Nat) (hC : CmdsAt w A n h.cmds) (hnc : n ≤ c) :
    Calls Try.prog 20 #[hV h.blocks A n c] w fun e w' => e = .returned (.bool fb) ∧ Below w.heap.size w w' := by
  rw [← hfb]; exact far_any w h A n c hC hnc
set_option maxHeartbeats 4000000 in
theorem valid_any (w : World) (h : Hist) (A : Option Addr) (n c : Nat) (hC : CmdsAt w A n h.cmds) (hnc : n ≤ c) :
    Calls Try.prog 7 #[hV h.blocks A n c] w fun e w' => e = .returned (.bool (validB h)) ∧ Below w.heap.size w w' := by
  have hCW0 : CW h w A n c (w.alloc (.cells #[gI h.blocks, .slice A n c] 24)) := ⟨below_alloc0 _ _, heap_alloc_new _ _⟩
  have hcw : ∀ W, Below (w.alloc (.cells #[gI h.blocks, .slice A n c] 24)).heap.size (w.alloc (.cells #[gI h.blocks, .slice A n c] 24)) W → W.cell? ⟨w.heap.size, 0, none⟩ = some (gI h.blocks) ∧ W.cell? ⟨w.heap.size, 1, none⟩ = some (.slice A n c) ∧ Below w.heap.size w W ∧ CmdsAt W A n h.cmds := fun W hW => by
    have hx := (hCW0.next hW).2
    unfold Boxed at hx
    exact ⟨by rw [cell_of_row _ _ 0 _ _ _ hx]; rfl, by rw [cell_of_row _ _ 1 _ _ _ hx]; rfl, (hCW0.next hW).1, hC.below (hCW0.next hW).1 (Nat.le_refl _)⟩
  have HCW := Lib.hid hcw
  clear hcw
  obtain ⟨fb, hfb⟩ : ∃ fb, farB h = fb := ⟨_, rfl⟩
  obtain ⟨cb, hcb⟩ : ∃ cb, decide (checkP h) = cb := ⟨_, rfl⟩
  have hf := far_is hfb (w.alloc (.cells #[gI h.blocks, .slice A n c] 24)) A n c (HCW.out _ (Below.refl _ _)).2.2.2 hnc
  have HV := Lib.hid (show validB h = (!fb && cb) by
    rw [← hfb, ← hcb, Bool.eq_iff_iff]
    unfold validB farB
    by_cases hp : checkP h
    · have := hp.2.2.1
      simp [hp]; omega
    · simp [hp])
  have HCB := Lib.hid hcb
  clear hfb hcb
  cases fb
  · cases cb
    all_goals
      go_enter Try.func7, Try.ntmps7
      go_wp2_with (first
        | (go_at_call 20; refine hf.mono ?_; rintro e w9 ⟨rfl, hb9⟩; obtain ⟨y0, y1, hbl, hC9⟩ := HCW.out _ hb9)
        | (go_at_call 12; refine (check_is HCB.out w9 A n c hC9 hnc).mono ?_; rintro e w10 ⟨rfl, hb10⟩))
      go_ret
      exact ⟨ret_bool (by rw [HV.out]; rfl), hbl.trans (hb10.mono (by have := hb9.size; simp at this; omega))⟩
  · go_enter Try.func7, Try.ntmps7
    go_wp2_with (go_at_call 20; refine hf.mono ?_; rintro e w9 ⟨rfl, hb9⟩; obtain ⟨y0, y1, hbl, hC9⟩ := HCW.out _ hb9)
    go_ret
    exact ⟨ret_bool (by rw [HV.out]; rfl), hbl⟩

end Go.Proofs.Ytagekhgfoabgbaa
end

section
/- right, of a valid history's commands. -/
set_option linter.unusedSimpArgs false
set_option linter.unusedVariables false
namespace Go.Proofs.Ytagekhgfoabgbaa
open Go.RowKit Go.Maps

theorem within_is {bb : Bool} (n lo hi : Int) (hb : wi n lo hi = bb) (w : World) :
    Calls Try.prog 28 #[.int .i64 n, .int .i64 lo, .int .i64 hi] w fun e w' => e = .returned (.bool bb) ∧ w = w' := by
  rw [← hb]; exact within_any n lo hi w
theorem puts_is {bb : Bool} (k b v f t : Int) (hb : (k == 1 || k == 2) = bb) (w : World) :
    Calls Try.prog 48 #[.agg #[.int .i64 k, .int .i64 b, .int .i64 v, .int .i64 f, .int .i64 t]] w fun e w' => e = .returned (.bool bb) ∧ w' = w.alloc (.cells #[.int .i64 k, .int .i64 b, .int .i64 v, .int .i64 f, .int .i64 t] 36) := by
  rw [← hb]; exact puts_any k b v f t w
theorem openX_any (k b v f t : Int) (w : World) :
    Calls Try.prog 24 #[.agg #[.int .i64 k, .int .i64 b, .int .i64 v, .int .i64 f, .int .i64 t]] w fun e w' => e = .returned (.bool (decide (t < 0))) ∧ w' = w.alloc (.cells #[.int .i64 k, .int .i64 b, .int .i64 v, .int .i64 f, .int .i64 t] 36) := by
  go_enter Try.func24, Try.ntmps24
  go_wp2
  go_ret
  exact ⟨rfl, rfl⟩
theorem openX_is {bb : Bool} {o : Cmd} (hd : decide (o.to < 0) = bb) (w : World) :
    Calls Try.prog 24 #[.agg #[gI o.kind, gI o.block, gI o.value, gI o.frm, gI o.to]] w fun e w' => e = .returned (.bool bb) ∧ w' = w.alloc (.cells #[gI o.kind, gI o.block, gI o.value, gI o.frm, gI o.to] 36) := by
  rw [← hd]; exact openX_any _ _ _ _ _ w
theorem isCmdB_iff {b : Int} {c : Cmd} : isCmdB b c = true ↔ (0 ≤ c.frm ∧ c.frm ≤ 999) ∧ (c.kind = 9 → c.to = c.frm) ∧ (c.kind ≠ 9 → c.to = -1 ∨ (c.frm < c.to ∧ c.to ≤ 999)) ∧
    (((c.kind = 1 ∨ c.kind = 2) ∧ 0 ≤ c.block ∧ c.block ≤ b - 1 ∧ 0 ≤ c.value ∧ c.value ≤ 99) ∨ (c.kind = 10 ∧ 0 ≤ c.block ∧ c.block ≤ b - 1 ∧ -1 ≤ c.value ∧ c.value ≤ 99 ∧ (c.to = -1 → c.value = 0)) ∨ ((c.kind = 3 ∨ c.kind = 4 ∨ c.kind = 9) ∧ c.block = 0 ∧ c.value = 0)) := by
  obtain ⟨k, bl, v, f, t⟩ := c
  unfold isCmdB lastB wi
  by_cases h1 : k = 1
  · subst h1; simp; omega
  · by_cases h2 : k = 2
    · subst h2; simp; omega
    · by_cases h3 : k = 10
      · subst h3
        by_cases ht : t = -1
        · subst ht; simp; omega
        · simp [ht]; omega
      · by_cases h4 : k = 3
        · subst h4; simp; omega
        · by_cases h5 : k = 4
          · subst h5; simp; omega
          · by_cases h6 : k = 9
            · subst h6; simp; omega
            · simp [h1, h2, h3, h4, h5, h6]
set_option maxRecDepth 100000 in
set_option maxHeartbeats 4000000 in
theorem right_any (w : World) (b : Int) (c : Cmd) (A : Option Addr) (n cc : Nat) (hb : 1 ≤ b ∧ b ≤ 6) (hc : isCmdB b c = true) :
    Calls Try.prog 38 #[hV b A n cc, cV c] w fun e w' => e = .returned (.bool true) ∧ Below w.heap.size w w' := by
  obtain ⟨hf, h9, hl, hk⟩ := isCmdB_iff.1 hc
  obtain ⟨k, bl, v, f, t⟩ := c
  clear hc
  dsimp only at hf h9 hl hk
  obtain ⟨hb1, hb2⟩ := hb
  obtain ⟨hf1, hf2⟩ := hf
  have hwf : wi f 0 999 = true := (wi_iff _ _ _).2 ⟨hf1, hf2⟩
  have HWF := Lib.hid hwf
  rcases hk with ⟨rfl | rfl, hk1, hk2, hk3, hk4⟩ | ⟨rfl, hk1, hk2, hk3, hk4, hk5⟩ | ⟨rfl | rfl | rfl, rfl, rfl⟩
  · have HA := Lib.hid (show wi bl 0 (b - 1) = true ∧ wi v 0 99 = true from ⟨(wi_iff _ _ _).2 ⟨hk1, hk2⟩, (wi_iff _ _ _).2 ⟨hk3, hk4⟩⟩)
    have HL := Lib.hid (hl (by decide))
    clear h9 hl
    clear hwf hf2
    go_enter Try.func38, Try.ntmps38
    go_wp2_with (first
      | (go_at_call_of 28 (gI bl); refine (within_is _ _ _ HA.out.1 _).mono ?_; rintro e w' ⟨rfl, rfl⟩)
      | (go_at_call_of 28 (gI f); refine (within_is _ _ _ HWF.out _).mono ?_; rintro e w' ⟨rfl, rfl⟩)
      | (go_at_call_of 28 (gI v); refine (within_is _ _ _ HA.out.2 _).mono ?_; rintro e w' ⟨rfl, rfl⟩)
      | (go_at_call 48; refine (puts_is _ _ _ _ _ rfl _).mono ?_; rintro e w' ⟨rfl, rfl⟩)
      | (go_at_call 24; refine (openX_any _ _ _ _ _ _).mono ?_; rintro e w' ⟨rfl, rfl⟩))
    all_goals
      go_ret
      refine ⟨ret_bool ?_, ?_⟩
      · have hll := HL.out
        clear HL HWF HA
        first
          | rfl
          | (exfalso; omega)
          | (simp_all; done)
          | (simp_all; omega)
          | (simp; omega)
      · first
          | exact (below_alloc0 w _).alloc (by simp) _
          | exact ((below_alloc0 w _).alloc (by simp) _).alloc (by simp; omega) _
          | exact (((below_alloc0 w _).alloc (by simp) _).alloc (by simp; omega) _).alloc (by simp; omega) _
  · have HA := Lib.hid (show wi bl 0 (b - 1) = true ∧ wi v 0 99 = true from ⟨(wi_iff _ _ _).2 ⟨hk1, hk2⟩, (wi_iff _ _ _).2 ⟨hk3, hk4⟩⟩)
    have HL := Lib.hid (hl (by decide))
    clear h9 hl
    clear hwf hf2
    go_enter Try.func38, Try.ntmps38
    go_wp2_with (first
      | (go_at_call_of 28 (gI bl); refine (within_is _ _ _ HA.out.1 _).mono ?_; rintro e w' ⟨rfl, rfl⟩)
      | (go_at_call_of 28 (gI f); refine (within_is _ _ _ HWF.out _).mono ?_; rintro e w' ⟨rfl, rfl⟩)
      | (go_at_call_of 28 (gI v); refine (within_is _ _ _ HA.out.2 _).mono ?_; rintro e w' ⟨rfl, rfl⟩)
      | (go_at_call 48; refine (puts_is _ _ _ _ _ rfl _).mono ?_; rintro e w' ⟨rfl, rfl⟩)
      | (go_at_call 24; refine (openX_any _ _ _ _ _ _).mono ?_; rintro e w' ⟨rfl, rfl⟩))
    all_goals
      go_ret
      refine ⟨ret_bool ?_, ?_⟩
      · have hll := HL.out
        clear HL HWF HA
        first
          | rfl
          | (exfalso; omega)
          | (simp_all; done)
          | (simp_all; omega)
          | (simp; omega)
      · first
          | exact (below_alloc0 w _).alloc (by simp) _
          | exact ((below_alloc0 w _).alloc (by simp) _).alloc (by simp; omega) _
          | exact (((below_alloc0 w _).alloc (by simp) _).alloc (by simp; omega) _).alloc (by simp; omega) _
  · have HA := Lib.hid (show wi bl 0 (b - 1) = true ∧ wi v (-1) 99 = true from ⟨(wi_iff _ _ _).2 ⟨hk1, hk2⟩, (wi_iff _ _ _).2 ⟨hk3, hk4⟩⟩)
    have HL := Lib.hid (show (t = -1 ∨ (f < t ∧ t ≤ 999)) ∧ (t = -1 → v = 0) from ⟨hl (by decide), hk5⟩)
    clear h9 hl hk5
    clear hwf hf2
    go_enter Try.func38, Try.ntmps38
    go_wp2_with (first
      | (go_at_call_of 28 (gI bl); refine (within_is _ _ _ HA.out.1 _).mono ?_; rintro e w' ⟨rfl, rfl⟩)
      | (go_at_call_of 28 (gI f); refine (within_is _ _ _ HWF.out _).mono ?_; rintro e w' ⟨rfl, rfl⟩)
      | (go_at_call_of 28 (gI v); refine (within_is _ _ _ HA.out.2 _).mono ?_; rintro e w' ⟨rfl, rfl⟩)
      | (go_at_call 48; refine (puts_is _ _ _ _ _ rfl _).mono ?_; rintro e w' ⟨rfl, rfl⟩)
      | (go_at_call 24; refine (openX_any _ _ _ _ _ _).mono ?_; rintro e w' ⟨rfl, rfl⟩))
    all_goals
      go_ret
      refine ⟨ret_bool ?_, ?_⟩
      · have hll := HL.out
        clear HL HWF HA
        first
          | rfl
          | (exfalso; omega)
          | (simp_all; done)
          | (simp_all; omega)
          | (simp; omega)
      · first
          | exact (below_alloc0 w _).alloc (by simp) _
          | exact ((below_alloc0 w _).alloc (by simp) _).alloc (by simp; omega) _
          | exact (((below_alloc0 w _).alloc (by simp) _).alloc (by simp; omega) _).alloc (by simp; omega) _
  · have HA := Lib.hid (show wi 0 0 (b - 1) = true ∧ True from ⟨(wi_iff _ _ _).2 ⟨by omega, by omega⟩, trivial⟩)
    have HL := Lib.hid (hl (by decide))
    clear h9 hl
    clear hwf hf2
    go_enter Try.func38, Try.ntmps38
    go_wp2_with (first
      | (go_at_call_of 28 (gI f); refine (within_is _ _ _ HWF.out _).mono ?_; rintro e w' ⟨rfl, rfl⟩)
      | (go_at_call 28; refine (within_is _ _ _ HA.out.1 _).mono ?_; rintro e w' ⟨rfl, rfl⟩)
      | (go_at_call 48; refine (puts_is _ _ _ _ _ rfl _).mono ?_; rintro e w' ⟨rfl, rfl⟩)
      | (go_at_call 24; refine (openX_any _ _ _ _ _ _).mono ?_; rintro e w' ⟨rfl, rfl⟩))
    all_goals
      go_ret
      refine ⟨ret_bool ?_, ?_⟩
      · have hll := HL.out
        clear HL HWF HA
        first
          | rfl
          | (exfalso; omega)
          | (simp_all; done)
          | (simp_all; omega)
          | (simp; omega)
      · first
          | exact (below_alloc0 w _).alloc (by simp) _
          | exact ((below_alloc0 w _).alloc (by simp) _).alloc (by simp; omega) _
          | exact (((below_alloc0 w _).alloc (by simp) _).alloc (by simp; omega) _).alloc (by simp; omega) _
  · have HA := Lib.hid (show wi 0 0 (b - 1) = true ∧ True from ⟨(wi_iff _ _ _).2 ⟨by omega, by omega⟩, trivial⟩)
    have HL := Lib.hid (hl (by decide))
    clear h9 hl
    clear hwf hf2
    go_enter Try.func38, Try.ntmps38
    go_wp2_with (first
      | (go_at_call_of 28 (gI f); refine (within_is _ _ _ HWF.out _).mono ?_; rintro e w' ⟨rfl, rfl⟩)
      | (go_at_call 28; refine (within_is _ _ _ HA.out.1 _).mono ?_; rintro e w' ⟨rfl, rfl⟩)
      | (go_at_call 48; refine (puts_is _ _ _ _ _ rfl _).mono ?_; rintro e w' ⟨rfl, rfl⟩)
      | (go_at_call 24; refine (openX_any _ _ _ _ _ _).mono ?_; rintro e w' ⟨rfl, rfl⟩))
    all_goals
      go_ret
      refine ⟨ret_bool ?_, ?_⟩
      · have hll := HL.out
        clear HL HWF HA
        first
          | rfl
          | (exfalso; omega)
          | (simp_all; done)
          | (simp_all; omega)
          | (simp; omega)
      · first
          | exact (below_alloc0 w _).alloc (by simp) _
          | exact ((below_alloc0 w _).alloc (by simp) _).alloc (by simp; omega) _
          | exact (((below_alloc0 w _).alloc (by simp) _).alloc (by simp; omega) _).alloc (by simp; omega) _
  · have HA := Lib.hid (show wi 0 0 (b - 1) = true ∧ True from ⟨(wi_iff _ _ _).2 ⟨by omega, by omega⟩, trivial⟩)
    have HL := Lib.hid (h9 rfl)
    clear h9 hl
    clear hwf hf2
    go_enter Try.func38, Try.ntmps38
    go_wp2_with (first
      | (go_at_call_of 28 (gI f); refine (within_is _ _ _ HWF.out _).mono ?_; rintro e w' ⟨rfl, rfl⟩)
      | (go_at_call 28; refine (within_is _ _ _ HA.out.1 _).mono ?_; rintro e w' ⟨rfl, rfl⟩)
      | (go_at_call 48; refine (puts_is _ _ _ _ _ rfl _).mono ?_; rintro e w' ⟨rfl, rfl⟩)
      | (go_at_call 24; refine (openX_any _ _ _ _ _ _).mono ?_; rintro e w' ⟨rfl, rfl⟩))
    all_goals
      go_ret
      refine ⟨ret_bool ?_, ?_⟩
      · have hll := HL.out
        clear HL HWF HA
        first
          | rfl
          | (exfalso; omega)
          | (simp_all; done)
          | (simp_all; omega)
          | (simp; omega)
      · first
          | exact (below_alloc0 w _).alloc (by simp) _
          | exact ((below_alloc0 w _).alloc (by simp) _).alloc (by simp; omega) _
          | exact (((below_alloc0 w _).alloc (by simp) _).alloc (by simp; omega) _).alloc (by simp; omega) _

end Go.Proofs.Ytagekhgfoabgbaa
end

section
/- Check of a valid history. -/
set_option linter.unusedSimpArgs false
set_option linter.unusedVariables false
namespace Go.Proofs.Ytagekhgfoabgbaa
open Go.RowKit Go.Maps

theorem over_no (w : World) (q c : Cmd) (g : Nat) (hg : w.heap[g]? = some (.cells #[gI q.kind, gI q.block, gI q.value, gI q.frm, gI q.to] 36 (0, 0))) (hno : ¬ (c.frm < q.frm ∧ q.frm < c.to)) :
    Calls Try.prog 39 #[cV c, .pointer (some ⟨g, 0, none⟩)] w fun e w' => e = .returned (.bool false) ∧ Below w.heap.size w w' := by
  have hlt := (Array.getElem?_eq_some_iff.1 hg).1
  have hq : w.cell? ⟨g, 3, none⟩ = some (gI q.frm) := by rw [cell_of_row _ _ 3 _ _ _ hg]; rfl
  obtain ⟨qf, hqf⟩ : ∃ x, x = q.frm := ⟨_, rfl⟩
  rw [← hqf] at hq hno
  obtain ⟨k, b, v, f, t⟩ := c
  dsimp only at hno
  clear hg hqf
  by_cases h1 : f < qf
  · have h2 : ¬ qf < t := fun h => hno ⟨h1, h⟩
    clear hno
    go_enter Try.func39, Try.ntmps39
    go_wp2
    go_ret
    exact ⟨rfl, below_alloc0 _ _⟩
  · clear hno
    go_enter Try.func39, Try.ntmps39
    go_wp2
    go_ret
    exact ⟨rfl, below_alloc0 _ _⟩
set_option maxHeartbeats 1000000 in
theorem indexFunc_none (w : World) (h : Hist) (A : Option Addr) (n c g : Nat) (hC : CmdsAt w A n h.cmds) (hn : n ≤ 10) (hp : ∀ (W : World) (k : Nat), Below w.heap.size w W → k < n → Calls Try.prog 39 #[cV (h.cmd k), .pointer (some ⟨g, 0, none⟩)] W fun e w' => e = .returned (.bool false) ∧ Below W.heap.size W w') :
    Calls Try.prog 57 #[.slice A n c, .func (.func 39) #[] #[.pointer (some ⟨g, 0, none⟩)]] w fun e w' => e = .returned (.int .i64 (-1)) ∧ Below w.heap.size w w' := by
  have eg : ∀ args w, (callFunc 39 args).run Try.prog w = .ok (.enter 39 args) w := enters_of Try.func39 (by kernel_rfl) rfl
  have HP := Lib.hid hp
  clear hp
  go_enter Try.func57, Try.ntmps57
  go_wp2_with fail
  go_loopw [8] (fun i wr => ∃ j : Nat, j ≤ n ∧ i = .int .i64 j ∧ Below w.heap.size w wr) (fun i _ => n - (intOf i).toNat)
  case atStart => exact ⟨0, Nat.zero_le _, rfl, Below.refl _ _⟩
  case round =>
    obtain ⟨j, hj, rfl, hbel⟩ := hrel
    by_cases hlt : j < n
    · obtain ⟨gA, oA, hAe, hgA, hc0, hc1, hc2, hc3, hc4⟩ := hC.get hlt
      subst hAe
      obtain ⟨o, ho⟩ : ∃ o, o = h.cmd j := ⟨_, rfl⟩
      rw [← ho] at hc0 hc1 hc2 hc3 hc4
      have eb : ∀ x, wr.cell? ⟨gA, x, none⟩ = w.cell? ⟨gA, x, none⟩ := fun x => hbel.cell (p := ⟨gA, x, none⟩) hgA
      have hd0 := (eb _).trans hc0
      have hd1 := (eb _).trans hc1
      have hd2 := (eb _).trans hc2
      have hd3 := (eb _).trans hc3
      have hd4 := (eb _).trans hc4
      have hltz : (j : Int) < (n : Int) := by omega
      have hjz : (0 : Int) ≤ (j : Int) := by omega
      have hcl := HP.out wr j hbel hlt
      rw [← ho] at hcl
      have HB := Lib.hid hbel
      clear ho eb hc0 hc1 hc2 hc3 hc4 hbel
      go_wp2_with (go_at_call 39; refine hcl.mono ?_; rintro e w9 ⟨rfl, hb9⟩)
      go_roundw
      case rel => exact ⟨j + 1, by omega, by go_num, HB.out.trans (hb9.mono HB.out.size)⟩
      case measure => simp [intOf]; omega
    · have hjn : j = n := by omega
      subst hjn
      have HB := Lib.hid hbel
      clear hbel
      go_wp2_with fail
      go_ret
      exact ⟨rfl, HB.out⟩
theorem contains_none (w : World) (h : Hist) (A : Option Addr) (n c g : Nat) (hC : CmdsAt w A n h.cmds) (hn : n ≤ 10) (hp : ∀ (W : World) (k : Nat), Below w.heap.size w W → k < n → Calls Try.prog 39 #[cV (h.cmd k), .pointer (some ⟨g, 0, none⟩)] W fun e w' => e = .returned (.bool false) ∧ Below W.heap.size W w') :
    Calls Try.prog 40 #[.slice A n c, .func (.func 39) #[] #[.pointer (some ⟨g, 0, none⟩)]] w fun e w' => e = .returned (.bool false) ∧ Below w.heap.size w w' := by
  have hi := indexFunc_none w h A n c g hC hn hp
  clear hp
  go_enter Try.func40, Try.ntmps40
  go_wp2_with (go_at_call 57; refine hi.mono ?_; rintro e w9 ⟨rfl, hb9⟩)
  go_ret
  exact ⟨rfl, hb9⟩

/-- The times of the first j commands. -/
def timesL (h : Hist) : Nat → List Int
  | 0 => []
  | j + 1 => timesL h j ++ [(h.cmd j).frm] ++ (if (h.cmd j).to < 0 ∨ (h.cmd j).kind = 9 then [] else [(h.cmd j).to])
theorem timesL_mem {h : Hist} {x : Int} : ∀ {j : Nat}, x ∈ timesL h j → ∃ i, i < j ∧ (x = (h.cmd i).frm ∨ (¬ (h.cmd i).to < 0 ∧ (h.cmd i).kind ≠ 9 ∧ x = (h.cmd i).to))
  | j + 1, hx => by
    unfold timesL at hx
    rcases List.mem_append.1 hx with hx | hx
    · rcases List.mem_append.1 hx with hx | hx
      · obtain ⟨i, hi, h1⟩ := timesL_mem hx
        exact ⟨i, by omega, h1⟩
      · exact ⟨j, by omega, .inl (by simpa using hx)⟩
    · split at hx
      · simp at hx
      · rename_i hn
        exact ⟨j, by omega, .inr ⟨fun h => hn (.inl h), fun h => hn (.inr h), by simpa using hx⟩⟩
theorem okI_apart {h : Hist} (hok : okI h h.cmds.length) {i k : Nat} (hi : i < h.cmds.length) (hk : k < h.cmds.length) (hne : k ≠ i) : ¬ badP (h.cmd i) (h.cmd k) i k := (hok i hi).2 k hk hne
theorem frm_fresh {h : Hist} (hok : okI h h.cmds.length) {j : Nat} (hj : j < h.cmds.length) : (h.cmd j).frm ∉ timesL h j := fun hx => by
  obtain ⟨i, hi, h1⟩ := timesL_mem hx
  have := okI_apart hok hj (k := i) (by omega) (by omega)
  unfold badP at this
  rcases h1 with h1 | ⟨_, _, h1⟩ <;> omega
theorem to_fresh {h : Hist} (hok : okI h h.cmds.length) {j : Nat} (hj : j < h.cmds.length) (ht : ¬ (h.cmd j).to < 0) (h9 : (h.cmd j).kind ≠ 9) : (h.cmd j).to ∉ timesL h j ++ [(h.cmd j).frm] := fun hx => by
  have hc := (isCmdB_iff.1 (hok j hj).1).2.2.1 h9
  rcases List.mem_append.1 hx with hx | hx
  · obtain ⟨i, hi, h1⟩ := timesL_mem hx
    have h2 := okI_apart hok hj (k := i) (by omega) (by omega)
    have h3 := okI_apart hok (i := i) (k := j) (by omega) hj (by omega)
    unfold badP at h2 h3
    rcases h1 with h1 | ⟨_, _, h1⟩ <;> omega
  · simp at hx; omega
def ones (l : List Int) : List (Int × Int) := l.map fun t => (t, 1)
theorem ones_keys (l : List Int) : (ones l).map (·.1) = l := by unfold ones; rw [List.map_map]; exact List.map_id l
theorem mget_ones {l : List Int} {x : Int} (h : x ∉ l) : (mget (ones l) x).getD 0 = 0 := by rw [mget_none (by rw [ones_keys]; exact h)]; rfl
theorem mput_ones {l : List Int} {x : Int} (h : x ∉ l) : mput (ones l) x 1 = ones (l ++ [x]) := by
  unfold mput
  rw [ones_keys, if_neg h]
  simp [ones]

end Go.Proofs.Ytagekhgfoabgbaa
end

section
/- Check of a valid history, walked. -/
set_option linter.unusedSimpArgs false
set_option linter.unusedVariables false
namespace Go.Proofs.Ytagekhgfoabgbaa
open Go.RowKit Go.Maps

def lastF (h : Hist) (j : Nat) : Int := if j = 0 then -1 else (h.cmd (j - 1 : Nat)).frm
/-- The first loop of Check: j commands are looked at. -/
def KA (h : Hist) (w : World) (A : Option Addr) (n c mp j : Nat) (wr : World) : Prop := CW h w A n c wr ∧ w.heap.size < mp ∧ MapOf Try.prog 3 gI gI wr mp (ones (timesL h j))
theorem KA.next {h : Hist} {w wr w' : World} {A : Option Addr} {n c mp j : Nat} (k : KA h w A n c mp j wr) (hb : Below wr.heap.size wr w') : KA h w A n c mp j w' := ⟨k.1.next hb, k.2.1, k.2.2.below hb k.2.2.lt⟩
/-- One more time is counted. -/
theorem KA.put {h : Hist} {w wr : World} {A : Option Addr} {n c mp : Nat} {l : List Int} {x : Int} (hw : CW h w A n c wr) (hmp : w.heap.size < mp) (hm : MapOf Try.prog 3 gI gI wr mp (ones l)) (hx : x ∉ l) (hr : -1000000 ≤ x ∧ x ≤ 1000000) :
    ∃ w', (Instr.lookup 67 (.map (some mp)) (gI x) false).run Try.prog wr = .ok (gI 0) wr ∧ (Instr.mapUpdate 67 (.map (some mp)) (gI x) (gI 1)).run Try.prog wr = .ok () w' ∧ CW h w A n c w' ∧ MapOf Try.prog 3 gI gI w' mp (ones (l ++ [x])) ∧ Upd wr w' mp := by
  have hk : ∃ l, keyOf Try.prog 3 (gI x) = some l := ⟨_, keyOf_int_mk Try.underlying3 (wf64 _ hr.1 hr.2)⟩
  have hlk := hm.lookup law3 gI_inj Try.underlying67 (z := 0) (by kernel_rfl) hk
  rw [mget_ones hx] at hlk
  obtain ⟨w', hrun, hm', hu⟩ := hm.update law3 gI_inj Try.underlying67 hk 1
  rw [mput_ones hx] at hm'
  exact ⟨w', hlk, hrun, ⟨hw.1.trans (hu.below (by omega)), by unfold Boxed; rw [hu.block _ (by omega)]; exact hw.2⟩, hm', hu⟩
theorem lastF_succ (h : Hist) (j : Nat) : lastF h (j + 1) = (h.cmd j).frm := by unfold lastF; simp
theorem timesL_no {h : Hist} {j : Nat} (hn : (h.cmd j).to < 0 ∨ (h.cmd j).kind = 9) : timesL h (j + 1) = timesL h j ++ [(h.cmd j).frm] := by
  show _ ++ _ ++ (if _ then _ else _) = _
  rw [if_pos hn]; simp
theorem timesL_yes {h : Hist} {j : Nat} (hn : ¬ (h.cmd j).to < 0) (h9 : (h.cmd j).kind ≠ 9) : timesL h (j + 1) = timesL h j ++ [(h.cmd j).frm] ++ [(h.cmd j).to] := by
  show _ ++ _ ++ (if _ then _ else _) = _
  rw [if_neg (fun h => h.elim hn h9)]
theorem lastF_lt {h : Hist} (hok : okI h h.cmds.length) {j : Nat} (hj : j < h.cmds.length) : lastF h j < (h.cmd j).frm := by
  unfold lastF
  split
  · have := (isCmdB_iff.1 (hok j hj).1).1; omega
  · have := okI_apart hok hj (k := j - 1) (by omega) (by omega)
    unfold badP at this
    omega
set_option maxRecDepth 100000 in
set_option maxHeartbeats 4000000 in
theorem check_any (w : World) (h : Hist) (A : Option Addr) (n c : Nat) (hv : checkP h) (hC : CmdsAt w A n h.cmds) (hnc : n ≤ c) :
    Calls Try.prog 22 #[hV h.blocks A n c] w fun e w' => e = .returned (.int .i64 0) ∧ Below w.heap.size w w' := by
  obtain ⟨hb1, hb6, hl10, hok⟩ := hv
  have hlen := hC.1
  rw [hlen] at hl10
  have hok' := hok
  rw [hlen] at hok
  have hCW0 : CW h w A n c (w.alloc (.cells #[gI h.blocks, .slice A n c] 24)) := ⟨below_alloc0 _ _, heap_alloc_new _ _⟩
  have hwit : wi h.blocks 1 6 = true := (wi_iff _ _ _).2 ⟨hb1, hb6⟩
  have HWI := Lib.hid hwit
  have HOK := Lib.hid hok
  have HLEN := Lib.hid hlen
  have h10b : ¬ (10 : Int) < (n : Int) := by omega
  have hmm := run_makeMap0
  have hM0 : KA h w A n c (w.heap.size + 1) 0 ((w.alloc (.cells #[gI h.blocks, .slice A n c] 24)).alloc (.map #[] 0)) := ⟨hCW0.alloc _, by omega, by
    have := MapOf.made Try.prog 3 gI gI (w.alloc (.cells #[gI h.blocks, .slice A n c] 24))
    rw [World.size_alloc] at this
    exact this⟩
  have HM0 := Lib.hid hM0
  have HOKK := Lib.hid hok'
  clear hwit hok hlen hM0 hok'
  go_enter Try.func22, Try.ntmps22
  go_wp2_with (go_at_call 28; refine (within_is _ _ _ HWI.out _).mono ?_; rintro e w' ⟨rfl, rfl⟩)
  clear hmm hCW0
  obtain ⟨mp, hmp⟩ : ∃ mp, mp = w.heap.size + 1 := ⟨_, rfl⟩
  rw [← hmp] at HM0 ⊢
  clear hmp
  go_loopw [4, 26] (fun v i wr => ∃ j : Nat, j ≤ n ∧ i = .int .i64 j ∧ v = .int .i64 (lastF h j) ∧ KA h w A n c mp j wr) (fun _ i _ => n - (intOf i).toNat)
  case atStart => exact ⟨0, Nat.zero_le _, rfl, rfl, HM0.out⟩
  case round =>
    clear HM0
    obtain ⟨j, hj, rfl, rfl, hK⟩ := hrel
    by_cases hlt : j < n
    ·
      -- [[
      obtain ⟨gA, oA, hAe, hgA, hc0, hc1, hc2, hc3, hc4⟩ := hC.get hlt
      subst hAe
      obtain ⟨hW, hmpl, hM⟩ := hK
      have hbox := hW.2
      unfold Boxed at hbox
      have y0 : wr.cell? ⟨w.heap.size, 0, none⟩ = some (gI h.blocks) := by rw [cell_of_row _ _ 0 _ _ _ hbox]; rfl
      have y1 : wr.cell? ⟨w.heap.size, 1, none⟩ = some (.slice (some ⟨gA, oA, none⟩) n c) := by rw [cell_of_row _ _ 1 _ _ _ hbox]; rfl
      have hgw : w.heap.size < wr.heap.size := (Array.getElem?_eq_some_iff.1 hbox).1
      obtain ⟨o, ho⟩ : ∃ o, o = h.cmd j := ⟨_, rfl⟩
      rw [← ho] at hc0 hc1 hc2 hc3 hc4
      have eb : ∀ x, wr.cell? ⟨gA, x, none⟩ = w.cell? ⟨gA, x, none⟩ := fun x => hW.1.cell (p := ⟨gA, x, none⟩) hgA
      have hd0 := (eb _).trans hc0
      have hd1 := (eb _).trans hc1
      have hd2 := (eb _).trans hc2
      have hd3 := (eb _).trans hc3
      have hd4 := (eb _).trans hc4
      have hltz : (j : Int) < (n : Int) := by omega
      have hjl : j < h.cmds.length := by rw [HLEN.out]; exact hlt
      obtain ⟨lf, hlf⟩ : ∃ lf, lf = lastF h j := ⟨_, rfl⟩
      have hlfo : ¬ o.frm ≤ lf := by have := lastF_lt HOKK.out hjl; rw [ho, hlf]; omega
      rw [← hlf]
      have hicb := (HOKK.out j hjl).1
      have hici := isCmdB_iff.1 hicb
      have hmpw : mp < wr.heap.size := hM.lt
      have HO := Lib.hid (show o = h.cmd j ∧ isCmdB h.blocks o = true ∧ o.frm ∉ timesL h j ∧ (-1000000 ≤ o.frm ∧ o.frm ≤ 1000000) ∧ (¬ o.to < 0 → o.kind ≠ 9 → o.to ∉ timesL h j ++ [o.frm] ∧ -1000000 ≤ o.to ∧ o.to ≤ 1000000) from
        ⟨ho, by rw [ho]; exact hicb, by rw [ho]; exact frm_fresh HOKK.out hjl, by rw [ho]; omega, fun h1 h2 => by
          rw [ho] at h1 h2 ⊢
          exact ⟨to_fresh HOKK.out hjl h1 h2, by omega⟩⟩)
      have HN := Lib.hid (fun (W : World) (hb9 : Below (wr.alloc (.cells #[gI o.kind, gI o.block, gI o.value, gI o.frm, gI o.to] 36)).heap.size (wr.alloc (.cells #[gI o.kind, gI o.block, gI o.value, gI o.frm, gI o.to] 36)) W) =>
        (show W.cell? ⟨wr.heap.size, 0, none⟩ = some (gI o.kind) ∧ W.cell? ⟨wr.heap.size, 1, none⟩ = some (gI o.block) ∧ W.cell? ⟨wr.heap.size, 2, none⟩ = some (gI o.value) ∧ W.cell? ⟨wr.heap.size, 3, none⟩ = some (gI o.frm) ∧ W.cell? ⟨wr.heap.size, 4, none⟩ = some (gI o.to) ∧ CW h w (some ⟨gA, oA, none⟩) n c W ∧
            MapOf Try.prog 3 gI gI W mp (ones (timesL h j)) ∧ W.heap[wr.heap.size]? = some (.cells #[gI o.kind, gI o.block, gI o.value, gI o.frm, gI o.to] 36 (0, 0)) from by
          have e : W.heap[wr.heap.size]? = some (.cells #[gI o.kind, gI o.block, gI o.value, gI o.frm, gI o.to] 36 (0, 0)) := (hb9.block _ (by simp)).trans (heap_alloc_new _ _)
          have hB : Below wr.heap.size wr W := (below_alloc0 wr _).trans (hb9.mono (by simp))
          refine ⟨?_, ?_, ?_, ?_, ?_, hW.next hB, hM.below hB hM.lt, e⟩ <;> rw [cell_of_row _ _ _ _ _ _ e] <;> rfl))
      have HU := Lib.hid (fun (W W5 : World) (hg : W.heap[wr.heap.size]? = some (.cells #[gI o.kind, gI o.block, gI o.value, gI o.frm, gI o.to] 36 (0, 0))) (hu : Upd W W5 mp) =>
        (show W5.cell? ⟨wr.heap.size, 0, none⟩ = some (gI o.kind) ∧ W5.cell? ⟨wr.heap.size, 1, none⟩ = some (gI o.block) ∧ W5.cell? ⟨wr.heap.size, 2, none⟩ = some (gI o.value) ∧ W5.cell? ⟨wr.heap.size, 3, none⟩ = some (gI o.frm) ∧ W5.cell? ⟨wr.heap.size, 4, none⟩ = some (gI o.to) ∧ wr.heap.size < W5.heap.size from by
          have e : W5.heap[wr.heap.size]? = some (.cells #[gI o.kind, gI o.block, gI o.value, gI o.frm, gI o.to] 36 (0, 0)) := (hu.block _ (by omega)).trans hg
          refine ⟨?_, ?_, ?_, ?_, ?_, (Array.getElem?_eq_some_iff.1 e).1⟩ <;> rw [cell_of_row _ _ _ _ _ _ e] <;> rfl))
      clear hici hicb hlf hjl ho eb hc0 hc1 hc2 hc3 hc4 hbox hW hM
      by_cases ht : o.to < 0
      · have htd : decide (o.to < 0) = true := by simpa using ht
        have HT := Lib.hid ht
        clear ht
        go_wp2_with (first
          | (go_at_call 38; refine (right_any _ _ o _ _ _ ⟨hb1, hb6⟩ HO.out.2.1).mono ?_; rintro e w9 ⟨rfl, hb9⟩; obtain ⟨q0, q1, q2, q3, q4, hcw9, hm9, hgbw⟩ := HN.out _ hb9; obtain ⟨w5, hlk, hup, hcw5, hm5, hu5⟩ := KA.put hcw9 hmpl hm9 HO.out.2.2.1 HO.out.2.2.2.1; obtain ⟨r0, r1, r2, r3, r4, hgb5⟩ := HU.out _ _ hgbw hu5; have HM5 := Lib.hid hm5; have HC5 := Lib.hid hcw5; clear hm5 hcw5 hm9 hcw9)
          | (go_at_call 24; refine (openX_is htd _).mono ?_; rintro e w' ⟨rfl, rfl⟩))
        clear q0 q1 q2 q3 q4 r0 r1 r2 r3 r4 hlk hup hu5 hb9
        go_roundw
        case rel => exact ⟨j + 1, by omega, by go_num, by rw [lastF_succ, HO.out.1], (show KA h w (some ⟨gA, oA, none⟩) n c mp (j + 1) w5 from ⟨HC5.out, hmpl, by rw [timesL_no (by rw [← HO.out.1]; exact .inl HT.out), ← HO.out.1]; exact HM5.out⟩).next (below_alloc0 _ _)⟩
        case measure => simp [intOf]; omega
      · have htd : decide (o.to < 0) = false := by simpa using ht
        have HT := Lib.hid ht
        clear ht
        by_cases h9 : o.kind = 9
        · have hkb : (o.kind != 9) = false := by simp [h9]
          have H9 := Lib.hid h9
          clear h9
          go_wp2_with (first
            | (go_at_call 38; refine (right_any _ _ o _ _ _ ⟨hb1, hb6⟩ HO.out.2.1).mono ?_; rintro e w9 ⟨rfl, hb9⟩; obtain ⟨q0, q1, q2, q3, q4, hcw9, hm9, hgbw⟩ := HN.out _ hb9; obtain ⟨w5, hlk, hup, hcw5, hm5, hu5⟩ := KA.put hcw9 hmpl hm9 HO.out.2.2.1 HO.out.2.2.2.1; obtain ⟨r0, r1, r2, r3, r4, hgb5⟩ := HU.out _ _ hgbw hu5; have HM5 := Lib.hid hm5; have HC5 := Lib.hid hcw5; clear hm5 hcw5 hm9 hcw9)
            | (go_at_call 24; refine (openX_is htd _).mono ?_; rintro e w' ⟨rfl, rfl⟩))
          clear q0 q1 q2 q3 q4 r0 r1 r2 r3 r4 hlk hup hu5 hb9
          go_roundw
          case rel => exact ⟨j + 1, by omega, by go_num, by rw [lastF_succ, HO.out.1], (show KA h w (some ⟨gA, oA, none⟩) n c mp (j + 1) w5 from ⟨HC5.out, hmpl, by rw [timesL_no (by rw [← HO.out.1]; exact .inr H9.out), ← HO.out.1]; exact HM5.out⟩).next (below_alloc0 _ _)⟩
          case measure => simp [intOf]; omega
        · have hkb : (o.kind != 9) = true := by simp [h9]
          have H9 := Lib.hid h9
          clear h9
          go_wp2_with (first
            | (go_at_call 38; refine (right_any _ _ o _ _ _ ⟨hb1, hb6⟩ HO.out.2.1).mono ?_; rintro e w9 ⟨rfl, hb9⟩; obtain ⟨q0, q1, q2, q3, q4, hcw9, hm9, hgbw⟩ := HN.out _ hb9; obtain ⟨w5, hlk, hup, hcw5, hm5, hu5⟩ := KA.put hcw9 hmpl hm9 HO.out.2.2.1 HO.out.2.2.2.1; obtain ⟨r0, r1, r2, r3, r4, hgb5⟩ := HU.out _ _ hgbw hu5; have HM5 := Lib.hid hm5; have HC5 := Lib.hid hcw5; clear hm5 hcw5 hm9 hcw9)
            | (go_at_call 24; refine (openX_is htd _).mono ?_; rintro e w' ⟨rfl, rfl⟩; obtain ⟨w7, hlk2, hup2, hcw7, hm7, hu7⟩ := KA.put (x := o.to) (HC5.out.alloc (.cells #[gI o.kind, gI o.block, gI o.value, gI o.frm, gI o.to] 36)) hmpl (HM5.out.below (below_alloc0 _ _) HM5.out.lt) (HO.out.2.2.2.2 (by have := HT.out; omega) H9.out).1 (HO.out.2.2.2.2 (by have := HT.out; omega) H9.out).2; have HM7 := Lib.hid hm7; have HC7 := Lib.hid hcw7; clear hm7 hcw7))
          clear q0 q1 q2 q3 q4 r0 r1 r2 r3 r4 hlk hup hu5 hb9 hlk2 hup2 hu7
          go_roundw
          case rel => exact ⟨j + 1, by omega, by go_num, by rw [lastF_succ, HO.out.1], (show KA h w (some ⟨gA, oA, none⟩) n c mp (j + 1) w7 from ⟨HC7.out, hmpl, by rw [timesL_yes (by rw [← HO.out.1]; have := HT.out; omega) (by rw [← HO.out.1]; exact H9.out), ← HO.out.1]; exact HM7.out⟩)⟩
          case measure => simp [intOf]; omega
      -- ]]
    · have hjn : j = n := by omega
      subst hjn
      obtain ⟨hW, hmpl, hM⟩ := hK
      obtain ⟨hrg, hit⟩ := hM.range Try.underlying67
      generalize hM.choose_spec.choose = c0 at hrg hit
      obtain ⟨it, hit0⟩ : ∃ it, it = wr.heap.size := ⟨_, rfl⟩
      have hmi : mp < it := by rw [hit0]; exact hM.lt
      have H2 : ∃ L : List (Int × Int), L.length ≤ (ones (timesL h j)).length ∧ IterOf Try.prog 3 gI gI (wr.alloc (.mapIter (some mp) c0 #[] c0)) mp it (ones (timesL h j)) L ∧ (∀ p ∈ L, p.2 = 1) ∧ CW h w A j c (wr.alloc (.mapIter (some mp) c0 #[] c0)) :=
        ⟨_, Nat.le_refl _, by rw [hit0]; exact hit, fun p hp => by unfold ones at hp; obtain ⟨t, _, rfl⟩ := List.mem_map.1 hp; rfl, hW.alloc _⟩
      have H2 := Lib.hid H2
      have HIT0 := Lib.hid hit0
      clear hit hW hM hlt hit0
      obtain ⟨NL, hNL⟩ : ∃ NL, NL = (ones (timesL h j)).length := ⟨_, rfl⟩
      have HNL := Lib.hid hNL
      clear hNL
      go_wp2_with fail
      rw [← HIT0.out]
      clear hrg
      go_loopg [] NL (fun k wr => ∃ L : List (Int × Int), L.length ≤ k ∧ IterOf Try.prog 3 gI gI wr mp it (ones (timesL h j)) L ∧ (∀ p ∈ L, p.2 = 1) ∧ CW h w A j c wr)
      case atStart => rw [HNL.out, HIT0.out]; have := H2.out; rw [HIT0.out] at this; exact this
      case round =>
        clear H2
        obtain ⟨L, hk, hit, hone, hW⟩ := hrel
        rcases hit.next 0 with ⟨hnil, hrun⟩ | ⟨p, L', w1, hp, hrun, hit1, hu1, hen⟩
        · have hnx : ∀ ty, (Instr.next (.pointer (some ⟨it, 0, none⟩)) false ty).run Try.prog wr = .ok (.tuple #[.bool false]) wr := fun ty => hrun
          have hbox := hW.2
          unfold Boxed at hbox
          have y0 : wr.cell? ⟨w.heap.size, 0, none⟩ = some (gI h.blocks) := by rw [cell_of_row _ _ 0 _ _ _ hbox]; rfl
          have y1 : wr.cell? ⟨w.heap.size, 1, none⟩ = some (.slice A j c) := by rw [cell_of_row _ _ 1 _ _ _ hbox]; rfl
          have HW := Lib.hid hW
          clear hrun hit hone hbox hW hk
          go_wp2_with fail
          clear hnx y0 y1
          go_loopw [72] (fun i wr => ∃ q : Nat, q ≤ j ∧ i = .int .i64 q ∧ CW h w A j c wr) (fun i _ => j - (intOf i).toNat)
          case atStart => exact ⟨0, Nat.zero_le _, rfl, HW.out⟩
          case round =>
            clear HW
            obtain ⟨q, hq, rfl, hW⟩ := hrel
            by_cases hql : q < j
            · obtain ⟨gA, oA, hAe, hgA, hc0, hc1, hc2, hc3, hc4⟩ := hC.get hql
              subst hAe
              have hbox := hW.2
              unfold Boxed at hbox
              have y0 : wr.cell? ⟨w.heap.size, 0, none⟩ = some (gI h.blocks) := by rw [cell_of_row _ _ 0 _ _ _ hbox]; rfl
              have y1 : wr.cell? ⟨w.heap.size, 1, none⟩ = some (.slice (some ⟨gA, oA, none⟩) j c) := by rw [cell_of_row _ _ 1 _ _ _ hbox]; rfl
              have hgw : w.heap.size < wr.heap.size := (Array.getElem?_eq_some_iff.1 hbox).1
              obtain ⟨o, ho⟩ : ∃ o, o = h.cmd q := ⟨_, rfl⟩
              rw [← ho] at hc0 hc1 hc2 hc3 hc4
              have eb : ∀ x, wr.cell? ⟨gA, x, none⟩ = w.cell? ⟨gA, x, none⟩ := fun x => hW.1.cell (p := ⟨gA, x, none⟩) hgA
              have hd0 := (eb _).trans hc0
              have hd1 := (eb _).trans hc1
              have hd2 := (eb _).trans hc2
              have hd3 := (eb _).trans hc3
              have hd4 := (eb _).trans hc4
              have hltz : (q : Int) < (j : Int) := by omega
              have hcon : o.kind = 9 → Calls Try.prog 40 #[.slice (some ⟨gA, oA, none⟩) j c, .func (.func 39) #[] #[.pointer (some ⟨wr.heap.size, 0, none⟩)]] (wr.alloc (.cells #[gI o.kind, gI o.block, gI o.value, gI o.frm, gI o.to] 36)) fun e w' => e = .returned (.bool false) ∧ Below (wr.alloc (.cells #[gI o.kind, gI o.block, gI o.value, gI o.frm, gI o.to] 36)).heap.size (wr.alloc (.cells #[gI o.kind, gI o.block, gI o.value, gI o.frm, gI o.to] 36)) w' := fun h9 =>
                contains_none _ h (some ⟨gA, oA, none⟩) j c wr.heap.size (hC.below (hW.alloc _).1 (Nat.le_refl _)) hl10 fun W k hWb hk => over_no W o (h.cmd k) wr.heap.size ((hWb.block _ (by simp)).trans (heap_alloc_new _ _)) (by
                  have hjl : q < h.cmds.length := by rw [HLEN.out]; exact hql
                  have hkl : k < h.cmds.length := by rw [HLEN.out]; exact hk
                  by_cases e : k = q
                  · subst e; rw [ho]; omega
                  · have h1 := okI_apart HOKK.out hjl hkl e
                    unfold badP at h1
                    rw [← ho] at h1
                    omega)
              have HCON := Lib.hid hcon
              have HW := Lib.hid hW
              clear ho eb hc0 hc1 hc2 hc3 hc4 hbox hW hcon
              by_cases h9 : o.kind = 9
              · have hkb : (o.kind == 9) = true := by simp [h9]
                have hcl := HCON.out h9
                clear h9
                go_wp2_with (go_at_call 40; refine hcl.mono ?_; rintro e w9 ⟨rfl, hb9⟩)
                go_roundw
                case rel => exact ⟨q + 1, by omega, by go_num, (HW.out.alloc _).next hb9⟩
                case measure => simp [intOf]; omega
              · have hkb : (o.kind == 9) = false := by simp [h9]
                clear h9
                go_wp2_with fail
                go_roundw
                case rel => exact ⟨q + 1, by omega, by go_num, HW.out.alloc _⟩
                case measure => simp [intOf]; omega
            · have hqn : q = j := by omega
              subst hqn
              have HW := Lib.hid hW
              have hbox := hW.2
              unfold Boxed at hbox
              have y1 : wr.cell? ⟨w.heap.size, 1, none⟩ = some (.slice A q c) := by rw [cell_of_row _ _ 1 _ _ _ hbox]; rfl
              clear hbox hW
              go_wp2_with fail
              go_ret
              exact ⟨rfl, HW.out.1⟩
        · obtain ⟨t0, v0⟩ := p
          have hv0 : v0 = 1 := hone (t0, v0) (hp.symm.subset (by simp))
          subst hv0
          have hnx : ∀ ty, (Instr.next (.pointer (some ⟨it, 0, none⟩)) false ty).run Try.prog wr = .ok (.tuple #[.bool true, gI t0, gI 1]) w1 := fun ty => hrun
          have hen' : (Instr.entry (.pointer (some ⟨it, 0, none⟩))).run Try.prog w1 = .ok (.tuple #[gI t0, gI 1]) w1 := hen
          have hgw : w.heap.size < it := by omega
          have HE := Lib.hid (show L'.length < gk ∧ ∃ L : List (Int × Int), L.length ≤ L'.length ∧ IterOf Try.prog 3 gI gI w1 mp it (ones (timesL h j)) L ∧ (∀ p ∈ L, p.2 = 1) ∧ CW h w A j c w1 from
            ⟨by have := hp.length_eq; simp at this; omega, L', Nat.le_refl _, hit1, fun p hpm => hone p (hp.symm.subset (by simp [hpm])), hW.1.trans (hu1.below (by omega)), by unfold Boxed; rw [hu1.block _ (by omega)]; exact hW.2⟩)
          clear hrun hen hit hit1 hu1 hone hp hW hk
          go_wp2_with fail
          go_roundg L'.length
          case measure => exact HE.out.1
          case rel => exact HE.out.2

end Go.Proofs.Ytagekhgfoabgbaa
end
