/- Until, Legal and Lie of a valid history. -/
import Derived.Test.YtagekhgfoabgbaaK08

section
/- until: a history up to a time. -/
set_option linter.unusedSimpArgs false
set_option linter.unusedVariables false
namespace Go.Proofs.Ytagekhgfoabgbaa
open Go.RowKit Go.Maps

def cutC (t : Int) (c : Cmd) : Cmd := if t < c.to then ⟨c.kind, c.block, if c.kind = 10 then 0 else c.value, c.frm, -1⟩ else c
def cutL (t : Int) : List Cmd → List Cmd
  | [] => []
  | c :: r => if t < c.frm then [] else cutC t c :: cutL t r
def untilH (h : Hist) (t : Int) : Hist := ⟨h.blocks, cutL t h.cmds⟩
theorem cutL_take {t : Int} : ∀ {l : List Cmd} {j : Nat}, (∀ i c, i < j → l[i]? = some c → ¬ t < c.frm) → (∀ c, l[j]? = some c → t < c.frm) → cutL t l = (l.take j).map (cutC t)
  | [], j, _, _ => by simp [cutL]
  | c :: r, 0, _, h2 => by simp [cutL, h2 c rfl]
  | c :: r, j + 1, h1, h2 => by
    have h0 := h1 0 c (by omega) rfl
    rw [cutL, if_neg h0, List.take_succ_cons, List.map_cons, cutL_take (l := r) (j := j) (fun i c hi hc => h1 (i + 1) c (by omega) (by simpa using hc)) (fun c hc => h2 c (by simpa using hc))]
def cCells (c : Cmd) : List Value := [gI c.kind, gI c.block, gI c.value, gI c.frm, gI c.to]
def cFlat (l : List Cmd) : List Value := l.flatMap cCells
theorem cFlat_snoc (l : List Cmd) (c : Cmd) : cFlat (l ++ [c]) = cFlat l ++ cCells c := by simp [cFlat]
theorem cFlat_get : ∀ {l : List Cmd} {i : Nat} {c : Cmd}, l[i]? = some c → ∀ {k : Nat} {v : Value}, (cCells c)[k]? = some v → (cFlat l)[i * 5 + k]? = some v
  | x :: r, 0, c, h, k, v, hk => by
    simp at h; subst h
    have : k < (cCells x).length := (List.getElem?_eq_some_iff.1 hk).1
    show ((cCells x) ++ cFlat r)[0 * 5 + k]? = _
    rw [Nat.zero_mul, Nat.zero_add, List.getElem?_append_left this]
    exact hk
  | x :: r, i + 1, c, h, k, v, hk => by
    show ((cCells x) ++ cFlat r)[(i + 1) * 5 + k]? = _
    rw [List.getElem?_append_right (by show (cCells x).length ≤ _; simp [cCells]; omega)]
    have := cFlat_get (l := r) (i := i) (by simpa using h) hk
    have e : (i + 1) * 5 + k - (cCells x).length = i * 5 + k := by simp [cCells]; omega
    rw [e]; exact this
/-- A slice of commands of the call's own. -/
theorem row_cmds {w : World} {base : Nat} {v : Value} {l : List Cmd} (h : Row w base 36 5 v l.length (cFlat l)) : ∃ A c, v = .slice A l.length c ∧ l.length ≤ c ∧ CmdsAt w A l.length l := by
  by_cases h0 : l.length = 0
  · obtain ⟨A, c, hv, hc⟩ := row_slice h
    exact ⟨A, c, hv, hc, rfl, fun i x hi => by rw [List.length_eq_zero_iff.1 h0] at hi; simp at hi⟩
  · obtain ⟨g, o, c, hv, hnc, hb, hg, hcells⟩ := row_cells h (by omega)
    refine ⟨_, c, hv, hnc, rfl, fun i x hi => ⟨g, o, rfl, hg, ?_, ?_, ?_, ?_, ?_⟩⟩
    · have := hcells _ _ (cFlat_get hi (k := 0) rfl); simpa [Nat.add_assoc] using this
    · have := hcells _ _ (cFlat_get hi (k := 1) rfl); simpa [Nat.add_assoc] using this
    · have := hcells _ _ (cFlat_get hi (k := 2) rfl); simpa [Nat.add_assoc] using this
    · have := hcells _ _ (cFlat_get hi (k := 3) rfl); simpa [Nat.add_assoc] using this
    · have := hcells _ _ (cFlat_get hi (k := 4) rfl); simpa [Nat.add_assoc] using this
theorem info36 : (Try.prog.info? 36).map (fun i => (i.zero, i.size, i.bytes)) = some (some (.agg #[.int .i64 0, .int .i64 0, .int .i64 0, .int .i64 0, .int .i64 0]), 5, 40) := by kernel_rfl
theorem i24 : (Try.prog.info? 24).map (·.size) = some 2 := by kernel_rfl

/-- The loop of until: j commands are behind it; the history that is made is in block g5. -/
def UW (h : Hist) (t : Int) (w : World) (A : Option Addr) (n c g5 j : Nat) (wr : World) : Prop :=
  ∃ v, CW h w A n c wr ∧ w.heap.size < g5 ∧ wr.heap[g5]? = some (.cells #[gI h.blocks, v] 24 (0, 0)) ∧ wr.heap[w.heap.size + 1]? = some (.cells #[gI 0, .slice none 0 0] 24 (0, 0)) ∧ Row wr w.heap.size 36 5 v j (cFlat ((h.cmds.take j).map (cutC t))) ∧ ∀ i : Nat, i < j → ¬ t < (h.cmd i).frm
def UntilPost (h : Hist) (t : Int) (w : World) (e : Ending) (w' : World) : Prop :=
  ∃ A n c, e = .returned (hV h.blocks A n c) ∧ n ≤ c ∧ CmdsAt w' A n (cutL t h.cmds) ∧ Below w.heap.size w w'
theorem UW.next {h : Hist} {t : Int} {w wr w' : World} {A : Option Addr} {n c g5 j : Nat} (u : UW h t w A n c g5 j wr) (hb : Below wr.heap.size wr w') : UW h t w A n c g5 j w' := by
  obtain ⟨v, h1, h2, h3, h4, h5, h6⟩ := u
  exact ⟨v, h1.next hb, h2, (hb.block _ (Array.getElem?_eq_some_iff.1 h3).1).trans h3, (hb.block _ (Array.getElem?_eq_some_iff.1 h4).1).trans h4, row_below h5 hb, h6⟩
/-- One more command. -/
theorem UW.add {h : Hist} {t : Int} {w wr w4 : World} {A : Option Addr} {n c g5 j : Nat} {v v' : Value} {Y : Obj} (hn : n = h.cmds.length) (hj : j < n) (h1 : CW h w A n c wr) (h2 : w.heap.size < g5) (h3 : wr.heap[g5]? = some (.cells #[gI h.blocks, v] 24 (0, 0))) (h4 : wr.heap[w.heap.size + 1]? = some (.cells #[gI 0, .slice none 0 0] 24 (0, 0)))
    (h5 : Row wr w.heap.size 36 5 v j (cFlat ((h.cmds.take j).map (cutC t)))) (h6 : ∀ i : Nat, i < j → ¬ t < (h.cmd i).frm) (ht : ¬ t < (h.cmd j).frm) (hrow : Row w4 w.heap.size 36 5 v' (j + 1) (cFlat ((h.cmds.take j).map (cutC t)) ++ cCells (cutC t (h.cmd j)))) (hg4 : (wr.alloc Y).grownBy w4 v.ownBlock) (hne : g5 ≠ w.heap.size + 1) :
    w4.heap[g5]? = some (.cells #[gI h.blocks, v] 24 (0, 0)) ∧ UW h t w A n c g5 (j + 1) (w4.setCell ⟨g5, 1, none⟩ v') := by
  have g4 : wr.grownBy w4 v.ownBlock := (World.grownBy_alloc wr Y _).trans hg4
  have hty : ∀ {k : Nat} {cs : Array Value}, wr.heap[k]? = some (.cells cs 24 (0, 0)) → w4.heap[k]? = wr.heap[k]? := fun {k cs} hk => g4.block _ (Array.getElem?_eq_some_iff.1 hk).1 fun e => by
    obtain ⟨_, cs', h⟩ := row_typed h5 _ e.symm
    rw [hk] at h
    injection h with h
    injection h with _ ht _
    exact absurd ht (by decide)
  have e5 := (hty h3).trans h3
  have hu := (Upd.refl w4 g5).set 1 v'
  refine ⟨e5, v', ⟨?_, ?_⟩, h2, ?_, ?_, ?_, fun i hi => ?_⟩
  · exact (h1.1.trans (grown_below' g4 (fun k hk => (row_typed h5 k hk).1) h1.1.size)).trans (hu.below (by omega))
  · unfold Boxed; rw [hu.block _ (by omega), hty h1.2]; exact h1.2
  · rw [heap_setCell_same w4 g5 1 _ _ _ e5]; rfl
  · rw [hu.block _ (Ne.symm hne), hty h4]; exact h4
  · have hc : h.cmds[j]? = some (h.cmd j) := by
      unfold Hist.cmd
      rw [List.getD_eq_getElem?_getD, Int.toNat_natCast, List.getElem?_eq_getElem (by omega)]; rfl
    rw [List.take_add_one, hc]
    simp only [Option.toList_some, List.map_append, List.map_cons, List.map_nil, cFlat_snoc]
    exact row_upd hrow hu (row_ne hrow e5 (by decide))
  · by_cases e : i < j
    · exact h6 i e
    · obtain rfl : i = j := by omega
      exact ht

end Go.Proofs.Ytagekhgfoabgbaa
end

section
/- until, walked. -/
set_option linter.unusedSimpArgs false
set_option linter.unusedVariables false
namespace Go.Proofs.Ytagekhgfoabgbaa
open Go.RowKit Go.Maps

/-- What is handed back, when the loop is left in the world W. -/
theorem UW.fin {h : Hist} {t : Int} {w W : World} {A : Option Addr} {n c g5 j : Nat} (u : UW h t w A n c g5 j W) (hn : h.cmds.length = n) (hj : j ≤ n) (he : ∀ c, h.cmds[j]? = some c → t < c.frm) (hne : g5 ≠ w.heap.size + 1) : ∃ A' c', (W.cell? ⟨g5, 0, none⟩ = some (gI h.blocks) ∧ W.cell? ⟨g5, 1, none⟩ = some (.slice A' j c')) ∧
    (W.cell? ⟨w.heap.size + 1, 0, none⟩ = some (gI 0) ∧ W.cell? ⟨w.heap.size + 1, 1, none⟩ = some (.slice none 0 0)) ∧ (W.frozen? ⟨w.heap.size + 1, 0, none⟩ = false ∧ W.frozen? ⟨w.heap.size + 1, 1, none⟩ = false) ∧
    ((W.setCell ⟨w.heap.size + 1, 0, none⟩ (gI h.blocks)).setCell ⟨w.heap.size + 1, 1, none⟩ (.slice A' j c')).heap[w.heap.size + 1]? = some (.cells #[gI h.blocks, .slice A' j c'] 24 (0, 0)) ∧
    UntilPost h t w (.returned (hV h.blocks A' j c')) ((W.setCell ⟨w.heap.size + 1, 0, none⟩ (gI h.blocks)).setCell ⟨w.heap.size + 1, 1, none⟩ (.slice A' j c')) := by
  obtain ⟨v, h1, h2, h3, h4, h5, h6⟩ := u
  have hl : ((h.cmds.take j).map (cutC t)).length = j := by simp; omega
  have e := cutL_take (t := t) (l := h.cmds) (j := j) (fun i c hi hc => by
    have := h6 i hi
    unfold Hist.cmd at this
    rw [List.getD_eq_getElem?_getD, Int.toNat_natCast, hc] at this
    exact this) he
  obtain ⟨A', c', hv, _⟩ := row_slice h5
  subst hv
  have k0 := heap_setCell_same W (w.heap.size + 1) 0 _ _ (gI h.blocks) h4
  have k1 := heap_setCell_same (W.setCell ⟨w.heap.size + 1, 0, none⟩ (gI h.blocks)) (w.heap.size + 1) 1 _ _ (.slice A' j c') k0
  have hu := ((Upd.refl W (w.heap.size + 1)).set 0 (gI h.blocks)).set 1 (.slice A' j c')
  have h5' : Row ((W.setCell ⟨w.heap.size + 1, 0, none⟩ (gI h.blocks)).setCell ⟨w.heap.size + 1, 1, none⟩ (.slice A' j c')) w.heap.size 36 5 (.slice A' j c') ((h.cmds.take j).map (cutC t)).length (cFlat ((h.cmds.take j).map (cutC t))) := by
    rw [hl]; exact row_upd h5 hu (row_ne h5 h4 (by decide))
  obtain ⟨A2, c2, hv2, hc2, hC2⟩ := row_cmds h5'
  rw [hl] at hv2 hc2 hC2
  injection hv2 with e1 _ e3
  subst e1; subst e3
  refine ⟨A', c', ⟨?_, ?_⟩, ⟨?_, ?_⟩, ⟨frozen_of_row _ _ 0 _ _ h4, frozen_of_row _ _ 1 _ _ h4⟩, k1, A', j, c', rfl, hc2, by rw [e]; exact hC2, h1.1.trans (hu.below (by omega))⟩
  · rw [cell_of_row _ _ 0 _ _ _ h3]; rfl
  · rw [cell_of_row _ _ 1 _ _ _ h3]; rfl
  · rw [cell_of_row _ _ 0 _ _ _ h4]; rfl
  · rw [cell_of_row _ _ 1 _ _ _ h4]; rfl
set_option maxRecDepth 100000 in
set_option maxHeartbeats 4000000 in
theorem until_any (w : World) (h : Hist) (A : Option Addr) (n c : Nat) (t : Int) (hC : CmdsAt w A n h.cmds) (hn : n ≤ 10) :
    Calls Try.prog 27 #[hV h.blocks A n c, gI t] w (UntilPost h t w) := by
  have hlen := hC.1
  have HLEN := Lib.hid hlen
  have hU0 : UW h t w A n c (w.heap.size + 1 + 1) 0 (((w.alloc (.cells #[gI h.blocks, .slice A n c] 24)).alloc (.cells #[gI 0, .slice none 0 0] 24)).alloc (.cells #[gI h.blocks, .slice none 0 0] 24)) := by
    refine ⟨.slice none 0 0, ⟨((below_alloc0 w _).alloc (by simp) _).alloc (by simp; omega) _, ?_⟩, by omega, ?_, ?_, row_nil _ _ _ _, fun i hi => by omega⟩
    · exact ((Below.heap_alloc _ _ _ (by simp; omega)).trans (Below.heap_alloc _ _ _ (by simp))).trans (heap_alloc_new _ _)
    · have := heap_alloc_new ((w.alloc (.cells #[gI h.blocks, .slice A n c] 24)).alloc (.cells #[gI 0, .slice none 0 0] 24)) (.cells #[gI h.blocks, .slice none 0 0] 24)
      simpa using this
    · exact (Below.heap_alloc _ _ _ (by simp)).trans (heap_alloc2_new _ _ _)
  have HU0 := Lib.hid hU0
  clear hlen hU0
  go_enter Try.func27, Try.ntmps27
  go_wp2_with fail
  obtain ⟨g5, hg5⟩ : ∃ g, g = w.heap.size + 1 + 1 := ⟨_, rfl⟩
  obtain ⟨g4, hg4⟩ : ∃ g, g = w.heap.size + 1 := ⟨_, rfl⟩
  rw [← hg5] at HU0
  have hne : g5 ≠ w.heap.size + 1 := by omega
  have HG := Lib.hid (show g5 = w.heap.size + 1 + 1 ∧ g4 = w.heap.size + 1 ∧ g5 ≠ w.heap.size + 1 from ⟨hg5, hg4, hne⟩)
  rw [← hg5, ← hg4]
  clear hg5 hg4 hne
  go_loopw [14] (fun i wr => ∃ j : Nat, j ≤ n ∧ i = .int .i64 j ∧ UW h t w A n c g5 j wr) (fun i _ => n - (intOf i).toNat)
  case atStart => exact ⟨0, Nat.zero_le _, rfl, HU0.out⟩
  case round =>
    clear HU0
    obtain ⟨j, hj, rfl, hU⟩ := hrel
    by_cases hlt : j < n
    · obtain ⟨gA, oA, hAe, hgA, hc0, hc1, hc2, hc3, hc4⟩ := hC.get hlt
      subst hAe
      obtain ⟨o, ho⟩ : ∃ o, o = h.cmd j := ⟨_, rfl⟩
      rw [← ho] at hc0 hc1 hc2 hc3 hc4
      obtain ⟨hW1, hg5w, hg5l⟩ : CW h w (some ⟨gA, oA, none⟩) n c wr ∧ w.heap.size < g5 ∧ g5 < wr.heap.size := by obtain ⟨v, h1, h2, h3, _⟩ := hU; exact ⟨h1, h2, (Array.getElem?_eq_some_iff.1 h3).1⟩
      have eb : ∀ x, wr.cell? ⟨gA, x, none⟩ = w.cell? ⟨gA, x, none⟩ := fun x => hW1.1.cell (p := ⟨gA, x, none⟩) hgA
      have hd0 := (eb _).trans hc0
      have hd1 := (eb _).trans hc1
      have hd2 := (eb _).trans hc2
      have hd3 := (eb _).trans hc3
      have hd4 := (eb _).trans hc4
      have hltz : (j : Int) < (n : Int) := by omega
      have hgw : w.heap.size < wr.heap.size := by omega
      have HO := Lib.hid ho
      have HV := Lib.hid (fun (cs : Array Value) (v : Value) (q3 : (wr.alloc (.cells cs 36)).heap[g5]? = some (.cells #[gI h.blocks, v] 24 (0, 0))) => (show wr.cell? ⟨g5, 1, none⟩ = some v from by
        rw [Below.heap_alloc wr _ g5 hg5l] at q3
        rw [cell_of_row wr g5 1 _ _ _ q3]; rfl))
      clear ho eb hc0 hc1 hc2 hc3 hc4 hW1
      by_cases htf : t < o.frm
      · have hUn := hU.next (below_alloc0 wr (.cells #[gI o.kind, gI o.block, gI o.value, gI o.frm, gI o.to] 36))
        have htfd : decide (t < o.frm) = true := by simpa using htf
        have HFIN := hUn.fin HLEN.out (by omega) (fun c hc => by
          have e : h.cmd j = c := by unfold Hist.cmd; rw [List.getD_eq_getElem?_getD, Int.toNat_natCast, hc]; rfl
          rw [← e, ← HO.out]; exact htf) HG.out.2.2
        clear hUn htf
        obtain ⟨A', c', ⟨x0, x1⟩, ⟨x2, x3⟩, ⟨x4, x5⟩, x6, x7⟩ := HFIN
        rw [← HG.out.2.1] at x2 x3 x4 x5 x6 x7
        have HF := Lib.hid (And.intro x6 x7)
        clear x6 x7 hU
        go_wp2_with fail
        refine bodyPost_ret (v := hV h.blocks A' j c') (results_cell_row rfl _ _ g4 24 _ (0, 0) _ rfl HF.out.1 Try.underlying24 rfl i24) rfl HF.out.2
      · have HTF := Lib.hid htf
        have htfd : decide (t < o.frm) = false := by simpa using htf
        clear htf
        by_cases htt : t < o.to
        · have httd : decide (t < o.to) = true := by simpa using htt
          by_cases hk : o.kind = 10
          · have hkb : (o.kind == 10) = true := by simp [hk]
            have HCUT := Lib.hid (show cutC t o = ⟨o.kind, o.block, 0, o.frm, -1⟩ by unfold cutC; rw [if_pos htt, if_pos hk])
            clear htt hk
            have HX := Lib.hid (hU.next (below_alloc0 wr (.cells #[gI o.kind, gI o.block, gI 0, gI o.frm, gI (-1)] 36)))
            obtain ⟨v, q1, q2, q3, q4, q5, q6⟩ := HX.out
            have hv1 : wr.cell? ⟨g5, 1, none⟩ = some v := HV.out _ _ q3
            have HR := Lib.hid q5
            have HADD := Lib.hid (fun (v' : Value) (w4 : World) (Y : Obj) (hrow : Row w4 w.heap.size 36 5 v' (j + 1) (cFlat ((h.cmds.take j).map (cutC t)) ++ [gI o.kind, gI o.block, gI 0, gI o.frm, gI (-1)])) (hg4 : ((wr.alloc (.cells #[gI o.kind, gI o.block, gI 0, gI o.frm, gI (-1)] 36)).alloc Y).grownBy w4 v.ownBlock) =>
              UW.add HLEN.out.symm hlt q1 q2 q3 q4 q5 q6 (by rw [← HO.out]; have := HTF.out; omega) (v' := v') (by rw [← HO.out, show cutC t o = ⟨o.kind, o.block, 0, o.frm, -1⟩ from HCUT.out]; exact hrow) hg4 HG.out.2.2)
            clear q1 q2 q3 q4 q5 q6 hU
            go_wp2_with (at_builtin; go_must (refine row_append_op w.heap.size rfl _ _ 22 36 _ 5 40 rfl Try.underlying22 info36 (by rfl) (by decide) (row_below HR.out (below_alloc0 _ _)) rfl _ #[gI o.kind, gI o.block, gI 0, gI o.frm, gI (-1)] 36 rfl (heap_alloc2_new _ _ _) rfl (by simp [Value.oneCell']) (by omega) (by unfold maxLen; omega) (by simp only [World.size_alloc]; omega) ?_); intro v' w4 hrow4 hg4 hat4; obtain ⟨A5, c5, hv5, _⟩ := row_slice hrow4; subst hv5; obtain ⟨e5, hU5⟩ := HADD.out _ _ _ (by first | exact hrow4 | (simpa using hrow4)) hg4; have hcell5 := cell_of_row w4 _ 1 _ _ _ e5; have hfr5 := frozen_of_row w4 _ 1 _ _ e5; have HU5 := Lib.hid hU5; clear e5 hU5 hrow4 hg4 hat4)
            go_roundw
            case rel => exact ⟨j + 1, by omega, by go_num, HU5.out⟩
            case measure => simp [intOf]; omega

          · have hkb : (o.kind == 10) = false := by simp [hk]
            have HCUT := Lib.hid (show cutC t o = ⟨o.kind, o.block, o.value, o.frm, -1⟩ by unfold cutC; rw [if_pos htt, if_neg hk])
            clear htt hk
            have HX := Lib.hid (hU.next (below_alloc0 wr (.cells #[gI o.kind, gI o.block, gI o.value, gI o.frm, gI (-1)] 36)))
            obtain ⟨v, q1, q2, q3, q4, q5, q6⟩ := HX.out
            have hv1 : wr.cell? ⟨g5, 1, none⟩ = some v := HV.out _ _ q3
            have HR := Lib.hid q5
            have HADD := Lib.hid (fun (v' : Value) (w4 : World) (Y : Obj) (hrow : Row w4 w.heap.size 36 5 v' (j + 1) (cFlat ((h.cmds.take j).map (cutC t)) ++ [gI o.kind, gI o.block, gI o.value, gI o.frm, gI (-1)])) (hg4 : ((wr.alloc (.cells #[gI o.kind, gI o.block, gI o.value, gI o.frm, gI (-1)] 36)).alloc Y).grownBy w4 v.ownBlock) =>
              UW.add HLEN.out.symm hlt q1 q2 q3 q4 q5 q6 (by rw [← HO.out]; have := HTF.out; omega) (v' := v') (by rw [← HO.out, show cutC t o = ⟨o.kind, o.block, o.value, o.frm, -1⟩ from HCUT.out]; exact hrow) hg4 HG.out.2.2)
            clear q1 q2 q3 q4 q5 q6 hU
            go_wp2_with (at_builtin; go_must (refine row_append_op w.heap.size rfl _ _ 22 36 _ 5 40 rfl Try.underlying22 info36 (by rfl) (by decide) (row_below HR.out (below_alloc0 _ _)) rfl _ #[gI o.kind, gI o.block, gI o.value, gI o.frm, gI (-1)] 36 rfl (heap_alloc2_new _ _ _) rfl (by simp [Value.oneCell']) (by omega) (by unfold maxLen; omega) (by simp only [World.size_alloc]; omega) ?_); intro v' w4 hrow4 hg4 hat4; obtain ⟨A5, c5, hv5, _⟩ := row_slice hrow4; subst hv5; obtain ⟨e5, hU5⟩ := HADD.out _ _ _ (by first | exact hrow4 | (simpa using hrow4)) hg4; have hcell5 := cell_of_row w4 _ 1 _ _ _ e5; have hfr5 := frozen_of_row w4 _ 1 _ _ e5; have HU5 := Lib.hid hU5; clear e5 hU5 hrow4 hg4 hat4)
            go_roundw
            case rel => exact ⟨j + 1, by omega, by go_num, HU5.out⟩
            case measure => simp [intOf]; omega

        · have httd : decide (t < o.to) = false := by simpa using htt
          have HCUT := Lib.hid (show cutC t o = o by unfold cutC; rw [if_neg htt])
          clear htt
          have HX := Lib.hid (hU.next (below_alloc0 wr (.cells #[gI o.kind, gI o.block, gI o.value, gI o.frm, gI o.to] 36)))
          obtain ⟨v, q1, q2, q3, q4, q5, q6⟩ := HX.out
          have hv1 : wr.cell? ⟨g5, 1, none⟩ = some v := HV.out _ _ q3
          have HR := Lib.hid q5
          have HADD := Lib.hid (fun (v' : Value) (w4 : World) (Y : Obj) (hrow : Row w4 w.heap.size 36 5 v' (j + 1) (cFlat ((h.cmds.take j).map (cutC t)) ++ [gI o.kind, gI o.block, gI o.value, gI o.frm, gI o.to])) (hg4 : ((wr.alloc (.cells #[gI o.kind, gI o.block, gI o.value, gI o.frm, gI o.to] 36)).alloc Y).grownBy w4 v.ownBlock) =>
            UW.add HLEN.out.symm hlt q1 q2 q3 q4 q5 q6 (by rw [← HO.out]; have := HTF.out; omega) (v' := v') (by rw [← HO.out, show cutC t o = o from HCUT.out]; exact hrow) hg4 HG.out.2.2)
          clear q1 q2 q3 q4 q5 q6 hU
          go_wp2_with (at_builtin; go_must (refine row_append_op w.heap.size rfl _ _ 22 36 _ 5 40 rfl Try.underlying22 info36 (by rfl) (by decide) (row_below HR.out (below_alloc0 _ _)) rfl _ #[gI o.kind, gI o.block, gI o.value, gI o.frm, gI o.to] 36 rfl (heap_alloc2_new _ _ _) rfl (by simp [Value.oneCell']) (by omega) (by unfold maxLen; omega) (by simp only [World.size_alloc]; omega) ?_); intro v' w4 hrow4 hg4 hat4; obtain ⟨A5, c5, hv5, _⟩ := row_slice hrow4; subst hv5; obtain ⟨e5, hU5⟩ := HADD.out _ _ _ (by first | exact hrow4 | (simpa using hrow4)) hg4; have hcell5 := cell_of_row w4 _ 1 _ _ _ e5; have hfr5 := frozen_of_row w4 _ 1 _ _ e5; have HU5 := Lib.hid hU5; clear e5 hU5 hrow4 hg4 hat4)
          go_roundw
          case rel => exact ⟨j + 1, by omega, by go_num, HU5.out⟩
          case measure => simp [intOf]; omega

    · have hjn : j = n := by omega
      subst hjn
      have HFIN := hU.fin HLEN.out (Nat.le_refl _) (fun c hc => by rw [List.getElem?_eq_none (by rw [HLEN.out]; exact Nat.le_refl _)] at hc; cases hc) HG.out.2.2
      obtain ⟨A', c', ⟨x0, x1⟩, ⟨x2, x3⟩, ⟨x4, x5⟩, x6, x7⟩ := HFIN
      rw [← HG.out.2.1] at x2 x3 x4 x5 x6 x7
      have HF := Lib.hid (And.intro x6 x7)
      clear x6 x7 hU
      go_wp2_with fail
      refine bodyPost_ret (v := hV h.blocks A' j c') (results_cell_row rfl _ _ g4 24 _ (0, 0) _ rfl HF.out.1 Try.underlying24 rfl i24) rfl HF.out.2

end Go.Proofs.Ytagekhgfoabgbaa
end

section
/- Legal and Until of a valid history. -/
set_option linter.unusedSimpArgs false
set_option linter.unusedVariables false
namespace Go.Proofs.Ytagekhgfoabgbaa
open Go.RowKit Go.Maps

/-- A history that the statements look at. -/
structure Vd (h : Hist) : Prop where
  chk : checkP h
  blocks : h.blocks ≤ 2
  few : h.cmds.length ≤ 6
theorem validB_iff {h : Hist} : validB h = true ↔ Vd h := by
  unfold validB
  simp only [decide_eq_true_eq]
  exact ⟨fun ⟨a, b, c⟩ => ⟨a, b, c⟩, fun ⟨a, b, c⟩ => ⟨a, b, c⟩⟩
theorem Vd.ok {h : Hist} (v : Vd h) : HistOk h := by
  obtain ⟨⟨h1, _, _, hok⟩, h2, h3⟩ := v
  refine ⟨⟨h1, h2⟩, h3, fun n hn => ?_, fun n hn => ?_⟩
  · have := (isCmdB_iff.1 (hok n hn).1).2.2.2; omega
  · have := (isCmdB_iff.1 (hok n hn).1).2.2.2; omega
def legalP (h : Hist) : Prop := ∃ s, Reach h s ∧ fullS h s
theorem EndsPost.legal {h : Hist} {w w' : World} {x : Ending} (he : EndsPost h w x w') : ∃ E A c, x = .returned (.slice A E c) ∧ (0 < E ↔ legalP h) ∧ Below w.heap.size w w' := by
  obtain ⟨E, v, hx, hrow, hE, hall, _, hb⟩ := he
  obtain ⟨A, c, hv, _⟩ := row_slice hrow
  refine ⟨E.length, A, c, by rw [hx, hv], ⟨fun h0 => ?_, fun ⟨s, hr, hf⟩ => ?_⟩, hb⟩
  · obtain ⟨p, hp⟩ := List.exists_mem_of_length_pos h0
    obtain ⟨_, _, h1, h2⟩ := hE p hp
    exact ⟨_, h1.reach, h2⟩
  · obtain ⟨p, hp, _⟩ := hall s hr hf
    exact List.length_pos_of_mem hp
def LegalPost (h : Hist) (w : World) (e : Ending) (w' : World) : Prop := ∃ lb : Bool, e = .returned (.tuple #[.bool lb, .int .i64 0]) ∧ (lb = true ↔ legalP h) ∧ Below w.heap.size w w'
set_option maxHeartbeats 1000000 in
theorem legal_any (w : World) (h : Hist) (A : Option Addr) (n c : Nat) (v : Vd h) (hC : CmdsAt w A n h.cmds) (hnc : n ≤ c) :
    Calls Try.prog 9 #[hV h.blocks A n c] w (LegalPost h w) := by
  have hCW0 : CW h w A n c (w.alloc (.cells #[gI h.blocks, .slice A n c] 24)) := ⟨below_alloc0 _ _, heap_alloc_new _ _⟩
  have hcw : ∀ W, Below (w.alloc (.cells #[gI h.blocks, .slice A n c] 24)).heap.size (w.alloc (.cells #[gI h.blocks, .slice A n c] 24)) W → W.cell? ⟨w.heap.size, 0, none⟩ = some (gI h.blocks) ∧ W.cell? ⟨w.heap.size, 1, none⟩ = some (.slice A n c) ∧ Below w.heap.size w W ∧ CmdsAt W A n h.cmds := fun W hW => by
    have hx := (hCW0.next hW).2
    unfold Boxed at hx
    exact ⟨by rw [cell_of_row _ _ 0 _ _ _ hx]; rfl, by rw [cell_of_row _ _ 1 _ _ _ hx]; rfl, (hCW0.next hW).1, hC.below (hCW0.next hW).1 (Nat.le_refl _)⟩
  have HCW := Lib.hid hcw
  clear hcw
  have hck := check_any (w.alloc (.cells #[gI h.blocks, .slice A n c] 24)) h A n c v.chk (HCW.out _ (Below.refl _ _)).2.2.2 hnc
  go_enter Try.func9, Try.ntmps9
  go_wp2_with (first
    | (go_at_call 22; refine hck.mono ?_; rintro e w9 ⟨rfl, hb9⟩; obtain ⟨y0, y1, hbl, hC9⟩ := HCW.out _ hb9; have hends := ends_any w9 h A n c v.ok hC9 hnc)
    | (go_at_call 23; refine hends.mono ?_; intro e w10 he; obtain ⟨E, A2, c2, rfl, hE, hb10⟩ := he.legal))
  go_ret2
  refine ⟨decide (0 < E), ?_, by rw [← hE]; simp, hbl.trans (hb10.mono hbl.size)⟩
  congr 2
  simp
def UntilPost2 (h : Hist) (t : Int) (w : World) (e : Ending) (w' : World) : Prop :=
  ∃ A n c, e = .returned (.tuple #[hV h.blocks A n c, .int .i64 0]) ∧ n ≤ c ∧ CmdsAt w' A n (cutL t h.cmds) ∧ Below w.heap.size w w'

theorem CmdsAt.apart {w w' : World} {A : Option Addr} {n g : Nat} {cs : List Cmd} {c : Array Value} {t : TypeId} (h : CmdsAt w A n cs) (hg : w.heap[g]? = some (.cells c t (0, 0))) (hc : c.size ≤ 4) (hu : Upd w w' g) : CmdsAt w' A n cs := by
  refine ⟨h.1, fun i x hx => ?_⟩
  obtain ⟨gA, o, hA, hgA, h0, h1, h2, h3, h4⟩ := h.2 i x hx
  have hne : gA ≠ g := fun e => by
    subst e
    rw [cell_of_row w gA _ _ _ _ hg, Array.getElem?_eq_none (by omega)] at h4
    cases h4
  have e : ∀ k, w'.cell? ⟨gA, k, none⟩ = w.cell? ⟨gA, k, none⟩ := fun k => hu.cell gA k hne
  exact ⟨gA, o, hA, by rw [hu.size]; exact hgA, by rw [e]; exact h0, by rw [e]; exact h1, by rw [e]; exact h2, by rw [e]; exact h3, by rw [e]; exact h4⟩
set_option maxHeartbeats 1000000 in
theorem untilX_any (w : World) (h : Hist) (A : Option Addr) (n c : Nat) (t : Int) (v : Vd h) (hC : CmdsAt w A n h.cmds) (hnc : n ≤ c) (ht : 0 ≤ t ∧ t ≤ 999) :
    Calls Try.prog 11 #[hV h.blocks A n c, gI t] w (UntilPost2 h t w) := by
  have hn10 : n ≤ 10 := by rw [← hC.1]; have := v.few; omega
  have hwit : wi t 0 999 = true := (wi_iff _ _ _).2 ht
  obtain ⟨W0, hW0⟩ : ∃ W0, W0 = (w.alloc (.cells #[gI h.blocks, .slice A n c] 24)).alloc (.cells #[gI 0, .slice none 0 0] 24) := ⟨_, rfl⟩
  have hB0 : Below w.heap.size w W0 := by rw [hW0]; exact (below_alloc0 w _).alloc (by simp) _
  have hx0 : W0.heap[w.heap.size]? = some (.cells #[gI h.blocks, .slice A n c] 24 (0, 0)) := by rw [hW0]; exact (Below.heap_alloc _ _ _ (by simp)).trans (heap_alloc_new _ _)
  have hx1 : W0.heap[w.heap.size + 1]? = some (.cells #[gI 0, .slice none 0 0] 24 (0, 0)) := by rw [hW0]; exact heap_alloc2_new _ _ _
  have hs0 : w.heap.size + 1 < W0.heap.size := (Array.getElem?_eq_some_iff.1 hx1).1
  have hcw : ∀ W, Below W0.heap.size W0 W → W.cell? ⟨w.heap.size, 0, none⟩ = some (gI h.blocks) ∧ W.cell? ⟨w.heap.size, 1, none⟩ = some (.slice A n c) ∧ Below w.heap.size w W ∧ CmdsAt W A n h.cmds ∧ W.heap[w.heap.size + 1]? = some (.cells #[gI 0, .slice none 0 0] 24 (0, 0)) := fun W hW => by
    have e0 := (hW.block _ (by omega)).trans hx0
    have hb := hB0.trans (hW.mono hB0.size)
    exact ⟨by rw [cell_of_row _ _ 0 _ _ _ e0]; rfl, by rw [cell_of_row _ _ 1 _ _ _ e0]; rfl, hb, hC.below hb (Nat.le_refl _), (hW.block _ hs0).trans hx1⟩
  have HCW := Lib.hid hcw
  have hck := check_any W0 h A n c v.chk (HCW.out _ (Below.refl _ _)).2.2.2.1 hnc
  rw [hW0] at hck
  have HW0 := Lib.hid hW0
  have HWI := Lib.hid hwit
  clear hcw hB0 hx0 hx1 hs0 hW0 hwit
  go_enter Try.func11, Try.ntmps11
  go_wp2_with (first
    | (go_at_call 22; refine hck.mono ?_; rintro e w9 ⟨rfl, hb9⟩; rw [← HW0.out] at hb9; obtain ⟨y0, y1, hbl, hC9, y4⟩ := HCW.out _ hb9; have HY4 := Lib.hid y4; clear y4; have hun := until_any w9 h A n c t hC9 hn10)
    | (go_at_call 28; refine (within_is _ _ _ HWI.out _).mono ?_; rintro e w' ⟨rfl, rfl⟩)
    | (go_at_call 27; refine hun.mono ?_; rintro e w10 ⟨A2, n2, c2, rfl, hnc2, hC2, hb10⟩; have h41 := (hb10.block (w.heap.size + 1) (Array.getElem?_eq_some_iff.1 HY4.out).1).trans HY4.out; have z0 := cell_of_row w10 _ 0 _ _ _ h41; have z1 := cell_of_row w10 _ 1 _ _ _ h41; have f0 := frozen_of_row w10 _ 0 _ _ h41; have f1 := frozen_of_row w10 _ 1 _ _ h41; have H41 := Lib.hid h41; clear h41))
  have k0 := heap_setCell_same w10 (w.heap.size + 1) 0 _ _ (gI h.blocks) H41.out
  have k1 := heap_setCell_same (w10.setCell ⟨w.heap.size + 1, 0, none⟩ (gI h.blocks)) (w.heap.size + 1) 1 _ _ (.slice A2 n2 c2) k0
  have hu := ((Upd.refl w10 (w.heap.size + 1)).set 0 (gI h.blocks)).set 1 (.slice A2 n2 c2)
  have hcx := CmdsAt.apart hC2 H41.out (by simp) hu
  have hbx := (hbl.trans (hb10.mono hbl.size)).trans (hu.below (B := w.heap.size) (by omega))
  have c0 : ((w10.setCell ⟨w.heap.size + 1, 0, none⟩ (gI h.blocks)).setCell ⟨w.heap.size + 1, 1, none⟩ (.slice A2 n2 c2)).cell? ⟨w.heap.size + 1, 0, none⟩ = some (gI h.blocks) := by rw [cell_of_row _ _ 0 _ _ _ k1]; rfl
  have c1 : ((w10.setCell ⟨w.heap.size + 1, 0, none⟩ (gI h.blocks)).setCell ⟨w.heap.size + 1, 1, none⟩ (.slice A2 n2 c2)).cell? ⟨w.heap.size + 1, 1, none⟩ = some (.slice A2 n2 c2) := by rw [cell_of_row _ _ 1 _ _ _ k1]; rfl
  refine bodyPost_ret (v := .tuple #[hV h.blocks A2 n2 c2, .int .i64 0]) ?_ rfl ⟨A2, n2, c2, rfl, hnc2, hcx, hbx⟩
  simp [results, Try.f11, go_sem, c0, c1]

end Go.Proofs.Ytagekhgfoabgbaa
end

section
/- The sort of the ended commands by their ends. -/
set_option linter.unusedSimpArgs false
set_option linter.unusedVariables false
namespace Go.Proofs.Ytagekhgfoabgbaa
open Go.RowKit Go.Maps

set_option maxHeartbeats 1000000 in
theorem lie1_any (W : World) (h : Hist) (A : Option Addr) (n c g x y : Nat) (hg : W.heap[g]? = some (.cells #[gI h.blocks, .slice A n c] 24 (0, 0))) (hC : CmdsAt W A n h.cmds) (hx : x < n) (hy : y < n) (hb : ∀ k : Nat, k < n → -1 ≤ (h.cmd k).to ∧ (h.cmd k).to ≤ 999) :
    Calls Try.prog 26 #[gI x, gI y, .pointer (some ⟨g, 0, none⟩)] W fun e w' => e = .returned (.int .i64 ((h.cmd x).to - (h.cmd y).to)) ∧ ∃ q, w' = W.drewN q := by
  obtain ⟨gA, oA, hAe, hgA, _, _, _, _, hx4⟩ := hC.get hx
  obtain ⟨gA', oA', hAe', _, _, _, _, _, hy4⟩ := hC.get hy
  subst hAe
  injection hAe' with hAe'
  injection hAe' with e1 e2 _
  subst e1; subst e2
  have x1 : W.cell? ⟨g, 1, none⟩ = some (.slice (some ⟨gA, oA, none⟩) n c) := by rw [cell_of_row _ _ 1 _ _ _ hg]; rfl
  obtain ⟨hb1, hb2⟩ := hb x hx
  obtain ⟨hb3, hb4⟩ := hb y hy
  obtain ⟨tx, htx⟩ : ∃ t, t = (h.cmd x).to := ⟨_, rfl⟩
  obtain ⟨ty, hty⟩ : ∃ t, t = (h.cmd y).to := ⟨_, rfl⟩
  rw [← htx] at hx4 hb1 hb2 ⊢
  rw [← hty] at hy4 hb3 hb4 ⊢
  have hx0 : (0 : Int) ≤ (x : Int) := by omega
  have hx1 : (x : Int) < (n : Int) := by omega
  have hy0 : (0 : Int) ≤ (y : Int) := by omega
  have hy1 : (y : Int) < (n : Int) := by omega
  clear htx hty hb hg hC
  go_enter Try.func26, Try.ntmps26
  go_wp2_with fail
  go_quiet (fail)
  go_wp2
  go_ret
  exact ⟨by first | rfl | (rw [IntWalk.i64_in _ (by omega)]), _, rfl⟩

open Go.Sort in
theorem key_swo {α : Type} [Inhabited α] (f : α → Int) : SWO (ltOf fun x y => f x - f y) where
  irrefl x := by simp [ltOf]
  trans x y z h1 h2 := by
    simp only [ltOf, decide_eq_true_eq] at *
    omega
  ntrans x y z h1 h2 := by
    simp only [ltOf, decide_eq_false_iff_not, Int.not_lt] at *
    omega
open Go.Sort in
/-- slices.SortFunc over numbers of commands: they come in the order of their ends. -/
theorem sortEnded_any (w0 w : World) (h : Hist) (A : Option Addr) (m c g off cap : Nat) (L : List (Fin (m + 1))) (cs : Array Value) (hC : CmdsAt w0 A (m + 1) h.cmds) (hb0 : Below w0.heap.size w0 w) (hbox : w.heap[w0.heap.size]? = some (.cells #[gI h.blocks, .slice A (m + 1) c] 24 (0, 0)))
    (hg : w.heap[g]? = some (.cells cs 3 (0, 0))) (hgw : w0.heap.size < g) (hF : ∀ (i : Nat) (p : Fin (m + 1)), L[i]? = some p → w.cell? ⟨g, off + i, none⟩ = some (gI (p.1 : Nat))) (hlen : L.length ≤ 1000000) (hb : ∀ k : Nat, k < m + 1 → -1 ≤ (h.cmd k).to ∧ (h.cmd k).to ≤ 999) :
    Calls Try.prog 25 #[.slice (some ⟨g, off, none⟩) L.length cap, .func (.func 26) #[] #[.pointer (some ⟨w0.heap.size, 0, none⟩)]] w fun e w' => e = .returned (.tuple #[]) ∧ w.grownBy w' (some g) ∧
      ∃ L' : List (Fin (m + 1)), L'.Perm L ∧ (∀ (i j : Nat) (p q : Fin (m + 1)), i < j → L'[i]? = some p → L'[j]? = some q → (h.cmd (p.1 : Nat)).to ≤ (h.cmd (q.1 : Nat)).to) ∧ ∀ (i : Nat) (p : Fin (m + 1)), L'[i]? = some p → w'.cell? ⟨g, off + i, none⟩ = some (gI (p.1 : Nat)) := by
  have hgl : g < w.heap.size := (Array.getElem?_eq_some_iff.1 hg).1
  obtain ⟨enc, henc⟩ : ∃ enc : Fin (m + 1) → Value, enc = fun i => gI (i.1 : Nat) := ⟨_, rfl⟩
  have h1 : OneCell enc := fun i => by rw [henc]; rfl
  have hblk : ∀ (q : Nat) (os : Array Obj) (dk : Array (Fin (m + 1))) (k : Nat), k < w.heap.size → k ≠ g → (sortWorld enc w g off q dk os).heap[k]? = w.heap[k]? := fun q os dk k hk hkg => by
    unfold sortWorld
    rw [heap_grow_old _ _ (by rw [show (putRow enc (Sort.ahead w q) g off dk).heap.size = w.heap.size by simp [putRow, mapBlock, Sort.ahead]]; exact hk)]
    simp only [putRow, mapBlock, Sort.ahead, Array.getElem?_modify]
    rw [if_neg (fun e => hkg e.symm)]
  have hsz : ∀ (q : Nat) (os : Array Obj) (dk : Array (Fin (m + 1))), w.heap.size ≤ (sortWorld enc w g off q dk os).heap.size := fun q os dk => by simp [sortWorld, putRow, mapBlock, Sort.ahead]
  have hbel : ∀ (q : Nat) (os : Array Obj) (dk : Array (Fin (m + 1))), Below w0.heap.size w0 (sortWorld enc w g off q dk os) := fun q os dk =>
    ⟨hb0.os, hb0.tape, hb0.output, Nat.le_trans hb0.size (hsz q os dk), fun k hk => (hblk q os dk k (by have := hb0.size; omega) (by omega)).trans (hb0.block k hk)⟩
  have hcmp : CmpLays1 Try.prog 26 #[.pointer (some ⟨w0.heap.size, 0, none⟩)] enc (fun x y => (h.cmd (x.1 : Nat)).to - (h.cmd (y.1 : Nat)).to) g off L.toArray.size w := fun q os dk hs x y => by
    have hB := hbel q os dk
    have := lie1_any (sortWorld enc w g off q dk os) h A (m + 1) c w0.heap.size x.1 y.1 ((hblk q os dk _ (Array.getElem?_eq_some_iff.1 hbox).1 (by omega)).trans hbox) (hC.below hB (Nat.le_refl _)) x.2 y.2 hb
    rw [henc] at this ⊢
    refine this.mono ?_
    rintro e w' ⟨he, q', hq⟩
    exact ⟨he, q', #[], by rw [hq, grow_empty]⟩
  have hH : Holds enc w g off L.toArray := fun j hj => by
    have hj' : j < L.length := by simpa using hj
    have e1 : L.toArray[j]! = L[j] := by rw [getElem!_pos _ j (by simpa using hj')]; simp
    rw [e1, henc]
    exact ⟨hF j _ (List.getElem?_eq_getElem hj'), frozen_of_row w g _ cs _ hg⟩
  have hs := Any.slices_SortFunc Try.laidSortEnded enc h1 _ (key_swo fun x : Fin (m + 1) => (h.cmd (x.1 : Nat)).to) 26 #[.pointer (some ⟨w0.heap.size, 0, none⟩)] g off cap L.toArray w (enters_of Try.func26 (by kernel_rfl) rfl) hcmp hH hgl (by simp; omega)
  change Calls Try.prog 25 _ _ _ at hs
  have es : L.toArray.size = L.length := by simp
  rw [es] at hs
  refine hs.mono ?_
  rintro e w' ⟨rfl, d', q, os, hp, hsort, rfl⟩
  obtain ⟨hp1, _, hp3⟩ := hp
  replace hp1 : d'.size = L.length := by simpa using hp1
  have hperm : d'.toList.Perm L := by
    have e1 : d'.extract 0 L.length = d' := by rw [← hp1]; simp
    have e2 : L.toArray.extract 0 L.length = L.toArray := by
      conv => lhs; rw [← es]
      simp
    rw [e1, e2] at hp3
    simpa using hp3
  refine ⟨rfl, ⟨rfl, rfl, rfl, hsz q os d', fun k hk hkg => hblk q os d' k hk fun e => hkg (by rw [e])⟩, d'.toList, hperm, fun i j p r hij hi hj => ?_, fun i p hi => ?_⟩
  · have hjl : j < L.length := by have := (List.getElem?_eq_some_iff.1 hj).1; simp at this; omega
    have h3 := hsort i j (Nat.zero_le _) hij hjl
    have ei : d'[i]! = p := by
      have hi' : i < d'.size := by omega
      rw [getElem!_pos d' i hi']
      rw [Array.getElem?_toList, Array.getElem?_eq_getElem hi'] at hi
      injection hi
    have ej : d'[j]! = r := by
      have hj' : j < d'.size := by omega
      rw [getElem!_pos d' j hj']
      rw [Array.getElem?_toList, Array.getElem?_eq_getElem hj'] at hj
      injection hj
    rw [ei, ej] at h3
    simp only [ltOf, decide_eq_false_iff_not, Int.not_lt] at h3
    omega
  · have hisz : i < d'.size := by simpa using (List.getElem?_eq_some_iff.1 hi).1
    have e1 : d'[i]! = p := by
      rw [getElem!_pos d' i hisz]
      rw [Array.getElem?_toList, Array.getElem?_eq_getElem hisz] at hi
      injection hi
    have hW := holds_sortWorld enc w g off q L.toArray d' os hgl hH (by simpa using hp1)
    have := (hW i hisz).1
    rw [e1, henc] at this
    rw [henc]
    exact this

end Go.Proofs.Ytagekhgfoabgbaa
end

section
/- A history up to a time is valid; Lie. -/
set_option linter.unusedSimpArgs false
set_option linter.unusedVariables false
namespace Go.Proofs.Ytagekhgfoabgbaa
open Go.RowKit Go.Maps

theorem cutL_at {t : Int} : ∀ {l : List Cmd} {i : Nat} {c' : Cmd}, (cutL t l)[i]? = some c' → ∃ c, l[i]? = some c ∧ c' = cutC t c ∧ ¬ t < c.frm
  | c :: r, i, c', hc => by
    unfold cutL at hc
    split at hc
    · simp at hc
    · rename_i ht
      cases i with
      | zero => simp at hc; exact ⟨c, rfl, hc.symm, ht⟩
      | succ i =>
        obtain ⟨c1, h1, h2, h3⟩ := cutL_at (l := r) (i := i) (by simpa using hc)
        exact ⟨c1, by simpa using h1, h2, h3⟩
theorem cutL_len (t : Int) : ∀ l : List Cmd, (cutL t l).length ≤ l.length
  | [] => Nat.le_refl _
  | c :: r => by
    unfold cutL
    split
    · simp
    · have := cutL_len t r; simp; omega
theorem cmd_at {h : Hist} {i : Nat} (hi : i < h.cmds.length) : h.cmds[i]? = some (h.cmd i) := by
  unfold Hist.cmd
  rw [List.getD_eq_getElem?_getD, Int.toNat_natCast, List.getElem?_eq_getElem hi]; rfl
theorem cmd_of {h : Hist} {i : Nat} {c : Cmd} (hi : h.cmds[i]? = some c) : h.cmd i = c := by
  unfold Hist.cmd
  rw [List.getD_eq_getElem?_getD, Int.toNat_natCast, hi]; rfl
/-- The commands of a history up to a time. -/
theorem until_cmd {h : Hist} {t : Int} {i : Nat} (hi : i < (untilH h t).cmds.length) : i < h.cmds.length ∧ (untilH h t).cmd i = cutC t (h.cmd i) ∧ (h.cmd i).frm ≤ t := by
  obtain ⟨c, h1, h2, h3⟩ := cutL_at (cmd_at hi)
  have := cmd_of h1
  exact ⟨(List.getElem?_eq_some_iff.1 h1).1, by rw [h2, this], by rw [this]; omega⟩
theorem cutC_frm (t : Int) (c : Cmd) : (cutC t c).frm = c.frm := by unfold cutC; split <;> rfl
theorem cutC_kind (t : Int) (c : Cmd) : (cutC t c).kind = c.kind := by unfold cutC; split <;> rfl
theorem cutC_block (t : Int) (c : Cmd) : (cutC t c).block = c.block := by unfold cutC; split <;> rfl
theorem cutC_to (t : Int) (c : Cmd) : (t < c.to ∧ (cutC t c).to = -1) ∨ (¬ t < c.to ∧ (cutC t c).to = c.to) := by unfold cutC; split <;> simp_all
theorem cutC_value (t : Int) (c : Cmd) : (cutC t c).value = c.value ∨ (t < c.to ∧ c.kind = 10 ∧ (cutC t c).value = 0) := by
  unfold cutC
  split
  · by_cases hk : c.kind = 10
    · right; exact ⟨‹_›, hk, by simp [hk]⟩
    · left; simp [hk]
  · exact .inl rfl
theorem cutC_value2 (t : Int) (c : Cmd) (h1 : t < c.to) (h2 : c.kind = 10) : (cutC t c).value = 0 := by unfold cutC; rw [if_pos h1]; simp [h2]
theorem checkP_cut {h : Hist} {t : Int} (hc : checkP h) (ht : 0 ≤ t) : checkP (untilH h t) := by
  obtain ⟨h1, h2, h3, hok⟩ := hc
  have hlen := cutL_len t h.cmds
  refine ⟨h1, h2, by show (cutL t h.cmds).length ≤ 10; omega, fun i hi => ?_⟩
  obtain ⟨i1, i2, i3⟩ := until_cmd hi
  refine ⟨?_, fun k hk hne => ?_⟩
  · rw [i2]
    have := isCmdB_iff.1 (hok i i1).1
    refine isCmdB_iff.2 ?_
    rw [cutC_frm, cutC_kind, cutC_block]
    have ht' := cutC_to t (h.cmd i)
    have hv := cutC_value t (h.cmd i)
    have hv2 := cutC_value2 t (h.cmd i)
    show _ ∧ _ ∧ _ ∧ _
    have hb : (untilH h t).blocks = h.blocks := rfl
    rw [hb]
    refine ⟨this.1, fun h9 => ?_, fun h9 => ?_, ?_⟩
    · have := this.2.1 h9; omega
    · have := this.2.2.1 h9; omega
    · rcases this.2.2.2 with h5 | h5 | h5
      · left; omega
      · right; left
        refine ⟨h5.1, h5.2.1, h5.2.2.1, by omega, by omega, fun e => ?_⟩
        rcases ht' with ht' | ht'
        · exact hv2 ht'.1 h5.1
        · rcases hv with hv | hv
          · rw [hv]; exact h5.2.2.2.2.2 (by omega)
          · omega
      · right; right; omega
  · obtain ⟨k1, k2, k3⟩ := until_cmd hk
    have hn := okI_apart hok i1 k1 hne
    rw [i2, k2]
    have hi' := cutC_to t (h.cmd i)
    have hk' := cutC_to t (h.cmd k)
    have fi := (isCmdB_iff.1 (hok i i1).1).1
    have fk := (isCmdB_iff.1 (hok k k1).1).1
    unfold badP at hn ⊢
    rw [cutC_frm, cutC_frm, cutC_kind]
    omega
theorem Vd.cut {h : Hist} (v : Vd h) {t : Int} (ht : 0 ≤ t) : Vd (untilH h t) := ⟨checkP_cut v.chk ht, v.blocks, Nat.le_trans (cutL_len t h.cmds) v.few⟩
theorem legal_open {h : Hist} (ho : ∀ i : Nat, i < h.cmds.length → (h.cmd i).to < 0) : legalP h := ⟨sg0, .init, fun n hn ht => by have := ho n hn; omega⟩
theorem Vd.to {h : Hist} (v : Vd h) {k : Nat} (hk : k < h.cmds.length) : -1 ≤ (h.cmd k).to ∧ (h.cmd k).to ≤ 999 := by
  have := isCmdB_iff.1 (v.chk.2.2.2 k hk).1
  omega

/-- What Lie gives. -/
def LieIs (h : Hist) (m : Int) : Prop :=
  (legalP h ∧ m = -1) ∨ (¬ legalP h ∧ ∃ i : Nat, i < h.cmds.length ∧ m = i ∧ ¬ (h.cmd i).to < 0 ∧ ¬ legalP (untilH h (h.cmd i).to) ∧ ∀ k : Nat, k < h.cmds.length → ¬ (h.cmd k).to < 0 → (h.cmd k).to < (h.cmd i).to → legalP (untilH h (h.cmd k).to)) ∨
    (¬ legalP h ∧ m = -1 ∧ ∀ k : Nat, k < h.cmds.length → ¬ (h.cmd k).to < 0 → legalP (untilH h (h.cmd k).to))
def LiePost (h : Hist) (w : World) (e : Ending) (w' : World) : Prop := ∃ m, e = .returned (.tuple #[.int .i64 m, .int .i64 0]) ∧ LieIs h m ∧ Below w.heap.size w w'

end Go.Proofs.Ytagekhgfoabgbaa
end

section
/- Lie, walked. -/
set_option linter.unusedSimpArgs false
set_option linter.unusedVariables false
namespace Go.Proofs.Ytagekhgfoabgbaa
open Go.RowKit Go.Maps

abbrev fI {m : Nat} (p : Fin m) : Value := gI (p.1 : Nat)
theorem heap_alloc3_new (w : World) (a b c : Obj) : (((w.alloc a).alloc b).alloc c).heap[w.heap.size + 1 + 1]? = some c := by
  have := heap_alloc_new ((w.alloc a).alloc b) c
  simpa using this
/-- The first loop of Lie: j commands are looked at, L of them ended. -/
def LP (h : Hist) (m : Nat) (w : World) (A : Option Addr) (c j : Nat) (v : Value) (wr : World) (L : List (Fin (m + 1))) : Prop :=
  (∀ p ∈ L, ¬ (h.cmd (p.1 : Nat)).to < 0) ∧ (∀ p : Fin (m + 1), p.1 < j → ¬ (h.cmd (p.1 : Nat)).to < 0 → p ∈ L) ∧ L.length ≤ j ∧ Row wr w.heap.size 3 1 v L.length (L.map fI) ∧ CW h w A (m + 1) c wr
def LA (h : Hist) (m : Nat) (w : World) (A : Option Addr) (c j : Nat) (v : Value) (wr : World) : Prop := ∃ L, LP h m w A c j v wr L
theorem LA.no {h : Hist} {m : Nat} {w wr w' : World} {A : Option Addr} {c j : Nat} {v : Value} (hL : LA h m w A c j v wr) (ht : (h.cmd j).to < 0) (hb : Below wr.heap.size wr w') : LA h m w A c (j + 1) v w' := by
  obtain ⟨L, h1, h2, h3, h4, h5⟩ := hL
  refine ⟨L, h1, fun p hp hpt => ?_, by omega, row_below h4 hb, h5.next hb⟩
  by_cases e : p.1 < j
  · exact h2 p e hpt
  · have : p.1 = j := by omega
    rw [this] at hpt; exact absurd ht hpt
theorem LA.yes {h : Hist} {m : Nat} {w wr w' : World} {A : Option Addr} {c j : Nat} {v v' : Value} {L : List (Fin (m + 1))} {Y : Obj} (hl : LP h m w A c j v wr L)
    (hj : j < m + 1) (ht : ¬ (h.cmd j).to < 0) (hrow : Row w' w.heap.size 3 1 v' (L.length + 1) (L.map fI ++ [gI j])) (hg : (wr.alloc Y).grownBy w' v.ownBlock) : LA h m w A c (j + 1) v' w' := by
  obtain ⟨h1, h2, h3, h4, h5⟩ := hl
  have g4 : wr.grownBy w' v.ownBlock := (World.grownBy_alloc wr Y _).trans hg
  refine ⟨L ++ [⟨j, hj⟩], fun p hp => ?_, fun p hp hpt => ?_, by simp; omega, ?_, h5.1.trans (grown_below' g4 (fun k hk => (row_typed h4 k hk).1) h5.1.size), ?_⟩
  · rcases List.mem_append.1 hp with hp | hp
    · exact h1 p hp
    · simp at hp; subst hp; exact ht
  · by_cases e : p.1 < j
    · exact List.mem_append_left _ (h2 p e hpt)
    · refine List.mem_append_right _ ?_
      simp
      exact Fin.ext (by show p.1 = j; omega)
  · rw [List.length_append, List.map_append]; exact hrow
  · unfold Boxed
    rw [g4.block _ (Array.getElem?_eq_some_iff.1 h5.2).1 (fun e => by
      obtain ⟨_, cs, hh⟩ := row_typed h4 _ e.symm
      rw [h5.2] at hh
      injection hh with hh
      injection hh with _ ht _
      exact absurd ht (by decide))]
    exact h5.2
theorem LP.next {h : Hist} {m : Nat} {w wr w' : World} {A : Option Addr} {c j : Nat} {v : Value} {L : List (Fin (m + 1))} (hl : LP h m w A c j v wr L) (hb : Below wr.heap.size wr w') : LP h m w A c j v w' L :=
  ⟨hl.1, hl.2.1, hl.2.2.1, row_below hl.2.2.2.1 hb, hl.2.2.2.2.next hb⟩
/-- The second loop: the ended commands by their ends, j of them are behind it. -/
def LB (h : Hist) (m : Nat) (w : World) (A : Option Addr) (c g off : Nat) (L : List (Fin (m + 1))) (j : Nat) (wr : World) : Prop :=
  CW h w A (m + 1) c wr ∧ g < wr.heap.size ∧ (∀ (i : Nat) (p : Fin (m + 1)), L[i]? = some p → wr.cell? ⟨g, off + i, none⟩ = some (fI p)) ∧ ∀ (i : Nat) (p : Fin (m + 1)), i < j → L[i]? = some p → legalP (untilH h (h.cmd (p.1 : Nat)).to)
theorem LB.next {h : Hist} {m : Nat} {w wr w' : World} {A : Option Addr} {c g off : Nat} {L : List (Fin (m + 1))} {j : Nat} (hL : LB h m w A c g off L j wr) (hb : Below wr.heap.size wr w') : LB h m w A c g off L j w' :=
  ⟨hL.1.next hb, by have := hL.2.1; have := hb.size; omega, fun i p hp => (hb.cell (p := ⟨g, off + i, none⟩) hL.2.1).trans (hL.2.2.1 i p hp), hL.2.2.2⟩

set_option maxRecDepth 100000 in
set_option maxHeartbeats 4000000 in
theorem lie_any (w : World) (h : Hist) (A : Option Addr) (n c : Nat) (v : Vd h) (hC : CmdsAt w A n h.cmds) (hnc : n ≤ c) :
    Calls Try.prog 10 #[hV h.blocks A n c] w (LiePost h w) := by
  have hCW0 : CW h w A n c (w.alloc (.cells #[gI h.blocks, .slice A n c] 24)) := ⟨below_alloc0 _ _, heap_alloc_new _ _⟩
  have hcw : ∀ W, Below (w.alloc (.cells #[gI h.blocks, .slice A n c] 24)).heap.size (w.alloc (.cells #[gI h.blocks, .slice A n c] 24)) W → W.cell? ⟨w.heap.size, 0, none⟩ = some (gI h.blocks) ∧ W.cell? ⟨w.heap.size, 1, none⟩ = some (.slice A n c) ∧ CW h w A n c W ∧ CmdsAt W A n h.cmds := fun W hW => by
    have hx := (hCW0.next hW).2
    unfold Boxed at hx
    exact ⟨by rw [cell_of_row _ _ 0 _ _ _ hx]; rfl, by rw [cell_of_row _ _ 1 _ _ _ hx]; rfl, hCW0.next hW, hC.below (hCW0.next hW).1 (Nat.le_refl _)⟩
  have HCW := Lib.hid hcw
  have HLEN := Lib.hid hC.1
  have hn6 : n ≤ 6 := by rw [← hC.1]; exact v.few
  clear hcw hCW0
  have hck := check_any (w.alloc (.cells #[gI h.blocks, .slice A n c] 24)) h A n c v.chk (HCW.out _ (Below.refl _ _)).2.2.2 hnc
  go_enter Try.func10, Try.ntmps10
  go_wp2_with (go_at_call 22; refine hck.mono ?_; rintro e w9 ⟨rfl, hb9⟩; obtain ⟨y0, y1, hcw9, hC9⟩ := HCW.out _ hb9; have hends := ends_any w9 h A n c v.ok hC9 hnc)
  refine hends.mono ?_
  intro e w10 he
  obtain ⟨E, A2, c2, rfl, hE, hb10⟩ := he.legal
  have HCW10 := Lib.hid (hcw9.next hb10)
  have HE := Lib.hid hE
  clear hends he hE hb10 hcw9 hC9 hck y0 y1 hb9 HCW
  by_cases hl : legalP h
  · have hE0 : (0 : Int) < (E : Int) := by have := HE.out.2 hl; omega
    have HL := Lib.hid hl
    clear hl
    go_wp2_with fail
    go_ret2
    exact ⟨-1, rfl, .inl ⟨HL.out, rfl⟩, HCW10.out.1⟩
  · obtain rfl : E = 0 := by
      by_cases h0 : 0 < E
      · exact absurd (HE.out.1 h0) hl
      · omega
    clear HE
    obtain ⟨m, rfl⟩ : ∃ m, n = m + 1 := by
      cases n with
      | zero => exact absurd (legal_open fun i hi => by rw [HLEN.out] at hi; omega) hl
      | succ m => exact ⟨m, rfl⟩
    have HL := Lib.hid hl
    have hbox := HCW10.out.2
    unfold Boxed at hbox
    have y1 : w10.cell? ⟨w.heap.size, 1, none⟩ = some (.slice A (m + 1) c) := by rw [cell_of_row _ _ 1 _ _ _ hbox]; rfl
    have HA0 := Lib.hid (show LA h m w A c 0 (.slice none 0 0) w10 from ⟨[], by simp, fun p hp => by omega, Nat.le_refl _, row_nil _ _ _ _, HCW10.out⟩)
    obtain ⟨nn, hnn⟩ : ∃ nn, nn = m + 1 := ⟨_, rfl⟩
    rw [← hnn] at y1 ⊢
    have hnn6 : nn ≤ 6 := by omega
    have HN := Lib.hid hnn
    clear hbox hl hnn HCW10
    go_wp2_with fail
    clear y1
    go_loopw [5, 22] (fun v i wr => ∃ j : Nat, j ≤ nn ∧ i = .int .i64 j ∧ LA h m w A c j v wr) (fun _ i _ => nn - (intOf i).toNat)
    case atStart => exact ⟨0, Nat.zero_le _, rfl, HA0.out⟩
    case round =>
      clear HA0
      obtain ⟨j, hj, rfl, hLA⟩ := hrel
      by_cases hlt : j < nn
      · obtain ⟨gA, oA, hAe, hgA, hc0, hc1, hc2, hc3, hc4⟩ := hC.get (i := j) (by rw [← HN.out]; exact hlt)
        subst hAe
        obtain ⟨o, ho⟩ : ∃ o, o = h.cmd j := ⟨_, rfl⟩
        rw [← ho] at hc0 hc1 hc2 hc3 hc4
        obtain ⟨L, hLP⟩ := hLA
        have eb : ∀ x, wr.cell? ⟨gA, x, none⟩ = w.cell? ⟨gA, x, none⟩ := fun x => hLP.2.2.2.2.1.cell (p := ⟨gA, x, none⟩) hgA
        have hd0 := (eb _).trans hc0
        have hd1 := (eb _).trans hc1
        have hd2 := (eb _).trans hc2
        have hd3 := (eb _).trans hc3
        have hd4 := (eb _).trans hc4
        have hltz : (j : Int) < (nn : Int) := by omega
        have HO := Lib.hid ho
        have HLL := Lib.hid hLP
        have hl6 : L.length ≤ 6 := by have := hLP.2.2.1; omega
        have hws : w.heap.size ≤ wr.heap.size := hLP.2.2.2.2.1.size
        clear ho eb hc0 hc1 hc2 hc3 hc4 hLP
        by_cases ht : o.to < 0
        · have htd : decide (o.to < 0) = true := by simpa using ht
          have HT := Lib.hid ht
          clear ht
          go_wp2_with (go_at_call 24; refine (openX_is htd _).mono ?_; rintro e w' ⟨rfl, rfl⟩)
          go_roundw
          case rel => exact ⟨j + 1, by omega, by go_num, (LA.no (j := j) ⟨L, HLL.out⟩ (by rw [← HO.out]; exact HT.out) ((below_alloc0 wr _).trans ((below_alloc0 _ _).mono (by simp))))⟩
          case measure => simp [intOf]; omega
        · have htd : decide (o.to < 0) = false := by simpa using ht
          have HT := Lib.hid ht
          clear ht
          have HB := Lib.hid (fun (X Y : Obj) => (show LP h m w (some ⟨gA, oA, none⟩) c j u5 ((wr.alloc X).alloc Y) L from (HLL.out.next (below_alloc0 wr X)).next (below_alloc0 _ Y)))
          go_wp2_with (first
            | (go_at_call 24; refine (openX_is htd _).mono ?_; rintro e w' ⟨rfl, rfl⟩)
            | (at_builtin; go_must (refine row_append_op w.heap.size rfl _ _ 40 3 _ 1 8 rfl Try.underlying40 info3' (by rfl) (by decide) (row_below (HB.out _ _).2.2.2.1 (below_alloc0 _ _)) rfl _ #[gI j] 3 rfl (heap_alloc3_new _ _ _ _) rfl (by simp [Value.oneCell']) (by omega) (by unfold maxLen; omega) (by simp only [World.size_alloc]; omega) ?_); intro v' w4 hrow4 hg4 hat4; have HNX := Lib.hid (LA.yes (HB.out _ _) (j := j) (by rw [← HN.out]; exact hlt) (by rw [← HO.out]; have := HT.out; omega) hrow4 hg4); clear hrow4 hg4 hat4))
          go_roundw
          case rel => exact ⟨j + 1, by omega, by go_num, HNX.out⟩
          case measure => simp [intOf]; omega
      · have hjn : j = nn := by omega
        subst hjn
        obtain ⟨L, hLP⟩ := hLA
        have hLne : 0 < L.length := by
          by_cases h0 : 0 < L.length
          · exact h0
          · exfalso
            refine HL.out (legal_open fun i hi => ?_)
            by_cases ht : (h.cmd i).to < 0
            · exact ht
            · have := hLP.2.1 ⟨i, by rw [HLEN.out] at hi; exact hi⟩ (by show i < j; rw [HN.out, ← HLEN.out]; exact hi) ht
              have := List.length_pos_of_mem this
              omega
        obtain ⟨g, off, cap, hv, hcap, hgb, hgl, hcells⟩ := row_cells hLP.2.2.2.1 hLne
        obtain ⟨_, cs, hgt⟩ := row_typed hLP.2.2.2.1 g (by rw [hv]; simp [Value.ownBlock])
        have hbox := hLP.2.2.2.2.2
        unfold Boxed at hbox
        have hgw : w.heap.size < g := by
          have : g ≠ w.heap.size := fun e => by
            subst e
            rw [hbox] at hgt
            injection hgt with hgt
            injection hgt with _ h2 _
            exact absurd h2 (by decide)
          omega
        have hsort := sortEnded_any w wr h A m c g off cap L cs hC hLP.2.2.2.2.1 hbox hgt hgw (fun i p hp => hcells i _ (by rw [List.getElem?_map, hp]; rfl)) (by have := hLP.2.2.1; omega) (fun k hk => v.to (by rw [HLEN.out]; exact hk))
        subst hv
        have HLL := Lib.hid hLP
        have hlen6 : L.length ≤ 6 := by have := hLP.2.2.1; omega
        obtain ⟨NL, hNL⟩ : ∃ NL, NL = L.length := ⟨_, rfl⟩
        rw [← hNL] at hsort ⊢
        have hNL6 : NL ≤ 6 := by omega
        have HBOX := Lib.hid hbox
        have HNL := Lib.hid hNL
        clear hLP hcells hgt hbox hNL hcap hgb hLne
        go_wp2_with (go_at_call 25; refine hsort.mono ?_; rintro e w11 ⟨rfl, hgr, L', hperm, hsorted, hcell'⟩)
        have hLB : LB h m w A c g off L' 0 w11 := ⟨⟨HLL.out.2.2.2.2.1.trans (grown_below' hgr (fun k hk => by injection hk with hk; omega) HLL.out.2.2.2.2.1.size), by unfold Boxed; rw [hgr.block _ (Array.getElem?_eq_some_iff.1 HBOX.out).1 (fun e => by injection e with e; omega)]; exact HBOX.out⟩, by have := hgr.size; omega, hcell', fun i p hi => by omega⟩
        have hlen' : L'.length = NL := by rw [hperm.length_eq, HNL.out]
        have HLB := Lib.hid hLB
        have HS := Lib.hid hsorted
        have HP := Lib.hid (show (∀ p ∈ L', ¬ (h.cmd (p.1 : Nat)).to < 0) ∧ (∀ p : Fin (m + 1), ¬ (h.cmd (p.1 : Nat)).to < 0 → p ∈ L') ∧ L'.length = NL from
          ⟨fun p hp => HLL.out.1 p (hperm.subset hp), fun p hp => hperm.symm.subset (HLL.out.2.1 p (by have := p.2; have := HN.out; omega) hp), hlen'⟩)
        clear hLB hlen' hsorted hperm hcell' hgr hsort
        go_loopw [40] (fun i wr => ∃ q : Nat, q ≤ NL ∧ i = .int .i64 q ∧ LB h m w A c g off L' q wr) (fun i _ => NL - (intOf i).toNat)
        case atStart => exact ⟨0, Nat.zero_le _, rfl, HLB.out⟩
        case round =>
          clear HLB
          obtain ⟨q, hq, rfl, hB⟩ := hrel
          by_cases hql : q < NL
          · obtain ⟨p, hp⟩ : ∃ p, L'[q]? = some p := ⟨_, List.getElem?_eq_getElem (by rw [HP.out.2.2]; exact hql)⟩
            have hpn : ¬ (h.cmd (p.1 : Nat)).to < 0 := HP.out.1 p (List.mem_of_getElem? hp)
            obtain ⟨⟨k, hk⟩, rfl⟩ : ∃ x, x = p := ⟨p, rfl⟩
            have hcg : wr.cell? ⟨g, off + q, none⟩ = some (gI k) := hB.2.2.1 q _ hp
            obtain ⟨gA, oA, hAe, hgA, hc0, hc1, hc2, hc3, hc4⟩ := hC.get hk
            subst hAe
            obtain ⟨tt, htt⟩ : ∃ t, t = (h.cmd k).to := ⟨_, rfl⟩
            rw [← htt] at hc4
            have ht0 : 0 ≤ tt := by rw [htt]; show 0 ≤ (h.cmd (k : Nat)).to; have : ¬ (h.cmd (k : Nat)).to < 0 := hpn; omega
            have hbx := hB.1.2
            unfold Boxed at hbx
            have hgw0 : w.heap.size < wr.heap.size := (Array.getElem?_eq_some_iff.1 hbx).1
            have hjm : j = m + 1 := HN.out
            have hkj : (k : Int) < (j : Int) := by omega
            have hk0 : (0 : Int) ≤ (k : Int) := by omega
            have hqz : (q : Int) < (NL : Int) := by omega
            have hq0 : (0 : Int) ≤ (q : Int) := by omega
            have x0 : wr.drew.cell? ⟨w.heap.size, 0, none⟩ = some (gI h.blocks) := by rw [cell_of_row wr.drew _ 0 _ _ _ hbx]; rfl
            have x1 : wr.drew.cell? ⟨w.heap.size, 1, none⟩ = some (.slice (some ⟨gA, oA, none⟩) (m + 1) c) := by rw [cell_of_row wr.drew _ 1 _ _ _ hbx]; rfl
            have x4 : wr.drew.cell? ⟨gA, oA + k * 5 + 4, none⟩ = some (gI tt) := (hB.1.1.cell (p := ⟨gA, oA + k * 5 + 4, none⟩) hgA).trans hc4
            rw [← hjm] at x1
            have hgA2 : gA < wr.heap.size := by have := hB.1.1.size; omega
            have hSk : ∀ W, Below wr.drew.heap.size wr.drew W → W.cell? ⟨w.heap.size, 0, none⟩ = some (gI h.blocks) ∧ W.cell? ⟨w.heap.size, 1, none⟩ = some (.slice (some ⟨gA, oA, none⟩) j c) ∧ W.cell? ⟨gA, oA + k * 5 + 4, none⟩ = some (gI tt) := fun W hW =>
              ⟨(hW.cell (p := ⟨w.heap.size, 0, none⟩) hgw0).trans x0, (hW.cell (p := ⟨w.heap.size, 1, none⟩) hgw0).trans x1, (hW.cell (p := ⟨gA, oA + k * 5 + 4, none⟩) hgA2).trans x4⟩
            have hun := until_any wr.drew h (some ⟨gA, oA, none⟩) j c tt (by rw [hjm]; exact hC.below hB.1.1.drew (Nat.le_refl _)) (by omega)
            have HSK := Lib.hid hSk
            have HUN := Lib.hid hun
            have HB := Lib.hid hB
            have HTT := Lib.hid (show tt = (h.cmd k).to ∧ L'[q]? = some (⟨k, hk⟩ : Fin (m + 1)) ∧ ¬ (h.cmd k).to < 0 from ⟨htt, hp, hpn⟩)
            have HV := Lib.hid (v.cut (t := tt) ht0).ok
            clear hSk hun hbx htt hp hpn hc0 hc1 hc2 hc3 hc4 hB hjm
            go_wp2_with fail
            go_region_held3 (fun w' => w'.cell? ⟨w.heap.size, 0, none⟩ = some (gI h.blocks) ∧ w'.cell? ⟨w.heap.size, 1, none⟩ = some (.slice (some ⟨gA, oA, none⟩) j c) ∧ w'.cell? ⟨gA, oA + k * 5 + 4, none⟩ = some (gI tt))
              (first
                | exact HSK.out _ (Below.refl _ _)
                | exact HSK.out _ (hb12.trans (hb13.mono hb12.size))
                | exact HSK.out _ hb12)
              (first
                | (go_at_call 27; go_must (refine HUN.out.mono ?_; rintro e w12 ⟨A3, n3, c3, rfl, hnc3, hC3, hb12⟩))
                | (go_at_call 23; go_must (refine (ends_any w12 (untilH h tt) A3 n3 c3 HV.out hC3 hnc3).mono ?_; intro e w13 he; obtain ⟨E, A4, c4, rfl, hE, hb13⟩ := he.legal)))
            have HB13 := Lib.hid (HB.out.next (show Below wr.heap.size wr w13 from ((Below.refl wr.heap.size wr).drew).trans (hb12.trans (hb13.mono hb12.size))))
            have HEE := Lib.hid hE
            clear hE hb12 hb13 hC3 he
            by_cases hE0 : E = 0
            · subst hE0
              go_wp2_with fail
              go_ret2
              refine ⟨k, rfl, .inr (.inl ⟨HL.out, k, by rw [HLEN.out]; exact hk, rfl, by have := HTT.out.2.2; omega, ?_, fun a ha hae hat => ?_⟩), HB13.out.1.1⟩
              · rw [← HTT.out.1]
                exact fun hl => absurd (HEE.out.2 hl) (by omega)
              · have ha' : a < m + 1 := by rw [← HLEN.out]; exact ha
                obtain ⟨z, hz, hze⟩ := List.mem_iff_getElem.1 (HP.out.2.1 ⟨a, ha'⟩ (by dsimp only; omega))
                have hz' : L'[z]? = some (⟨a, ha'⟩ : Fin (m + 1)) := by rw [List.getElem?_eq_getElem hz, hze]
                by_cases hzq : z < q
                · exact HB13.out.2.2.2 z _ hzq hz'
                · exfalso
                  by_cases e : z = q
                  · subst e
                    have := HTT.out.2.1
                    rw [hz'] at this
                    injection this with this
                    injection this with this
                    subst this
                    omega
                  · have := HS.out q z _ _ (by omega) HTT.out.2.1 hz'
                    simp only at this
                    omega
            · have hEb : ((E : Int) == 0) = false := by simp [hE0]
              have hEb2 : (E == 0) = false := by simp [hE0]
              have HLG := Lib.hid (HEE.out.1 (by omega))
              clear hE0
              go_wp2_with fail
              go_roundw
              case rel => exact ⟨q + 1, by omega, by go_num, HB13.out.1, HB13.out.2.1, HB13.out.2.2.1, fun i p hi hp => by
                by_cases e : i < q
                · exact HB13.out.2.2.2 i p e hp
                · obtain rfl : i = q := by omega
                  rw [HTT.out.2.1] at hp
                  injection hp with hp
                  subst hp
                  have := HLG.out
                  rw [HTT.out.1] at this
                  exact this⟩
              case measure => simp [intOf]; omega
          · have hqn : q = NL := by omega
            subst hqn
            have HB := Lib.hid hB
            clear hB
            go_wp2_with fail
            go_ret2
            refine ⟨-1, rfl, .inr (.inr ⟨HL.out, rfl, fun a ha hae => ?_⟩), HB.out.1.1⟩
            have ha' : a < m + 1 := by rw [← HLEN.out]; exact ha
            obtain ⟨z, hz, hze⟩ := List.mem_iff_getElem.1 (HP.out.2.1 ⟨a, ha'⟩ (by dsimp only; omega))
            exact HB.out.2.2.2 z _ (by rw [← HP.out.2.2]; exact hz) (by rw [List.getElem?_eq_getElem hz, hze])

end Go.Proofs.Ytagekhgfoabgbaa
end
