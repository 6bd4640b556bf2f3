/- The walk over the law HostKnown. -/
import Derived.Test.YtagekhgfoabgbaaK10

section
/- The examples: plain facts. -/
set_option linter.unusedSimpArgs false
set_option linter.unusedVariables false
namespace Go.Proofs.Ytagekhgfoabgbaa
open Go.RowKit Go.Maps

def hs1 : Sg := doS exH sg0 1
def hs2 : Sg := doS exH hs1 0
def hs3 : Sg := fallS exH hs2 2 [0]
def hs4 : Sg := doS exH hs3 3
def shA : List Int := shO shFirst (exH.cmd 0) 0
def shB : List Int := ((shD shA).getD 0 (0, [])).2
set_option maxRecDepth 100000 in
theorem shB_mem : (0, shB) ∈ shD shA := by decide
set_option maxRecDepth 100000 in
theorem shB_take : [0] = (shB.take 6).take exH.blocks.toNat := by decide
theorem imgH : ImgSet exH hs2.orders [0] := ⟨shB.take 6, ⟨shA, shB, ⟨shFirst, shFirst, rfl, .refl _, rfl⟩, .step (.refl _) shB_mem, .inl rfl⟩, shB_take⟩
set_option maxRecDepth 100000 in
theorem legalH : legalP exH := by
  have n1 : NextSet exH sg0 hs1 := ⟨1, by decide, by decide, .inr ⟨by decide, by decide, rfl⟩⟩
  have n2 : NextSet exH hs1 hs2 := ⟨0, by decide, by decide, .inr ⟨by decide, by decide, rfl⟩⟩
  have n3 : NextSet exH hs2 hs3 := ⟨2, by decide, by decide, .inl ⟨by decide, [0], imgH, rfl⟩⟩
  have n4 : NextSet exH hs3 hs4 := ⟨3, by decide, by decide, .inr ⟨by decide, by decide, rfl⟩⟩
  exact ⟨hs4, (((Reach.init.step n1).step n2).step n3).step n4, fullB_iff.1 (by decide)⟩
theorem mayS_ok {h : Hist} {s : Sg} {n : Nat} (hm : mayS h s n = true) : ∀ i : Nat, i < h.cmds.length → badAt s (h.cmd n) (h.cmd i) i = false := fun i hi => by
  unfold mayS at hm
  rw [Bool.and_eq_true, List.all_eq_true] at hm
  have := hm.2 i (by simpa using hi)
  simpa using this
/-- What ended before a command began was done when it comes. -/
theorem mayS_before {h : Hist} {s : Sg} {n i : Nat} (hm : mayS h s n = true) (hi : i < h.cmds.length) (h0 : 0 ≤ (h.cmd i).to) (h1 : (h.cmd i).to < (h.cmd n).frm) : s.done.testBit i = true := by
  have hb := mayS_ok hm i hi
  cases hd : s.done.testBit i with
  | true => rfl
  | false =>
    have := (badAt_iff s (h.cmd n) (h.cmd i) i).2 (.inl ⟨hd, h0, h1⟩)
    rw [hb] at this; cases this
theorem doS_result {h : Hist} {s : Sg} {n b : Nat} (hk : (h.cmd n).kind = 10) : resultS h (doS h s n) b = resultS h s b := by
  have ho : (doS h s n).orders = s.orders := by
    unfold doS isOrd
    rw [hk]; rfl
  have hkp : (doS h s n).keeps = s.keeps := rfl
  unfold resultS
  rw [ho, hkp]
theorem H_result {s : Sg} (hr : Reach exH s) : s.done.testBit 3 = true → (s.done.testBit 0 = true ∧ s.done.testBit 1 = true ∧ s.done.testBit 2 = true) ∧ resultS exH s 0 = 5 := by
  induction hr with
  | init => intro h; simp [sg0] at h
  | @step s s' hr hn ih =>
    intro h3
    obtain ⟨n, hl, hm, hn⟩ := hn
    have hl4 : n < 4 := hl
    by_cases e : n = 3
    · subst e
      have b0 := mayS_before hm (i := 0) (by decide) (by decide) (by decide)
      have b1 := mayS_before hm (i := 1) (by decide) (by decide) (by decide)
      have b2 := mayS_before hm (i := 2) (by decide) (by decide) (by decide)
      rcases hn with ⟨h9, _⟩ | ⟨_, h10, rfl⟩
      · exact absurd h9 (by decide)
      · refine ⟨⟨?_, ?_, ?_⟩, ?_⟩
        · show (s.done ||| 2 ^ 3).testBit 0 = true; rw [or_bit, b0]; rfl
        · show (s.done ||| 2 ^ 3).testBit 1 = true; rw [or_bit, b1]; rfl
        · show (s.done ||| 2 ^ 3).testBit 2 = true; rw [or_bit, b2]; rfl
        · rw [doS_result (by decide)]
          by_cases hv : resultS exH s 0 = 5
          · exact hv
          · exact absurd ⟨by decide, .inr hv⟩ h10
    · have hd : s'.done = s.done ||| 2 ^ n := by rcases hn with ⟨_, img, _, rfl⟩ | ⟨_, _, rfl⟩ <;> rfl
      rw [hd, or_bit, show decide (n = 3) = false by simpa using e, Bool.or_false] at h3
      obtain ⟨⟨b0, b1, b2⟩, _⟩ := ih h3
      have hb := mayS_bit hm
      have : n = 0 ∨ n = 1 ∨ n = 2 := by omega
      rcases this with rfl | rfl | rfl
      · rw [b0] at hb; cases hb
      · rw [b1] at hb; cases hb
      · rw [b2] at hb; cases hb
theorem H_reads (x : Int) : (∃ s, Reach exH s ∧ fullS exH s ∧ GR exH 0 s x) ↔ x = 5 := by
  constructor
  · rintro ⟨s, hr, hf, hx⟩
    have := (H_result hr (hf 3 (by decide) (by decide))).2
    unfold GR at hx
    rw [hx, this]
  · rintro rfl
    obtain ⟨s, hr, hf⟩ := legalH
    exact ⟨s, hr, hf, ((H_result hr (hf 3 (by decide) (by decide))).2).symm⟩
theorem H_set {L : List Int} (h1 : L.Pairwise (· < ·)) (h2 : ∀ x, x ∈ L ↔ ∃ s, Reach exH s ∧ fullS exH s ∧ GR exH 0 s x) : L = [5] :=
  SetOf.unique h1 (by simp) fun x => by rw [h2, H_reads]; simp
theorem H_until : cutL 2 exH.cmds = [⟨1, 0, 5, 1, -1⟩, ⟨10, 0, 0, 2, -1⟩] := by decide

/-! J: the drive lied. -/
def shJ : List Int := shO shFirst (exJ.cmd 0) 0
set_option maxRecDepth 100000 in
theorem shFirst_still : shD shFirst = [] := by decide
set_option maxRecDepth 100000 in
theorem shJ_still : shD shJ = [] := by decide
set_option maxRecDepth 100000 in
theorem shJ_take : (shJ.take 6).take 1 = [0] := by decide
theorem still {s x : List Int} (h : shD s = []) (hd : DStar s x) : x = s := by
  induction hd with
  | refl => rfl
  | step _ hm ih =>
    subst ih
    rw [h] at hm; simp at hm
theorem imgJ {h : Hist} (hb : h.blocks = 1) (h0 : h.cmd 0 = exJ.cmd 0) {img : List Int} : ImgSet h [0] img ↔ img = [0] := by
  constructor
  · rintro ⟨c, ⟨s0, s, ⟨a, b, ha, hab, rfl⟩, hd, hc⟩, rfl⟩
    have ha' : a = shFirst := ha
    subst ha'
    obtain rfl := still shFirst_still hab
    have e : shO shFirst (h.cmd 0) 0 = shJ := by unfold shJ; rw [h0]
    rw [e] at hd
    obtain rfl := still shJ_still hd
    rw [hb]
    rcases hc with rfl | ⟨p, hp, _⟩
    · exact shJ_take
    · rw [shJ_still] at hp; simp at hp
  · rintro rfl
    refine ⟨shJ.take 6, ⟨shJ, shJ, ⟨shFirst, shFirst, rfl, .refl _, by unfold shJ; rw [← h0]⟩, .refl _, .inl rfl⟩, ?_⟩
    rw [hb]; exact shJ_take.symm
theorem J2 : untilH exJ 2 = ⟨1, [⟨2, 0, 5, 1, 2⟩]⟩ := by rfl
theorem J3 : untilH exJ 3 = ⟨1, [⟨2, 0, 5, 1, 2⟩, ⟨9, 0, 0, 3, 3⟩]⟩ := by rfl
theorem J5 : untilH exJ 5 = exJ := by rfl
set_option maxRecDepth 100000 in
theorem legalJ2 : legalP (untilH exJ 2) := by
  rw [J2]
  exact ⟨doS ⟨1, [⟨2, 0, 5, 1, 2⟩]⟩ sg0 0, Reach.init.step ⟨0, by decide, by decide, .inr ⟨by decide, by decide, rfl⟩⟩, fullB_iff.1 (by decide)⟩
set_option maxRecDepth 100000 in
theorem legalJ3 : legalP (untilH exJ 3) := by
  rw [J3]
  have n1 : NextSet ⟨1, [⟨2, 0, 5, 1, 2⟩, ⟨9, 0, 0, 3, 3⟩]⟩ sg0 (doS ⟨1, [⟨2, 0, 5, 1, 2⟩, ⟨9, 0, 0, 3, 3⟩]⟩ sg0 0) := ⟨0, by decide, by decide, .inr ⟨by decide, by decide, rfl⟩⟩
  have n2 : NextSet ⟨1, [⟨2, 0, 5, 1, 2⟩, ⟨9, 0, 0, 3, 3⟩]⟩ (doS ⟨1, [⟨2, 0, 5, 1, 2⟩, ⟨9, 0, 0, 3, 3⟩]⟩ sg0 0) (fallS ⟨1, [⟨2, 0, 5, 1, 2⟩, ⟨9, 0, 0, 3, 3⟩]⟩ (doS ⟨1, [⟨2, 0, 5, 1, 2⟩, ⟨9, 0, 0, 3, 3⟩]⟩ sg0 0) 1 [0]) :=
    ⟨1, by decide, by decide, .inl ⟨by decide, [0], (imgJ rfl rfl).2 rfl, rfl⟩⟩
  exact ⟨_, (Reach.init.step n1).step n2, fullB_iff.1 (by decide)⟩
/-- What plays of J lead to. -/
theorem J_reach {s : Sg} (hr : Reach exJ s) : s.done.testBit 2 = false ∧ ((s.done.testBit 0 = false ∧ s.done.testBit 1 = false) ∨ (s.done.testBit 0 = true ∧ s.done.testBit 1 = false ∧ s.orders = [0] ∧ s.keeps = [0, 0, 0, 0, 0, 0]) ∨ (s.done.testBit 0 = true ∧ s.done.testBit 1 = true ∧ s.orders = [] ∧ s.keeps.getD 0 0 = 5)) ∧ (s.done.testBit 0 = false → s.orders = [] ∧ s.keeps = [0, 0, 0, 0, 0, 0]) := by
  induction hr with
  | init => refine ⟨rfl, .inl ⟨rfl, rfl⟩, fun _ => ⟨rfl, rfl⟩⟩
  | @step s s' hr hn ih =>
    obtain ⟨i2, ih, i0⟩ := ih
    obtain ⟨n, hl, hm, hn⟩ := hn
    have hl3 : n < 3 := hl
    have hb := mayS_bit hm
    have : n = 0 ∨ n = 1 ∨ n = 2 := by omega
    rcases this with rfl | rfl | rfl
    · obtain ⟨o0, k0⟩ := i0 hb
      rcases hn with ⟨h9, _⟩ | ⟨_, _, rfl⟩
      · exact absurd h9 (by decide)
      · have b1 : s.done.testBit 1 = false := by
          rcases ih with ⟨_, h⟩ | ⟨h, _⟩ | ⟨h, _⟩
          · exact h
          · rw [hb] at h; cases h
          · rw [hb] at h; cases h
        refine ⟨?_, .inr (.inl ⟨?_, ?_, ?_, k0⟩), fun h => ?_⟩
        · show (s.done ||| 2 ^ 0).testBit 2 = false; rw [or_bit, i2]; rfl
        · show (s.done ||| 2 ^ 0).testBit 0 = true; rw [or_bit]; simp
        · show (s.done ||| 2 ^ 0).testBit 1 = false; rw [or_bit, b1]; rfl
        · show (if isOrd (exJ.cmd 0) = true then s.orders ++ [((0 : Nat) : Int)] else s.orders) = [0]
          rw [o0]; decide
        · exfalso
          have : (s.done ||| 2 ^ 0).testBit 0 = true := by rw [or_bit]; simp
          have h' : (s.done ||| 2 ^ 0).testBit 0 = false := h
          rw [this] at h'; cases h'
    · have b0 := mayS_before hm (i := 0) (by decide) (by decide) (by decide)
      rcases ih with ⟨h, _⟩ | ⟨_, _, ho, hk⟩ | ⟨_, h, _⟩
      · rw [b0] at h; cases h
      · rcases hn with ⟨_, img, hi, rfl⟩ | ⟨h9, _⟩
        · rw [ho] at hi
          obtain rfl := (imgJ rfl rfl).1 hi
          refine ⟨?_, .inr (.inr ⟨?_, ?_, rfl, ?_⟩), fun h => ?_⟩
          · show (s.done ||| 2 ^ 1).testBit 2 = false; rw [or_bit, i2]; rfl
          · show (s.done ||| 2 ^ 1).testBit 0 = true; rw [or_bit, b0]; rfl
          · show (s.done ||| 2 ^ 1).testBit 1 = true; rw [or_bit]; simp
          · show (keptS exJ s [0]).getD 0 0 = 5
            show (keptTo exJ s [0] 1).getD 0 0 = 5
            unfold keptTo
            rw [if_neg (by decide), if_neg (by decide)]
            show (s.keeps.set 0 _).getD 0 0 = 5
            rw [hk]; decide
          · exfalso
            have : (s.done ||| 2 ^ 1).testBit 0 = true := by rw [or_bit, b0]; rfl
            have h' : (s.done ||| 2 ^ 1).testBit 0 = false := h
            rw [this] at h'; cases h'
        · exact absurd (by decide : (exJ.cmd (1 : Nat)).kind = 9) h9
      · rw [hb] at h; cases h
    · have b0 := mayS_before hm (i := 0) (by decide) (by decide) (by decide)
      have b1 := mayS_before hm (i := 1) (by decide) (by decide) (by decide)
      rcases ih with ⟨h, _⟩ | ⟨_, h, _⟩ | ⟨_, _, ho, hk⟩
      · rw [b0] at h; cases h
      · rw [b1] at h; cases h
      · rcases hn with ⟨h9, _⟩ | ⟨_, h10, rfl⟩
        · exact absurd h9 (by decide)
        · exfalso
          refine h10 ⟨by decide, .inr ?_⟩
          have e : resultS exJ s 0 = 5 := by unfold resultS; rw [ho, hk]; rfl
          have e2 : ((exJ.cmd (2 : Nat)).block.toNat) = 0 := by decide
          rw [e2, e]; decide
theorem notLegalJ : ¬ legalP exJ := fun ⟨s, hr, hf⟩ => by
  have h1 := (J_reach hr).1
  have h2 := hf 2 (by decide) (by decide)
  rw [h1] at h2; cases h2
theorem J_lie {m : Int} (hm : LieIs exJ m) : m = 2 := by
  rcases hm with ⟨h, _⟩ | ⟨_, i, hi, rfl, ht, hn, _⟩ | ⟨_, _, h⟩
  · exact absurd h notLegalJ
  · have hi3 : i < 3 := hi
    have : i = 0 ∨ i = 1 ∨ i = 2 := by omega
    rcases this with rfl | rfl | rfl
    · exact absurd legalJ2 hn
    · exact absurd legalJ3 hn
    · rfl
  · have := h 2 (by decide) (by decide)
    have e : (exJ.cmd (2 : Nat)).to = 5 := by decide
    rw [e, J5] at this
    exact absurd this notLegalJ

end Go.Proofs.Ytagekhgfoabgbaa
end

section
/- works, walked. -/
set_option linter.unusedSimpArgs false
set_option linter.unusedVariables false
namespace Go.Proofs.Ytagekhgfoabgbaa
open Go.RowKit Go.Maps

theorem sameInts_five (w5 : World) (A4 : Option Addr) (c4 : Nat) (X Y : Obj) (hI : IntsAt w5 A4 1 [5]) (hY : Y = .cells #[gI 5] 3 := by rfl) :
    Calls Try.prog 17 #[.slice A4 1 c4, .slice (some ⟨w5.heap.size + 1, 0, none⟩) 1 1] ((w5.alloc X).alloc Y) fun e w' => e = .returned (.bool true) ∧ Below w5.heap.size w5 w' := by
  subst hY
  have hB : Below w5.heap.size w5 ((w5.alloc X).alloc (.cells #[gI 5] 3)) := (below_alloc0 w5 _).alloc (by simp) _
  have h2 : IntsAt ((w5.alloc X).alloc (.cells #[gI 5] 3)) (some ⟨w5.heap.size + 1, 0, none⟩) 1 [5] := ⟨rfl, fun i x hi => by
    cases i with
    | zero =>
      simp at hi; subst hi
      have e := heap_alloc2_new w5 X (.cells #[gI 5] 3)
      exact ⟨_, _, rfl, (Array.getElem?_eq_some_iff.1 e).1, by rw [cell_of_row _ _ _ _ _ _ e]; rfl⟩
    | succ i => simp at hi⟩
  refine (sameInts_any _ A4 _ 1 c4 1 1 [5] [5] (hI.below hB (Nat.le_refl _)) h2 (by decide)).mono ?_
  rintro e w' ⟨rfl, hb⟩
  exact ⟨by simp, hB.trans (hb.mono hB.size)⟩
set_option maxRecDepth 100000 in
set_option maxHeartbeats 4000000 in
theorem works_any (w : World) :
    Calls Try.prog 8 #[] w fun e w' => e = .returned (.bool true) ∧ Below w.heap.size w w' := by
  have hex := example_any w
  go_enter Try.func8, Try.ntmps8
  go_wp2_with fail
  refine hex.mono ?_
  rintro e w1 ⟨A, c, B, d, rfl, hc4, hd3, hCH, hCJ, hb1⟩
  have h0 : ((w1.alloc (.cells #[gI 1, .slice A 4 c] 24)).alloc (.cells #[gI 1, .slice B 3 d] 24)).heap[w1.heap.size]? = some (.cells #[gI 1, .slice A 4 c] 24 (0, 0)) := (Below.heap_alloc _ _ _ (by simp)).trans (heap_alloc_new _ _)
  have h1 : ((w1.alloc (.cells #[gI 1, .slice A 4 c] 24)).alloc (.cells #[gI 1, .slice B 3 d] 24)).heap[w1.heap.size + 1]? = some (.cells #[gI 1, .slice B 3 d] 24 (0, 0)) := heap_alloc2_new _ _ _
  have hB0 : Below w1.heap.size w1 ((w1.alloc (.cells #[gI 1, .slice A 4 c] 24)).alloc (.cells #[gI 1, .slice B 3 d] 24)) := (below_alloc0 w1 _).alloc (by simp) _
  obtain ⟨W0, hW0⟩ : ∃ W0, W0 = (w1.alloc (.cells #[gI 1, .slice A 4 c] 24)).alloc (.cells #[gI 1, .slice B 3 d] 24) := ⟨_, rfl⟩
  rw [← hW0] at h0 h1 hB0
  have hcw : ∀ W, Below W0.heap.size W0 W → W.cell? ⟨w1.heap.size, 0, none⟩ = some (gI 1) ∧ W.cell? ⟨w1.heap.size, 1, none⟩ = some (.slice A 4 c) ∧ W.cell? ⟨w1.heap.size + 1, 0, none⟩ = some (gI 1) ∧ W.cell? ⟨w1.heap.size + 1, 1, none⟩ = some (.slice B 3 d) ∧
      CmdsAt W A 4 exH.cmds ∧ CmdsAt W B 3 exJ.cmds ∧ Below w.heap.size w W := fun W hW => by
    have e0 := (hW.block _ (Array.getElem?_eq_some_iff.1 h0).1).trans h0
    have e1 := (hW.block _ (Array.getElem?_eq_some_iff.1 h1).1).trans h1
    have hb := hB0.trans (hW.mono hB0.size)
    exact ⟨by rw [cell_of_row _ _ 0 _ _ _ e0]; rfl, by rw [cell_of_row _ _ 1 _ _ _ e0]; rfl, by rw [cell_of_row _ _ 0 _ _ _ e1]; rfl, by rw [cell_of_row _ _ 1 _ _ _ e1]; rfl, hCH.below hb (Nat.le_refl _), hCJ.below hb (Nat.le_refl _), hb1.trans (hb.mono hb1.size)⟩
  have HCW := Lib.hid hcw
  have HW0 := Lib.hid hW0
  clear hcw h0 h1 hB0 hW0 hCH hCJ hb1 hex
  go_wp2_with fail
  rw [← HW0.out]
  obtain ⟨_, _, _, _, kH, kJ, _⟩ := HCW.out W0 (Below.refl _ _)
  have hl := legal_any W0 exH A 4 c exH_ok kH hc4
  change Calls _ _ #[hV 1 A 4 c] _ _ at hl
  refine hl.mono ?_
  rintro e w2 ⟨lb, rfl, hlb, hb2⟩
  obtain rfl : lb = true := hlb.2 legalH
  obtain ⟨x0, x1, x2, x3, kH2, kJ2, kb2⟩ := HCW.out w2 hb2
  have hli := lie_any w2 exJ B 3 d exJ_ok kJ2 hd3
  change Calls _ _ #[hV 1 B 3 d] _ _ at hli
  have HB2 := Lib.hid hb2
  clear hl hlb hb2 kH kJ
  go_wp2_with fail
  refine hli.mono ?_
  rintro e w3 ⟨m, rfl, hm, hb3⟩
  obtain rfl := J_lie hm
  have HB3 := Lib.hid (HB2.out.trans (hb3.mono HB2.out.size))
  obtain ⟨y0, y1, y2, y3, kH3, kJ3, kb3⟩ := HCW.out w3 HB3.out
  have hre := reads_any w3 exH A 4 c 0 exH_ok kH3 hc4 (by decide)
  change Calls _ _ #[hV 1 A 4 c, gI 0] _ _ at hre
  clear hli hm hb3 x0 x1 x2 x3 kH2 kJ2 kb2
  go_wp2_with fail
  refine hre.mono ?_
  rintro e w4 ⟨hb4, ⟨hno, _⟩ | ⟨_, A4, L, c4, rfl, hL1, hL2, hL3, hL4⟩⟩
  · exact absurd legalH hno
  obtain rfl := H_set hL3 hL4
  have HB4 := Lib.hid (HB3.out.trans (hb4.mono HB3.out.size))
  obtain ⟨z0, z1, z2, z3, kH4, kJ4, kb4⟩ := HCW.out w4 HB4.out
  have hun := untilX_any w4 exH A 4 c 2 exH_ok kH4 hc4 (by decide)
  change Calls _ _ #[hV 1 A 4 c, gI 2] _ _ at hun
  have HL1 := Lib.hid hL1
  clear hre hb4 hL1 hL2 hL3 hL4 y0 y1 y2 y3 kH3 kJ3 kb3
  go_wp2_with fail
  refine hun.mono ?_
  rintro e w5 ⟨A5, n5, c5, rfl, hn5, hC5, hb5⟩
  rw [H_until] at hC5
  have hn2 : n5 = 2 := hC5.1.symm
  subst hn2
  obtain ⟨g5, o5, hA5, hg5, _, _, _, _, hto⟩ := hC5.2 0 _ rfl
  subst hA5
  have HB5 := Lib.hid (HB4.out.trans (hb5.mono HB4.out.size))
  have hIl : IntsAt w5 A4 1 [5] := HL1.out.below hb5 (Nat.le_refl _)
  have HIL := Lib.hid hIl
  have hs5 := hb5.size
  obtain ⟨u0, u1, u2, u3, kH5, kJ5, kb5⟩ := HCW.out w5 HB5.out
  clear hun hb5 hC5 hIl z0 z1 z2 z3 kH4 kJ4 kb4 u0 u1 u2 u3 kH5 kJ5
  go_wp2_with (go_at_call 17; refine (sameInts_five w5 A4 c4 _ _ HIL.out).mono ?_; rintro e w6 ⟨rfl, hb6⟩)
  go_ret
  exact ⟨rfl, kb5.trans (hb6.mono kb5.size)⟩

end Go.Proofs.Ytagekhgfoabgbaa
end

section
/- The law HostKnown, walked. -/
set_option linter.unusedSimpArgs false
set_option linter.unusedVariables false
namespace Go.Proofs.Ytagekhgfoabgbaa
open Go.RowKit Go.Maps

/-- What the law says, without the program. -/
def KnownP : Prop := ∀ (h : Hist) (t m : Int), Vd h → 0 ≤ t → t ≤ 999 → LieIs h m → (legalP h → legalP (untilH h t)) ∧
  (¬ legalP h → ∃ i : Nat, i < h.cmds.length ∧ m = i ∧ 0 ≤ (h.cmd i).to ∧ (t < (h.cmd i).to → legalP (untilH h t)) ∧ (¬ t < (h.cmd i).to → ¬ legalP (untilH h t)))
theorem valid_is {h : Hist} {vb : Bool} (hv : validB h = vb) (w : World) (A : Option Addr) (n c : Nat) (hC : CmdsAt w A n h.cmds) (hnc : n ≤ c) :
    Calls Try.prog 7 #[hV h.blocks A n c] w fun e w' => e = .returned (.bool vb) ∧ Below w.heap.size w w' := by
  rw [← hv]; exact valid_any w h A n c hC hnc
set_option maxRecDepth 100000 in
set_option maxHeartbeats 4000000 in
theorem known_any (hK : KnownP) (w : World) (h : Hist) (A : Option Addr) (n c : Nat) (t : Int) (hC : CmdsAt w A n h.cmds) (hnc : n ≤ c) :
    Calls Try.prog 3 #[hV h.blocks A n c, gI t] w fun e w' => e = .returned (.bool true) ∧ Below w.heap.size w w' := by
  have hCW0 : CW h w A n c (w.alloc (.cells #[gI h.blocks, .slice A n c] 24)) := ⟨below_alloc0 _ _, heap_alloc_new _ _⟩
  have hcw : ∀ W, Below (w.alloc (.cells #[gI h.blocks, .slice A n c] 24)).heap.size (w.alloc (.cells #[gI h.blocks, .slice A n c] 24)) W → W.cell? ⟨w.heap.size, 0, none⟩ = some (gI h.blocks) ∧ W.cell? ⟨w.heap.size, 1, none⟩ = some (.slice A n c) ∧ Below w.heap.size w W ∧ CmdsAt W A n h.cmds := fun W hW => by
    have hx := (hCW0.next hW).2
    unfold Boxed at hx
    exact ⟨by rw [cell_of_row _ _ 0 _ _ _ hx]; rfl, by rw [cell_of_row _ _ 1 _ _ _ hx]; rfl, (hCW0.next hW).1, hC.below (hCW0.next hW).1 (Nat.le_refl _)⟩
  have HCW := Lib.hid hcw
  have HLEN := Lib.hid hC.1
  clear hcw hCW0
  obtain ⟨vb, hvb⟩ : ∃ vb, validB h = vb := ⟨_, rfl⟩
  have hval := valid_is hvb (w.alloc (.cells #[gI h.blocks, .slice A n c] 24)) A n c (HCW.out _ (Below.refl _ _)).2.2.2 hnc
  have HVB := Lib.hid hvb
  clear hvb
  cases vb with
  | false =>
    go_enter Try.func3, Try.ntmps3
    go_wp2_with (first
      | (go_at_call 7; refine hval.mono ?_; rintro e w9 ⟨rfl, hb9⟩; obtain ⟨y0, y1, hbl, hC9⟩ := HCW.out _ hb9)
      | (go_at_call 8; refine (works_any _).mono ?_; rintro e w10 ⟨rfl, hb10⟩))
    go_ret
    exact ⟨rfl, hbl.trans (hb10.mono hbl.size)⟩
  | true =>
    by_cases ht : 0 ≤ t ∧ t ≤ 999
    · obtain ⟨ht0, ht9⟩ := ht
      have hv := validB_iff.1 HVB.out
      have HV := Lib.hid hv
      clear hv
      go_enter Try.func3, Try.ntmps3
      go_wp2_with (go_at_call 7; refine hval.mono ?_; rintro e w9 ⟨rfl, hb9⟩; obtain ⟨y0, y1, hbl, hC9⟩ := HCW.out _ hb9; have hleg := legal_any w9 h A n c HV.out hC9 hnc)
      refine hleg.mono ?_
      rintro e w10 ⟨lb, rfl, hlb, hb10⟩
      have HB10 := Lib.hid (hb9.trans (hb10.mono hb9.size))
      obtain ⟨x0, x1, hbl10, hC10⟩ := HCW.out _ HB10.out
      have hlie := lie_any w10 h A n c HV.out hC10 hnc
      have HLB := Lib.hid hlb
      clear hval hleg hlb hb10 y0 y1 hbl hC9 hb9
      go_wp2_with fail
      refine hlie.mono ?_
      rintro e w11 ⟨m, rfl, hm, hb11⟩
      have HB11 := Lib.hid (HB10.out.trans (hb11.mono HB10.out.size))
      obtain ⟨z0, z1, hbl11, hC11⟩ := HCW.out _ HB11.out
      have hun := untilX_any w11 h A n c t HV.out hC11 hnc ⟨ht0, ht9⟩
      have HM := Lib.hid hm
      clear hlie hm hb11 x0 x1 hbl10 hC10
      go_wp2_with fail
      refine hun.mono ?_
      rintro e w12 ⟨A5, n5, c5, rfl, hn5, hC5, hb12⟩
      have HB12 := Lib.hid (HB11.out.trans (hb12.mono HB11.out.size))
      have hB13 := HB12.out.trans ((below_alloc0 w12 (.cells #[gI h.blocks, .slice A5 n5 c5] 24)).mono HB12.out.size)
      obtain ⟨q0, q1, hbl13, hC13⟩ := HCW.out _ hB13
      have hs12 := HB12.out.size
      have hCo : CmdsAt (w12.alloc (.cells #[gI h.blocks, .slice A5 n5 c5] 24)) A5 n5 (untilH h t).cmds := hC5.below (below_alloc0 _ _) (Nat.le_refl _)
      have hck := check_is (h := untilH h t) (cb := true) (by simp; exact checkP_cut HV.out.chk ht0) (w12.alloc (.cells #[gI h.blocks, .slice A5 n5 c5] 24)) A5 n5 c5 hCo hn5
      have hn5n : n5 ≤ n := by have := cutL_len t h.cmds; rw [HLEN.out] at this; rw [← hC5.1]; exact this
      have hkp := hK h t m HV.out ht0 ht9 HM.out
      have HO := Lib.hid (fun (W : World) (hW : Below (w12.alloc (.cells #[gI h.blocks, .slice A5 n5 c5] 24)).heap.size (w12.alloc (.cells #[gI h.blocks, .slice A5 n5 c5] 24)) W) => (show W.cell? ⟨w.heap.size, 0, none⟩ = some (gI h.blocks) ∧ W.cell? ⟨w.heap.size, 1, none⟩ = some (.slice A n c) ∧ W.cell? ⟨w12.heap.size, 0, none⟩ = some (gI h.blocks) ∧ W.cell? ⟨w12.heap.size, 1, none⟩ = some (.slice A5 n5 c5) ∧
          Below w.heap.size w W ∧ CmdsAt W A n h.cmds ∧ CmdsAt W A5 n5 (untilH h t).cmds from by
        obtain ⟨a0, a1, a2, a3⟩ := HCW.out W (hB13.trans (hW.mono hB13.size))
        have e := (hW.block w12.heap.size (by simp)).trans (heap_alloc_new w12 (.cells #[gI h.blocks, .slice A5 n5 c5] 24))
        exact ⟨a0, a1, by rw [cell_of_row _ _ 0 _ _ _ e]; rfl, by rw [cell_of_row _ _ 1 _ _ _ e]; rfl, a2, a3, hCo.below hW (Nat.le_refl _)⟩))
      clear hun hb12 hC5 z0 z1 hbl11 hC11 hbl13 hC13 hCo hB13
      have hnz : ¬ (n : Int) ≤ -1 := by omega
      have hw12 : w.heap.size < w12.heap.size := by simp at hs12; omega
      by_cases hl : legalP h
      · obtain rfl : lb = true := HLB.out.2 hl
        obtain rfl : m = -1 := by rcases HM.out with ⟨_, h⟩ | ⟨h, _⟩ | ⟨h, _⟩; exact h; exact absurd hl h; exact absurd hl h
        have HS := Lib.hid (hkp.1 hl)
        clear hkp hl
        go_wp2_with (first
          | (go_at_call 12; refine hck.mono ?_; rintro e w14 ⟨rfl, hb14⟩; obtain ⟨p0, p1, p2, p3, hbl14, hC14, hCo14⟩ := HO.out _ hb14)
          | (go_at_call 9; refine (legal_any w14 (untilH h t) A5 n5 c5 (HV.out.cut ht0) hCo14 hn5).mono ?_; rintro e w15 ⟨so, rfl, hso, hb15⟩; obtain ⟨r0, r1, r2, r3, hbl15, hC15, hCo15⟩ := HO.out _ (hb14.trans (hb15.mono hb14.size)); have hs15 := (hb14.trans (hb15.mono hb14.size)).size; obtain rfl : so = true := hso.2 HS.out; clear hso)
          | (go_at_call 8; refine (works_any _).mono ?_; rintro e w16 ⟨rfl, hb16⟩))
        go_ret
        exact ⟨rfl, hbl15.trans (hb16.mono hbl15.size)⟩
      · obtain rfl : lb = false := by
          cases lb with
          | false => rfl
          | true => exact absurd (HLB.out.1 rfl) hl
        obtain ⟨i, hi, rfl, hto, hs1, hs2⟩ := hkp.2 hl
        clear hkp hl
        obtain ⟨tt, htt⟩ : ∃ tt, tt = (h.cmd i).to := ⟨_, rfl⟩
        rw [← htt] at hto hs1 hs2
        have hin : i < n := by rw [← HLEN.out]; exact hi
        have hi1 : ((i : Int) == -1) = false := by simp
        have hi2 : (i : Int) < (n : Int) := by omega
        have hi0 : (0 : Int) ≤ (i : Int) := by omega
        have HT := Lib.hid (show tt = (h.cmd i).to ∧ (t < tt → legalP (untilH h t)) ∧ (¬ t < tt → ¬ legalP (untilH h t)) from ⟨htt, hs1, hs2⟩)
        clear htt hs1 hs2 hi
        by_cases htl : t < tt
        · have HS := Lib.hid (HT.out.2.1 htl)
          go_wp2_with (first
          | (go_at_call 12; refine hck.mono ?_; rintro e w14 ⟨rfl, hb14⟩; obtain ⟨p0, p1, p2, p3, hbl14, hC14, hCo14⟩ := HO.out _ hb14)
          | (go_at_call 9; refine (legal_any w14 (untilH h t) A5 n5 c5 (HV.out.cut ht0) hCo14 hn5).mono ?_; rintro e w15 ⟨so, rfl, hso, hb15⟩; obtain ⟨r0, r1, r2, r3, hbl15, hC15, hCo15⟩ := HO.out _ (hb14.trans (hb15.mono hb14.size)); have hs15 := (hb14.trans (hb15.mono hb14.size)).size; obtain rfl : so = true := hso.2 HS.out; clear hso; obtain ⟨gC, oC, hCA, hgC, _, _, _, _, hc4⟩ := hC15.get hin; subst hCA; rw [← HT.out.1] at hc4)
          | (go_at_call 8; refine (works_any _).mono ?_; rintro e w16 ⟨rfl, hb16⟩))
          go_ret
          exact ⟨rfl, hbl15.trans (hb16.mono hbl15.size)⟩
        · have HS := Lib.hid (HT.out.2.2 htl)
          go_wp2_with (first
          | (go_at_call 12; refine hck.mono ?_; rintro e w14 ⟨rfl, hb14⟩; obtain ⟨p0, p1, p2, p3, hbl14, hC14, hCo14⟩ := HO.out _ hb14)
          | (go_at_call 9; refine (legal_any w14 (untilH h t) A5 n5 c5 (HV.out.cut ht0) hCo14 hn5).mono ?_; rintro e w15 ⟨so, rfl, hso, hb15⟩; obtain ⟨r0, r1, r2, r3, hbl15, hC15, hCo15⟩ := HO.out _ (hb14.trans (hb15.mono hb14.size)); have hs15 := (hb14.trans (hb15.mono hb14.size)).size; obtain rfl : so = false := (by cases so with | false => rfl | true => exact absurd (hso.1 rfl) HS.out); clear hso; obtain ⟨gC, oC, hCA, hgC, _, _, _, _, hc4⟩ := hC15.get hin; subst hCA; rw [← HT.out.1] at hc4)
          | (go_at_call 8; refine (works_any _).mono ?_; rintro e w16 ⟨rfl, hb16⟩))
          go_ret
          exact ⟨rfl, hbl15.trans (hb16.mono hbl15.size)⟩
    · have hv := validB_iff.1 HVB.out
      by_cases ht0 : 0 ≤ t
      · have ht9 : ¬ t ≤ 999 := fun h => ht ⟨ht0, h⟩
        clear ht hv
        go_enter Try.func3, Try.ntmps3
        go_wp2_with (first
          | (go_at_call 7; refine hval.mono ?_; rintro e w9 ⟨rfl, hb9⟩; obtain ⟨y0, y1, hbl, hC9⟩ := HCW.out _ hb9)
          | (go_at_call 8; refine (works_any _).mono ?_; rintro e w10 ⟨rfl, hb10⟩))
        go_ret
        exact ⟨rfl, hbl.trans (hb10.mono hbl.size)⟩
      · clear ht hv
        go_enter Try.func3, Try.ntmps3
        go_wp2_with (first
          | (go_at_call 7; refine hval.mono ?_; rintro e w9 ⟨rfl, hb9⟩; obtain ⟨y0, y1, hbl, hC9⟩ := HCW.out _ hb9)
          | (go_at_call 8; refine (works_any _).mono ?_; rintro e w10 ⟨rfl, hb10⟩))
        go_ret
        exact ⟨rfl, hbl.trans (hb10.mono hbl.size)⟩

end Go.Proofs.Ytagekhgfoabgbaa
end
