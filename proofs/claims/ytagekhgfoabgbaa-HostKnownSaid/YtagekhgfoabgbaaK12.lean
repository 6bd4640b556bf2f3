/- What HostKnown says is so: plain. -/
import Derived.Test.YtagekhgfoabgbaaK11

section
/- Plays of one history as plays of another: plain. -/
set_option linter.unusedSimpArgs false
set_option linter.unusedVariables false
namespace Go.Proofs.Ytagekhgfoabgbaa

theorem ShR_same {h o : Hist} : ∀ {r s : List Int}, (∀ n ∈ r, o.cmd n = h.cmd n) → ShR h r s → ShR o r s
  | [], s, _, hs => hs
  | n :: r, s, hc, ⟨s0, s1, h1, h2, e⟩ => ⟨s0, s1, ShR_same (fun n hn => hc n (List.mem_cons_of_mem _ hn)) h1, h2, by rw [hc n (by simp)]; exact e⟩
theorem ImgSet_same {h o : Hist} {os img : List Int} (hb : o.blocks = h.blocks) (hc : ∀ n ∈ os, o.cmd n = h.cmd n) : ImgSet h os img → ImgSet o os img := fun ⟨c, ⟨s0, s, h1, h2, h3⟩, e⟩ =>
  ⟨c, ⟨s0, s, ShR_same (fun n hn => hc n (List.mem_reverse.1 hn)) h1, h2, h3⟩, by rw [hb]; exact e⟩
/-- What an image names are orders. -/
theorem ImgSet.mem {h : Hist} {os img : List Int} (ho : OrdOk h os) (hi : ImgSet h os img) : ∀ x ∈ img, x = -1 ∨ x = -2 ∨ x ∈ os := by
  obtain ⟨c, hc, rfl⟩ := hi
  have hm := ho.mild hc
  intro n hn
  have hn' := List.mem_of_mem_take hn
  obtain ⟨s0, s, hs0, hd, hc⟩ := hc
  have hs := ho.mem hs0 hd
  obtain ⟨l1, l2⟩ := mem_at hs ho.all.1.len
  have hmed := chR_med ho.blocks os.reverse (by simpa using ho.len) fun n hn => ho.each n (by simpa using hn)
  have key : ∀ x ∈ s.take 6, x = -1 ∨ x ∈ os := fun x hx => by
    obtain ⟨i, hi, rfl⟩ := List.mem_iff_getElem.1 hx
    have hi6 : i < 6 := by simp at hi; omega
    have h1 := l2 i (by omega)
    have e : s.getD i 0 = (s.take 6)[i] := by rw [← getD_take6 s hi6, List.getD_eq_getElem?_getD, List.getElem?_eq_getElem hi]; rfl
    rw [e] at h1
    rcases hmed i hi6 _ h1 with h1 | h1
    · exact .inl h1
    · exact .inr (List.mem_reverse.1 h1)
  rcases hc with rfl | ⟨p, hp, rfl⟩
  · rcases key n hn' with h1 | h1
    · exact .inl h1
    · exact .inr (.inr h1)
  · rcases List.mem_or_eq_of_mem_set hn' with h1 | h1
    · rcases key n h1 with h1 | h1
      · exact .inl h1
      · exact .inr (.inr h1)
    · exact .inr (.inl h1)
theorem keptTo_same {h o : Hist} {s s' : Sg} {img : List Int} (hk : s'.keeps = s.keeps) (hc : ∀ n ∈ img, n = -1 ∨ n = -2 ∨ (o.cmd n).value = (h.cmd n).value) : ∀ i, i ≤ img.length → keptTo o s' img i = keptTo h s img i
  | 0, _ => hk
  | i + 1, hi => by
    have ih := keptTo_same hk hc i (by omega)
    have hm : img.getD i 0 ∈ img := by rw [List.getD_eq_getElem?_getD, List.getElem?_eq_getElem (by omega)]; exact List.getElem_mem _
    unfold keptTo
    rw [ih]
    by_cases h1 : img.getD i 0 = -1
    · rw [if_pos h1, if_pos h1]
    · rw [if_neg h1, if_neg h1]
      by_cases h2 : img.getD i 0 = -2
      · rw [if_pos h2, if_pos h2]
      · rw [if_neg h2, if_neg h2]
        rcases hc _ hm with h3 | h3 | h3
        · exact absurd h3 h1
        · exact absurd h3 h2
        · rw [h3]
theorem find_same {p q r : Int → Bool} : ∀ {l : List Int}, (∀ x ∈ l, p x = q x) → (∀ x ∈ l, q x = true → r x = true) → (l.filter r).find? p = l.find? q
  | [], _, _ => rfl
  | x :: l, h1, h2 => by
    have ih := find_same (l := l) (fun y hy => h1 y (by simp [hy])) (fun y hy => h2 y (by simp [hy]))
    have hx := h1 x (by simp)
    cases hq : q x with
    | true =>
      have hr := h2 x (by simp) hq
      rw [List.filter_cons, if_pos hr, List.find?_cons, List.find?_cons, hx, hq]
    | false =>
      rw [List.find?_cons, hq]
      cases hr : r x with
      | true => rw [List.filter_cons, if_pos hr, List.find?_cons, hx, hq]; exact ih
      | false => rw [List.filter_cons, if_neg (by rw [hr]; decide)]; exact ih
theorem resultS_same {h o : Hist} {s s' : Sg} {r : Int → Bool} (b : Nat) (hk : s'.keeps = s.keeps) (ho : s'.orders = s.orders.filter r) (hc : ∀ n ∈ s.orders, hitAt o b n = hitAt h b n ∧ (hitAt h b n = true → r n = true ∧ (o.cmd n).value = (h.cmd n).value)) : resultS o s' b = resultS h s b := by
  unfold resultS
  rw [hk, ho, ← List.filter_reverse, find_same (fun x hx => (hc x (List.mem_reverse.1 hx)).1) (fun x hx hq => ((hc x (List.mem_reverse.1 hx)).2 hq).1)]
  cases hf : s.orders.reverse.find? (hitAt h b) with
  | none => rfl
  | some x =>
    have h1 := List.find?_some hf
    have h2 := List.mem_reverse.1 (List.mem_of_find?_eq_some hf)
    simp only [Option.map_some, Option.getD_some]
    exact ((hc x h2).2 h1).2
theorem mayS_mk {h : Hist} {s : Sg} {n : Nat} (h1 : s.done.testBit n = false) (h2 : ∀ i : Nat, i < h.cmds.length → badAt s (h.cmd n) (h.cmd i) i = false) : mayS h s n = true := mayS_true h1 fun i hi => h2 i hi

/-- What plays keep. -/
structure Kp (h : Hist) (s : Sg) : Prop where
  late : ∀ i, h.cmds.length ≤ i → s.done.testBit i = false
  ords : ∀ x ∈ s.orders, 0 ≤ x ∧ x < h.cmds.length ∧ s.done.testBit x.toNat = true
  before : ∀ i n : Nat, i < h.cmds.length → n < h.cmds.length → s.done.testBit i = true → 0 ≤ (h.cmd n).to → (h.cmd n).to < (h.cmd i).frm → s.done.testBit n = true
theorem Reach.kp {h : Hist} {s : Sg} (hr : Reach h s) : Kp h s := by
  induction hr with
  | init => exact ⟨fun i _ => by simp [sg0], fun x hx => by simp [sg0] at hx, fun i n _ _ hb => by simp [sg0] at hb⟩
  | @step s s' hr hn ih =>
    obtain ⟨n, hl, hm, hn⟩ := hn
    have hd : s'.done = s.done ||| 2 ^ n := by rcases hn with ⟨_, img, _, rfl⟩ | ⟨_, _, rfl⟩ <;> rfl
    refine ⟨fun i hi => ?_, fun x hx => ?_, fun i k hi hk hb h0 h1 => ?_⟩
    · rw [hd, or_bit, ih.late i hi]; simp; omega
    · rw [hd, or_bit]
      have old : x ∈ s.orders → 0 ≤ x ∧ x < h.cmds.length ∧ (s.done.testBit x.toNat || decide (n = x.toNat)) = true := fun hx => by
        obtain ⟨a, b, c⟩ := ih.ords x hx
        exact ⟨a, b, by rw [c]; rfl⟩
      rcases hn with ⟨_, img, _, rfl⟩ | ⟨_, _, rfl⟩
      · simp [fallS] at hx
      · have hx : x ∈ (if isOrd (h.cmd n) = true then s.orders ++ [(n : Int)] else s.orders) := hx
        split at hx
        · rcases List.mem_append.1 hx with hx | hx
          · exact old hx
          · simp at hx; subst hx
            exact ⟨by omega, by omega, by simp⟩
        · exact old hx
    · rw [hd, or_bit] at hb ⊢
      by_cases e : n = i
      · subst e
        rw [mayS_before hm hk h0 h1]; rfl
      · have : s.done.testBit i = true := by simpa [e] using hb
        rw [ih.before i k hi hk this h0 h1]; rfl

/-- o is h without its last commands, which are open. -/
structure Pre (o h : Hist) : Prop where
  blocks : h.blocks = o.blocks
  len : o.cmds.length ≤ h.cmds.length
  same : ∀ i : Nat, i < o.cmds.length → h.cmd i = o.cmd i
  more : ∀ i : Nat, o.cmds.length ≤ i → i < h.cmds.length → (h.cmd i).to < 0 ∧ (h.cmd i).kind ≠ 9
theorem Pre.at {o h : Hist} (p : Pre o h) {x : Int} (h0 : 0 ≤ x) (h1 : x < o.cmds.length) : h.cmd x = o.cmd x := by
  obtain ⟨n, rfl⟩ := Int.eq_ofNat_of_zero_le h0
  exact p.same n (by omega)
theorem Pre.reach {o h : Hist} (p : Pre o h) (hok : HistOk o) {s : Sg} (hr : Reach o s) : Reach h s := by
  induction hr with
  | init => exact .init
  | @step s s' hr hn ih =>
    have kp := hr.kp
    have sok := (hr.ok hok).1
    refine .step ih ?_
    obtain ⟨n, hl, hm, hn⟩ := hn
    have hc : ∀ x ∈ s.orders, h.cmd x = o.cmd x := fun x hx => p.at (kp.ords x hx).1 (kp.ords x hx).2.1
    have hsn := p.same n hl
    refine ⟨n, by have := p.len; omega, mayS_mk (mayS_bit hm) fun i hi => ?_, ?_⟩
    · by_cases hio : i < o.cmds.length
      · rw [hsn, p.same i hio]; exact mayS_ok hm i hio
      · obtain ⟨m1, m2⟩ := p.more i (by omega) hi
        rw [Bool.eq_false_iff]
        intro hb
        rcases (badAt_iff _ _ _ _).1 hb with ⟨_, h2, _⟩ | ⟨_, h2, _⟩
        · omega
        · exact m2 h2
    · rw [hsn]
      have hres : ∀ b, resultS h s b = resultS o s b := fun b => resultS_same (r := fun _ => true) b rfl (List.filter_eq_self.2 (fun _ _ => rfl)).symm fun x hx => by
        unfold hitAt
        rw [hc x hx]
        exact ⟨rfl, fun _ => ⟨rfl, rfl⟩⟩
      rcases hn with ⟨h9, img, hi, rfl⟩ | ⟨h9, h10, rfl⟩
      · refine .inl ⟨h9, img, ImgSet_same p.blocks hc hi, ?_⟩
        have hk : keptS h s img = keptS o s img := keptTo_same rfl (fun x hx => by
          rcases ImgSet.mem sok.ords hi x hx with e | e | e
          · exact .inl e
          · exact .inr (.inl e)
          · exact .inr (.inr (by rw [hc x e]))) _ (Nat.le_refl _)
        unfold fallS
        rw [hk]
      · refine .inr ⟨h9, by rw [hres]; exact h10, ?_⟩
        unfold doS
        rw [hsn]
theorem Pre.full {o h : Hist} (p : Pre o h) {s : Sg} (hf : fullS o s) : fullS h s := fun i hi ht => by
  by_cases hio : i < o.cmds.length
  · exact hf i hio (by rw [← p.same i hio]; exact ht)
  · have := (p.more i (by omega) hi).1; omega
theorem Pre.legal {o h : Hist} (p : Pre o h) (hok : HistOk o) : legalP o → legalP h := fun ⟨s, hr, hf⟩ => ⟨s, p.reach hok hr, p.full hf⟩

end Go.Proofs.Ytagekhgfoabgbaa
end

section
/- What is legal is legal up to any time: plain. -/
set_option linter.unusedSimpArgs false
set_option linter.unusedVariables false
namespace Go.Proofs.Ytagekhgfoabgbaa

/-- Commands that are passed over: what had no end yet, and does nothing then. -/
def skip (h : Hist) (t : Int) (n : Int) : Bool := decide (t < (h.cmd n).to) && ((h.cmd n).kind == 10 || (h.cmd n).kind == 4)
structure Cut (h : Hist) (t : Int) (s s' : Sg) : Prop where
  late : ∀ i : Nat, (untilH h t).cmds.length ≤ i → s.done.testBit i = false
  bits : ∀ i : Nat, i < (untilH h t).cmds.length → s'.done.testBit i = (s.done.testBit i && !skip h t i)
  orders : s'.orders = s.orders.filter fun n => !skip h t n
  keeps : s'.keeps = s.keeps
theorem cutL_stop {t : Int} : ∀ {l : List Cmd} {c : Cmd}, l[(cutL t l).length]? = some c → t < c.frm
  | x :: r, c, hc => by
    unfold cutL at hc
    split at hc
    · rename_i h; simp at hc; subst hc; exact h
    · exact cutL_stop (l := r) (by simpa using hc)
theorem asc {h : Hist} (hok : okI h h.cmds.length) {k i : Nat} (hki : k < i) (hi : i < h.cmds.length) : (h.cmd k).frm < (h.cmd i).frm := by
  have := okI_apart hok hi (k := k) (by omega) (by omega)
  unfold badP at this
  omega
/-- What is not in a history up to a time began later. -/
theorem until_late {h : Hist} (hok : okI h h.cmds.length) {t : Int} {i : Nat} (h1 : (untilH h t).cmds.length ≤ i) (h2 : i < h.cmds.length) : t < (h.cmd i).frm := by
  have hl : (untilH h t).cmds.length < h.cmds.length := by omega
  have h3 : t < (h.cmd ((untilH h t).cmds.length : Nat)).frm := cutL_stop (cmd_at hl)
  by_cases e : (untilH h t).cmds.length = i
  · rw [← e]; exact h3
  · have := asc hok (k := (untilH h t).cmds.length) (i := i) (by omega) h2; omega
theorem bit_or_and (a b : Bool) (n i : Nat) : (a || decide (n = i) && b) = (a || decide (n = i) && b) := rfl
theorem Cut.reach {h : Hist} {t : Int} (v : Vd h) (ht : 0 ≤ t) {s : Sg} (hr : Reach h s) : ∃ s', Reach (untilH h t) s' ∧ (fullS (untilH h t) s' ∨ Cut h t s s') := by
  have hok := v.chk.2.2.2
  induction hr with
  | init => exact ⟨sg0, .init, .inr ⟨fun i _ => by simp [sg0], fun i _ => by simp [sg0], by simp [sg0], rfl⟩⟩
  | @step s s2 hr hn ih =>
    obtain ⟨s', hr', hf | hc⟩ := ih
    · exact ⟨s', hr', .inl hf⟩
    have kp := hr.kp
    have sok := (hr.ok v.ok).1
    obtain ⟨n, hl, hm, hn⟩ := hn
    have hd : s2.done = s.done ||| 2 ^ n := by rcases hn with ⟨_, img, _, rfl⟩ | ⟨_, _, rfl⟩ <;> rfl
    have hbn := mayS_bit hm
    have cn := isCmdB_iff.1 (hok n hl).1
    by_cases hno : n < (untilH h t).cmds.length
    · obtain ⟨_, hcn, hfn⟩ := until_cmd hno
      by_cases hsk : skip h t n = true
      · -- passed over
        have hsk2 := hsk
        unfold skip at hsk2
        simp only [Bool.and_eq_true, decide_eq_true_eq, Bool.or_eq_true, beq_iff_eq] at hsk2
        obtain ⟨ht1, hk⟩ := hsk2
        rcases hn with ⟨h9, _⟩ | ⟨h9, h10, rfl⟩
        · omega
        refine ⟨s', hr', .inr ⟨fun i hi => ?_, fun i hi => ?_, ?_, hc.keeps⟩⟩
        · rw [hd, or_bit, hc.late i hi]; simp; omega
        · rw [hd, or_bit, hc.bits i hi]
          by_cases e : n = i
          · subst e; rw [hsk]; simp
          · simp [e]
        · show s'.orders = List.filter _ (if isOrd (h.cmd n) = true then s.orders ++ [(n : Int)] else s.orders)
          split
          · rw [List.filter_append, hc.orders]; simp [hsk]
          · exact hc.orders
      · -- done alike
        have hskf : skip h t n = false := by simpa using hsk
        have hsk2 := hskf
        unfold skip at hsk2
        simp only [Bool.and_eq_false_iff, decide_eq_false_iff_not, Bool.or_eq_false_iff, beq_eq_false_iff_ne] at hsk2
        have hmay : mayS (untilH h t) s' n = true := mayS_mk (by rw [hc.bits n hno, hbn]; rfl) fun i hi => by
          obtain ⟨hi2, hci, hfi⟩ := until_cmd hi
          have hb0 := mayS_ok hm i hi2
          have hto := cutC_to t (h.cmd i)
          rw [Bool.eq_false_iff]
          intro hb
          rw [hcn, hci] at hb
          have hx := (badAt_iff _ _ _ _).1 hb
          rw [cutC_frm, cutC_kind, cutC_frm, hc.bits i hi] at hx
          have : badAt s (h.cmd n) (h.cmd i) i = true := by
            refine (badAt_iff _ _ _ _).2 ?_
            rcases hx with ⟨h1, h2, h3⟩ | ⟨h1, h2, h3⟩
            · left
              have hnt : ¬ t < (h.cmd i).to := by omega
              have hs : skip h t i = false := by unfold skip; simp [hnt]
              rw [hs] at h1
              exact ⟨by simpa using h1, by omega, by omega⟩
            · right
              simp only [Bool.and_eq_true] at h1
              exact ⟨h1.1, h2, h3⟩
          rw [hb0] at this; cases this
        have hbits : ∀ i : Nat, i < (untilH h t).cmds.length → (s'.done ||| 2 ^ n).testBit i = ((s.done ||| 2 ^ n).testBit i && !skip h t i) := fun i hi => by
          rw [or_bit, or_bit, hc.bits i hi]
          by_cases e : n = i
          · subst e; rw [hskf]; simp
          · simp [e]
        have hlate : ∀ i : Nat, (untilH h t).cmds.length ≤ i → (s.done ||| 2 ^ n).testBit i = false := fun i hi => by
          rw [or_bit, hc.late i hi]; simp; omega
        have hordc : ∀ x ∈ s.orders, (untilH h t).cmd x = cutC t (h.cmd x) ∧ x.toNat < (untilH h t).cmds.length := fun x hx => by
          obtain ⟨a, b, c⟩ := kp.ords x hx
          have hlt : x.toNat < (untilH h t).cmds.length := by
            by_cases hh : x.toNat < (untilH h t).cmds.length
            · exact hh
            · have := hc.late x.toNat (by omega); rw [c] at this; cases this
          have := (until_cmd hlt).2.1
          rw [show ((x.toNat : Nat) : Int) = x by omega] at this
          exact ⟨this, hlt⟩
        rcases hn with ⟨h9, img, hi, rfl⟩ | ⟨h9, h10, rfl⟩
        · -- a fall: nothing in the cache was cut
          have hnc : ∀ x ∈ s.orders, ¬ t < (h.cmd x).to := fun x hx htx => by
            obtain ⟨a, b, c⟩ := kp.ords x hx
            obtain ⟨y, rfl⟩ := Int.eq_ofNat_of_zero_le a
            rw [Int.toNat_natCast] at c
            have hy : y < h.cmds.length := by omega
            have hyn : y ≠ n := fun e => by subst e; rw [hbn] at c; cases c
            have h1 := okI_apart hok hl hy hyn
            have h2 := cn.2.1 h9
            have h3 := kp.before y n hy hl c (by omega)
            unfold badP at h1
            have h4 : s.done.testBit n = true := h3 (by
              by_cases e : (h.cmd (y : Nat)).frm < (h.cmd n).frm
              · exfalso; omega
              · have := okI_apart hok hl hy hyn
                unfold badP at this
                omega)
            rw [hbn] at h4; cases h4
          have hsame : ∀ x ∈ s.orders, (untilH h t).cmd x = h.cmd x := fun x hx => by
            rw [(hordc x hx).1]; unfold cutC; rw [if_neg (hnc x hx)]
          have hord : s'.orders = s.orders := by
            rw [hc.orders]
            refine List.filter_eq_self.2 fun x hx => ?_
            unfold skip; simp [hnc x hx]
          have hk : keptS (untilH h t) s' img = keptS h s img := keptTo_same hc.keeps (fun x hx => by
            rcases ImgSet.mem sok.ords hi x hx with e | e | e
            · exact .inl e
            · exact .inr (.inl e)
            · exact .inr (.inr (by rw [hsame x e]))) _ (Nat.le_refl _)
          refine ⟨fallS (untilH h t) s' n img, .step hr' ⟨n, hno, hmay, .inl ⟨by rw [hcn, cutC_kind]; exact h9, img, by rw [hord]; exact ImgSet_same (h := h) (o := untilH h t) rfl hsame hi, rfl⟩⟩, .inr ⟨hlate, hbits, rfl, hk⟩⟩
        · -- another command
          have hres : ∀ b, resultS (untilH h t) s' b = resultS h s b := fun b => resultS_same b hc.keeps hc.orders fun x hx => by
            obtain ⟨e, _⟩ := hordc x hx
            unfold hitAt isPut
            rw [e, cutC_kind, cutC_block]
            refine ⟨rfl, fun hh => ?_⟩
            simp only [Bool.and_eq_true, Bool.or_eq_true, beq_iff_eq] at hh
            have hnk : ¬((h.cmd x).kind = 10 ∨ (h.cmd x).kind = 4) := by omega
            refine ⟨by unfold skip; simp; right; omega, ?_⟩
            rcases cutC_value t (h.cmd x) with hv | ⟨_, hv, _⟩
            · exact hv
            · omega
          have hordn : isOrd ((untilH h t).cmd n) = isOrd (h.cmd n) := by
            rw [hcn]
            unfold isOrd
            rw [cutC_kind]
            have hto := cutC_to t (h.cmd n)
            by_cases h4 : (h.cmd n).kind = 4
            · have : (cutC t (h.cmd n)).to = (h.cmd n).to := by omega
              rw [this]
            · have e4 : ((h.cmd n).kind == 4) = false := by rw [beq_eq_false_iff_ne]; exact h4
              rw [e4]; rfl
          refine ⟨doS (untilH h t) s' n, .step hr' ⟨n, hno, hmay, .inr ⟨by rw [hcn, cutC_kind]; exact h9, fun ⟨hk, hx⟩ => ?_, rfl⟩⟩, .inr ⟨hlate, hbits, ?_, hc.keeps⟩⟩
          · rw [hcn, cutC_kind] at hk
            have hnt : ¬ t < (h.cmd n).to := by omega
            have e : cutC t (h.cmd n) = h.cmd n := by unfold cutC; rw [if_neg hnt]
            rw [hcn, e, hres] at hx
            exact h10 ⟨hk, hx⟩
          · show (if isOrd ((untilH h t).cmd n) = true then s'.orders ++ [(n : Int)] else s'.orders) = List.filter _ (if isOrd (h.cmd n) = true then s.orders ++ [(n : Int)] else s.orders)
            rw [hordn]
            split
            · rw [List.filter_append, hc.orders]; simp [hskf]
            · exact hc.orders
    · -- the first command that began later: all that ended is done
      have hlate := until_late hok (t := t) (i := n) (by omega) hl
      refine ⟨s', hr', .inl fun i hi h0 => ?_⟩
      obtain ⟨hi2, hci, _⟩ := until_cmd hi
      rw [hci] at h0
      have hto := cutC_to t (h.cmd i)
      have hnt : ¬ t < (h.cmd i).to := by omega
      rw [hc.bits i hi, mayS_before hm hi2 (by omega) (by omega)]
      unfold skip; simp [hnt]
/-- What is legal is legal up to any time. -/
theorem legal_until {h : Hist} {t : Int} (v : Vd h) (ht : 0 ≤ t) : legalP h → legalP (untilH h t) := fun ⟨s, hr, hf⟩ => by
  obtain ⟨s', hr', hf' | hc⟩ := Cut.reach v ht hr
  · exact ⟨s', hr', hf'⟩
  · refine ⟨s', hr', fun i hi h0 => ?_⟩
    obtain ⟨hi2, hci, _⟩ := until_cmd hi
    rw [hci] at h0
    have hto := cutC_to t (h.cmd i)
    have hnt : ¬ t < (h.cmd i).to := by omega
    rw [hc.bits i hi, hf i hi2 (by omega)]
    unfold skip; simp [hnt]

end Go.Proofs.Ytagekhgfoabgbaa
end

section
/- The law HostKnown is so: plain. -/
set_option linter.unusedSimpArgs false
set_option linter.unusedVariables false
namespace Go.Proofs.Ytagekhgfoabgbaa

theorem cutC_cutC {t t' : Int} (h0 : 0 ≤ t') (hle : t' ≤ t) (c : Cmd) : cutC t' (cutC t c) = cutC t' c := by
  by_cases h1 : t < c.to
  · have h2 : t' < c.to := by omega
    have e1 : cutC t c = ⟨c.kind, c.block, if c.kind = 10 then 0 else c.value, c.frm, -1⟩ := by unfold cutC; rw [if_pos h1]
    have e2 : cutC t' c = ⟨c.kind, c.block, if c.kind = 10 then 0 else c.value, c.frm, -1⟩ := by unfold cutC; rw [if_pos h2]
    have h3 : ¬ t' < (-1 : Int) := by omega
    rw [e1, e2]
    unfold cutC
    exact if_neg h3
  · have e1 : cutC t c = c := by unfold cutC; rw [if_neg h1]
    rw [e1]
theorem cutL_cutL {t t' : Int} (h0 : 0 ≤ t') (hle : t' ≤ t) : ∀ l : List Cmd, cutL t' (cutL t l) = cutL t' l
  | [] => rfl
  | c :: r => by
    by_cases h1 : t < c.frm
    · have h2 : t' < c.frm := by omega
      have e1 : cutL t (c :: r) = [] := by unfold cutL; rw [if_pos h1]
      have e2 : cutL t' (c :: r) = [] := by unfold cutL; rw [if_pos h2]
      rw [e1, e2]; rfl
    · have e1 : cutL t (c :: r) = cutC t c :: cutL t r := by rw [cutL, if_neg h1]
      rw [e1, cutL, cutL, cutC_frm, cutC_cutC h0 hle, cutL_cutL h0 hle r]
theorem until_until {h : Hist} {t t' : Int} (h0 : 0 ≤ t') (hle : t' ≤ t) : untilH (untilH h t) t' = untilH h t' := by
  unfold untilH
  rw [cutL_cutL h0 hle]
theorem cutL_all {t : Int} : ∀ {l : List Cmd}, (∀ c ∈ l, c.frm ≤ t ∧ c.to ≤ t) → cutL t l = l
  | [], _ => rfl
  | c :: r, hl => by
    obtain ⟨a, b⟩ := hl c (by simp)
    have e : cutC t c = c := by unfold cutC; rw [if_neg (by omega)]
    rw [cutL, if_neg (by omega), e, cutL_all fun c hc => hl c (by simp [hc])]
theorem until_all {h : Hist} (v : Vd h) : untilH h 999 = h := by
  unfold untilH
  rw [cutL_all fun c hc => ?_]
  obtain ⟨i, hi, rfl⟩ := List.mem_iff_getElem.1 hc
  have e := cmd_of (List.getElem?_eq_getElem hi)
  rw [← e]
  have := isCmdB_iff.1 (v.chk.2.2.2 i hi).1
  exact ⟨this.1.2, (v.to hi).2⟩
theorem cutL_mono {a t : Int} (hle : a ≤ t) : ∀ l : List Cmd, (cutL a l).length ≤ (cutL t l).length
  | [] => Nat.le_refl _
  | c :: r => by
    by_cases h1 : a < c.frm
    · have e1 : cutL a (c :: r) = [] := by unfold cutL; rw [if_pos h1]
      rw [e1]; simp
    · rw [cutL, if_neg h1, cutL, if_neg (by omega)]
      have := cutL_mono hle r
      simp; omega
/-- Between two times at which nothing ended. -/
theorem pre_until {h : Hist} (v : Vd h) {a t : Int} (ha : 0 ≤ a) (hle : a ≤ t) (hn : ∀ k : Nat, k < h.cmds.length → ¬ (a < (h.cmd k).to ∧ (h.cmd k).to ≤ t)) : Pre (untilH h a) (untilH h t) where
  blocks := rfl
  len := cutL_mono hle h.cmds
  same i hi := by
    obtain ⟨i1, i2, i3⟩ := until_cmd hi
    have hi2 : i < (untilH h t).cmds.length := Nat.lt_of_lt_of_le hi (cutL_mono hle h.cmds)
    obtain ⟨_, j2, _⟩ := until_cmd hi2
    rw [i2, j2]
    have := hn i i1
    unfold cutC
    by_cases h1 : a < (h.cmd i).to
    · rw [if_pos h1, if_pos (by omega)]
    · rw [if_neg h1, if_neg (by omega)]
  more i h1 h2 := by
    obtain ⟨i1, i2, i3⟩ := until_cmd h2
    have hl := until_late v.chk.2.2.2 h1 i1
    have := hn i i1
    have hc := isCmdB_iff.1 (v.chk.2.2.2 i i1).1
    have hto := cutC_to t (h.cmd i)
    rw [i2, cutC_kind]
    omega
theorem legal_later {h : Hist} (v : Vd h) {a t : Int} (ha : 0 ≤ a) (hle : a ≤ t) (hn : ∀ k : Nat, k < h.cmds.length → ¬ (a < (h.cmd k).to ∧ (h.cmd k).to ≤ t)) : legalP (untilH h a) → legalP (untilH h t) := fun hl =>
  (pre_until v ha hle hn).legal (v.cut ha).ok hl
theorem exists_max (p : Nat → Prop) (f : Nat → Int) : ∀ N : Nat, (∀ k, k < N → ¬ p k) ∨ ∃ k, k < N ∧ p k ∧ ∀ j, j < N → p j → f j ≤ f k
  | 0 => .inl fun k hk => by omega
  | N + 1 => by
    rcases exists_max p f N with h | ⟨k, h1, h2, h3⟩
    · by_cases hp : p N
      · refine .inr ⟨N, by omega, hp, fun j hj hpj => ?_⟩
        by_cases e : j = N
        · subst e; exact Int.le_refl _
        · exact absurd hpj (h j (by omega))
      · refine .inl fun k hk => ?_
        by_cases e : k = N
        · subst e; exact hp
        · exact h k (by omega)
    · by_cases hp : p N ∧ f k < f N
      · refine .inr ⟨N, by omega, hp.1, fun j hj hpj => ?_⟩
        by_cases e : j = N
        · subst e; exact Int.le_refl _
        · have := h3 j (by omega) hpj; omega
      · refine .inr ⟨k, by omega, h2, fun j hj hpj => ?_⟩
        by_cases e : j = N
        · subst e
          by_cases h4 : f k < f j
          · exact absurd ⟨hpj, h4⟩ hp
          · omega
        · exact h3 j (by omega) hpj
/-- If all that ended by a time was legal as it ended, it is legal up to that time. -/
theorem legal_by {h : Hist} (v : Vd h) {t : Int} (ht : 0 ≤ t) (ha : ∀ k : Nat, k < h.cmds.length → ¬ (h.cmd k).to < 0 → (h.cmd k).to ≤ t → legalP (untilH h (h.cmd k).to)) : legalP (untilH h t) := by
  rcases exists_max (fun k => ¬ (h.cmd k).to < 0 ∧ (h.cmd k).to ≤ t) (fun k => (h.cmd k).to) h.cmds.length with hn | ⟨k, h1, ⟨h2, h3⟩, h4⟩
  · refine legal_open fun i hi => ?_
    obtain ⟨i1, i2, i3⟩ := until_cmd hi
    have := hn i i1
    have hto := cutC_to t (h.cmd i)
    rw [i2]
    omega
  · refine legal_later v (by omega) h3 (fun j hj hx => ?_) (ha k h1 h2 h3)
    have := h4 j hj ⟨by omega, hx.2⟩
    omega
theorem knownP : KnownP := fun h t m v ht0 ht9 hm => by
  refine ⟨legal_until v ht0, fun hl => ?_⟩
  rcases hm with ⟨h1, _⟩ | ⟨_, i, hi, rfl, hto, hno, hall⟩ | ⟨_, _, hall⟩
  · exact absurd h1 hl
  · refine ⟨i, hi, rfl, by omega, fun hlt => ?_, fun hge hx => ?_⟩
    · exact legal_by v ht0 fun k hk h1 h2 => hall k hk h1 (by omega)
    · have h1 := legal_until (v.cut ht0) (t := (h.cmd i).to) (by omega) hx
      rw [until_until (by omega) (by omega)] at h1
      exact hno h1
  · have h1 := legal_by v (t := 999) (by decide) fun k hk h1 h2 => hall k hk h1
    rw [until_all v] at h1
    exact absurd h1 hl

end Go.Proofs.Ytagekhgfoabgbaa
end
