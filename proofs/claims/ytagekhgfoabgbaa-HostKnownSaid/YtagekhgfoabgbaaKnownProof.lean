/- PROVED: whatever the history and the time, the law HostKnown returns true, and each argument reads behind the call as it read before.
   CONDITIONS: none; the input is any that the row admits (any blocks, any commands, nil or not, whole numbers of 64 bits). -/
import Derived.Test.YtagekhgfoabgbaaK12
import Derived.Lib.SmallJoins
import Derived.ProofKit

section
/- A history that came in, opened. -/
set_option linter.unusedSimpArgs false
set_option linter.unusedVariables false
namespace Go.Proofs.Ytagekhgfoabgbaa
open Go.RowKit Go.ChangeShapes Go.WideShapes Go.Deep

theorem cell_lt {w : World} {g o : Nat} {s : Option Nat} {v : Value} (h : w.cell? ⟨g, o, s⟩ = some v) : g < w.heap.size := by
  unfold World.cell? at h
  split at h
  · rename_i c t fr e
    exact (Array.getElem?_eq_some_iff.1 e).1
  · cases h
theorem cells5_hist : Try.prog.cellsOf 36 = 5 := by kernel_rfl
theorem cells2_hist : Try.prog.cellsOf 24 = 2 := by kernel_rfl
theorem cells1_int : Try.prog.cellsOf 3 = 1 := by kernel_rfl
theorem cells1_cmds : Try.prog.cellsOf 22 = 1 := by kernel_rfl
set_option maxRecDepth 100000 in
/-- One command, read. -/
theorem open_cmd {H : Type} {enc : TypeId × Value → H} {w : World} {base : Nat} {spare : Nat → Bool} {held : Bool} {fuel : Nat} {cs : List Value} {y : DataW H × List MemPlace} (h : DataW.trod enc Try.prog w base spare held fuel 36 cs = some y) :
    ∃ x : Cmd, cs = [gI x.kind, gI x.block, gI x.value, gI x.frm, gI x.to] := by
  obtain ⟨xs, n, _, _, hl, hlen, hf⟩ := DataW.trod_struct Try.underlying36 h
  rw [cells5_hist] at hl
  match cs, hl with
  | [c0, c1, c2, c3, c4], _ =>
    have one : ∀ (i : Nat) (hi : i < xs.length) (c : Value), DataW.trod enc Try.prog w base spare held n 3 [c] = xs[i]? → ∃ z, c = gI z := fun i hi c hc => by
      rw [List.getElem?_eq_getElem hi] at hc
      obtain ⟨z, hz, _⟩ := DataW.trod_int Try.underlying3 hc
      simp at hz
      exact ⟨z, hz⟩
    have h0 : DataW.trod enc Try.prog w base spare held n 3 [c0] = xs[0]? := by simpa [cells1_int] using hf 0 _ rfl
    have h1 : DataW.trod enc Try.prog w base spare held n 3 [c1] = xs[1]? := by simpa [cells1_int] using hf 1 _ rfl
    have h2 : DataW.trod enc Try.prog w base spare held n 3 [c2] = xs[2]? := by simpa [cells1_int] using hf 2 _ rfl
    have h3 : DataW.trod enc Try.prog w base spare held n 3 [c3] = xs[3]? := by simpa [cells1_int] using hf 3 _ rfl
    have h4 : DataW.trod enc Try.prog w base spare held n 3 [c4] = xs[4]? := by simpa [cells1_int] using hf 4 _ rfl
    have hx : xs.length = 5 := hlen
    obtain ⟨z0, rfl⟩ := one 0 (by omega) _ h0
    obtain ⟨z1, rfl⟩ := one 1 (by omega) _ h1
    obtain ⟨z2, rfl⟩ := one 2 (by omega) _ h2
    obtain ⟨z3, rfl⟩ := one 3 (by omega) _ h3
    obtain ⟨z4, rfl⟩ := one 4 (by omega) _ h4
    exact ⟨⟨z0, z1, z2, z3, z4⟩, rfl⟩
set_option maxRecDepth 100000 in
/-- A slice of commands, read. -/
theorem open_cmds {H : Type} {enc : TypeId × Value → H} {w : World} {base : Nat} {spare : Nat → Bool} {held : Bool} {fuel : Nat} {v : Value} {y : DataW H × List MemPlace} (h : DataW.trod enc Try.prog w base spare held fuel 22 [v] = some y) :
    ∃ (A : Option Addr) (n c : Nat) (l : List Cmd), v = .slice A n c ∧ n ≤ c ∧ CmdsAt w A n l := by
  rcases open_slice Try.underlying22 h with ⟨hv, _⟩ | ⟨a, len, cap, m, n, D, Pl, hv, hb, hl, hm, hmm, _, hx⟩
  · simp at hv
    exact ⟨none, 0, 0, [], hv, Nat.le_refl _, rfl, fun i x hi => by simp at hi⟩
  · simp at hv
    rw [cells5_hist] at hx
    have hlm : len ≤ m := by rw [hmm]; split <;> omega
    have hk : ∀ i, ∃ x : Cmd, i < len → w.cells? base (a.add (i * 5)) 5 = some [gI x.kind, gI x.block, gI x.value, gI x.frm, gI x.to] := fun i => by
      by_cases hi : i < len
      · obtain ⟨cs, h1, h2⟩ := hx i (by omega)
        obtain ⟨x, rfl⟩ := open_cmd h2
        exact ⟨x, fun _ => h1⟩
      · exact ⟨⟨0, 0, 0, 0, 0⟩, fun h => absurd h hi⟩
    obtain ⟨f, hf⟩ := Classical.skolem.1 hk
    refine ⟨some a, len, cap, (List.range len).map f, hv, hl, by simp, fun i x hi => ?_⟩
    have hil : i < len := by have := (List.getElem?_eq_some_iff.1 hi).1; simpa using this
    have hxf : x = f i := by
      rw [List.getElem?_map, List.getElem?_range hil] at hi
      exact (Option.some.inj hi).symm
    subst hxf
    obtain ⟨_, _, h0⟩ := World.cells?_some (hf 0 (by omega))
    have ha0 : a.spot = none := World.cell?_spot (a := a) (h0 0 (by decide))
    obtain ⟨_, _, hc⟩ := World.cells?_some (hf i hil)
    obtain ⟨g, o, s⟩ := a
    obtain rfl : s = none := ha0
    have at5 : ∀ j, j < 5 → w.cell? ⟨g, o + i * 5 + j, none⟩ = [gI (f i).kind, gI (f i).block, gI (f i).value, gI (f i).frm, gI (f i).to][j]? := fun j hj => by
      have h := hc j hj
      rw [add_add] at h
      have e : (⟨g, o, none⟩ : Addr).add (i * 5 + j) = ⟨g, o + i * 5 + j, none⟩ := by
        unfold Addr.add
        split
        · rename_i e; rw [Nat.add_assoc, e]; rfl
        · rw [Nat.add_assoc]
      rw [e] at h
      exact h
    exact ⟨g, o, rfl, cell_lt (at5 0 (by decide)), at5 0 (by decide), at5 1 (by decide), at5 2 (by decide), at5 3 (by decide), at5 4 (by decide)⟩
set_option maxRecDepth 100000 in
/-- A history that came in. -/
theorem open_hist {H : Type} {enc : TypeId × Value → H} {w : World} {base : Nat} {spare : Nat → Bool} {held : Bool} {r : Go.Reach} {b0 : Nat} {v : Value} {d : DataW H} {p : List MemPlace} (hv : Value.okWide Try.prog w r b0 24 v) (h : DataW.Trod enc Try.prog w base spare held 24 v d p) :
    ∃ (h : Hist) (A : Option Addr) (n c : Nat), v = hV h.blocks A n c ∧ n ≤ c ∧ CmdsAt w A n h.cmds := by
  obtain ⟨v0, v1, y0, y1, n, rfl, _, _, h0, h1⟩ := Joins.open_agg2 Try.underlying24 (by kernel_rfl) cells2_hist hv h
  obtain ⟨z, hz, _⟩ := DataW.trod_int Try.underlying3 h0
  obtain ⟨A, n, c, l, rfl, hn, hl⟩ := open_cmds h1
  simp at hz
  subst hz
  exact ⟨⟨z, l⟩, A, n, c, rfl, hn, hl⟩

end Go.Proofs.Ytagekhgfoabgbaa
end

section
/- The statement HostKnownSaid. -/
set_option linter.unusedSimpArgs false
set_option linter.unusedVariables false
namespace Go.Proofs.Ytagekhgfoabgbaa
open Go.ChangeShapes Go.WideShapes Go.ChangeAt Go.RowKit

theorem own_knob : ownKnob Try.prog.godebug = none := by kernel_rfl
theorem laid_out : laidOutB Try.prog = true := by kernel_rfl
set_option maxRecDepth 100000 in
theorem hostKnown_lifted (os : Os) (started : os.Started) (H : Type) (enc : TypeId × Value → H) :
    ReturnsInHanded {} Try.checked os 3 .any (Rows.hostKnownSpec.pre6 enc Try.prog Try.f3 Rows.hostKnownRow.domain false) (Rows.hostKnownSpec.post enc Try.prog Try.f3 false true false false) := by
  refine returnsInHanded_of_change (C := Try.checked) own_knob started (by kernel_rfl) Try.func3
    (ChangeSpec.witness6 (enc := enc) (C := Try.checked) false ⟨#[], #[.agg #[.int .i64 0, .slice none 0 0], .int .i64 0], []⟩ 8 (by kernel_rfl) (by kernel_rfl) (by kernel_rfl) (by kernel_rfl)) ?_
  intro W base args ds gs before hval0 hW hcnd _
  have hval : ∀ (j : Nat) t v, Try.f3.params[j]? = some t → args[j]? = some v → Value.okWide Try.prog W .any base t v := hval0
  have hW' := hW
  obtain ⟨p, q, hA0, hV, rfl, hfz, hnd⟩ := hW
  have hA : DataW.TrodAll enc Try.prog W 0 (fun _ => true) true Try.f3.params.toList args.toList ds p := hA0
  rw [Try.params3] at hA hval
  obtain ⟨v0, v1, d0, d1, p0, p1, rfl, rfl, rfl, h0, h1⟩ := trodAll_two hA
  obtain ⟨rfl, rfl⟩ := trodVars_none hV
  obtain ⟨t, rfl, rfl, rfl, wt⟩ := open_int Try.underlying3 (hval 1 3 v1 rfl rfl) h1
  have h0k := h0
  obtain ⟨h, A, n, c, rfl, hnc, hC⟩ := open_hist (hval 0 24 v0 rfl rfl) h0
  clear hA0 hval0 hA
  simp only [List.append_nil] at hW'
  have hlt : ∀ x ∈ p0, x.block < W.heap.size := fun x hx => by simpa using hW'.lt x hx
  refine (known_any knownP W h A n c t hC hnc).mono fun e W' ⟨he, hb⟩ => ?_
  subst he
  exact ⟨_, rfl, _, _, _, [], p0 ++ [], [], hW', trodAll_mk1 (shut_bool Try.underlying4 true), trodAll_mk2 (Below.trod laid_out (by kernel_rfl) (of_decide_eq_true (by kernel_rfl)) h0k hb hlt) (shut_int Try.underlying3 wt), rfl, hb.frame _, fun h => by cases h⟩
/-- For every input HostKnown returns true, and its arguments read behind the call as before. -/
theorem hostKnown_holds : Rows.HostKnownSaid :=
  OpenClaim.holds_of_wide 3 Try.f3 rfl rfl rfl rfl rfl rfl rfl ⟨rfl, rfl, rfl, rfl, rfl⟩ rfl rfl rfl rfl rfl (by kernel_rfl) Try.func3 (by kernel_rfl)
    (of_decide_eq_true (by kernel_rfl)) (by unfold Func.isWrapper; first | (rw [if_pos (by decide +kernel)]; kernel_rfl) | (rw [if_neg (by decide +kernel)]; exact ⟨rfl, rfl⟩))
    (fun os started H enc _ => hostKnown_lifted os started H enc)

end Go.Proofs.Ytagekhgfoabgbaa
end
