/- The walk over host.ends: all plays of a history. -/
import Derived.Test.YtagekhgfoabgbaaK06
import Derived.Deep.AppendLies
import Derived.Deep.Quiet

section
/- What the walk of next owes beside: an append as a step of a drawn region, the images that are gone through. -/
set_option linter.unusedSimpArgs false
set_option linter.unusedVariables false
namespace Go.Proofs.Ytagekhgfoabgbaa
open Go.RowKit Go.Maps

section
variable {P : Program}
/-- One more element, which lies in a block of its own, at a step of a region that draws. -/
theorem row_append_step {w : World} {ops : Array Oper} {o : Oper} {a : Act} {K : Act → World → Prop} {Q : Exit → Act → World → Prop} {E : Prop} (base : Nat) (hgd : o.guard = none) (s x : Operand) (t e : TypeId) (z : Value) (size bytes : Nat)
    (ho : o.op = .call { callee := .builtin .append, args := #[s, x], argTypes := #[t, t] }) (ht : P.underlying t = some (.slice e)) (hi : (P.info? e).map (fun i => (i.zero, i.size, i.bytes)) = some (some z, size, bytes))
    (hzs : z.cells.size = size) (hsz : 0 < size) {v : Value} {n : Nat} {xs : List Value} (hown : Row w base e size v n xs) (hs : a.eval s = v)
    (g : Nat) (news : Array Value) (tn : TypeId) (hx : a.eval x = .slice (some ⟨g, 0, none⟩) 1 1) (hg : w.heap[g]? = some (.cells news tn (0, 0))) (hl : news.size = size) (h1 : news.all (·.oneCell') = true)
    (hn : (n + 1) * bytes ≤ 140737488355328) (hn2 : n + 1 ≤ maxLen) (hbase : base ≤ w.heap.size)
    (h : ∀ v' w', Row w' base e size v' (n + 1) (xs ++ news.toList) → w.grownBy w' v.ownBlock → (v'.ownBlock = v.ownBlock ∨ ∃ b, v'.ownBlock = some b ∧ w.heap.size ≤ b) → K (a.put o.dst v') w') :
    if Region.wanted o (yielded ops a.tmps) = true then Oper.wp P o a w K Q else E := by
  have hw : Region.wanted o (yielded ops a.tmps) = true := by simp [Region.wanted, hgd]
  rw [if_pos hw]
  cases hq : P.info? e with
  | none => simp [hq] at hi
  | some i =>
    simp only [hq, Option.map_some, Option.some.injEq, Prod.mk.injEq] at hi
    obtain ⟨v', w', hr, h2, h3, h4⟩ := row_append (P := P) w base t o.type e i z size bytes ht hq hi.1 hi.2.1 hi.2.2 hzs hsz v n xs hown ⟨g, 0, none⟩ 1 1 news.toList (by simpa using hl)
      (fun j u hu => by rw [addr_add, cell_of_row w g _ news tn (0, 0) hg]; simpa using hu) (fun u hu => (Array.all_eq_true_iff_forall_mem.1 h1) u (by simpa using hu)) (by decide) hn2 hn hbase
    unfold Oper.wp execOp
    simp only [ho, resolve, invoke, builtin, Sem.run_bind, Sem.run_pure, Result.andThen_ok, List.map_toArray, List.map_cons, List.map_nil, hs, hx, hr]
    exact h v' w' h2 h3 h4
end

theorem upto_succ (P : Nat → Prop) (j : Nat) : (∃ i, i < j + 1 ∧ P i) ↔ (∃ i, i < j ∧ P i) ∨ P j :=
  ⟨fun ⟨i, hi, h⟩ => by
    by_cases e : i < j
    · exact .inl ⟨i, e, h⟩
    · have : i = j := by omega
      subst this; exact .inr h, fun h => h.elim (fun ⟨i, hi, h⟩ => ⟨i, by omega, h⟩) fun h => ⟨j, by omega, h⟩⟩
theorem nextAt_do {h : Hist} {s s' : Sg} {j : Nat} (hm : mayS h s j = true) (h9 : (h.cmd j).kind ≠ 9) (h10 : (h.cmd j).kind = 10 → ¬ ((h.cmd j).to < 0) ∧ resultS h s (h.cmd j).block.toNat = (h.cmd j).value) : NextAt h s j s' ↔ s' = doS h s j :=
  ⟨fun ⟨_, h⟩ => h.elim (fun h => absurd h.1 h9) fun h => h.2.2, fun e => ⟨hm, .inr ⟨h9, fun ⟨a, b⟩ => b.elim (h10 a).1 fun b => b (h10 a).2, e⟩⟩⟩
theorem nextAt_not {h : Hist} {s s' : Sg} {j : Nat} (h10 : (h.cmd j).kind = 10) (hno : (h.cmd j).to < 0 ∨ resultS h s (h.cmd j).block.toNat ≠ (h.cmd j).value) : ¬ NextAt h s j s' := fun ⟨_, h⟩ => h.elim (fun h => by have := h.1; omega) fun h => h.2.1 ⟨h10, hno⟩
theorem nextAt_fall {h : Hist} {s s' : Sg} {j : Nat} (hm : mayS h s j = true) (h9 : (h.cmd j).kind = 9) : NextAt h s j s' ↔ ∃ img, ImgSet h s.orders img ∧ s' = fallS h s j img :=
  ⟨fun ⟨_, h⟩ => h.elim (fun h => h.2) fun h => absurd h9 h.1, fun e => ⟨hm, .inl ⟨h9, e⟩⟩⟩
theorem info57 : (Try.prog.info? 57).map (fun i => (i.zero, i.size, i.bytes)) = some (some (.pointer none), 1, 8) := by kernel_rfl

theorem open_is {bb : Bool} (k b v f t : Int) (w : World) (hd : decide (t < 0) = bb) :
    Calls Try.prog 24 #[.agg #[.int .i64 k, .int .i64 b, .int .i64 v, .int .i64 f, .int .i64 t]] w fun e w' => e = .returned (.bool bb) ∧ Below w.heap.size w w' := by
  rw [← hd]; exact open_any k b v f t w
/-- A world that is w0 but for new blocks. -/
structure BW (w0 : World) where
  v : World
  h : Below w0.heap.size w0 v
instance (w0 : World) : Nonempty (BW w0) := ⟨⟨w0, Below.refl _ _⟩⟩
/-- A region that draws its order, and whose operations read, or call what only makes memory: walked once, in the order of the text. -/
theorem wp_region_below_lit {P : Program} {id : Nat} {Q : Exit → Act → World → Prop} {a : Act} {w : World} {l : List Oper} (hm : P.follows .mixedOrders = true) (hB : Region.lexB .any l.toArray = true)
    (h : wpQuiet P l.toArray (fun w' => ∃ x : BW w.drew, w' = x.v) (fun a' => ∀ w', (∃ x : BW w.drew, w' = x.v) → Q .normal a' w') l a) : (Code.region id l.toArray true).wp P Q a w :=
  wp_region_quiet (C := fun w' => ∃ x : BW w.drew, w' = x.v) hm hB ⟨⟨_, Below.refl _ _⟩, rfl⟩ (by simpa using h)
theorem Calls.quiet_below {P : Program} {f : FuncId} {args : Array Value} {w0 : World} {x : BW w0} {v : Value} (h : Calls P f args x.v fun e w' => e = .returned v ∧ Below x.v.heap.size x.v w') : Calls P f args x.v fun e w'' => e = .returned v ∧ ∃ y : BW w0, w'' = y.v :=
  h.mono fun _ _ ⟨he, hb⟩ => ⟨he, ⟨_, x.h.trans (hb.mono x.h.size)⟩, rfl⟩
/-- The images, in memory. -/
def FAt (w : World) (gi oi : Nat) (F : List (Value × List Int)) : Prop :=
  (∃ cs, w.heap[gi]? = some (.cells cs 40 (0, 0))) ∧ ∀ (i : Nat) (p : Value × List Int), F[i]? = some p → w.cell? ⟨gi, oi + i, none⟩ = some p.1 ∧ IntsOwn w p.1 p.2
theorem FAt.below {w w' : World} {gi oi : Nat} {F : List (Value × List Int)} (h : FAt w gi oi F) (hb : Below w.heap.size w w') : FAt w' gi oi F := by
  obtain ⟨⟨cs, hcs⟩, h⟩ := h
  have e := hb.block gi (Array.getElem?_eq_some_iff.1 hcs).1
  exact ⟨⟨cs, e.trans hcs⟩, fun i p hp => ⟨(World.cell?_of_block e).trans (h i p hp).1, (h i p hp).2.below hb⟩⟩
theorem FAt.grown {w w' : World} {gi oi : Nat} {F : List (Value × List Int)} {row : Option Nat} (h : FAt w gi oi F) (hg : w.grownBy w' row) (hr : ∀ k, row = some k → ∃ cs, w.heap[k]? = some (.cells cs 57 (0, 0))) : FAt w' gi oi F := by
  obtain ⟨⟨cs, hcs⟩, h⟩ := h
  have e := hg.block gi (Array.getElem?_eq_some_iff.1 hcs).1 fun e => by
    obtain ⟨cs', h1⟩ := hr gi e.symm
    rw [hcs] at h1
    injection h1 with h1
    injection h1 with _ h1 _
    exact absurd h1 (by decide)
  exact ⟨⟨cs, e.trans hcs⟩, fun i p hp => ⟨(World.cell?_of_block e).trans (h i p hp).1, (h i p hp).2.grown hg fun k hk => by obtain ⟨cs, h⟩ := hr k hk; exact ⟨cs, _, h, by decide⟩⟩⟩
/-- The loop over the images: q of them are behind it. -/
def NF (w : World) (h : Hist) (s : Sg) (A : Option Addr) (n c gs j gi oi : Nat) (F : List (Value × List Int)) (N q : Nat) (v : Value) (wr : World) : Prop :=
  NX w h.blocks A n c gs (fun s' => (∃ i, i < j ∧ NextAt h s i s') ∨ ∃ p ∈ F.take q, s' = fallS h s j p.2) (N + q) v wr ∧ FAt wr gi oi F
theorem NF.start {w w3 : World} {h : Hist} {s : Sg} {A : Option Addr} {n c gs j gi oi : Nat} {F : List (Value × List Int)} {N : Nat} {v : Value} (hX : NX w h.blocks A n c gs (fun s' => ∃ i, i < j ∧ NextAt h s i s') N v w3) (hF : FAt w3 gi oi F) : NF w h s A n c gs j gi oi F N 0 v w3 :=
  ⟨hX.iff fun s' => by simp, hF⟩
theorem NF.done {w w3 : World} {h : Hist} {s : Sg} {A : Option Addr} {n c gs j gi oi : Nat} {F : List (Value × List Int)} {N : Nat} {v : Value} (hN : NF w h s A n c gs j gi oi F N F.length v w3) (hm : mayS h s j = true) (h9 : (h.cmd j).kind = 9) (hF : ∀ y, y ∈ F.map (·.2) ↔ ImgSet h s.orders y) :
    NX w h.blocks A n c gs (fun s' => ∃ i, i < j + 1 ∧ NextAt h s i s') (N + F.length) v w3 :=
  hN.1.iff fun s' => by
    rw [upto_succ, nextAt_fall hm h9, List.take_length]
    refine or_congr Iff.rfl ⟨?_, ?_⟩
    · rintro ⟨p, hp, e⟩
      exact ⟨p.2, (hF _).1 (List.mem_map.2 ⟨p, hp, rfl⟩), e⟩
    · rintro ⟨img, hi, e⟩
      obtain ⟨p, hp, rfl⟩ := List.mem_map.1 ((hF _).2 hi)
      exact ⟨p, hp, e⟩
/-- One more of them: its stage lies in the block behind w3. -/
theorem NF.next {w wr w3 w4 : World} {h : Hist} {s : Sg} {A : Option Addr} {n c gs j gi oi : Nat} {F : List (Value × List Int)} {N q : Nat} {v v' : Value} {p : Value × List Int} {Y : Obj} {a0 a1 a2 a3 a4 a5 : Int} {A2 : Option Addr} {n2 c2 : Nat}
    (hF : FAt wr gi oi F) (hp : F[q]? = some p) (hb : Below wr.heap.size wr w3) (hv : p.1 = .slice A2 n2 c2)
    {L : List (Nat × Sg)} (hrow : Row w3 w.heap.size 57 1 v L.length (L.map fun p => ptr p.1)) (hL : ∀ p ∈ L, StB w3 p.1 p.2 (some gs) ∧ w.heap.size ≤ p.1) (hD : ∀ s', (∃ p ∈ L, p.2 = s') ↔ ((∃ i, i < j ∧ NextAt h s i s') ∨ ∃ p ∈ F.take q, s' = fallS h s j p.2))
    (hN : L.length ≤ N + q) (hbel : Below w.heap.size w w3) (hbox : Boxed w.heap.size h.blocks A n c w3) (hk : keptS h s p.2 = [a0, a1, a2, a3, a4, a5]) (dn : Nat) (hdn : dn = s.done ||| 2 ^ j)
    (hrow4 : Row w4 w.heap.size 57 1 v' (L.length + 1) ((L.map fun p => ptr p.1) ++ [ptr w3.heap.size]))
    (hg4 : ((w3.alloc (.cells (stC dn (.slice none 0 0) a0 a1 a2 a3 a4 a5 (some ⟨gs, 0, none⟩) j (.slice A2 n2 c2)) 65)).alloc Y).grownBy w4 v.ownBlock) :
    NF w h s A n c gs j gi oi F N (q + 1) v' w4 := by
  have hB5 : Below w3.heap.size w3 (w3.alloc (.cells (stC dn (.slice none 0 0) a0 a1 a2 a3 a4 a5 (some ⟨gs, 0, none⟩) j (.slice A2 n2 c2)) 65)) := below_alloc0 w3 _
  have hF5 := (hF.below hb).below hB5
  obtain ⟨gp, op, cp, cur, hpv, hpc, hpg, hpx⟩ := (hF5.2 q p hp).2
  rw [hv] at hpv
  injection hpv with e1 e2 e3
  subst e1; subst e2; subst e3
  have hnew := heap_alloc_new w3 (.cells (stC dn (.slice none 0 0) a0 a1 a2 a3 a4 a5 (some ⟨gs, 0, none⟩) j (.slice (some ⟨gp, op, none⟩) p.2.length c2)) 65)
  have hS : StB (w3.alloc (.cells (stC dn (.slice none 0 0) a0 a1 a2 a3 a4 a5 (some ⟨gs, 0, none⟩) j (.slice (some ⟨gp, op, none⟩) p.2.length c2)) 65)) w3.heap.size (fallS h s j p.2) (some gs) := by
    refine ⟨none, 0, 0, some ⟨gp, op, none⟩, p.2.length, c2, a0, a1, a2, a3, a4, a5, hk, ?_, intsAt_nil _, .inl rfl, Nat.le_refl _, ⟨rfl, fun i x hi => ⟨gp, op, rfl, (Array.getElem?_eq_some_iff.1 hpg).1, hpx i x hi⟩⟩, hpc, tyI_none _, fun a ha => by injection ha with ha; subst ha; exact ⟨cur, hpg⟩⟩
    rw [hnew, hdn]
    rfl
  have hw3 := hbel.size
  have hadd := NX.add (row_below hrow hB5) (fun p hp => ⟨(hL p hp).1.below hB5 (Nat.le_refl _), (hL p hp).2⟩) hD hN (hbel.trans (hB5.mono hw3)) (by unfold Boxed; rw [hB5.block _ (Array.getElem?_eq_some_iff.1 hbox).1]; exact hbox) hS hw3 hrow4 hg4
  refine ⟨hadd.iff fun s' => ?_, hF5.grown ((World.grownBy_alloc _ Y _).trans hg4) fun k hk => (row_typed (row_below hrow hB5) k hk).2⟩
  rw [List.take_add_one, hp]
  simp only [Option.toList_some, List.mem_append, List.mem_singleton]
  constructor
  · rintro ((h | ⟨p, hp, e⟩) | e)
    · exact .inl h
    · exact .inr ⟨p, .inl hp, e⟩
    · exact .inr ⟨p, .inr rfl, e⟩
  · rintro (h | ⟨p', hp | rfl, e⟩)
    · exact .inl (.inl h)
    · exact .inl (.inr ⟨p', hp, e⟩)
    · exact .inr e
theorem NF.cells {w wr : World} {h : Hist} {s : Sg} {A : Option Addr} {n c gs j gi oi g : Nat} {F : List (Value × List Int)} {N q : Nat} {v : Value} {bf : Option Nat} (hS : StB w g s bf) (hN : NF w h s A n c gs j gi oi F N q v wr) :
    wr.cell? ⟨g, 0, none⟩ = some (gI s.done) ∧ wr.cell? ⟨w.heap.size, 0, none⟩ = some (gI h.blocks) ∧ wr.cell? ⟨w.heap.size, 1, none⟩ = some (.slice A n c) := by
  obtain ⟨⟨L, _, _, _, _, hb, hbox⟩, _⟩ := hN
  obtain ⟨_, _, _, _, _, _, _, _, _, _, _, _, _, g0, _⟩ := hS.open
  refine ⟨(hb.cell (p := ⟨g, 0, none⟩) hS.lt).trans g0, ?_, ?_⟩
  · rw [cell_of_row _ _ 0 _ _ _ hbox]; rfl
  · rw [cell_of_row _ _ 1 _ _ _ hbox]; rfl
/-- What kept gives, number by number. -/
theorem kept_six {h : Hist} {s : Sg} (hs : s.keeps.length = 6) (img : List Int) : ∃ a0 a1 a2 a3 a4 a5, keptS h s img = [a0, a1, a2, a3, a4, a5] := by
  have hl : (keptS h s img).length = 6 := by unfold keptS; rw [keptTo_len, hs]
  match hk : keptS h s img, hl with
  | [a0, a1, a2, a3, a4, a5], _ => exact ⟨_, _, _, _, _, _, rfl⟩

end Go.Proofs.Ytagekhgfoabgbaa
end

section
/- next, walked. -/
set_option linter.unusedSimpArgs false
set_option linter.unusedVariables false
namespace Go.Proofs.Ytagekhgfoabgbaa
open Go.RowKit Go.Maps

def NextPost (h : Hist) (s : Sg) (gs : Nat) (w : World) (x : Ending) (w' : World) : Prop :=
  ∃ v n c A N, x = .returned v ∧ NX w h.blocks A n c gs (NextSet h s) N v w' ∧ N ≤ 6 * ((s.orders.length + 2) * (s.orders.length + 2))

set_option maxRecDepth 100000 in
set_option maxHeartbeats 4000000 in
theorem next_any (w : World) (g : Nat) (s : Sg) (bf : Option Nat) (h : Hist) (A : Option Addr) (n c : Nat) (hS : StB w g s bf) (hs : StOk h s) (hh : HistOk h) (hC : CmdsAt w A n h.cmds) (hnc : n ≤ c) :
    Calls Try.prog 42 #[.pointer (some ⟨g, 0, none⟩), hV h.blocks A n c] w (NextPost h s g w) := by
  have hgl := hS.lt
  have hn6 : n ≤ 6 := by rw [← hC.1]; exact hh.few
  have hX0 : NX w h.blocks A n c g (fun s' => ∃ i, i < 0 ∧ NextAt h s i s') (0 * ((s.orders.length + 2) * (s.orders.length + 2))) (.slice none 0 0) (w.alloc (.cells #[gI h.blocks, .slice A n c] 24)) :=
    ⟨[], row_nil _ _ _ _, by simp, fun s' => by simp, by simp, below_alloc0 _ _, heap_alloc_new _ _⟩
  go_enter Try.func42, Try.ntmps42
  go_wp2_with fail
  go_loopw [5, 13] (fun v i wr => ∃ j : Nat, j ≤ n ∧ i = .int .i64 j ∧ NX w h.blocks A n c g (fun s' => ∃ i, i < j ∧ NextAt h s i s') (j * ((s.orders.length + 2) * (s.orders.length + 2))) v wr) (fun _ i _ => n - (intOf i).toNat)
  case atStart => exact ⟨0, Nat.zero_le _, rfl, hX0⟩
  case round =>
    clear hX0
    obtain ⟨j, hj, rfl, hX⟩ := hrel
    by_cases hlt : j < n
    · have hlt0 := hX.lt
      have hbel : Below w.heap.size w wr := by obtain ⟨L, _, _, _, _, h5, _⟩ := hX; exact h5
      have hbox : wr.heap[w.heap.size]? = some (.cells #[gI h.blocks, .slice A n c] 24 (0, 0)) := by obtain ⟨L, _, _, _, _, _, h6⟩ := hX; exact h6
      obtain ⟨gA, oA, hAe, hgA, hc0, hc1, hc2, hc3, hc4⟩ := hC.get hlt
      subst hAe
      obtain ⟨o, ho⟩ : ∃ o, o = h.cmd j := ⟨_, rfl⟩
      rw [← ho] at hc0 hc1 hc2 hc3 hc4
      have eb : ∀ x, wr.cell? ⟨gA, x, none⟩ = w.cell? ⟨gA, x, none⟩ := fun x => hbel.cell (p := ⟨gA, x, none⟩) hgA
      have hd0 := (eb _).trans hc0
      have hd1 := (eb _).trans hc1
      have hd2 := (eb _).trans hc2
      have hd3 := (eb _).trans hc3
      have hd4 := (eb _).trans hc4
      have hltz : (j : Int) < (n : Int) := by omega
      have hB1 := below_alloc0 wr (.cells #[gI o.kind, gI o.block, gI o.value, gI o.frm, gI o.to] 36)
      have hbx0 : (wr.alloc (.cells #[gI o.kind, gI o.block, gI o.value, gI o.frm, gI o.to] 36)).cell? ⟨w.heap.size, 0, none⟩ = some (gI h.blocks) := by
        rw [cell_of_row _ _ 0 _ _ _ ((hB1.block _ hlt0).trans hbox)]; rfl
      have hbx1 : (wr.alloc (.cells #[gI o.kind, gI o.block, gI o.value, gI o.frm, gI o.to] 36)).cell? ⟨w.heap.size, 1, none⟩ = some (.slice (some ⟨gA, oA, none⟩) n c) := by
        rw [cell_of_row _ _ 1 _ _ _ ((hB1.block _ hlt0).trans hbox)]; rfl
      have hwW := hbel.trans (hB1.mono hbel.size)
      have hmay := may_any (wr.alloc (.cells #[gI o.kind, gI o.block, gI o.value, gI o.frm, gI o.to] 36)) g j s bf h (some ⟨gA, oA, none⟩) n c (hS.below hwW (Nat.le_refl _)) hs.done (hC.below hwW (Nat.le_refl _)) hn6 hlt
      obtain ⟨mb, hmb⟩ : ∃ mb, mb = mayS h s j := ⟨_, rfl⟩
      rw [← hmb] at hmay
      have HMB := Lib.hid hmb
      have HO := Lib.hid ho
      have HX := Lib.hid hX
      have HB1 := Lib.hid hB1
      have HBX := Lib.hid hbox
      clear hmb ho hX hB1 hbox hc0 hc1 hc2 hc3 hc4 eb hwW
      cases mb with
      | false =>
        go_wp2_with (go_at_call 58; refine hmay.mono ?_; rintro e w2 ⟨rfl, hb2⟩)
        go_roundw
        case rel => exact ⟨j + 1, by omega, by go_num, by
          obtain ⟨L, a1, a2, a3, a4, a5, a6⟩ := ((HX.out.below hlt0 (HB1.out.trans (hb2.mono (by simp)))).iff (D' := fun s' => ∃ i, i < j + 1 ∧ NextAt h s i s') fun s' => ⟨fun ⟨i, hi, hn⟩ => ⟨i, by omega, hn⟩, fun ⟨i, hi, hn⟩ => by
            by_cases e : i < j
            · exact ⟨i, e, hn⟩
            · have : i = j := by omega
              subst this
              have := hn.1
              rw [← HMB.out] at this; cases this⟩)
          exact ⟨L, a1, a2, a3, by rw [Nat.succ_mul]; omega, a5, a6⟩⟩
        case measure => simp [intOf]; omega
      | true =>
        go_wp2_with (go_at_call 58; refine hmay.mono ?_; rintro e w2 ⟨rfl, hb2⟩)
        have hs1 : wr.heap.size < w2.heap.size := by have := hb2.size; simp at this; omega
        have hcb : w2.heap[wr.heap.size]? = some (.cells #[gI o.kind, gI o.block, gI o.value, gI o.frm, gI o.to] 36 (0, 0)) := (hb2.block _ (by simp)).trans (heap_alloc_new _ _)
        have hBB : Below wr.heap.size wr w2 := HB1.out.trans (hb2.mono (by simp))
        have hcbd : w2.drew.heap[wr.heap.size]? = some (.cells #[gI o.kind, gI o.block, gI o.value, gI o.frm, gI o.to] 36 (0, 0)) := hcb
        have q0 : w2.drew.cell? ⟨wr.heap.size, 0, none⟩ = some (gI o.kind) := by rw [cell_of_row _ _ 0 _ _ _ hcbd]; rfl
        have HCB := Lib.hid hcb
        have HBB := Lib.hid hBB
        have HS1 := Lib.hid hs1
        clear hcb hBB hcbd hs1 hb2 hmay hd0 hd1 hd2 hd3 hd4 hbx0 hbx1
        by_cases hk10 : o.kind = 10
        ·
          -- [[
          obtain ⟨bj0, bj1, _⟩ := hh.kinds j (by rw [hC.1]; exact hlt)
          rw [← HO.out] at bj0 bj1
          obtain ⟨ob, hob⟩ : ∃ b : Nat, o.block = (b : Int) := ⟨o.block.toNat, by omega⟩
          have hob6 : ob < 6 := by have := hh.blocks.2; omega
          have hBX2 : Below wr.heap.size wr w2.drew := HBB.out.drew
          have hCL : ∀ x : BW w2.drew, x.v.cell? ⟨w.heap.size, 0, none⟩ = some (gI h.blocks) ∧ x.v.cell? ⟨w.heap.size, 1, none⟩ = some (.slice (some ⟨gA, oA, none⟩) n c) ∧ x.v.cell? ⟨wr.heap.size, 0, none⟩ = some (gI o.kind) ∧ x.v.cell? ⟨wr.heap.size, 1, none⟩ = some (gI ob) ∧ x.v.cell? ⟨wr.heap.size, 2, none⟩ = some (gI o.value) ∧
              x.v.cell? ⟨wr.heap.size, 3, none⟩ = some (gI o.frm) ∧ x.v.cell? ⟨wr.heap.size, 4, none⟩ = some (gI o.to) := fun x => by
            have hW := x.h
            have hs1 := HS1.out
            have e0 : x.v.heap[w.heap.size]? = some (.cells #[gI h.blocks, .slice (some ⟨gA, oA, none⟩) n c] 24 (0, 0)) := (hW.block _ (by show _ < w2.heap.size; omega)).trans ((hBX2.block _ hlt0).trans HBX.out)
            have e1 : x.v.heap[wr.heap.size]? = some (.cells #[gI o.kind, gI o.block, gI o.value, gI o.frm, gI o.to] 36 (0, 0)) := (hW.block _ hs1).trans HCB.out
            rw [hob] at e1
            refine ⟨?_, ?_, ?_, ?_, ?_, ?_, ?_⟩ <;> first | (rw [cell_of_row _ _ _ _ _ _ e0]; rfl) | (rw [cell_of_row _ _ _ _ _ _ e1]; rfl)
          have x0 := fun x => (hCL x).1
          have x1 := fun x => (hCL x).2.1
          have x2 := fun x => (hCL x).2.2.1
          have x3 := fun x => (hCL x).2.2.2.1
          have x4 := fun x => (hCL x).2.2.2.2.1
          have x5 := fun x => (hCL x).2.2.2.2.2.1
          have x6 := fun x => (hCL x).2.2.2.2.2.2
          have hkb : (o.kind == 10) = true := by simp [hk10]
          have hkb9 : (o.kind == 9) = false := by simp [hk10]
          have HOB := Lib.hid hob
          have HK10 := Lib.hid (show (h.cmd j).kind = 10 ∧ h.cmd j = o ∧ (o.block.toNat = ob) from ⟨by rw [← HO.out]; exact hk10, HO.out.symm, by omega⟩)
          have HNO := Lib.hid (fun (W : World) (hW : Below w2.drew.heap.size w2.drew W) (hno : ∀ s', ¬ NextAt h s j s') => (show ∃ j' : Nat, j' ≤ n ∧ Value.int .i64 ((j : Int) + 1) = .int .i64 j' ∧ NX w h.blocks (some ⟨gA, oA, none⟩) n c g (fun s' => ∃ i, i < j' ∧ NextAt h s i s') (j' * ((s.orders.length + 2) * (s.orders.length + 2))) u5 W from ⟨j + 1, by omega, by go_num, by
            obtain ⟨L, a1, a2, a3, a4, a5, a6⟩ := ((HX.out.below hlt0 (hBX2.trans (hW.mono (Nat.le_of_lt HS1.out)))).iff (D' := fun s' => ∃ i, i < j + 1 ∧ NextAt h s i s') fun s' => by
              rw [upto_succ]; exact ⟨.inl, fun h => h.elim id fun h => absurd h (hno s')⟩)
            exact ⟨L, a1, a2, a3, by rw [Nat.succ_mul]; omega, a5, a6⟩⟩))
          clear hk10 hob hCL bj0 bj1 q0
          by_cases ht : o.to < 0
          · have htd : decide (o.to < 0) = true := by simpa using ht
            have HNA := Lib.hid (fun s' => nextAt_not (s := s) (s' := s') HK10.out.1 (.inl (by rw [HK10.out.2.1]; exact ht)))
            clear ht
            refine wp_region_below_lit (by kernel_rfl) (by kernel_rfl) ?_
            repeat (first | go_big_quiet_step ((go_at_call 24; exact Calls.quiet_below (open_is _ _ _ _ _ _ htd))) | quiet_step ((go_at_call 24; exact Calls.quiet_below (open_is _ _ _ _ _ _ htd))))
            refine wpQuiet_nil ?_
            rintro w9 ⟨⟨_, hb9⟩, rfl⟩
            go_wp2_with fail
            go_roundw
            case rel => exact HNO.out w9 hb9 HNA.out
            case measure => simp [intOf]; omega
          · have htd : decide (o.to < 0) = false := by simpa using ht
            obtain ⟨rv, hrv⟩ : ∃ rv, rv = resultS h s ob := ⟨_, rfl⟩
            have hres : ∀ x : BW w2.drew, Calls Try.prog 34 #[.pointer (some ⟨g, 0, none⟩), hV h.blocks (some ⟨gA, oA, none⟩) n c, .int .i64 ob] x.v fun e w' => e = .returned (.int .i64 rv) ∧ Below x.v.heap.size x.v w' := fun x => by
              have hwW := hbel.trans ((hBX2.trans (x.h.mono (Nat.le_of_lt HS1.out))).mono hbel.size)
              rw [hrv]
              exact result_any x.v g ob s bf h (some ⟨gA, oA, none⟩) n c (hS.below hwW (Nat.le_refl _)) (hC.below hwW (Nat.le_refl _)) hnc hob6 hs.ords.len fun o ho => ⟨(hs.ords.each o ho).1, (hs.ords.each o ho).2.1⟩
            have HRES := Lib.hid hres
            have HRV := Lib.hid hrv
            have HT := Lib.hid ht
            have HBX2 := Lib.hid hBX2
            clear hres hrv ht hBX2
            by_cases hr : rv = o.value
            · have hrb : (rv != o.value) = false := by simp [hr]
              have HNA := Lib.hid (show ∀ s', NextAt h s j s' ↔ s' = doS h s j from fun s' => nextAt_do HMB.out.symm (by rw [HK10.out.1]; decide) (fun _ => by rw [HK10.out.2.1, HK10.out.2.2, ← HRV.out]; exact ⟨HT.out, hr⟩))
              clear hr
              refine wp_region_below_lit (by kernel_rfl) (by kernel_rfl) ?_
              repeat (first | go_big_quiet_step ((first | (go_at_call 24; exact Calls.quiet_below (open_is _ _ _ _ _ _ htd)) | (go_at_call 34; exact Calls.quiet_below (HRES.out _)))) | quiet_step ((first | (go_at_call 24; exact Calls.quiet_below (open_is _ _ _ _ _ _ htd)) | (go_at_call 34; exact Calls.quiet_below (HRES.out _)))))
              refine wpQuiet_nil ?_
              rintro w9 ⟨⟨_, hb9⟩, rfl⟩
              have y0 := x0 ⟨w9, hb9⟩
              have y1 := x1 ⟨w9, hb9⟩
              have y2 := x2 ⟨w9, hb9⟩
              clear x0 x1 x2 x3 x4 x5 x6
              dsimp only at y0 y1 y2
              have hwX := hbel.trans ((HBX2.out.trans (hb9.mono (Nat.le_of_lt HS1.out))).mono hbel.size)
              have hBX9 := HBX2.out.trans (hb9.mono (Nat.le_of_lt HS1.out))
              have hdo := do_any w9 g j s bf h (some ⟨gA, oA, none⟩) n c (hS.below hwX (Nat.le_refl _)) hs.done (hC.below hwX (Nat.le_refl _)) hlt hn6 hnc hs.ords.len
              have HW := Lib.hid hwX
              have HB2 := Lib.hid hBX9
              clear hwX hBX9 hb9
              go_wp2_with (first
                | (go_at_call 59; refine hdo.mono ?_; rintro e w3 ⟨g', rfl, hs3, hg3, hb3⟩; clear hdo; obtain ⟨L, hrow, hL, hD, hN, hbl3, hbx3⟩ := HX.out.below hlt0 (HB2.out.trans (hb3.mono HB2.out.size)))
                | (at_builtin; go_must (refine row_append_op w.heap.size rfl _ _ 49 57 _ 1 8 rfl Try.underlying49 info57 (by rfl) (by decide) (row_below hrow (below_alloc0 _ _)) rfl _ #[ptr g'] 57 rfl (heap_alloc_new _ _) rfl (by simp [Value.oneCell']) (by have := hs.ords.len; have : j * ((s.orders.length + 2) * (s.orders.length + 2)) ≤ 6 * (11 * 11) := Nat.mul_le_mul (by omega) (Nat.mul_le_mul (by omega) (by omega)); omega) (by unfold maxLen; have := hs.ords.len; have : j * ((s.orders.length + 2) * (s.orders.length + 2)) ≤ 6 * (11 * 11) := Nat.mul_le_mul (by omega) (Nat.mul_le_mul (by omega) (by omega)); omega) (by rw [World.size_alloc]; have := hbl3.size; omega) ?_); intro v' w4 hrow4 hg4 hat4))
              have hadd := NX.add hrow hL hD hN hbl3 hbx3 hs3 (by have := HW.out.size; omega) hrow4 hg4
              have HADD := Lib.hid hadd
              clear hadd hrow hL hD hN hbl3 hbx3 hs3 hrow4 hg4 hat4 hb3 hg3
              go_roundw
              case rel => exact ⟨j + 1, by omega, by go_num, by
                obtain ⟨L, a1, a2, a3, a4, a5, a6⟩ := HADD.out.iff (D' := fun s' => ∃ i, i < j + 1 ∧ NextAt h s i s') (fun s' => by rw [upto_succ, HNA.out s'])
                exact ⟨L, a1, a2, a3, by rw [Nat.succ_mul]; have : 1 ≤ (s.orders.length + 2) * (s.orders.length + 2) := Nat.mul_pos (by omega) (by omega); omega, a5, a6⟩⟩
              case measure => simp [intOf]; omega
            · have hrb : (rv != o.value) = true := by simp [hr]
              have HNA := Lib.hid (fun s' => nextAt_not (s := s) (s' := s') HK10.out.1 (.inr (by rw [HK10.out.2.1, HK10.out.2.2, ← HRV.out]; exact hr)))
              clear hr
              refine wp_region_below_lit (by kernel_rfl) (by kernel_rfl) ?_
              repeat (first | go_big_quiet_step ((first | (go_at_call 24; exact Calls.quiet_below (open_is _ _ _ _ _ _ htd)) | (go_at_call 34; exact Calls.quiet_below (HRES.out _)))) | quiet_step ((first | (go_at_call 24; exact Calls.quiet_below (open_is _ _ _ _ _ _ htd)) | (go_at_call 34; exact Calls.quiet_below (HRES.out _)))))
              refine wpQuiet_nil ?_
              rintro w9 ⟨⟨_, hb9⟩, rfl⟩
              go_wp2_with fail
              go_roundw
              case rel => exact HNO.out w9 hb9 HNA.out
              case measure => simp [intOf]; omega
          -- ]]
        · have hkb : (o.kind == 10) = false := by simp [hk10]
          have HK10 := Lib.hid hk10
          clear hk10
          have hBX2 : Below wr.heap.size wr w2.drew := HBB.out.drew
          have hwX : Below w.heap.size w w2.drew := hbel.trans (hBX2.mono hbel.size)
          have hbxd : w2.drew.heap[w.heap.size]? = some (.cells #[gI h.blocks, .slice (some ⟨gA, oA, none⟩) n c] 24 (0, 0)) := (hBX2.block _ hlt0).trans HBX.out
          have y0 : w2.drew.cell? ⟨w.heap.size, 0, none⟩ = some (gI h.blocks) := by rw [cell_of_row _ _ 0 _ _ _ hbxd]; rfl
          have y1 : w2.drew.cell? ⟨w.heap.size, 1, none⟩ = some (.slice (some ⟨gA, oA, none⟩) n c) := by rw [cell_of_row _ _ 1 _ _ _ hbxd]; rfl
          by_cases hk9 : o.kind = 9
          · have hkb9 : (o.kind == 9) = true := by simp [hk9]
            have HK9 := Lib.hid hk9
            clear hk9
            go_region
            obtain ⟨B, nb, cb, B2, nb2, cb2, k0, k1, k2, k3, k4, k5, hkp, g0, g1, g2, g3, g4, g5, g6, g7, _, _, _, hOO, hBB2, hmc, _, _, _, _⟩ := hS.open
            have hwX2 := hwX.drew
            have e1 : w2.drew.drew.cell? ⟨g, 1, none⟩ = some (.slice B nb cb) := (hwX2.cell (p := ⟨g, 1, none⟩) hgl).trans g1
            have z0 : w2.drew.drew.cell? ⟨w.heap.size, 0, none⟩ = some (gI h.blocks) := y0
            have z1 : w2.drew.drew.cell? ⟨w.heap.size, 1, none⟩ = some (.slice (some ⟨gA, oA, none⟩) n c) := y1
            have himg := images_any h s.orders w2.drew.drew (some ⟨gA, oA, none⟩) B n c nb cb (hC.below hwX2 (Nat.le_refl _)) (hOO.below hwX2 (Nat.le_refl _)) hs.ords hh.blocks.2 hnc hmc
            have HIM := Lib.hid himg
            clear g0 g1 g2 g3 g4 g5 g6 g7 hkp himg
            go_wp2_with fail
            have hSk : ∀ W, Below w2.drew.drew.heap.size w2.drew.drew W → W.cell? ⟨g, 1, none⟩ = some (.slice B nb cb) ∧ W.cell? ⟨w.heap.size, 0, none⟩ = some (gI h.blocks) ∧ W.cell? ⟨w.heap.size, 1, none⟩ = some (.slice (some ⟨gA, oA, none⟩) n c) := fun W hW =>
              ⟨(hW.cell (p := ⟨g, 1, none⟩) (by show g < w2.heap.size; have := hwX.size; have : w2.drew.heap.size = w2.heap.size := rfl; omega)).trans e1, (hW.cell (p := ⟨w.heap.size, 0, none⟩) (by show w.heap.size < w2.heap.size; have := HS1.out; omega)).trans z0, (hW.cell (p := ⟨w.heap.size, 1, none⟩) (by show w.heap.size < w2.heap.size; have := HS1.out; omega)).trans z1⟩
            have HSK := Lib.hid hSk
            clear hSk
            go_region_held3 (fun w' => w'.cell? ⟨g, 1, none⟩ = some (.slice B nb cb) ∧ w'.cell? ⟨w.heap.size, 0, none⟩ = some (gI h.blocks) ∧ w'.cell? ⟨w.heap.size, 1, none⟩ = some (.slice (some ⟨gA, oA, none⟩) n c))
              (first
                | exact HSK.out _ (Below.refl _ _)
                | exact HSK.out _ hb3)
              (first
                | (go_at_call 36; go_must (refine HIM.out.mono ?_; rintro e w3 ⟨gi, oi, ci, F, cs, rfl, hcap, hgi, hcs, hF, hmem, hlen, hb3⟩)))
            all_goals
              have hw3 : Below wr.heap.size wr w3 := (HBB.out.drew.drew).trans (hb3.mono (Nat.le_of_lt HS1.out))
              have hN0 := NF.start (HX.out.below hlt0 hw3) (oi := oi) (F := F) ⟨⟨cs, hcs⟩, hF⟩
              have HN0 := Lib.hid hN0
              have HMEM := Lib.hid (show (∀ y, y ∈ F.map (·.2) ↔ ImgSet h s.orders y) ∧ F.length ≤ (s.orders.length + 2) * (s.orders.length + 2) from ⟨hmem, Nat.le_trans hlen (hs.ords.few hh.blocks.2)⟩)
              clear hN0 hw3 hmem hlen hF hcs hgi hcap hb3
              go_wp2_with fail
              try simp only [Act.put, List.getElem_toArray, List.getElem_cons_succ, List.getElem_cons_zero, List.setIfInBounds_toArray, List.set_cons_succ, List.set_cons_zero]
              obtain ⟨wo, rfl⟩ : ∃ wo : World, wo = wr := ⟨_, rfl⟩
              obtain ⟨NQ, hNQ⟩ : ∃ NQ, NQ = F.length := ⟨_, rfl⟩
              rw [← hNQ]
              have hNQ121 : NQ ≤ 121 := by
                have h1 := HMEM.out.2
                have h2 : (s.orders.length + 2) * (s.orders.length + 2) ≤ 11 * 11 := Nat.mul_le_mul (by have := hs.ords.len; omega) (by have := hs.ords.len; omega)
                omega
              have HNQ := Lib.hid hNQ
              clear hNQ
              go_loopw [5, 59] (fun v i wr => ∃ q : Nat, q ≤ NQ ∧ i = .int .i64 q ∧ NF w h s (some ⟨gA, oA, none⟩) n c g j gi oi F (j * ((s.orders.length + 2) * (s.orders.length + 2))) q v wr) (fun _ i _ => NQ - (intOf i).toNat)
              case atStart => exact ⟨0, Nat.zero_le _, rfl, HN0.out⟩
              case round =>
                clear HN0
                obtain ⟨q, hq, rfl, hNF⟩ := hrel
                by_cases hqlt : q < NQ
                · obtain ⟨hXq, hFq⟩ := hNF
                  have hlq := hXq.lt
                  have hbelq : Below w.heap.size w wr := by obtain ⟨L, _, _, _, _, h5, _⟩ := hXq; exact h5
                  have hboxq : wr.heap[w.heap.size]? = some (.cells #[gI h.blocks, .slice (some ⟨gA, oA, none⟩) n c] 24 (0, 0)) := by obtain ⟨L, _, _, _, _, _, h6⟩ := hXq; exact h6
                  obtain ⟨p, hp⟩ : ∃ p, F[q]? = some p := ⟨_, List.getElem?_eq_getElem (by rw [← HNQ.out]; exact hqlt)⟩
                  obtain ⟨hcp, gc, oc, cx, cur, hpv, hpc, hpg, hpx⟩ := hFq.2 q p hp
                  have hfc : wr.cell? ⟨gi, oi + q, none⟩ = some (.slice (some ⟨gc, oc, none⟩) p.2.length cx) := by rw [hcp, hpv]
                  obtain ⟨a0, a1, a2, a3, a4, a5, ha⟩ := kept_six (h := h) hs.six p.2
                  have hkept : Calls Try.prog 37 #[.pointer (some ⟨g, 0, none⟩), hV h.blocks (some ⟨gA, oA, none⟩) n c, .slice (some ⟨gc, oc, none⟩) p.2.length cx] wr.drew fun e w' => e = .returned (.agg #[gI a0, gI a1, gI a2, gI a3, gI a4, gI a5]) ∧ Below wr.drew.heap.size wr.drew w' :=
                    (kept_any wr.drew g s bf h (some ⟨gA, oA, none⟩) (some ⟨gc, oc, none⟩) n c p.2.length cx p.2 (hS.below hbelq.drew (Nat.le_refl _)) (hC.below hbelq.drew (Nat.le_refl _)) ⟨rfl, fun i x hi => ⟨gc, oc, rfl, (Array.getElem?_eq_some_iff.1 hpg).1, hpx i x hi⟩⟩ (ImgSet.ok hs.ords ((HMEM.out.1 p.2).1 (List.mem_map.2 ⟨p, List.mem_of_getElem? hp, rfl⟩))) hnc).mono fun e w' ⟨he, hb⟩ => ⟨by rw [he, ha]; rfl, hb⟩
                  obtain ⟨dn, hdn⟩ : ∃ dn : Nat, dn = s.done ||| 2 ^ j := ⟨_, rfl⟩
                  have hor := bits_or2 s.done hs.done j (by omega)
                  rw [← hdn] at hor
                  have hor2 : Go.bits .or .i64 (s.done : Int) (IntKind.i64.wrap (2 ^ j : Int)) = ((dn : Nat) : Int) := by rw [IntWalk.i64_left]; exact hor
                  obtain ⟨_, _, _, _, _, _, _, _, _, _, _, _, _, g0, _⟩ := hS.open
                  have v0 : wr.drew.cell? ⟨g, 0, none⟩ = some (gI s.done) := (hbelq.drew.cell (p := ⟨g, 0, none⟩) hgl).trans g0
                  have v1 : wr.drew.cell? ⟨w.heap.size, 0, none⟩ = some (gI h.blocks) := by rw [cell_of_row wr.drew _ 0 _ _ _ hboxq]; rfl
                  have v2 : wr.drew.cell? ⟨w.heap.size, 1, none⟩ = some (.slice (some ⟨gA, oA, none⟩) n c) := by rw [cell_of_row wr.drew _ 1 _ _ _ hboxq]; rfl
                  have hq0 : (0 : Int) ≤ (q : Int) := by omega
                  have hq1 : (q : Int) < (NQ : Int) := by omega
                  have hj64 : (j : Int) < 64 := by omega
                  have HP := Lib.hid (show F[q]? = some p ∧ p.1 = .slice (some ⟨gc, oc, none⟩) p.2.length cx ∧ keptS h s p.2 = [a0, a1, a2, a3, a4, a5] ∧ dn = s.done ||| 2 ^ j ∧ g < wr.heap.size ∧ j * ((s.orders.length + 2) * (s.orders.length + 2)) + q + 1 ≤ 100000000 from ⟨hp, hpv, ha, hdn, by have := hbelq.size; omega, by
                    have := hs.ords.len
                    have h1 : j * ((s.orders.length + 2) * (s.orders.length + 2)) ≤ 6 * (11 * 11) := Nat.mul_le_mul (by omega) (Nat.mul_le_mul (by omega) (by omega))
                    have h2 : (s.orders.length + 2) * (s.orders.length + 2) ≤ 11 * 11 := Nat.mul_le_mul (by omega) (by omega)
                    have h3 := HMEM.out.2
                    have h4 := HNQ.out
                    omega⟩)
                  have HXQ := Lib.hid hXq
                  have HFQ := Lib.hid hFq
                  have HKEPT := Lib.hid hkept
                  have HBQ := Lib.hid hbelq
                  clear hp hpv ha hdn hcp hpx hpg hpc g0 hboxq hXq hFq hkept hbelq
                  go_wp2_with fail
                  have hSk : ∀ W, Below wr.drew.heap.size wr.drew W → W.cell? ⟨g, 0, none⟩ = some (gI s.done) ∧ W.cell? ⟨w.heap.size, 0, none⟩ = some (gI h.blocks) ∧ W.cell? ⟨w.heap.size, 1, none⟩ = some (.slice (some ⟨gA, oA, none⟩) n c) := fun W hW =>
                    ⟨(hW.cell (p := ⟨g, 0, none⟩) HP.out.2.2.2.2.1).trans v0, (hW.cell (p := ⟨w.heap.size, 0, none⟩) hlq).trans v1, (hW.cell (p := ⟨w.heap.size, 1, none⟩) hlq).trans v2⟩
                  have HSK := Lib.hid hSk
                  clear hSk
                  go_wp2_with fail
                  go_region_held3 (fun w' => w'.cell? ⟨g, 0, none⟩ = some (gI s.done) ∧ w'.cell? ⟨w.heap.size, 0, none⟩ = some (gI h.blocks) ∧ w'.cell? ⟨w.heap.size, 1, none⟩ = some (.slice (some ⟨gA, oA, none⟩) n c))
                    (first
                      | exact HSK.out _ (Below.refl _ _)
                      | exact NF.cells hS HNX.out
                      | exact HSK.out _ hb3
                      | exact HSK.out _ (hb3.alloc (by have := hb3.size; omega) _)
                      | exact HSK.out _ ((hb3.alloc (by have := hb3.size; omega) _).alloc (by simp only [World.size_alloc]; have := hb3.size; omega) _))
                    (first
                      | (refine row_append_step w.heap.size rfl _ _ 49 57 _ 1 8 rfl Try.underlying49 info57 (by rfl) (by decide) (row_below (row_below hrow (below_alloc0 _ _)) (below_alloc0 _ _)) rfl _ #[ptr w3.heap.size] 57 rfl (heap_alloc2_new _ _ _) rfl (by simp [Value.oneCell']) (by have := HP.out; omega) (by unfold maxLen; have := HP.out; omega) (by simp only [World.size_alloc]; have := hbl3.size; omega) ?_; intro v' w4 hrow4 hg4 hat4; have HNX := Lib.hid (NF.next HFQ.out HP.out.1 (show Below wr.heap.size wr w3 from ((Below.refl wr.heap.size wr).drew).trans hb3) HP.out.2.1 hrow hL hD hN hbl3 hbx3 HP.out.2.2.1 dn HP.out.2.2.2.1 hrow4 hg4); clear hrow hL hD hN hbl3 hbx3 hrow4 hg4 hat4 hb3)
                      | (go_simp; go_at_call 37; go_must ((refine HKEPT.out.mono ?_); rintro e w3 ⟨rfl, hb3⟩; obtain ⟨L, hrow, hL, hD, hN, hbl3, hbx3⟩ := HXQ.out.below hlq (show Below wr.heap.size wr w3 from ((Below.refl wr.heap.size wr).drew).trans hb3))))
                  all_goals
                    clear v0 v1 v2 hfc hor hor2
                    go_wp2_with fail
                    go_roundw
                    case rel => exact ⟨q + 1, by omega, by go_num, HNX.out⟩
                    case measure => simp [intOf]; omega
                · have hqn : q = NQ := by omega
                  subst hqn
                  have HE := Lib.hid (show NX w h.blocks (some ⟨gA, oA, none⟩) n c g (fun s' => ∃ i, i < j + 1 ∧ NextAt h s i s') (j * ((s.orders.length + 2) * (s.orders.length + 2)) + F.length) _ wr from (HNQ.out ▸ hNF).done HMB.out.symm (by rw [← HO.out]; exact HK9.out) HMEM.out.1)
                  clear hNF
                  go_wp2_with fail
                  go_roundw
                  case rel => exact ⟨j + 1, by omega, by go_num, by
                    obtain ⟨L, b1, b2, b3, b4, b5, b6⟩ := HE.out
                    exact ⟨L, b1, b2, b3, by rw [Nat.succ_mul]; have := HMEM.out.2; omega, b5, b6⟩⟩
                  case measure => simp [intOf]; omega
          · have hkb9 : (o.kind == 9) = false := by simp [hk9]
            have HK9 := Lib.hid hk9
            clear hk9
            -- [[
            go_region
            have hdo := do_any w2.drew g j s bf h (some ⟨gA, oA, none⟩) n c (hS.below hwX (Nat.le_refl _)) hs.done (hC.below hwX (Nat.le_refl _)) hlt hn6 hnc hs.ords.len
            have HW := Lib.hid hwX
            have HB2 := Lib.hid hBX2
            clear hwX hBX2 hbxd
            go_wp2_with (first
              | (go_at_call 59; refine hdo.mono ?_; rintro e w3 ⟨g', rfl, hs3, hg3, hb3⟩; clear hdo; obtain ⟨L, hrow, hL, hD, hN, hbl3, hbx3⟩ := HX.out.below hlt0 (HB2.out.trans (hb3.mono HB2.out.size)))
              | (at_builtin; go_must (refine row_append_op w.heap.size rfl _ _ 49 57 _ 1 8 rfl Try.underlying49 info57 (by rfl) (by decide) (row_below hrow (below_alloc0 _ _)) rfl _ #[ptr g'] 57 rfl (heap_alloc_new _ _) rfl (by simp [Value.oneCell']) (by have := hs.ords.len; have : j * ((s.orders.length + 2) * (s.orders.length + 2)) ≤ 6 * (11 * 11) := Nat.mul_le_mul (by omega) (Nat.mul_le_mul (by omega) (by omega)); omega) (by unfold maxLen; have := hs.ords.len; have : j * ((s.orders.length + 2) * (s.orders.length + 2)) ≤ 6 * (11 * 11) := Nat.mul_le_mul (by omega) (Nat.mul_le_mul (by omega) (by omega)); omega) (by rw [World.size_alloc]; have := hbl3.size; omega) ?_); intro v' w4 hrow4 hg4 hat4))
            have hadd := NX.add hrow hL hD hN hbl3 hbx3 hs3 (by have := HW.out.size; omega) hrow4 hg4
            have HADD := Lib.hid hadd
            clear hadd hrow hL hD hN hbl3 hbx3 hs3 hrow4 hg4 hat4 hb3 hg3
            go_roundw
            case rel => exact ⟨j + 1, by omega, by go_num, by
              obtain ⟨L, a1, a2, a3, a4, a5, a6⟩ := HADD.out.iff (D' := fun s' => ∃ i, i < j + 1 ∧ NextAt h s i s') (fun s' => by rw [upto_succ, nextAt_do HMB.out.symm (by rw [← HO.out]; exact HK9.out) (fun e => absurd (by rw [HO.out]; exact e) HK10.out)])
              exact ⟨L, a1, a2, a3, by rw [Nat.succ_mul]; have : 1 ≤ (s.orders.length + 2) * (s.orders.length + 2) := Nat.mul_pos (by omega) (by omega); omega, a5, a6⟩⟩
            case measure => simp [intOf]; omega
            -- ]]
    · have hjn : j = n := by omega
      subst hjn
      have HX := Lib.hid (show NextPost h s g w (.returned u5) wr from ⟨u5, j, c, A, _, rfl, hX.iff (fun s' => by unfold NextSet; rw [hC.1]), Nat.mul_le_mul_right _ hn6⟩)
      clear hX
      go_wp2_with fail
      go_ret
      exact HX.out

end Go.Proofs.Ytagekhgfoabgbaa
end

section
/- What the search through the stages keeps in memory. -/
set_option linter.unusedSimpArgs false
set_option linter.unusedVariables false
namespace Go.Proofs.Ytagekhgfoabgbaa
open Go.RowKit Go.Maps

/-- The commands that ended, among the first so many, as bits. -/
def allTo (h : Hist) : Nat → Nat
  | 0 => 0
  | i + 1 => if (h.cmd i).to < 0 then allTo h i else allTo h i ||| 2 ^ i
def allM (h : Hist) : Nat := allTo h h.cmds.length
def fullB (h : Hist) (s : Sg) : Bool := s.done &&& allM h == allM h
theorem allTo_bit (h : Hist) (j : Nat) : ∀ n, (allTo h n).testBit j = (decide (j < n) && !decide ((h.cmd j).to < 0))
  | 0 => by simp [allTo]
  | n + 1 => by
    unfold allTo
    have ih := allTo_bit h j n
    by_cases hn : (h.cmd n).to < 0
    · rw [if_pos hn, ih]
      by_cases e : j = n
      · subst e; simp [hn]
      · have : decide (j < n + 1) = decide (j < n) := by congr 1; simp; omega
        rw [this]
    · rw [if_neg hn, or_bit, ih]
      by_cases e : j = n
      · subst e; simp [hn]
      · have : decide (j < n + 1) = decide (j < n) := by congr 1; simp; omega
        rw [this, show decide (n = j) = false by simp; omega, Bool.or_false]
theorem allTo_lt (h : Hist) : ∀ n, n ≤ 6 → allTo h n < 64
  | 0, _ => by simp [allTo]
  | n + 1, hn => by
    unfold allTo
    have ih := allTo_lt h n (by omega)
    split
    · exact ih
    · exact Nat.or_lt_two_pow (n := 6) ih (Nat.pow_lt_pow_right (by omega) (by omega))
theorem fullB_iff {h : Hist} {s : Sg} : fullB h s = true ↔ fullS h s := by
  unfold fullB fullS
  rw [beq_iff_eq]
  have hb : ∀ j, (allM h).testBit j = (decide (j < h.cmds.length) && !decide ((h.cmd j).to < 0)) := fun j => allTo_bit h j _
  constructor
  · intro e n hn ht
    have h1 := congrArg (fun d => d.testBit n) e
    simp only [Nat.testBit_and, hb] at h1
    have h2 : decide (n < h.cmds.length) = true := by simpa using hn
    have h3 : decide ((h.cmd n).to < 0) = false := by simp; omega
    rw [h2, h3] at h1
    simpa using h1
  · intro H
    apply Nat.eq_of_testBit_eq
    intro j
    rw [Nat.testBit_and, hb]
    by_cases h1 : j < h.cmds.length
    · by_cases h2 : (h.cmd j).to < 0
      · simp [h2]
      · rw [H j h1 (by omega)]; simp
    · simp [h1]

/-- The numbers' and the stages' blocks stay. -/
def Stay (w w' : World) : Prop := ∀ (k : Nat) (cs : Array Value) (t : TypeId), w.heap[k]? = some (.cells cs t (0, 0)) → t = 3 ∨ t = 65 → w'.heap[k]? = w.heap[k]?
theorem Stay.below {w w' : World} (h : Below w.heap.size w w') : Stay w w' := fun k cs t hk _ => h.block k (Array.getElem?_eq_some_iff.1 hk).1
theorem Stay.trans {a b c : World} (h : Stay a b) (k : Stay b c) : Stay a c := fun i cs t hi ht => (k i cs t ((h i cs t hi ht).trans hi) ht).trans (h i cs t hi ht)
theorem Stay.grown {w w' : World} {row : Option Nat} (hg : w.grownBy w' row) (hr : ∀ k, row = some k → ∃ cs, w.heap[k]? = some (.cells cs 57 (0, 0))) : Stay w w' := fun k cs t hk ht =>
  hg.block k (Array.getElem?_eq_some_iff.1 hk).1 fun e => by
    obtain ⟨cs', h1⟩ := hr k e.symm
    rw [hk] at h1
    injection h1 with h1
    injection h1 with _ h1 _
    subst h1
    rcases ht with h | h <;> exact absurd h (by decide)
theorem Stay.upd {w w' : World} {b : Nat} (hu : Upd w w' b) (hm : ∃ es c, w.heap[b]? = some (.map es c)) : Stay w w' := fun k cs t hk _ => hu.block k fun e => by
  subst e
  obtain ⟨es, c, hm⟩ := hm
  rw [hk] at hm; cases hm
theorem StB.stay {w w' : World} {g : Nat} {s : Sg} {bf : Option Nat} (h : StB w g s bf) (hs : Stay w w') : StB w' g s bf := by
  obtain ⟨cs, hcs⟩ := h.typed
  exact h.kept (hs g cs _ hcs (.inr rfl)) fun k cs hk => hs k cs _ hk (.inl rfl)
theorem StAt.stay {w w' : World} (hs : Stay w w') : ∀ {p : List Sg} {g : Nat}, StAt w g p → StAt w' g p
  | [], _, h => h
  | [s], _, h => StB.stay h hs
  | s :: t :: r, _, ⟨g', h1, h2⟩ => ⟨g', h1.stay hs, StAt.stay hs h2⟩

/-- Two slices of the call's own in blocks of their own. -/
def Apart (v v' : Value) : Prop := ∀ k, v.ownBlock = some k → v'.ownBlock ≠ some k
theorem Apart.symm {v v' : Value} (h : Apart v v') : Apart v' v := fun k h1 h2 => h k h2 h1
theorem Apart.none {v : Value} (n c : Nat) : Apart v (.slice none n c) := fun k _ h => by simp [Value.ownBlock] at h
theorem row_one {w : World} {base e b : Nat} {x : Value} (h : w.heap[b]? = some (.cells #[x] e (0, 0))) (hb : base ≤ b) : Row w base e 1 (.slice (some ⟨b, 0, none⟩) 1 1) 1 [x] :=
  ⟨rfl, .inr ⟨b, 0, 1, #[x], rfl, hb, h, Nat.le_refl _, by decide, rfl, rfl⟩⟩
def ptrs (l : List Nat) : List Value := l.map ptr
theorem ptrs_len (l : List Nat) : (ptrs l).length = l.length := by simp [ptrs]
/-- What the search has in memory: T all stages that it met, Q the queue, O what it gives, L the followers at hand, M the keys. -/
structure Mem (h : Hist) (w : World) (A : Option Addr) (n c mp gs : Nat) (T : List (Nat × List Sg)) (L : List (Nat × Sg)) (Q O : List Nat) (M : List (List Int × Int)) (qv ov lv : Value) (wr : World) : Prop where
  queue : Row wr w.heap.size 57 1 qv Q.length (ptrs Q)
  out : Row wr w.heap.size 57 1 ov O.length (ptrs O)
  kids : Row wr w.heap.size 57 1 lv L.length (L.map fun p => ptr p.1)
  apQO : Apart qv ov
  apQL : Apart qv lv
  map : MapOf Try.prog 72 fA gI wr mp M
  stages : ∀ p ∈ T, StAt wr p.1 p.2 ∧ w.heap.size ≤ p.1
  kidsAt : ∀ p ∈ L, StB wr p.1 p.2 (some gs) ∧ w.heap.size ≤ p.1
  below : Below w.heap.size w wr
  box : Boxed w.heap.size h.blocks A n c wr
  mapAt : w.heap.size < mp

section
variable {h : Hist} {w : World} {A : Option Addr} {n c mp gs : Nat} {T : List (Nat × List Sg)} {L : List (Nat × Sg)} {Q O : List Nat} {M : List (List Int × Int)} {qv ov lv : Value} {wr : World}
theorem Mem.lt (m : Mem h w A n c mp gs T L Q O M qv ov lv wr) : w.heap.size < wr.heap.size := (Array.getElem?_eq_some_iff.1 m.box).1
theorem Mem.grow (m : Mem h w A n c mp gs T L Q O M qv ov lv wr) {w' : World} (hb : Below wr.heap.size wr w') : Mem h w A n c mp gs T L Q O M qv ov lv w' :=
  { queue := row_below m.queue hb, out := row_below m.out hb, kids := row_below m.kids hb, apQO := m.apQO, apQL := m.apQL, map := m.map.below hb m.map.lt
    stages := fun p hp => ⟨(m.stages p hp).1.stay (.below hb), (m.stages p hp).2⟩
    kidsAt := fun p hp => ⟨(m.kidsAt p hp).1.stay (.below hb), (m.kidsAt p hp).2⟩
    below := m.below.trans (hb.mono m.below.size), box := by unfold Boxed; rw [hb.block _ m.lt]; exact m.box, mapAt := m.mapAt }
theorem Mem.upd (m : Mem h w A n c mp gs T L Q O M qv ov lv wr) {w' : World} {M' : List (List Int × Int)} (hu : Upd wr w' mp) (hm : MapOf Try.prog 72 fA gI w' mp M') : Mem h w A n c mp gs T L Q O M' qv ov lv w' := by
  obtain ⟨es, cc, hmb⟩ := map_blk m.map
  exact
  { queue := row_upd m.queue hu (row_ne_map m.queue hmb), out := row_upd m.out hu (row_ne_map m.out hmb), kids := row_upd m.kids hu (row_ne_map m.kids hmb), apQO := m.apQO, apQL := m.apQL, map := hm
    stages := fun p hp => ⟨(m.stages p hp).1.stay (.upd hu ⟨es, cc, hmb⟩), (m.stages p hp).2⟩
    kidsAt := fun p hp => ⟨(m.kidsAt p hp).1.stay (.upd hu ⟨es, cc, hmb⟩), (m.kidsAt p hp).2⟩
    below := m.below.trans (hu.below (Nat.le_of_lt m.mapAt)), box := by unfold Boxed; rw [hu.block _ (by have := m.mapAt; omega)]; exact m.box, mapAt := m.mapAt }
/-- One more in the queue. -/
theorem Mem.push (m : Mem h w A n c mp gs T L Q O M qv ov lv wr) {w' : World} {Y : Obj} {v' : Value} {g : Nat} (hrow : Row w' w.heap.size 57 1 v' (Q.length + 1) (ptrs Q ++ [ptr g])) (hg : (wr.alloc Y).grownBy w' qv.ownBlock)
    (hat : v'.ownBlock = qv.ownBlock ∨ ∃ b, v'.ownBlock = some b ∧ (wr.alloc Y).heap.size ≤ b) : Mem h w A n c mp gs T L (Q ++ [g]) O M v' ov lv w' := by
  have g4 : wr.grownBy w' qv.ownBlock := (World.grownBy_alloc wr Y _).trans hg
  have hty : ∀ k, qv.ownBlock = some k → ∃ cs, wr.heap[k]? = some (.cells cs 57 (0, 0)) := fun k hk => (row_typed m.queue k hk).2
  have fresh : ∀ {v2 : Value} {N : Nat} {xs : List Value}, Apart qv v2 → Row wr w.heap.size 57 1 v2 N xs → Apart v' v2 := fun {v2 N xs} ha hr k hk => by
    rcases hat with hat | ⟨b, hb, hle⟩
    · exact ha k (by rw [← hat]; exact hk)
    · intro h2
      have h3 := row_lt hr k h2
      rw [hk] at hb; injection hb with hb
      rw [World.size_alloc] at hle
      omega
  have other : ∀ {v2 : Value} {N : Nat} {xs : List Value}, Apart qv v2 → Row wr w.heap.size 57 1 v2 N xs → Row w' w.heap.size 57 1 v2 N xs := fun {v2 N xs} ha hr => by
    refine row_grown hr g4 ?_
    cases hv : v2.ownBlock with
    | none => exact .inl rfl
    | some k => exact .inr fun e => ha k e.symm hv
  have hs : Stay wr w' := .grown g4 hty
  have hq : Row w' w.heap.size 57 1 v' (Q ++ [g]).length (ptrs (Q ++ [g])) := by
    have e : ptrs (Q ++ [g]) = ptrs Q ++ [ptr g] := by simp [ptrs]
    rw [e, List.length_append]; exact hrow
  exact
  { queue := hq, out := other m.apQO m.out, kids := other m.apQL m.kids, apQO := fresh m.apQO m.out, apQL := fresh m.apQL m.kids
    map := map_grown m.map g4 (row_not_map m.queue m.map)
    stages := fun p hp => ⟨(m.stages p hp).1.stay hs, (m.stages p hp).2⟩
    kidsAt := fun p hp => ⟨(m.kidsAt p hp).1.stay hs, (m.kidsAt p hp).2⟩
    below := m.below.trans (grown_below' g4 (fun k hk => (row_typed m.queue k hk).1) m.below.size)
    box := by
      unfold Boxed
      rw [g4.block _ m.lt (fun e => by
        obtain ⟨cs, h⟩ := hty _ e.symm
        rw [m.box] at h
        injection h with h
        injection h with _ ht _
        exact absurd ht (by decide))]
      exact m.box
    mapAt := m.mapAt }
/-- One more in what is given. -/
theorem Mem.give (m : Mem h w A n c mp gs T [] Q O M qv ov (.slice none 0 0) wr) {w' : World} {Y : Obj} {v' : Value} {g : Nat} (hrow : Row w' w.heap.size 57 1 v' (O.length + 1) (ptrs O ++ [ptr g])) (hg : (wr.alloc Y).grownBy w' ov.ownBlock)
    (hat : v'.ownBlock = ov.ownBlock ∨ ∃ b, v'.ownBlock = some b ∧ (wr.alloc Y).heap.size ≤ b) : Mem h w A n c mp gs T [] Q (O ++ [g]) M qv v' (.slice none 0 0) w' := by
  have m2 : Mem h w A n c mp gs T [] O Q M ov qv (.slice none 0 0) wr := { m with queue := m.out, out := m.queue, apQO := m.apQO.symm, apQL := .none 0 0 }
  have m3 := m2.push hrow hg hat
  exact { m3 with queue := m3.out, out := m3.queue, apQO := m3.apQO.symm, apQL := .none 0 0 }
/-- The followers of the next one. -/
theorem Mem.kin (m : Mem h w A n c mp gs T [] Q O M qv ov (.slice none 0 0) wr) {w' : World} {g' : Nat} {L : List (Nat × Sg)} {lv : Value} (hb : Below wr.heap.size wr w') (hrow : Row w' wr.heap.size 57 1 lv L.length (L.map fun p => ptr p.1)) (hL : ∀ p ∈ L, StB w' p.1 p.2 (some g') ∧ wr.heap.size ≤ p.1) : Mem h w A n c mp g' T L Q O M qv ov lv w' := by
  have m2 := m.grow hb
  have hlt := m.lt
  refine { queue := m2.queue, out := m2.out, apQO := m2.apQO, map := m2.map, stages := m2.stages, below := m2.below, box := m2.box, mapAt := m2.mapAt, kids := ?_, kidsAt := fun p hp => ⟨(hL p hp).1, by have := (hL p hp).2; omega⟩, apQL := fun k hk h2 => ?_ }
  · refine ⟨hrow.1, ?_⟩
    rcases hrow.2 with ⟨h0, A, rfl, hA⟩ | ⟨g, off, cap, cur, rfl, hg, r⟩
    · exact .inl ⟨h0, A, rfl, fun a ha => ⟨by have := (hA a ha).1; omega, (hA a ha).2⟩⟩
    · exact .inr ⟨g, off, cap, cur, rfl, by omega, r⟩
  · have h3 := (row_typed hrow k h2).1
    have h4 := row_lt m.queue k hk
    omega
theorem Mem.bare (m : Mem h w A n c mp gs T L Q O M qv ov lv wr) (g : Nat) : Mem h w A n c mp g T [] Q O M qv ov (.slice none 0 0) wr :=
  { m with kids := row_nil _ _ _ _, kidsAt := fun p hp => by simp at hp, apQL := .none 0 0 }
/-- One of the followers is met as a stage. -/
theorem Mem.met (m : Mem h w A n c mp gs T L Q O M qv ov lv wr) {j : Nat} {p : Nat × Sg} (hp : L[j]? = some p) {q : Nat × List Sg} (hq : q ∈ T) (hg : q.1 = gs) : Mem h w A n c mp gs (T ++ [(p.1, p.2 :: q.2)]) L Q O M qv ov lv wr :=
  { m with
    stages := by
      intro x hx
      rcases List.mem_append.1 hx with hx | hx
      · exact m.stages x hx
      · simp at hx; subst hx
        obtain ⟨h1, h2⟩ := m.kidsAt p (List.mem_of_getElem? hp)
        refine ⟨?_, h2⟩
        have h3 := (m.stages q hq).1
        cases hq2 : q.2 with
        | nil => rw [hq2] at h3; exact h3.elim
        | cons s r => rw [hq2, hg] at h3; exact ⟨gs, h1, h3⟩ }
/-- The next one in the queue. -/
theorem Mem.pop {g : Nat} (m : Mem h w A n c mp gs T L (g :: Q) O M qv ov lv wr) : ∃ gq oq cq, qv = .slice (some ⟨gq, oq, none⟩) (g :: Q).length cq ∧ (g :: Q).length ≤ cq ∧ wr.cell? ⟨gq, oq, none⟩ = some (ptr g) ∧
    ∃ tv, (∀ W, (Instr.sliceAt 49 (.slice (some ⟨gq, oq, none⟩) (g :: Q).length cq) (some (.int .i64 1)) none none).run Try.prog W = .ok tv W) ∧ Mem h w A n c mp gs T L Q O M tv ov lv wr := by
  obtain ⟨gq, oq, cq, hv, hnc, hgb, hglt, hcells⟩ := row_cells m.queue (by simp)
  subst hv
  obtain ⟨i, hi, hsz⟩ : ∃ i, Try.prog.info? 57 = some i ∧ i.size = 1 := by
    have h := info57
    cases hi : Try.prog.info? 57 with
    | none => rw [hi] at h; cases h
    | some i => rw [hi] at h; simp at h; exact ⟨i, rfl, h.2.1⟩
  have h1 := row_drop (k := 1) m.queue (by simp)
  have hc0 := hcells 0 (ptr g) rfl
  refine ⟨gq, oq, cq, rfl, hnc, hc0, _, fun W => run_tail W _ _ _ _ _ Try.underlying49 hi (by simp), ?_⟩
  have own : (Value.slice (if cq = 1 then some ⟨gq, oq, none⟩ else (some (⟨gq, oq, none⟩ : Addr)).map (·.add (1 * i.size))) ((g :: Q).length - 1) (cq - 1)).ownBlock = some gq := by
    split
    · simp [Value.ownBlock]
    · simp [Value.ownBlock, addr_add]
  rw [hsz] at own ⊢
  refine { m with queue := ?_, apQO := fun k hk => ?_, apQL := fun k hk => ?_ }
  · simpa [ptrs] using h1
  · rw [own] at hk
    injection hk with hk; subst hk
    exact m.apQO _ (by simp [Value.ownBlock])
  · rw [own] at hk
    injection hk with hk; subst hk
    exact m.apQL _ (by simp [Value.ownBlock])
end

def outs (h : Hist) (T : List (Nat × List Sg)) (k : Nat) : List Nat := ((T.take k).filter fun p => fullB h (hd p.2)).map (·.1)
theorem outs_succ {h : Hist} {T : List (Nat × List Sg)} {k : Nat} {p : Nat × List Sg} (hp : T[k]? = some p) : outs h T (k + 1) = if fullB h (hd p.2) = true then outs h T k ++ [p.1] else outs h T k := by
  unfold outs
  rw [List.take_add_one, hp, Option.toList_some, List.filter_append, List.map_append]
  by_cases hf : fullB h (hd p.2) = true
  · rw [if_pos hf]; simp [hf]
  · rw [if_neg hf]; simp [hf]
theorem outs_more {h : Hist} {T : List (Nat × List Sg)} {k : Nat} (hk : k ≤ T.length) (U : List (Nat × List Sg)) : outs h (T ++ U) k = outs h T k := by
  unfold outs; rw [List.take_append_of_le_length hk]
theorem outs_len {h : Hist} {T : List (Nat × List Sg)} {k : Nat} : (outs h T k).length ≤ k := by
  unfold outs
  rw [List.length_map]
  exact Nat.le_trans (List.length_filter_le _ _) (by rw [List.length_take]; omega)

/-- The search, between two stages: k of them are behind it. -/
def EO (h : Hist) (w : World) (A : Option Addr) (n c mp k : Nat) (qv ov : Value) (wr : World) : Prop :=
  ∃ (T : List (Nat × List Sg)) (M : List (List Int × Int)), EI h T k (M.map (·.1)) ∧ k ≤ T.length ∧ (∀ p ∈ M, 1 ≤ p.2 ∧ p.2 ≤ ((1 + 1000 * k : Nat) : Int)) ∧ Mem h w A n c mp 0 T [] ((T.drop k).map (·.1)) (outs h T k) M qv ov (.slice none 0 0) wr
/-- .. in the midst of a stage's followers: j of them are behind it. -/
def EN (h : Hist) (w : World) (A : Option Addr) (n c mp k : Nat) (s : Sg) (d gs : Nat) (L : List (Nat × Sg)) (lv ov : Value) (O : List Nat) (j : Nat) (qv : Value) (wr : World) : Prop :=
  ∃ (T : List (Nat × List Sg)) (M : List (List Int × Int)), EM h T k (M.map (·.1)) s d (L.map (·.2)) j ∧ (∃ q, T[k]? = some q ∧ q.1 = gs) ∧ O = outs h T (k + 1) ∧ (∀ p ∈ M, 1 ≤ p.2 ∧ p.2 ≤ ((1 + 1000 * k + j : Nat) : Int)) ∧
    Mem h w A n c mp gs T L ((T.drop (k + 1)).map (·.1)) O M qv ov lv wr
/-- What ends gives. -/
def EndsPost (h : Hist) (w : World) (x : Ending) (w' : World) : Prop :=
  ∃ (E : List (Nat × List Sg)) (v : Value), x = .returned v ∧ Row w' w.heap.size 57 1 v E.length (E.map fun p => ptr p.1) ∧ (∀ p ∈ E, StAt w' p.1 p.2 ∧ w.heap.size ≤ p.1 ∧ Path h p.2 ∧ fullS h (hd p.2)) ∧
    (∀ s, Reach h s → fullS h s → ∃ p ∈ E, Alike s (hd p.2)) ∧ E.length ≤ wgt 6 ∧ Below w.heap.size w w'
theorem wgt6 : wgt 6 ≤ 1200000000000 := by decide
theorem Alike.full {s t : Sg} (a : Alike s t) (h : Hist) : fullS h s ↔ fullS h t := by unfold fullS; rw [a.done]
/-- The queue is empty: all are met. -/
theorem EO.end_ {h : Hist} (hh : HistOk h) {w : World} {A : Option Addr} {n c mp k : Nat} {ov : Value} {wr : World} {T : List (Nat × List Sg)} {M : List (List Int × Int)} {qv : Value} (hI : EI h T k (M.map (·.1))) (hk : k ≤ T.length) (hz : T.drop k = []) (m : Mem h w A n c mp 0 T [] ((T.drop k).map (·.1)) (outs h T k) M qv ov (.slice none 0 0) wr) : EndsPost h w (.returned ov) wr := by
  have hkT : k = T.length := by have := congrArg List.length hz; simp at this; omega
  have ho := m.out
  have e : outs h T k = (T.filter fun p => fullB h (hd p.2)).map (·.1) := by unfold outs; rw [List.take_of_length_le (by omega)]
  rw [e] at ho
  refine ⟨T.filter fun p => fullB h (hd p.2), ov, rfl, ?_, fun p hp => ?_, fun s hr hf => ?_, ?_, m.below⟩
  · have : List.map (fun p : Nat × List Sg => ptr p.1) (T.filter fun p => fullB h (hd p.2)) = ptrs ((T.filter fun p => fullB h (hd p.2)).map (·.1)) := by unfold ptrs; rw [List.map_map]; rfl
    rw [this, ← List.length_map (f := fun p : Nat × List Sg => p.1)]; exact ho
  · obtain ⟨h1, h2⟩ := List.mem_filter.1 hp
    exact ⟨(m.stages p h1).1, (m.stages p h1).2, hI.paths p h1, fullB_iff.1 h2⟩
  · rw [hkT] at hI
    obtain ⟨p, hp, a⟩ := hI.all hh hr
    exact ⟨p, List.mem_filter.2 ⟨hp, fullB_iff.2 ((a.full h).1 hf)⟩, a⟩
  · have h1 := hI.small
    have h2 := List.length_filter_le (fun p : Nat × List Sg => fullB h (hd p.2)) T
    omega
theorem keyL_mild {h : Hist} {s : Sg} (hs : StOk h s) : (keyL s).length = 18 ∧ Mild (keyL s) := by
  have hl := hs.ords.len
  refine ⟨by unfold keyL; simp [hs.six]; omega, fun x hx => ?_⟩
  unfold keyL at hx
  simp only [List.cons_append, List.nil_append, List.mem_cons, List.mem_append] at hx
  have hd := hs.done
  rcases hx with rfl | rfl | (hx | hx) | hx
  · omega
  · omega
  · have := hs.ords.each x hx; omega
  · have := List.eq_of_mem_replicate hx; omega
  · have := hs.mild x hx; omega

theorem counts_put {M : List (List Int × Int)} {N : Nat} (hc : ∀ p ∈ M, 1 ≤ p.2 ∧ p.2 ≤ N) {x : List Int} {v : Int} (hv : 0 ≤ v ∧ v ≤ N) : ∀ p ∈ mput M x (v + 1), 1 ≤ p.2 ∧ p.2 ≤ ((N + 1 : Nat) : Int) := fun p hp => by
  rcases mem_mput' hp with hp | rfl
  · have := hc p hp; omega
  · show 1 ≤ v + 1 ∧ v + 1 ≤ _; omega
/-- The followers are at hand. -/
theorem EN.start {h : Hist} (hh : HistOk h) {w W w' : World} {A : Option Addr} {n c mp k : Nat} {ov tv lv : Value} {T : List (Nat × List Sg)} {M : List (List Int × Int)} (hI : EI h T k (M.map (·.1))) {p : Nat × List Sg} (hp : T[k]? = some p) (hc : ∀ p ∈ M, 1 ≤ p.2 ∧ p.2 ≤ ((1 + 1000 * k : Nat) : Int))
    (m : Mem h w A n c mp 0 T [] ((T.drop (k + 1)).map (·.1)) (outs h T (k + 1)) M tv ov (.slice none 0 0) W) {A' : Option Addr} {n' c' N : Nat} {b : Int} (hX : NX W b A' n' c' p.1 (NextSet h (hd p.2)) N lv w') (hN : N ≤ 6 * (((hd p.2).orders.length + 2) * ((hd p.2).orders.length + 2))) :
    ∃ L : List (Nat × Sg), EN h w A n c mp k (hd p.2) p.2.length p.1 L lv ov (outs h T (k + 1)) 0 tv w' ∧ (∀ s', (∃ q ∈ L, q.2 = s') ↔ NextSet h (hd p.2) s') ∧ L.length ≤ 1000 ∧ ∃ A2 c2, lv = .slice A2 L.length c2 := by
  obtain ⟨L, hrow, hL, hD, hLN, hb, _⟩ := hX
  obtain ⟨s1, r1, e1, a1, b1, c1⟩ := (hI.paths p (List.mem_of_getElem? hp)).ok hh
  have hs1 : hd p.2 = s1 := by rw [e1]; rfl
  have hpl : p.2.length = r1.length + 1 := by rw [e1]; rfl
  have hlen : L.length ≤ 6 * ((p.2.length + 1) * (p.2.length + 1)) := by
    rw [hs1] at hN
    have : (s1.orders.length + 2) * (s1.orders.length + 2) ≤ (p.2.length + 1) * (p.2.length + 1) := Nat.mul_le_mul (by omega) (by omega)
    omega
  have hl7 : p.2.length ≤ 7 := by have := cnt_le s1.done h.cmds.length; have := hh.few; omega
  have h1000 : L.length ≤ 1000 := by
    have : (p.2.length + 1) * (p.2.length + 1) ≤ 8 * 8 := Nat.mul_le_mul (by omega) (by omega)
    omega
  refine ⟨L, ⟨T, M, hI.open hh p hp (L.map (·.2)) (fun s' hs => (hD s').1 (by obtain ⟨q, hq, e⟩ := List.mem_map.1 hs; exact ⟨q, hq, e⟩)) (by simpa using hlen), ⟨p, hp, rfl⟩, rfl, by simpa using hc, m.kin hb hrow hL⟩, hD, h1000, ?_⟩
  obtain ⟨A2, c2, hv, _⟩ := row_slice hrow
  exact ⟨A2, c2, hv⟩
/-- All followers are met. -/
theorem EN.done {h : Hist} {w wr : World} {A : Option Addr} {n c mp k : Nat} {s : Sg} {d gs : Nat} {L : List (Nat × Sg)} {lv ov qv : Value} {O : List Nat} (hE : EN h w A n c mp k s d gs L lv ov O L.length qv wr) (hD : ∀ s', (∃ q ∈ L, q.2 = s') ↔ NextSet h s s') (hl : L.length ≤ 1000) : EO h w A n c mp (k + 1) qv ov wr := by
  obtain ⟨T, M, hM, ⟨q, hq, _⟩, hO, hc, m⟩ := hE
  subst hO
  rw [show L.length = (L.map (·.2)).length by simp] at hM
  have hlt := hM.lt
  refine ⟨T, M, hM.close fun s' hs => ?_, hlt, fun p hp => ?_, m.bare 0⟩
  · obtain ⟨q, hq, e⟩ := (hD s').2 hs
    exact List.mem_map.2 ⟨q, hq, e⟩
  · have := hc p hp; omega
theorem EN.old {h : Hist} {w wr : World} {A : Option Addr} {n c mp k : Nat} {s : Sg} {d gs : Nat} {L : List (Nat × Sg)} {lv ov qv : Value} {T : List (Nat × List Sg)} {M : List (List Int × Int)} {j : Nat} {O : List Nat} (hO : O = outs h T (k + 1)) {cc : Int} {q : Nat × Sg} (hM : EM h T k (M.map (·.1)) s d (L.map (·.2)) j) (hg : ∃ q, T[k]? = some q ∧ q.1 = gs)
    (hc : ∀ p ∈ M, 1 ≤ p.2 ∧ p.2 ≤ ((1 + 1000 * k + j : Nat) : Int)) (hcc : cc = (mget M (keyL q.2)).getD 0) (hq : L[j]? = some q) (hin : keyL q.2 ∈ M.map (·.1)) (m : Mem h w A n c mp gs T L ((T.drop (k + 1)).map (·.1)) O (mput M (keyL q.2) (cc + 1)) qv ov lv wr) :
    EN h w A n c mp k s d gs L lv ov O (j + 1) qv wr := by
  subst hO
  have hk : (mput M (keyL q.2) (cc + 1)).map (·.1) = M.map (·.1) := by rw [mput_keys, if_pos hin]
  refine ⟨T, _, ?_, hg, rfl, counts_put hc (by rw [hcc]; exact mget_le hc hM.nodup _), m⟩
  rw [hk]
  exact hM.old (s' := q.2) (by rw [List.getElem?_map, hq]; rfl) hin
theorem EN.new {h : Hist} {w wr : World} {A : Option Addr} {n c mp k : Nat} {s : Sg} {d gs : Nat} {L : List (Nat × Sg)} {lv ov qv : Value} {T : List (Nat × List Sg)} {M : List (List Int × Int)} {j : Nat} {O : List Nat} (hO : O = outs h T (k + 1)) {cc : Int} {q : Nat × Sg} (hM : EM h T k (M.map (·.1)) s d (L.map (·.2)) j) (hg : ∃ q, T[k]? = some q ∧ q.1 = gs)
    (hc : ∀ p ∈ M, 1 ≤ p.2 ∧ p.2 ≤ ((1 + 1000 * k + j : Nat) : Int)) (hcc : cc = (mget M (keyL q.2)).getD 0) (hq : L[j]? = some q) (hnot : keyL q.2 ∉ M.map (·.1)) (hn : NextSet h s q.2) (m : Mem h w A n c mp gs T L ((T.drop (k + 1)).map (·.1) ++ [q.1]) O (mput M (keyL q.2) (cc + 1)) qv ov lv wr) :
    EN h w A n c mp k s d gs L lv ov O (j + 1) qv wr := by
  subst hO
  obtain ⟨q0, hq0, e0⟩ := hg
  have hlt := hM.lt
  have hk : (mput M (keyL q.2) (cc + 1)).map (·.1) = M.map (·.1) ++ [keyL q.2] := by rw [mput_keys, if_neg hnot]
  have hcp := counts_put (x := keyL q.2) (v := cc) hc (by rw [hcc]; exact mget_le hc hM.nodup _)
  refine ⟨T ++ [(q.1, q.2 :: q0.2)], _, ?_, ⟨q0, by rw [List.getElem?_append_left hlt]; exact hq0, e0⟩, (outs_more hlt _).symm, hcp, ?_⟩
  · rw [hk]
    exact hM.new (s' := q.2) (by rw [List.getElem?_map, hq]; rfl) hnot hn q.1 (q.2 :: q0.2) ⟨q0, hq0, rfl⟩
  · have m2 := m.met hq (List.mem_of_getElem? hq0) e0
    rw [List.drop_append_of_le_length (by omega), List.map_append]
    exact m2

/-- What stands in memory when the search begins. -/
theorem Mem.first {h : Hist} {w wr : World} {A : Option Addr} {n c : Nat} (hbel : Below w.heap.size w wr) (hbox : Boxed w.heap.size h.blocks A n c wr) :
    Mem h w A n c (wr.heap.size + 1 + 1) 0 [(wr.heap.size, [sg0])] [] [wr.heap.size] [] [] (.slice (some ⟨wr.heap.size + 1, 0, none⟩) 1 1) (.slice none 0 0) (.slice none 0 0)
      (((wr.alloc (.cells (stC 0 (.slice none 0 0) 0 0 0 0 0 0 none 0 (.slice none 0 0)) 65)).alloc (.cells #[ptr wr.heap.size] 57)).alloc (.map #[] 0)) := by
  have hlt := (Array.getElem?_eq_some_iff.1 hbox).1
  have hB : Below wr.heap.size wr (((wr.alloc (.cells (stC 0 (.slice none 0 0) 0 0 0 0 0 0 none 0 (.slice none 0 0)) 65)).alloc (.cells #[ptr wr.heap.size] 57)).alloc (.map #[] 0)) := ((below_alloc0 wr _).alloc (by simp) _).alloc (by simp; omega) _
  have hs : (((wr.alloc (.cells (stC 0 (.slice none 0 0) 0 0 0 0 0 0 none 0 (.slice none 0 0)) 65)).alloc (.cells #[ptr wr.heap.size] 57)).alloc (.map #[] 0)).heap[wr.heap.size]? = some (.cells (stC 0 (.slice none 0 0) 0 0 0 0 0 0 none 0 (.slice none 0 0)) 65 (0, 0)) :=
    (Below.heap_alloc _ _ _ (by simp; omega)).trans ((Below.heap_alloc _ _ _ (by simp)).trans (heap_alloc_new _ _))
  have hp : (((wr.alloc (.cells (stC 0 (.slice none 0 0) 0 0 0 0 0 0 none 0 (.slice none 0 0)) 65)).alloc (.cells #[ptr wr.heap.size] 57)).alloc (.map #[] 0)).heap[wr.heap.size + 1]? = some (.cells #[ptr wr.heap.size] 57 (0, 0)) :=
    (Below.heap_alloc _ _ _ (by simp)).trans (heap_alloc2_new _ _ _)
  exact
  { queue := row_one hp (by omega), out := row_nil _ _ _ _, kids := row_nil _ _ _ _, apQO := .none 0 0, apQL := .none 0 0
    map := by
      have := MapOf.made Try.prog 72 fA gI ((wr.alloc (.cells (stC 0 (.slice none 0 0) 0 0 0 0 0 0 none 0 (.slice none 0 0)) 65)).alloc (.cells #[ptr wr.heap.size] 57))
      simpa using this
    stages := fun p hp => by
      simp at hp; subst hp
      refine ⟨?_, by show w.heap.size ≤ wr.heap.size; omega⟩
      exact ⟨none, 0, 0, none, 0, 0, 0, 0, 0, 0, 0, 0, rfl, hs, intsAt_nil _, .inl rfl, Nat.le_refl _, intsAt_nil _, Nat.le_refl _, tyI_none _, tyI_none _⟩
    kidsAt := fun p hp => by simp at hp
    below := hbel.trans (hB.mono hbel.size), box := by unfold Boxed; rw [hB.block _ hlt]; exact hbox, mapAt := by omega }

end Go.Proofs.Ytagekhgfoabgbaa
end

section
/- ends, walked. -/
set_option linter.unusedSimpArgs false
set_option linter.unusedVariables false
namespace Go.Proofs.Ytagekhgfoabgbaa
open Go.RowKit Go.Maps

/-- The loop over the commands: j of them are looked at. -/
def EA (h : Hist) (w : World) (A : Option Addr) (n c : Nat) (wr : World) : Prop := Below w.heap.size w wr ∧ Boxed w.heap.size h.blocks A n c wr
theorem allTo_succ_no {h : Hist} {j : Nat} (ht : (h.cmd j).to < 0) : allTo h (j + 1) = allTo h j := by show (if _ then _ else _) = _; rw [if_pos ht]
theorem allTo_succ_yes {h : Hist} {j : Nat} (ht : ¬ (h.cmd j).to < 0) : allTo h (j + 1) = allTo h j ||| 2 ^ j := by show (if _ then _ else _) = _; rw [if_neg ht]

set_option maxRecDepth 100000 in
set_option maxHeartbeats 4000000 in
theorem ends_any (w : World) (h : Hist) (A : Option Addr) (n c : Nat) (hh : HistOk h) (hC : CmdsAt w A n h.cmds) (hnc : n ≤ c) :
    Calls Try.prog 23 #[hV h.blocks A n c] w (EndsPost h w) := by
  have hn6 : n ≤ 6 := by rw [← hC.1]; exact hh.few
  have hE0 : EA h w A n c (w.alloc (.cells #[gI h.blocks, .slice A n c] 24)) := ⟨below_alloc0 _ _, heap_alloc_new _ _⟩
  go_enter Try.func23, Try.ntmps23
  go_wp2_with fail
  go_loopw [3, 15] (fun v i wr => ∃ j : Nat, j ≤ n ∧ i = .int .i64 j ∧ v = .int .i64 (allTo h j : Nat) ∧ EA h w A n c wr) (fun _ i _ => n - (intOf i).toNat)
  case atStart => exact ⟨0, Nat.zero_le _, rfl, rfl, hE0⟩
  case round =>
    clear hE0
    obtain ⟨j, hj, rfl, rfl, hbel, hbox⟩ := hrel
    by_cases hlt : j < n
    ·
      -- [[
      obtain ⟨gA, oA, hAe, hgA, hc0, hc1, hc2, hc3, hc4⟩ := hC.get hlt
      subst hAe
      obtain ⟨o, ho⟩ : ∃ o, o = h.cmd j := ⟨_, rfl⟩
      rw [← ho] at hc0 hc1 hc2 hc3 hc4
      have eb : ∀ x, wr.cell? ⟨gA, x, none⟩ = w.cell? ⟨gA, x, none⟩ := fun x => hbel.cell (p := ⟨gA, x, none⟩) hgA
      have hd0 := (eb _).trans hc0
      have hd1 := (eb _).trans hc1
      have hd2 := (eb _).trans hc2
      have hd3 := (eb _).trans hc3
      have hd4 := (eb _).trans hc4
      have hltz : (j : Int) < (n : Int) := by omega
      have hj64 : (j : Int) < 64 := by omega
      have hor := bits_or2 (allTo h j) (allTo_lt h j (by omega)) j (by omega)
      have hor2 : Go.bits .or .i64 ((allTo h j : Nat) : Int) (IntKind.i64.wrap (2 ^ j : Int)) = ((allTo h j ||| 2 ^ j : Nat) : Int) := by rw [IntWalk.i64_left]; exact hor
      obtain ⟨aj, haj⟩ : ∃ aj : Nat, aj = allTo h j := ⟨_, rfl⟩
      obtain ⟨bj, hbj⟩ : ∃ bj : Nat, bj = aj ||| 2 ^ j := ⟨_, rfl⟩
      rw [← haj] at hor hor2 ⊢
      rw [← hbj] at hor hor2
      have HAJ := Lib.hid (show aj = allTo h j ∧ bj = aj ||| 2 ^ j ∧ o = h.cmd j from ⟨haj, hbj, ho⟩)
      have HE := Lib.hid (fun W (hW : Below (wr.alloc (.cells #[gI o.kind, gI o.block, gI o.value, gI o.frm, gI o.to] 36)).heap.size (wr.alloc (.cells #[gI o.kind, gI o.block, gI o.value, gI o.frm, gI o.to] 36)) W) => (show EA h w (some ⟨gA, oA, none⟩) n c W from by
        have hw := (below_alloc0 wr (.cells #[gI o.kind, gI o.block, gI o.value, gI o.frm, gI o.to] 36)).trans (hW.mono (by simp))
        exact ⟨hbel.trans (hw.mono hbel.size), by unfold Boxed; rw [hw.block _ (Array.getElem?_eq_some_iff.1 hbox).1]; exact hbox⟩))
      clear haj hbj ho eb hc0 hc1 hc2 hc3 hc4 hbel hbox
      by_cases ht : o.to < 0
      · have htd : decide (o.to < 0) = true := by simpa using ht
        have HT := Lib.hid ht
        clear ht
        go_wp2_with (go_at_call 24; refine (open_is _ _ _ _ _ _ htd).mono ?_; rintro e w9 ⟨rfl, hb9⟩)
        go_roundw
        case rel => exact ⟨j + 1, by omega, by go_num, by rw [allTo_succ_no (by rw [← HAJ.out.2.2]; exact HT.out), HAJ.out.1], HE.out _ hb9⟩
        case measure => simp [intOf]; omega
      · have htd : decide (o.to < 0) = false := by simpa using ht
        have HT := Lib.hid ht
        clear ht
        go_wp2_with (go_at_call 24; refine (open_is _ _ _ _ _ _ htd).mono ?_; rintro e w9 ⟨rfl, hb9⟩)
        go_roundw
        case rel => exact ⟨j + 1, by omega, by go_num, by rw [allTo_succ_yes (by rw [← HAJ.out.2.2]; have := HT.out; omega), ← HAJ.out.1, ← HAJ.out.2.1], HE.out _ hb9⟩
        case measure => simp [intOf]; omega
      -- ]]
    · have hjn : j = n := by omega
      subst hjn
      have hmm := run_makeMap0
      have hat : (allTo h j : Int) = (allM h : Nat) := by unfold allM; rw [hC.1]
      obtain ⟨am, ham⟩ : ∃ am : Nat, am = allM h := ⟨_, rfl⟩
      rw [← ham] at hat
      rw [hat]
      have ham64 : am < 64 := by rw [ham]; exact allTo_lt h _ hh.few
      have HAM := Lib.hid ham
      have HBEL := Lib.hid hbel
      have HBOX := Lib.hid hbox
      have hg0 : w.heap.size < wr.heap.size := (Array.getElem?_eq_some_iff.1 hbox).1
      clear hat ham hbel hbox
      go_wp2_with fail
      have m0 := Mem.first HBEL.out HBOX.out
      obtain ⟨W0, hW0⟩ : ∃ W0, W0 = (((wr.alloc (.cells (stC 0 (.slice none 0 0) 0 0 0 0 0 0 none 0 (.slice none 0 0)) 65)).alloc (.cells #[ptr wr.heap.size] 57)).alloc (.map #[] 0)) := ⟨_, rfl⟩
      rw [← hW0] at m0
      have hk0 := key_any W0 wr.heap.size sg0 none (m0.stages (wr.heap.size, [sg0]) (by simp)).1 (by decide)
      refine (hW0 ▸ hk0).mono ?_
      rintro e w1 ⟨rfl, hb1⟩
      rw [← hW0] at hb1
      have m1 := m0.grow hb1
      have hkm := keyL_mild (sg0_ok hh)
      obtain ⟨w5, hup, hm5, hu5⟩ := m1.map.update law72 agg_inj Try.underlying74 (key72 hkm.1 hkm.2) 1
      have m5 := m1.upd hu5 hm5
      have hE : EO h w A j c (wr.heap.size + 1 + 1) 0 (.slice (some ⟨wr.heap.size + 1, 0, none⟩) 1 1) (.slice none 0 0) w5 := ⟨_, _, EI.start h wr.heap.size, by simp, by simp [mput], m5⟩
      obtain ⟨mp, hmp⟩ : ∃ mp, mp = wr.heap.size + 1 + 1 := ⟨_, rfl⟩
      obtain ⟨WG, hWG⟩ : ∃ WG, WG = wgt 6 := ⟨_, rfl⟩
      have hWGs : WG ≤ 1200000000000 := by rw [hWG]; exact wgt6
      have hup' : (Instr.mapUpdate 74 (.map (some (wr.heap.size + 1 + 1))) (.agg (ints (keyL sg0))) (.int .i64 1)).run Try.prog w1 = .ok () w5 := hup
      rw [← hmp] at hE
      have HE := Lib.hid hE
      have HMP := Lib.hid hmp
      have HWG := Lib.hid hWG
      clear hmm hW0 hk0 m0 m1 m5 hkm hup hm5 hu5 hE hWG hb1 hmp
      go_wp2_with fail
      rw [← HMP.out]
      clear hup' HMP
      go_loopg [6, 8] WG (fun gh q o wr => ∃ k, gh + k = WG ∧ EO h w A j c mp k q o wr)
      case atStart => exact ⟨0, by omega, HE.out⟩
      case round =>
        clear HE HBEL HBOX hg0
        obtain ⟨k, hgk, T, M, hI, hkT, hc, m⟩ := hrel
        by_cases hlt : k < T.length
        · obtain ⟨p, hp⟩ : ∃ p, T[k]? = some p := ⟨_, List.getElem?_eq_getElem hlt⟩
          have hpT := List.mem_of_getElem? hp
          have hdr : (T.drop k).map (·.1) = p.1 :: (T.drop (k + 1)).map (·.1) := by
            rw [List.drop_eq_getElem_cons hlt]
            rw [List.getElem?_eq_getElem hlt] at hp
            injection hp with hp
            rw [hp]; rfl
          have hsm := hI.small
          rw [HWG.out.symm] at hsm
          have hwps : 1 ≤ wps (T.drop k) := by
            have := len_wps (T.drop k)
            have : 0 < (T.drop k).length := by simp; omega
            omega
          rw [hdr] at m
          obtain ⟨gq, oq, cq, rfl, hnc, hcell, tv, htl, m2⟩ := m.pop
          obtain ⟨s1, r1, e1, hsok, hso, hsc⟩ := (hI.paths p hpT).ok hh
          have hhd : hd p.2 = s1 := by rw [e1]; rfl
          obtain ⟨bf, hSB⟩ : ∃ bf, StB wr p.1 s1 bf := by
            have := (m2.stages p hpT).1
            rw [e1] at this
            exact this.head
          obtain ⟨_, _, _, _, _, _, _, _, _, _, _, _, _, g0, _⟩ := hSB.open
          have hsd := hsok.done
          have hol := outs_len (h := h) (T := T) (k := k)
          have hfull := bits_all s1.done hsd am ham64
          have hbox0 := m2.box
          unfold Boxed at hbox0
          have x0 : wr.cell? ⟨w.heap.size, 0, none⟩ = some (gI h.blocks) := by rw [cell_of_row _ _ 0 _ _ _ hbox0]; rfl
          have x1 : wr.cell? ⟨w.heap.size, 1, none⟩ = some (.slice A j c) := by rw [cell_of_row _ _ 1 _ _ _ hbox0]; rfl
          obtain ⟨NQ, hNQ⟩ : ∃ NQ, NQ = (p.1 :: (T.drop (k + 1)).map (·.1)).length := ⟨_, rfl⟩
          have hq0 : (0 : Int) < (NQ : Int) := by rw [hNQ, List.length_cons]; omega
          rw [← hNQ] at htl hnc ⊢
          obtain ⟨gs, hgs⟩ : ∃ gs, gs = p.1 := ⟨_, rfl⟩
          rw [← hgs] at hcell g0
          have HR := Lib.hid (show EI h T k (M.map (·.1)) ∧ T[k]? = some p ∧ gs = p.1 ∧ hd p.2 = s1 ∧ p.2 = s1 :: r1 ∧ StOk h s1 ∧ k < WG ∧ (outs h T k).length ≤ k ∧ (∀ p ∈ M, 1 ≤ p.2 ∧ p.2 ≤ ((1 + 1000 * k : Nat) : Int)) from ⟨hI, hp, hgs, hhd, e1, hsok, by omega, hol, hc⟩)
          have HM2 := Lib.hid m2
          have HHC := Lib.hid hC
          obtain ⟨fb, hfb⟩ : ∃ fb, fb = fullB h s1 := ⟨_, rfl⟩
          have hfull2 : (Go.bits .and .i64 (s1.done : Int) (am : Int) == (am : Int)) = fb := by rw [hfb, hfull]; unfold fullB; rw [HAM.out]
          have HFB := Lib.hid hfb
          clear hfull hfb hNQ hgs hbox0 hhd hdr hp hpT hI hc m m2 e1 hSB hsok hso hsc hwps hsm hol hC
          cases fb
          case' true =>
            go_wp2_with (at_builtin; go_must (refine row_append_op w.heap.size rfl _ _ 49 57 _ 1 8 rfl Try.underlying49 info57 (by rfl) (by decide) (row_below HM2.out.out (below_alloc0 _ _)) rfl _ #[ptr gs] 57 rfl (heap_alloc_new _ _) rfl (by simp [Value.oneCell']) (by have := HR.out.2.2.2.2.2.2; omega) (by unfold maxLen; have := HR.out.2.2.2.2.2.2; omega) (by rw [World.size_alloc]; have := HM2.out.below.size; omega) ?_); intro v' w4 hrow4 hg4 hat4; have HM4 := Lib.hid (HM2.out.give hrow4 hg4 hat4); have hbx4 := (HM4.out.box); unfold Boxed at hbx4; have y0 : w4.cell? ⟨w.heap.size, 0, none⟩ = some (gI h.blocks) := (by rw [cell_of_row _ _ 0 _ _ _ hbx4]; rfl); have y1 : w4.cell? ⟨w.heap.size, 1, none⟩ = some (.slice A j c) := (by rw [cell_of_row _ _ 1 _ _ _ hbx4]; rfl); clear hrow4 hg4 hat4 hbx4)
            have HMN := Lib.hid (show Mem h w A j c mp 0 T [] ((T.drop (k + 1)).map (·.1)) (outs h T (k + 1)) M tv v' (.slice none 0 0) w4 from by
              rw [outs_succ HR.out.2.1, HR.out.2.2.2.1, if_pos HFB.out.symm, ← HR.out.2.2.1]; exact HM4.out)
            obtain ⟨ov, rfl⟩ : ∃ x : Value, x = v' := ⟨_, rfl⟩
            obtain ⟨W4, rfl⟩ : ∃ x : World, x = w4 := ⟨_, rfl⟩
            clear HM4 x0 x1 y0 y1 hcell g0
          case' false =>
            go_wp2_with fail
            have HMN := Lib.hid (show Mem h w A j c mp 0 T [] ((T.drop (k + 1)).map (·.1)) (outs h T (k + 1)) M tv u8 (.slice none 0 0) wr from by
              rw [outs_succ HR.out.2.1, HR.out.2.2.2.1, if_neg (by rw [← HFB.out]; decide)]; exact HM2.out)
            obtain ⟨ov, rfl⟩ : ∃ x : Value, x = u8 := ⟨_, rfl⟩
            obtain ⟨W4, rfl⟩ : ∃ x : World, x = wr := ⟨_, rfl⟩
            clear x0 x1 hcell g0
          all_goals
            clear HM2 htl hfull2 hq0 hnc HFB hlt hkT
            obtain ⟨bf, hSB4⟩ : ∃ bf, StB W4 gs s1 bf := by
              have := (HMN.out.stages p (List.mem_of_getElem? HR.out.2.1)).1
              rw [HR.out.2.2.2.2.1, ← HR.out.2.2.1] at this
              exact this.head
            have hnext := next_any W4 gs s1 bf h A j c hSB4 HR.out.2.2.2.2.2.1 hh (HHC.out.below HMN.out.below (Nat.le_refl _)) hnc
            refine hnext.mono ?_
            rintro e w5 ⟨lv, n', c', A', N, rfl, hX, hN⟩
            have hEN := EN.start hh HR.out.1 HR.out.2.1 HR.out.2.2.2.2.2.2.2.2 HMN.out (by rw [← HR.out.2.2.1, HR.out.2.2.2.1]; exact hX) (by rw [HR.out.2.2.2.1]; exact hN)
            rw [HR.out.2.2.2.1, ← HR.out.2.2.1] at hEN
            obtain ⟨L, hEN, hD, hL1000, A2, c2, rfl⟩ := hEN
            obtain ⟨d, hd'⟩ : ∃ d, d = p.2.length := ⟨_, rfl⟩
            obtain ⟨O, hO⟩ : ∃ O, O = outs h T (k + 1) := ⟨_, rfl⟩
            obtain ⟨NL, hNL⟩ : ∃ NL, NL = L.length := ⟨_, rfl⟩
            rw [← hd', ← hO, ← hNL] at hEN
            rw [← hNL] at hL1000 ⊢
            have HEN := Lib.hid hEN
            have HNL := Lib.hid (show NL = L.length ∧ (∀ s', (∃ q ∈ L, q.2 = s') ↔ NextSet h s1 s') from ⟨hNL, hD⟩)
            have HK := Lib.hid (show gk + k = WG ∧ k < WG from ⟨hgk, HR.out.2.2.2.2.2.2.1⟩)
            clear hd' hO hNL hEN hD hX hN hnext hSB4 HMN HHC hgk HR hsd
            obtain ⟨ko, rfl⟩ : ∃ ko : Nat, ko = gk := ⟨_, rfl⟩
            go_wp2_with fail
            go_loopw [6, 61] (fun q i wr => ∃ i' : Nat, i' ≤ NL ∧ i = .int .i64 i' ∧ EN h w A j c mp k s1 d gs L (.slice A2 NL c2) ov O i' q wr) (fun _ i _ => NL - (intOf i).toNat)
            case atStart => exact ⟨0, Nat.zero_le _, rfl, HEN.out⟩
            case round =>
              clear HEN
              obtain ⟨i', hi', rfl, hEN⟩ := hrel
              by_cases hil : i' < NL
              · obtain ⟨T', M', hM, hg', hOo, hcM, m⟩ := hEN
                obtain ⟨⟨gq, sq⟩, hq0⟩ : ∃ q0, L[i']? = some q0 := ⟨_, List.getElem?_eq_getElem (by rw [← HNL.out.1]; exact hil)⟩
                have hqL := List.mem_of_getElem? hq0
                have hns : NextSet h s1 sq := (HNL.out.2 _).1 ⟨_, hqL, rfl⟩
                obtain ⟨ph, hph, hhd', _⟩ := hM.here
                obtain ⟨s2, r2, e2, hsok2, hso2, _⟩ := (hM.paths ph (List.mem_of_getElem? hph)).ok hh
                have hs2 : s2 = s1 := by rw [← hhd', e2]; rfl
                subst hs2
                have hqok := (hns.ok hh hsok2 hso2).1
                have hkm := keyL_mild hqok
                have hky := key72 hkm.1 hkm.2
                have hqo : sq.orders.length ≤ 10 := by have := hqok.ords.len; omega
                obtain ⟨gk2, ok2, ck2, hlv, hkc, hkb, hkl, hkcells⟩ := row_cells m.kids (by rw [← HNL.out.1]; omega)
                injection hlv with hA2 hnl2 hc2
                clear hnl2
                subst hA2; subst hc2
                have hcq : wr.cell? ⟨gk2, ok2 + i', none⟩ = some (ptr gq) := hkcells i' _ (by rw [List.getElem?_map, hq0]; rfl)
                have hii : (i' : Int) < (NL : Int) := by omega
                have hii0 : (0 : Int) ≤ (i' : Int) := by omega
                have hz3 : ∀ W, (zeroValue 3).run Try.prog W = .ok (gI 0) W := fun W => by kernel_rfl
                have hkey := key_any wr.drew gq sq _ ((m.kidsAt _ hqL).1.below (Below.refl wr.heap.size wr).drew (Nat.le_refl _)) hqo
                have HC := Lib.hid (show True ∧ L[i']? = some (gq, sq) ∧ NextSet h s2 sq ∧ O = outs h T' (k + 1) from ⟨trivial, hq0, hns, hOo⟩)
                have HM := Lib.hid hM
                have HG := Lib.hid hg'
                have HCM := Lib.hid hcM
                have HZ := Lib.hid hz3
                have HKEY := Lib.hid hkey
                have HMM := Lib.hid m
                have HC2 := Lib.hid (show sq.orders.length ≤ 10 ∧ (M'.map (·.1)).Nodup ∧ (M'.map (·.1)).Nodup ∧ (gq, sq) ∈ L from ⟨hqo, hM.nodup, hM.nodup, hqL⟩)
                clear hq0 hns hOo hg' hcM hz3 hkey m hqo hqL hph hhd' e2 hsok2 hso2 hqok hkm hkc hkb hkl hkcells
                clear hM
                go_wp2_with fail
                go_region_with (go_at_call 41; go_must ((refine HKEY.out.mono ?_); rintro e w9 ⟨rfl, hb9⟩; have HM9 := Lib.hid (HMM.out.grow (below_undrew hb9)); obtain ⟨cc, v0, st, w5, w6, hq⟩ := HM9.out.map.counts law72 agg_inj Try.underlying74 HZ.out hky; have HQ := Lib.hid hq; obtain ⟨hce, hlk0, hen, hlk5, hes, hm6', hu5, hu6⟩ := hq; have hle := mget_le HCM.out HM9.out.map.nodup (keyL sq); rw [← hce] at hle; have hwr : IntKind.i64.wrap (cc + 1) = cc + 1 := IntWalk.i64_in _ (by have := HK.out; omega); clear hce))
                all_goals
                  have HM6 := Lib.hid (HM9.out.upd (HQ.out.2.2.2.2.2.2.1.trans HQ.out.2.2.2.2.2.2.2) HQ.out.2.2.2.2.2.1)
                  clear hlk0 hen hlk5 hes hm6' hu5 hu6 hwr hb9 HM9 hcq
                  by_cases hin : keyL sq ∈ M'.map (·.1)
                  · have hc1 : 1 ≤ cc := by
                      obtain ⟨x, hx, hxe⟩ := List.mem_map.1 hin
                      rw [HQ.out.1, ← hxe, mget_of_mem HC2.out.2.1 hx]
                      exact (HCM.out x hx).1
                    have hdec : (cc + 1 == 1) = false := by simp; omega
                    have HIN := Lib.hid hin
                    clear hin
                    go_wp2_with (go_at_call 41; go_must ((refine (key_any _ gq sq _ (HM6.out.kidsAt _ HC2.out.2.2.2).1 HC2.out.1).mono ?_); rintro e w10 ⟨rfl, hb10⟩; have HM10 := Lib.hid (HM6.out.grow hb10); have hlk10 : (Instr.lookup 74 (.map (some mp)) (.agg (ints (keyL sq))) false).run Try.prog w10 = .ok (.int .i64 (cc + 1)) w10 := (by have := HM10.out.map.lookup law72 agg_inj Try.underlying74 (z := 0) (by kernel_rfl) hky; rw [mget_mput_same _ _ _ HC2.out.2.2.1] at this; exact this)))
                    have HNEW := Lib.hid (show EN h w A j c mp k s2 d gs L (.slice (some ⟨gk2, ok2, none⟩) NL c2) ov O (i' + 1) u6 w10 from by
                      exact EN.old HC.out.2.2.2 HM.out HG.out HCM.out HQ.out.1 HC.out.2.1 HIN.out HM10.out)
                    clear hlk10 hdec hle hb10
                    go_roundw
                    case rel => exact ⟨i' + 1, by omega, by go_num, HNEW.out⟩
                    case measure => simp [intOf]; omega
                  · have hc0 : cc = 0 := by rw [HQ.out.1, mget_none hin]; rfl
                    subst hc0
                    have HIN := Lib.hid hin
                    clear hin hle
                    have hfew : T'.length ≤ 1200000000000 := by
                      have h1 := HM.out.small
                      have h2 := len_wps (T'.drop (k + 1))
                      have h3 := wgt6
                      simp at h2
                      omega
                    have hql : ((T'.drop (k + 1)).map (·.1)).length ≤ 1200000000000 := by simp; omega
                    have HQL := Lib.hid hql
                    clear hql hfew
                    go_wp2_with (first
                      | (go_at_call 41; go_must ((refine (key_any _ gq sq _ (HM6.out.kidsAt _ HC2.out.2.2.2).1 HC2.out.1).mono ?_); rintro e w10 ⟨rfl, hb10⟩; have HM10 := Lib.hid (HM6.out.grow hb10); have hlk10 : (Instr.lookup 74 (.map (some mp)) (.agg (ints (keyL sq))) false).run Try.prog w10 = .ok (.int .i64 1) w10 := (by have := HM10.out.map.lookup law72 agg_inj Try.underlying74 (z := 0) (by kernel_rfl) hky; rw [mget_mput_same _ _ _ HC2.out.2.2.1] at this; exact this)))
                      | (at_builtin; go_must (refine row_append_op w.heap.size rfl _ _ 49 57 _ 1 8 rfl Try.underlying49 info57 (by rfl) (by decide) (row_below HM10.out.queue (below_alloc0 _ _)) rfl _ #[ptr gq] 57 rfl (heap_alloc_new _ _) rfl (by simp [Value.oneCell']) (by have := HQL.out; omega) (by unfold maxLen; have := HQL.out; omega) (by rw [World.size_alloc]; have := HM10.out.below.size; omega) ?_); intro v2 w4 hrow4 hg4 hat4; have HM12 := Lib.hid (HM10.out.push hrow4 hg4 hat4); clear hrow4 hg4 hat4))
                    have HNEW := Lib.hid (show EN h w A j c mp k s2 d gs L (.slice (some ⟨gk2, ok2, none⟩) NL c2) ov O (i' + 1) v2 w4 from by
                      exact EN.new HC.out.2.2.2 HM.out HG.out HCM.out HQ.out.1 HC.out.2.1 HIN.out HC.out.2.2.1 HM12.out)
                    clear hlk10 hb10
                    go_roundw
                    case rel => exact ⟨i' + 1, by omega, by go_num, HNEW.out⟩
                    case measure => simp [intOf]; omega
              · have hin : i' = NL := by omega
                subst hin
                have HE := Lib.hid (EN.done (by rw [← HNL.out.1]; exact hEN) HNL.out.2 (by rw [← HNL.out.1]; exact hL1000))
                clear hEN
                go_wp2_with fail
                go_roundg (ko - 1)
                case measure => have := HK.out; omega
                case rel => exact ⟨k + 1, by have := HK.out; omega, HE.out⟩
        · have hz : T.drop k = [] := List.drop_eq_nil_of_le (by omega)
          have HP := Lib.hid (EO.end_ hh hI hkT hz m)
          rw [hz] at m
          obtain ⟨A', c', hv, _⟩ := row_slice m.queue
          subst hv
          clear hI hc m hz hkT hlt
          go_wp2_with fail
          go_ret
          exact HP.out

end Go.Proofs.Ytagekhgfoabgbaa
end
