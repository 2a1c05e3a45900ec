/- a drawn region's points: rows of its own, appends -/
import Derived.Test.YtjiiikeniocmfaaGreatMGeo2
import Derived.Test.YtjiiikeniocmfaaGreatMQPts
import Derived.Tactics
import Derived.Tactics2
import Derived.Defers
import Derived.Laws.Pointers
import Derived.Laws.LoneSync
import Derived.RegionTactic
import Derived.RegionCalls
set_option linter.unusedSimpArgs false
set_option linter.unusedVariables false
namespace Go.Proofs.YtjiiikeniocmfaaGreat
open Go.RowKit Go.Geo
theorem OwnP.any {w : World} {base : Nat} {v : Value} {L : List Pt} (h : OwnP w base v L) : ownAny v = v.ownBlock := by
  rcases h.2 with ⟨rfl, _⟩ | ⟨g', cap, cur, rfl, _⟩ <;> rfl
theorem run_append_ptsF {w : World} (ty base : Nat) (v : Value) (L : List Pt) (hown : OwnP w base v L)
    (ao : Option Addr) (m c : Nat) (L2 : List Pt) (hsrc : IsPts w ao m c L2) (hnm : L.length + m ≤ 1000000000) (hbase : base ≤ w.heap.size) :
    ∃ v' w', (Builtin.append_ #[40, 40] ty #[v, .slice ao m c]).run Tryz.prog w = .ok v' w' ∧ OwnP w' base v' (L ++ L2) ∧ w.grownBy w' v.ownBlock ∧ (∀ g, v'.ownBlock = some g → w.heap.size ≤ g ∨ v.ownBlock = some g) := by
  obtain ⟨i0, hi, hz0, hz1, hz2⟩ := info_parts' Tryz.infoPt
  have hl := hsrc.1
  cases ao with
  | none =>
    obtain ⟨rfl, rfl⟩ := hsrc.2.2.2.2 rfl
    obtain rfl : L2 = [] := List.eq_nil_of_length_eq_zero hl
    exact ⟨v, w, run_append_owned_none (P := Tryz.prog) (w := w) base _ ty _ i0 2 Tryz.underlying40 hi v _ _ hown, by rw [List.append_nil]; exact hown, ⟨rfl, rfl, rfl, Nat.le_refl _, fun _ _ _ => rfl⟩, fun g hg => .inr hg⟩
  | some ad =>
    obtain ⟨b, off, spot⟩ := ad
    obtain ⟨v', w', hr, h2, h3, _⟩ := run_append_own (P := Tryz.prog) w base 40 ty _ i0 (.agg #[.int .i64 0, .int .i64 0]) 2 16 Tryz.underlying40 hi hz0 hz1 hz2 rfl (by decide) v _ _ hown ⟨b, off, spot⟩ m c (flatP L2) (by rw [flatP_length, hl]) hsrc.cells (flatP_one _)
      (by unfold maxLen; omega) (by omega) hbase
    refine ⟨v', w', hr, ?_, h3, append_own_fresh (P := Tryz.prog) w base 40 ty _ i0 (.agg #[.int .i64 0, .int .i64 0]) 2 16 Tryz.underlying40 hi hz0 hz1 hz2 rfl (by decide) v _ _ hown ⟨b, off, spot⟩ m c (flatP L2) (by rw [flatP_length, hl]) hsrc.cells (flatP_one _)
      (by unfold maxLen; omega) (by omega) hr⟩
    unfold OwnP
    rw [flatP_append, List.length_append, hl]; exact h2
theorem opwp_append_ptsF {w : World} {o : Oper} {a : Act} {K : Act → World → Prop} {Q : Exit → Act → World → Prop} (s x : Operand)
    (ho : o.op = .call { callee := .builtin .append, args := #[s, x], argTypes := #[40, 40] })
    (base : Nat) (v : Value) (L : List Pt) (hs : a.eval s = v) (hown : OwnP w base v L)
    (ao : Option Addr) (m c : Nat) (L2 : List Pt) (hx : a.eval x = .slice ao m c) (hsrc : IsPts w ao m c L2) (hnm : L.length + m ≤ 1000000000) (hbase : base ≤ w.heap.size)
    (h : ∀ v' w', OwnP w' base v' (L ++ L2) → w.grownBy w' v.ownBlock → (∀ g, ownAny v' = some g → w.heap.size ≤ g ∨ v.ownBlock = some g) → K (a.put o.dst v') w') : o.wp Tryz.prog a w K Q := by
  obtain ⟨v', w', hr, h2, h3, h4⟩ := run_append_ptsF o.type base v L hown ao m c L2 hsrc hnm hbase
  unfold Oper.wp execOp
  simp only [ho, resolve, invoke, builtin, Sem.run_bind, Sem.run_pure, Result.andThen_ok, List.map_toArray, List.map_cons, List.map_nil, hs, hx, hr]
  exact h v' w' h2 h3 (by rw [h2.any]; exact h4)
theorem eval_tmp {a : Act} {t : Nat} {v : Value} (h : a.tmps[t]? = some v) : a.eval (.tmp t) = v := by simp [Act.eval, h]
end Go.Proofs.YtjiiikeniocmfaaGreat

/- apportionkit.CopyRings -/
namespace Go.Proofs.YtjiiikeniocmfaaGreat
open Go.RowKit Go.Geo
theorem take_moreR {R : List (List Pt)} {k : Nat} (hk : k < R.length) : R.take (k + 1) = R.take k ++ [R.getD k []] := by
  rw [List.take_succ_eq_append_getElem hk, List.getD_eq_getElem?_getD, List.getElem?_eq_getElem hk]; rfl
/-- rings that are not many, nor long. -/
def Small (R : List (List Pt)) : Prop := R.length ≤ 100000 ∧ ∀ k, k < R.length → (R.getD k []).length ≤ 100000
end Go.Proofs.YtjiiikeniocmfaaGreat

/- regions in slices: what came in, and rows of the call's own; append -/
set_option linter.unusedSimpArgs false
set_option linter.unusedVariables false
namespace Go.Proofs.YtjiiikeniocmfaaGreat
open Go.RowKit Go.Geo
abbrev Reg := List (List Pt)
/-- regions in a slice. -/
def IsRegs (w : World) (ao : Option Addr) (n cap : Nat) (G : List Reg) : Prop :=
  G.length = n ∧ n ≤ cap ∧ cap ≤ maxLen ∧ (ao = none → n = 0 ∧ cap = 0) ∧ ∀ k, k < n → ∃ b off x y z, ao = some ⟨b, off, none⟩ ∧ w.cell? ⟨b, off + k, none⟩ = some (.slice x y z) ∧ IsRings w x y z (G.getD k [])
theorem IsRegs.later {w w' : World} {B : Nat} {ao : Option Addr} {n cap : Nat} {G : List Reg} (h : IsRegs w ao n cap G) (hb : Below B w w') (hB : w.heap.size ≤ B) : IsRegs w' ao n cap G := by
  obtain ⟨h1, h2, h3, h4, h5⟩ := h
  refine ⟨h1, h2, h3, h4, fun k hk => ?_⟩
  obtain ⟨b, off, x, y, z, e, hc, hr⟩ := h5 k hk
  exact ⟨b, off, x, y, z, e, (hb.cell (p := ⟨b, off + k, none⟩) (Nat.lt_of_lt_of_le (block_lt_of_cell hc) hB)).trans hc, hr.later hb hB⟩
theorem Tryz.infoRg : (Tryz.prog.info? 30).map (fun i => (i.zero, i.size, i.bytes)) = some (some (.agg #[.slice none 0 0]), 1, 24) := by kernel_rfl
/-- regions of the call's own, one behind the other. -/
def OwnG (w : World) (base : Nat) (v : Value) (G : List Reg) : Prop :=
  ∃ vs : List Value, vs.length = G.length ∧ w.ownsRow base 30 1 v G.length vs ∧
    ∀ i, i < G.length → ∃ u, vs[i]? = some u ∧ OwnR w base u (G.getD i [])
theorem OwnG.nil (w : World) (base : Nat) : OwnG w base (.slice none 0 0) [] := ⟨[], rfl, World.ownsRow_nil _ _ _ _, fun i h => absurd h (by simp)⟩
theorem OwnR.moveB {w w' : World} {base : Nat} {v : Value} {R : Reg} (h : OwnR w base v R) (hb : ∀ k, base ≤ k → k < w.heap.size → w'.heap[k]? = w.heap[k]?) : OwnR w' base v R := by
  obtain ⟨vs, h1, h2, h3⟩ := h
  refine ⟨vs, h1, ownsRow_move h2 fun g hg => hb g (h2.lt g hg).1 (h2.lt g hg).2, fun i hi => ?_⟩
  obtain ⟨u, hu, ho⟩ := h3 i hi
  exact ⟨u, hu, ownsRow_move ho fun g hg => hb g (World.ownsRow.lt ho g hg).1 (World.ownsRow.lt ho g hg).2⟩
theorem OwnG.moveB {w w' : World} {base : Nat} {v : Value} {G : List Reg} (h : OwnG w base v G) (hb : ∀ k, base ≤ k → k < w.heap.size → w'.heap[k]? = w.heap[k]?) : OwnG w' base v G := by
  obtain ⟨vs, h1, h2, h3⟩ := h
  refine ⟨vs, h1, ownsRow_move h2 fun g hg => hb g (h2.lt g hg).1 (h2.lt g hg).2, fun i hi => ?_⟩
  obtain ⟨u, hu, ho⟩ := h3 i hi
  exact ⟨u, hu, ho.moveB hb⟩
theorem OwnG.later {w w' : World} {base : Nat} {v : Value} {G : List Reg} (h : OwnG w base v G) (hb : Below w.heap.size w w') : OwnG w' base v G := h.moveB fun k _ hk => hb.block k hk
theorem OwnG.base {w : World} {base base' : Nat} {v : Value} {G : List Reg} (h : OwnG w base v G) (hb : base' ≤ base) : OwnG w base' v G := by
  obtain ⟨vs, h1, h2, h3⟩ := h
  refine ⟨vs, h1, ownsRow_base h2 hb, fun i hi => ?_⟩
  obtain ⟨x, hx, ho⟩ := h3 i hi
  exact ⟨x, hx, ho.base hb⟩
theorem OwnG.lt {w : World} {base : Nat} {v : Value} {G : List Reg} (h : OwnG w base v G) : ∀ g, v.ownBlock = some g → base ≤ g ∧ g < w.heap.size := by
  obtain ⟨vs, _, h2, _⟩ := h
  exact fun g hg => h2.lt g hg
/-- the row of regions itself grows: their own rows are of other types. -/
theorem OwnR.other {w w' : World} {base base2 n : Nat} {v u : Value} {R : Reg} {xs : List Value} (h : OwnR w base u R) (hv : w.ownsRow base2 30 1 v n xs) (hg : w.grownBy w' v.ownBlock) : OwnR w' base u R := by
  obtain ⟨vs, h1, h2, h3⟩ := h
  refine ⟨vs, h1, World.ownsRow.kept h2 hg (own_apart (by decide) hv h2), fun i hi => ?_⟩
  obtain ⟨u, hu, ho⟩ := h3 i hi
  exact ⟨u, hu, World.ownsRow.kept ho hg (own_apart (by decide) hv ho)⟩
theorem OwnG.snoc {w w' : World} {base : Nat} {v v' u : Value} {G : List Reg} {r : Reg} {vs : List Value} (hL : vs.length = G.length)
    (hi : ∀ i, i < G.length → ∃ u, vs[i]? = some u ∧ OwnR w base u (G.getD i []))
    (hv : w.ownsRow base 30 1 v G.length vs) (hu : OwnR w base u r) (hown : w'.ownsRow base 30 1 v' (G.length + 1) (vs ++ [u])) (hg : w.grownBy w' v.ownBlock) :
    OwnG w' base v' (G ++ [r]) := by
  refine ⟨vs ++ [u], by simp [hL], by simpa using hown, fun i hi' => ?_⟩
  by_cases h : i < G.length
  · obtain ⟨x, hx, ho⟩ := hi i h
    have e : (G ++ [r]).getD i [] = G.getD i [] := by simp [List.getD_eq_getElem?_getD, List.getElem?_append_left h]
    refine ⟨x, by rw [List.getElem?_append_left (by omega)]; exact hx, ?_⟩
    rw [e]
    exact ho.other hv hg
  · obtain rfl : i = G.length := by simp at hi'; omega
    have e : (G ++ [r]).getD G.length [] = r := by simp [List.getD_eq_getElem?_getD]
    refine ⟨u, by rw [← hL]; simp, ?_⟩
    rw [e]
    exact hu.other hv hg
theorem OwnG.regs {w : World} {base : Nat} {v : Value} {G : List Reg} (h : OwnG w base v G) : ∃ ao cap, v = .slice ao G.length cap ∧ IsRegs w ao G.length cap G := by
  obtain ⟨vs, h1, h2, h3⟩ := h
  rcases h2.2 with ⟨rfl, h0⟩ | ⟨g, cap, cur, rfl, hb, hg, hn, hm, hs, ht⟩
  · have : G = [] := List.eq_nil_of_length_eq_zero h0
    subst this
    exact ⟨none, 0, rfl, rfl, Nat.le_refl _, by unfold maxLen; omega, fun _ => ⟨rfl, rfl⟩, fun k hk => absurd hk (by simp)⟩
  · refine ⟨_, cap, rfl, rfl, hn, hm, fun h => (by cases h), fun k hk => ?_⟩
    obtain ⟨u, hu, ho⟩ := h3 k hk
    obtain ⟨x, z, rfl, hp⟩ := ho.rings
    have hc := h2.cells (g := g) rfl k _ hu
    rw [add_cell] at hc
    exact ⟨g, 0, x, _, z, rfl, hc, hp.1 ▸ hp⟩
/-- the k-th, where its row is known. -/
theorem OwnG.at {w : World} {base : Nat} {ao : Option Addr} {n cap : Nat} {G : List Reg} (h : OwnG w base (.slice ao n cap) G) {k : Nat} (hk : k < n) : ∃ b off x y z, ao = some ⟨b, off, none⟩ ∧ w.cell? ⟨b, off + k, none⟩ = some (.slice x y z) ∧ OwnR w base (.slice x y z) (G.getD k []) := by
  obtain ⟨vs, h1, h2, h3⟩ := h
  rcases h2.2 with ⟨e, h0⟩ | ⟨g, cap', cur, e, hb, hg, hn, hm, hs, ht⟩
  · injection e with e1 e2
    omega
  · injection e with e1 e2 e3
    subst e1 e2 e3
    obtain ⟨u, hu, ho⟩ := h3 k hk
    obtain ⟨x, z, rfl, hp⟩ := ho.rings
    have hc := h2.cells (g := g) rfl k _ hu
    rw [add_cell] at hc
    exact ⟨g, 0, x, _, z, rfl, hc, ho⟩
theorem OwnG.len {w : World} {base : Nat} {ao : Option Addr} {n cap : Nat} {G : List Reg} (h : OwnG w base (.slice ao n cap) G) : n = G.length := by
  obtain ⟨_, _, e, _⟩ := h.regs
  injection e
theorem run_append_reg {w : World} (ty base : Nat) (v : Value) (L : List Reg) (hown : OwnG w base v L)
    (g : Nat) (u : Value) (r : Reg) (hu : OwnR w base u r) (hg : w.heap[g]? = some (.cells #[u] 30 (0, 0)))
    (hn : L.length ≤ 4294967296) (hbase : base ≤ w.heap.size) :
    ∃ v' w', (Builtin.append_ #[26, 26] ty #[v, .slice (some ⟨g, 0, none⟩) 1 1]).run Tryz.prog w = .ok v' w' ∧ OwnG w' base v' (L ++ [r]) ∧ w.grownBy w' v.ownBlock := by
  obtain ⟨i0, hi, hz0, hz1, hz2⟩ := info_parts' Tryz.infoRg
  obtain ⟨vs, h1, h2, h3⟩ := hown
  obtain ⟨x, z, hsl, _⟩ := hu.rings
  obtain ⟨v', w', hr, hx2, hgr, _⟩ := run_append_own (P := Tryz.prog) w base 26 ty 30 i0 (.agg #[.slice none 0 0]) 1 24 Tryz.underlying26 hi hz0 hz1 hz2 rfl (by decide) v L.length vs h2 ⟨g, 0, none⟩ 1 1 [u] rfl
    (by
      intro j k hk
      match j, hk with
      | 0, hk =>
        simp at hk; subst hk
        rw [show (⟨g, 0, none⟩ : Addr).add 0 = ⟨g, 0, none⟩ from rfl, cell_of_row _ _ _ _ _ _ hg]; rfl)
    (by intro k hk; simp at hk; subst hk; rw [hsl]; rfl) (by unfold maxLen; omega) (by omega) hbase
  exact ⟨v', w', hr, OwnG.snoc h1 h3 h2 hu hx2 hgr, hgr⟩
theorem opwp_append_reg {w : World} {o : Oper} {a : Act} {K : Act → World → Prop} {Q : Exit → Act → World → Prop} (s x : Operand)
    (ho : o.op = .call { callee := .builtin .append, args := #[s, x], argTypes := #[26, 26] })
    (base : Nat) (v : Value) (L : List Reg) (hs : a.eval s = v) (hown : OwnG w base v L)
    (g : Nat) (hx : a.eval x = .slice (some ⟨g, 0, none⟩) 1 1) (u : Value) (r : Reg) (hu : OwnR w base u r) (hg : w.heap[g]? = some (.cells #[u] 30 (0, 0)))
    (hn : L.length ≤ 4294967296) (hbase : base ≤ w.heap.size)
    (h : ∀ v' w', OwnG w' base v' (L ++ [r]) → w.grownBy w' v.ownBlock → K (a.put o.dst v') w') : o.wp Tryz.prog a w K Q := by
  obtain ⟨v', w', hr, h2, h3⟩ := run_append_reg o.type base v L hown g u r hu hg hn hbase
  unfold Oper.wp execOp
  simp only [ho, resolve, invoke, builtin, Sem.run_bind, Sem.run_pure, Result.andThen_ok, List.map_toArray, List.map_cons, List.map_nil, hs, hx, hr]
  exact h v' w' h2 h3
theorem wpList_append_reg {w : World} {ops : Array Oper} {rest : List Oper} {o : Oper} {a : Act} {Q : Exit → Act → World → Prop} (hgd : o.guard = none) (s x : Operand)
    (ho : o.op = .call { callee := .builtin .append, args := #[s, x], argTypes := #[26, 26] })
    (base : Nat) (v : Value) (L : List Reg) (hs : a.eval s = v) (hown : OwnG w base v L)
    (g : Nat) (hx : a.eval x = .slice (some ⟨g, 0, none⟩) 1 1) (u : Value) (r : Reg) (hu : OwnR w base u r) (hg : w.heap[g]? = some (.cells #[u] 30 (0, 0)))
    (hn : L.length ≤ 4294967296) (hbase : base ≤ w.heap.size)
    (h : ∀ v' w', OwnG w' base v' (L ++ [r]) → w.grownBy w' v.ownBlock → wpList Tryz.prog ops Q rest (a.put o.dst v') w') : wpList Tryz.prog ops Q (o :: rest) a w := by
  refine wpList_plain hgd fun K hK => ?_
  exact opwp_append_reg s x ho base v L hs hown g hx u r hu hg hn hbase fun v' w' h1 h2 => hK _ _ (h v' w' h1 h2)
end Go.Proofs.YtjiiikeniocmfaaGreat

/- sync.Once, one goroutine (the type numbers of the two *sync.Mutex are this seat's) -/
set_option linter.unusedSimpArgs false
set_option linter.unusedVariables false
namespace Go.Proofs.YtjiiikeniocmfaaGreat
open Go.RowKit
theorem race_disable (w : World) : (callFunc 165 #[]).run Tryz.prog w = .ok (.value (.tuple #[])) w := run_call_mark0 Tryz.func165 (by kernel_rfl) (by kernel_rfl) (by kernel_rfl) .disable (by kernel_rfl) w
theorem race_enable (w : World) : (callFunc 167 #[]).run Tryz.prog w = .ok (.value (.tuple #[])) w := run_call_mark0 Tryz.func167 (by kernel_rfl) (by kernel_rfl) (by kernel_rfl) .enable (by kernel_rfl) w
theorem race_acquire (a : Addr) (w : World) : (callFunc 168 #[.pointer (some a)]).run Tryz.prog w = .ok (.value (.tuple #[])) w := run_call_marked Tryz.func168 (by kernel_rfl) (by kernel_rfl) (by kernel_rfl) .acquire (by kernel_rfl) a w
theorem race_release (a : Addr) (w : World) : (callFunc 170 #[.pointer (some a)]).run Tryz.prog w = .ok (.value (.tuple #[])) w := run_call_marked Tryz.func170 (by kernel_rfl) (by kernel_rfl) (by kernel_rfl) .releaseMerge (by kernel_rfl) a w
theorem store_deferred (a : Addr) (x : Value) (u : FrameMode) (w : World) (hc : w.cell? a = some x) (hz : w.frozen? a = false) :
    CallsD Tryz.prog 114 #[.pointer (some a), .bool true] u w fun e u' w' => u' = u ∧ (e = .returned (.tuple #[]) ∧ w' = w.drew.setCell a (.int .u32 1)) := by
  have hc' : w.drew.cell? a = some x := by go_simp
  have hz' : w.drew.frozen? a = false := by go_simp
  have hst := run_call_store (P := Tryz.prog) Tryz.func145 (by kernel_rfl) (by kernel_rfl) (by kernel_rfl) (by kernel_rfl) (k := .u32) (y := 1) hc' hz'
  go_enter_d Tryz.func114, Tryz.ntmps114
  go_wp2
  go_region_calls
  all_goals (go_end0; exact ⟨rfl, rfl⟩)
set_option maxRecDepth 100000 in
set_option maxHeartbeats 1000000 in
theorem unlock_deferred (a : Addr) (u : FrameMode) (w : World) (hc : w.cell? a = some (.int .i32 1)) (hz : w.frozen? a = false) :
    CallsD Tryz.prog 113 #[.pointer (some a)] u w fun e u' w' => u' = u ∧ (e = .returned (.tuple #[]) ∧ w' = w.setCell a (.int .i32 0)) := by
  have hd := race_disable
  have he := race_enable
  have hr := race_release
  have hadd := run_call_add (P := Tryz.prog) Tryz.func171 (by kernel_rfl) (by kernel_rfl) (by kernel_rfl) .i32 (by kernel_rfl) (y := -1) (s := 0) hc hz (by simp [go_sem]; rfl)
  have hcv := run_convert_to_unsafe (P := Tryz.prog) (src := 206) (dst := 210) Tryz.underlying206 Tryz.underlying210 (by kernel_rfl) hc
  go_enter_d Tryz.func113, Tryz.ntmps113
  go_wp2
  go_end0
  go_wp2
  go_end0
  exact ⟨rfl, rfl⟩
set_option maxRecDepth 100000 in
set_option maxHeartbeats 1000000 in
theorem lock_free (a : Addr) (w : World) (hc : w.cell? a = some (.int .i32 0)) (hz : w.frozen? a = false) :
    Calls Tryz.prog 112 #[.pointer (some a)] w fun e w' => e = .returned (.tuple #[]) ∧ w' = w.setCell a (.int .i32 1) := by
  have hd := race_disable
  have he := race_enable
  have ha := race_acquire
  have hcas := run_call_cas_hit (P := Tryz.prog) Tryz.func166 (by kernel_rfl) (by kernel_rfl) (by kernel_rfl) .i32 (by kernel_rfl) (y := 1) hc hz
  have hc' : (w.setCell a (.int .i32 1)).cell? a = some (.int .i32 1) := World.cell?_setCell_same w a _ hc
  have hcv := run_convert_to_unsafe (P := Tryz.prog) (src := 206) (dst := 210) Tryz.underlying206 Tryz.underlying210 (by kernel_rfl) hc'
  go_enter Tryz.func112, Tryz.ntmps112
  go_wp2
  first | go_end0 | (simp only [Exit.inBlock, Exit.then]; refine bodyPost_ret (results_none rfl _ _ _) rfl ?_) | refine bodyPost_ret (results_none rfl _ _ _) rfl ?_
  go_wp2
  go_end0
  exact ⟨rfl, rfl⟩
set_option maxRecDepth 100000 in
theorem load_any (a : Addr) (d : Int) (w : World) (hc : w.cell? a = some (.int .u32 d)) :
    Calls Tryz.prog 80 #[.pointer (some a)] w fun e w' => e = .returned (.bool (d != 0)) ∧ w = w' := by
  have hl := run_call_load (P := Tryz.prog) Tryz.func111 (by kernel_rfl) (by kernel_rfl) (by kernel_rfl) .u32 (by kernel_rfl) hc
  go_enter Tryz.func80, Tryz.ntmps80
  go_wp2
  go_ret
  exact ⟨rfl, rfl⟩
set_option maxRecDepth 100000 in
set_option maxHeartbeats 1600000 in
/-- doSlow, not yet done, the lock free: the function is called under the lock. -/
theorem slow_any (b off : Nat) (p0 p1 : Value) (R : World → Prop) (w : World)
    (h0 : w.cell? ⟨b, off, none⟩ = some (.int .u32 0)) (h1 : w.cell? ⟨b, off + 1, none⟩ = some (.int .i32 0))
    (f0 : w.frozen? ⟨b, off, none⟩ = false) (f1 : w.frozen? ⟨b, off + 1, none⟩ = false)
    (hc : Calls Tryz.prog 51 #[p0, p1] (w.setCell ⟨b, off + 1, none⟩ (.int .i32 1)) fun e w' => e = .returned (.tuple #[]) ∧ R w')
    (hR : ∀ w', R w' → w'.cell? ⟨b, off, none⟩ = some (.int .u32 0) ∧ w'.cell? ⟨b, off + 1, none⟩ = some (.int .i32 1) ∧ w'.frozen? ⟨b, off, none⟩ = false ∧ w'.frozen? ⟨b, off + 1, none⟩ = false) :
    Calls Tryz.prog 81 #[.pointer (some ⟨b, off, none⟩), .func (.func 51) #[] #[p0, p1]] w fun e w' => e = .returned (.tuple #[]) ∧ ∃ w1, R w1 ∧ w' = (w1.drew.setCell ⟨b, off, none⟩ (.int .u32 1)).setCell ⟨b, off + 1, none⟩ (.int .i32 0) := by
  have hnot : ∀ (x : Bool) (w : World), (Op.unary .not (.bool x)).run Tryz.prog w = .ok (.bool (!x)) w := fun _ _ => rfl
  have HC := Lib.hid hc
  have HR := Lib.hid hR
  clear hc hR
  have HL := Lib.hid (load_any ⟨b, off, none⟩ 0 (w.setCell ⟨b, off + 1, none⟩ (.int .i32 1)) ((World.cell?_setCell_other _ ⟨b, off + 1, none⟩ ⟨b, off, none⟩ _ (by simp)).trans h0))
  go_enter_defers Tryz.func81, Tryz.ntmps81
  go_wp2_with (go_at_call 112; refine (lock_free ⟨b, off + 1, none⟩ _ (by go_simp) (by go_simp)).mono ?_; rintro e w' ⟨rfl, rfl⟩)
  refine HL.out.mono ?_
  rintro e w' ⟨rfl, rfl⟩
  go_wp2_with fail
  refine HC.out.mono ?_
  rintro e w1 ⟨rfl, hr⟩
  obtain ⟨r0, r1, r2, r3⟩ := HR.out _ hr
  go_wp2_with fail
  refine leaves_cons (f := 114) (args := #[.pointer (some ⟨b, off, none⟩), .bool true]) (by simp) (by simp [go_sem]) ?_
  refine (store_deferred ⟨b, off, none⟩ (.int .u32 0) .returning _ r0 r2).mono ?_
  rintro e u' w'' ⟨rfl, rfl, rfl⟩
  refine leaves_cons (f := 113) (args := #[.pointer (some ⟨b, off + 1, none⟩)]) (by simp [settle]) (by simp [go_sem]) ?_
  refine (unlock_deferred ⟨b, off + 1, none⟩ _ _ ?_ (by simp [r3])).mono ?_
  · refine (World.cell?_setCell_other _ ⟨b, off, none⟩ ⟨b, off + 1, none⟩ _ (by simp)).trans ?_
    rw [World.cell?_drew]
    exact r1
  rintro e u' w'' ⟨rfl, rfl, rfl⟩
  simp [Leaves, settle, results, Tryz.results81]
  exact ⟨_, hr, rfl⟩
set_option maxRecDepth 100000 in
set_option maxHeartbeats 1600000 in
/-- Do, not yet done. -/
theorem do_first (b off : Nat) (p0 p1 : Value) (R : World → Prop) (w : World)
    (h0 : w.cell? ⟨b, off, none⟩ = some (.int .u32 0)) (h1 : w.cell? ⟨b, off + 1, none⟩ = some (.int .i32 0))
    (f0 : w.frozen? ⟨b, off, none⟩ = false) (f1 : w.frozen? ⟨b, off + 1, none⟩ = false)
    (hc : Calls Tryz.prog 51 #[p0, p1] (w.setCell ⟨b, off + 1, none⟩ (.int .i32 1)) fun e w' => e = .returned (.tuple #[]) ∧ R w')
    (hR : ∀ w', R w' → w'.cell? ⟨b, off, none⟩ = some (.int .u32 0) ∧ w'.cell? ⟨b, off + 1, none⟩ = some (.int .i32 1) ∧ w'.frozen? ⟨b, off, none⟩ = false ∧ w'.frozen? ⟨b, off + 1, none⟩ = false) :
    Calls Tryz.prog 50 #[.pointer (some ⟨b, off, none⟩), .func (.func 51) #[] #[p0, p1]] w fun e w' => e = .returned (.tuple #[]) ∧ ∃ w1, R w1 ∧ w' = (w1.drew.setCell ⟨b, off, none⟩ (.int .u32 1)).setCell ⟨b, off + 1, none⟩ (.int .i32 0) := by
  have hnot : ∀ (x : Bool) (w : World), (Op.unary .not (.bool x)).run Tryz.prog w = .ok (.bool (!x)) w := fun _ _ => rfl
  have HL := Lib.hid (load_any ⟨b, off, none⟩ 0 w h0)
  have HSL := Lib.hid (slow_any b off p0 p1 R w h0 h1 f0 f1 hc hR)
  clear hc hR h0 h1 f0 f1
  go_enter Tryz.func50, Tryz.ntmps50
  go_wp2_with fail
  refine HL.out.mono ?_
  rintro e w' ⟨rfl, rfl⟩
  go_wp2_with fail
  refine HSL.out.mono ?_
  rintro e w2 ⟨rfl, w1, hr, rfl⟩
  go_wp2_with fail
  go_end0
  exact ⟨rfl, w1, hr, rfl⟩
set_option maxRecDepth 100000 in
/-- Do, done. -/
theorem do_done (a : Addr) (fv : Value) (w : World) (h0 : w.cell? a = some (.int .u32 1)) :
    Calls Tryz.prog 50 #[.pointer (some a), fv] w fun e w' => e = .returned (.tuple #[]) ∧ w = w' := by
  have hnot : ∀ (x : Bool) (w : World), (Op.unary .not (.bool x)).run Tryz.prog w = .ok (.bool (!x)) w := fun _ _ => rfl
  have HL := Lib.hid (load_any a 1 w h0)
  clear h0
  go_enter Tryz.func50, Tryz.ntmps50
  go_wp2_with fail
  refine HL.out.mono ?_
  rintro e w' ⟨rfl, rfl⟩
  go_wp2_with fail
  go_end0
  exact ⟨rfl, rfl⟩
end Go.Proofs.YtjiiikeniocmfaaGreat

/- ints in slices: what came in, rows of the call's own, append -/
set_option linter.unusedSimpArgs false
set_option linter.unusedVariables false
namespace Go.Proofs.YtjiiikeniocmfaaGreat
open Go.RowKit
def IntsAt (w : World) (b off n : Nat) (L : List Int) : Prop := ∀ i, i < n → w.cell? ⟨b, off + i, none⟩ = some (.int .i64 (L.getD i 0))
def IsInts (w : World) (ao : Option Addr) (n cap : Nat) (L : List Int) : Prop :=
  L.length = n ∧ n ≤ cap ∧ cap ≤ maxLen ∧ (0 < n → ∃ b off, ao = some ⟨b, off, none⟩ ∧ IntsAt w b off n L) ∧ (ao = none → n = 0 ∧ cap = 0)
theorem IntsAt.lt {w : World} {b off n : Nat} {L : List Int} (h : IntsAt w b off n L) (hl : 0 < n) : b < w.heap.size := block_lt_of_cell (h 0 hl)
theorem IsInts.later {w w' : World} {B : Nat} {ao : Option Addr} {n cap : Nat} {L : List Int} (h : IsInts w ao n cap L) (hb : Below B w w') (hB : w.heap.size ≤ B) : IsInts w' ao n cap L := by
  obtain ⟨h1, h2, h3, h4, h5⟩ := h
  refine ⟨h1, h2, h3, fun hn => ?_, h5⟩
  obtain ⟨b, off, rfl, hc⟩ := h4 hn
  exact ⟨b, off, rfl, fun i hi => (hb.cell (p := ⟨b, off + i, none⟩) (Nat.lt_of_lt_of_le (hc.lt hn) hB)).trans (hc i hi)⟩
theorem IsInts.grew {w w' : World} {ao : Option Addr} {n cap : Nat} {L : List Int} (h : IsInts w ao n cap L) (hb : Grew w w') : IsInts w' ao n cap L := h.later hb.1 (Nat.le_refl _)
theorem Tryz.infoIntS : (Tryz.prog.info? 3).map (fun i => (i.zero, i.size, i.bytes)) = some (some (.int .i64 0), 1, 8) := by kernel_rfl
def flatI (L : List Int) : List Value := L.map (Value.int .i64)
theorem flatI_length (L : List Int) : (flatI L).length = L.length := by simp [flatI]
theorem flatI_append (L M : List Int) : flatI (L ++ M) = flatI L ++ flatI M := by simp [flatI]
theorem flatI_get (L : List Int) (i : Nat) (hi : i < L.length) : (flatI L)[i]? = some (.int .i64 (L.getD i 0)) := by
  simp [flatI, List.getElem?_eq_getElem hi]
theorem flatI_one (L : List Int) : ∀ u ∈ flatI L, u.oneCell' = true := by
  intro u hu
  obtain ⟨x, _, rfl⟩ := List.mem_map.1 hu
  rfl
def OwnI (w : World) (base : Nat) (v : Value) (L : List Int) : Prop := w.ownsRow base 3 1 v L.length (flatI L)
theorem OwnI.nil (w : World) (base : Nat) : OwnI w base (.slice none 0 0) [] := World.ownsRow_nil _ _ _ _
theorem OwnI.later {w w' : World} {base : Nat} {v : Value} {L : List Int} (h : OwnI w base v L) (hb : Below w.heap.size w w') : OwnI w' base v L := ownsRow_move h fun g hg => hb.block g (h.lt g hg).2
theorem OwnI.base {w : World} {base base' : Nat} {v : Value} {L : List Int} (h : OwnI w base v L) (hb : base' ≤ base) : OwnI w base' v L := ownsRow_base h hb
theorem OwnI.ints {w : World} {base : Nat} {v : Value} {L : List Int} (h : OwnI w base v L) : ∃ ao cap, v = .slice ao L.length cap ∧ IsInts w ao L.length cap L := by
  rcases h.2 with ⟨rfl, h0⟩ | ⟨g, cap, cur, rfl, hb, hg, hn, hm, hs, ht⟩
  · have : L = [] := List.eq_nil_of_length_eq_zero h0
    subst this
    exact ⟨none, 0, rfl, rfl, Nat.le_refl _, by unfold maxLen; omega, fun h => absurd h (by simp), fun _ => ⟨rfl, rfl⟩⟩
  · refine ⟨_, cap, rfl, rfl, hn, hm, fun _ => ⟨g, 0, rfl, fun i hi => ?_⟩, fun h => by cases h⟩
    have hc := h.cells (g := g) rfl i _ (flatI_get L i hi)
    have : (⟨g, 0, none⟩ : Addr).add i = ⟨g, 0 + i, none⟩ := by unfold Addr.add; split <;> simp_all
    rw [this] at hc; exact hc
theorem IsInts.cells {w : World} {b off : Nat} {spot : Option Nat} {n cap : Nat} {L : List Int} (h : IsInts w (some ⟨b, off, spot⟩) n cap L) :
    ∀ j u, (flatI L)[j]? = some u → w.cell? ((⟨b, off, spot⟩ : Addr).add j) = some u := by
  intro j u hu
  have hj : j < L.length := by
    have := (List.getElem?_eq_some_iff.1 hu).1; rwa [flatI_length] at this
  have e := flatI_get L j hj
  rw [hu] at e
  cases e
  obtain ⟨b', off', e2, hc⟩ := h.2.2.2.1 (by rw [← h.1]; omega)
  cases e2
  have : (⟨b, off, none⟩ : Addr).add j = ⟨b, off + j, none⟩ := by unfold Addr.add; split <;> simp_all
  rw [this]
  exact hc _ (by rw [← h.1]; exact hj)
theorem run_append_ints {w : World} (ty base : Nat) (v : Value) (L : List Int) (hown : OwnI w base v L)
    (ao : Option Addr) (m c : Nat) (L2 : List Int) (hsrc : IsInts w ao m c L2) (hnm : L.length + m ≤ 1000000000) (hbase : base ≤ w.heap.size) :
    ∃ v' w', (Builtin.append_ #[22, 22] ty #[v, .slice ao m c]).run Tryz.prog w = .ok v' w' ∧ OwnI w' base v' (L ++ L2) ∧ w.grownBy w' v.ownBlock := by
  obtain ⟨i0, hi, hz0, hz1, hz2⟩ := info_parts' Tryz.infoIntS
  have hl := hsrc.1
  cases ao with
  | none =>
    obtain ⟨rfl, rfl⟩ := hsrc.2.2.2.2 rfl
    obtain rfl : L2 = [] := List.eq_nil_of_length_eq_zero hl
    exact ⟨v, w, run_append_owned_none (P := Tryz.prog) (w := w) base _ ty _ i0 1 Tryz.underlying22 hi v _ _ hown, by rw [List.append_nil]; exact hown, ⟨rfl, rfl, rfl, Nat.le_refl _, fun _ _ _ => rfl⟩⟩
  | some ad =>
    obtain ⟨b, off, spot⟩ := ad
    obtain ⟨v', w', hr, h2, h3, _⟩ := run_append_own (P := Tryz.prog) w base 22 ty _ i0 (.int .i64 0) 1 8 Tryz.underlying22 hi hz0 hz1 hz2 rfl (by decide) v _ _ hown ⟨b, off, spot⟩ m c (flatI L2) (by rw [flatI_length, hl]; omega) hsrc.cells (flatI_one _)
      (by unfold maxLen; omega) (by omega) hbase
    refine ⟨v', w', hr, ?_, h3⟩
    unfold OwnI
    rw [flatI_append, List.length_append, hl]; exact h2
theorem wpList_append_ints {w : World} {ops : Array Oper} {rest : List Oper} {o : Oper} {a : Act} {Q : Exit → Act → World → Prop} (hgd : o.guard = none) (s x : Operand)
    (ho : o.op = .call { callee := .builtin .append, args := #[s, x], argTypes := #[22, 22] })
    (base : Nat) (v : Value) (L : List Int) (hs : a.eval s = v) (hown : OwnI w base v L)
    (ao : Option Addr) (m c : Nat) (L2 : List Int) (hx : a.eval x = .slice ao m c) (hsrc : IsInts w ao m c L2) (hnm : L.length + m ≤ 1000000000) (hbase : base ≤ w.heap.size)
    (h : ∀ v' w', OwnI w' base v' (L ++ L2) → w.grownBy w' v.ownBlock → wpList Tryz.prog ops Q rest (a.put o.dst v') w') : wpList Tryz.prog ops Q (o :: rest) a w := by
  obtain ⟨v', w', hr, h2, h3⟩ := run_append_ints o.type base v L hown ao m c L2 hsrc hnm hbase
  refine wpList_plain hgd fun K hK => ?_
  unfold Oper.wp execOp
  simp only [ho, resolve, invoke, builtin, Sem.run_bind, Sem.run_pure, Result.andThen_ok, List.map_toArray, List.map_cons, List.map_nil, hs, hx, hr]
  exact hK _ _ (h v' w' h2 h3)
theorem OwnI.none_new (w : World) (base : Nat) (hb : base ≤ w.heap.size) : OwnI (w.alloc (Obj.cells #[] 3)) base (.slice (some ⟨w.heap.size, 0, none⟩) 0 0) [] :=
  ⟨rfl, .inr ⟨_, _, #[], rfl, hb, alloc_new w _, Nat.le_refl _, by unfold maxLen; omega, rfl, rfl⟩⟩
theorem one_ints (w : World) (x : Int) : IsInts (w.alloc (Obj.cells #[.int .i64 x] 3)) (some ⟨w.heap.size, 0, none⟩) 1 1 [x] := by
  refine ⟨rfl, Nat.le_refl _, by unfold maxLen; omega, fun _ => ⟨_, _, rfl, fun i hi => ?_⟩, fun h => by cases h⟩
  obtain rfl : i = 0 := by omega
  exact alloc_cell w _ _
theorem getD_cells {w : World} {b off n : Nat} {L : List Int} (hl : L.length = n) (h : IntsAt w b off n L) : ∀ j, j < L.length → w.cell? ⟨b, off + j, none⟩ = some (.int .i64 (L.getD j 0)) := fun j hj => h j (by omega)
theorem run_append_intsF {w : World} (ty base : Nat) (v : Value) (L : List Int) (hown : OwnI w base v L)
    (ao : Option Addr) (m c : Nat) (L2 : List Int) (hsrc : IsInts w ao m c L2) (hnm : L.length + m ≤ 1000000000) (hbase : base ≤ w.heap.size) :
    ∃ v' w', (Builtin.append_ #[22, 22] ty #[v, .slice ao m c]).run Tryz.prog w = .ok v' w' ∧ OwnI w' base v' (L ++ L2) ∧ w.grownBy w' v.ownBlock ∧ (∀ g, v'.ownBlock = some g → w.heap.size ≤ g ∨ v.ownBlock = some g) := by
  obtain ⟨i0, hi, hz0, hz1, hz2⟩ := info_parts' Tryz.infoIntS
  have hl := hsrc.1
  cases ao with
  | none =>
    obtain ⟨rfl, rfl⟩ := hsrc.2.2.2.2 rfl
    obtain rfl : L2 = [] := List.eq_nil_of_length_eq_zero hl
    exact ⟨v, w, run_append_owned_none (P := Tryz.prog) (w := w) base _ ty _ i0 1 Tryz.underlying22 hi v _ _ hown, by rw [List.append_nil]; exact hown, ⟨rfl, rfl, rfl, Nat.le_refl _, fun _ _ _ => rfl⟩, fun g hg => .inr hg⟩
  | some ad =>
    obtain ⟨b, off, spot⟩ := ad
    obtain ⟨v', w', hr, h2, h3, _⟩ := run_append_own (P := Tryz.prog) w base 22 ty _ i0 (.int .i64 0) 1 8 Tryz.underlying22 hi hz0 hz1 hz2 rfl (by decide) v _ _ hown ⟨b, off, spot⟩ m c (flatI L2) (by rw [flatI_length, hl]; omega) hsrc.cells (flatI_one _)
      (by unfold maxLen; omega) (by omega) hbase
    refine ⟨v', w', hr, ?_, h3, append_own_fresh (P := Tryz.prog) w base 22 ty _ i0 (.int .i64 0) 1 8 Tryz.underlying22 hi hz0 hz1 hz2 rfl (by decide) v _ _ hown ⟨b, off, spot⟩ m c (flatI L2) (by rw [flatI_length, hl]; omega) hsrc.cells (flatI_one _) (by unfold maxLen; omega) (by omega) hr⟩
    unfold OwnI
    rw [flatI_append, List.length_append, hl]; exact h2
theorem opwp_append_intsF {w : World} {o : Oper} {a : Act} {K : Act → World → Prop} {Q : Exit → Act → World → Prop} (s x : Operand)
    (ho : o.op = .call { callee := .builtin .append, args := #[s, x], argTypes := #[22, 22] })
    (base : Nat) (v : Value) (L : List Int) (hs : a.eval s = v) (hown : OwnI w base v L)
    (ao : Option Addr) (m c : Nat) (L2 : List Int) (hx : a.eval x = .slice ao m c) (hsrc : IsInts w ao m c L2) (hnm : L.length + m ≤ 1000000000) (hbase : base ≤ w.heap.size)
    (h : ∀ v' w', OwnI w' base v' (L ++ L2) → w.grownBy w' v.ownBlock → (∀ g, v'.ownBlock = some g → w.heap.size ≤ g ∨ v.ownBlock = some g) → K (a.put o.dst v') w') : o.wp Tryz.prog a w K Q := by
  obtain ⟨v', w', hr, h2, h3, h4⟩ := run_append_intsF o.type base v L hown ao m c L2 hsrc hnm hbase
  unfold Oper.wp execOp
  simp only [ho, resolve, invoke, builtin, Sem.run_bind, Sem.run_pure, Result.andThen_ok, List.map_toArray, List.map_cons, List.map_nil, hs, hx, hr]
  exact h v' w' h2 h3 h4
theorem IsInts.at {w : World} {ao : Option Addr} {n cap : Nat} {L : List Int} (h : IsInts w ao n cap L) {i : Nat} (hi : i < n) : ∃ b off, ao = some ⟨b, off, none⟩ ∧ w.cell? ⟨b, off + i, none⟩ = some (.int .i64 (L.getD i 0)) := by
  obtain ⟨b, off, e, hc⟩ := h.2.2.2.1 (by omega)
  exact ⟨b, off, e, hc i hi⟩
end Go.Proofs.YtjiiikeniocmfaaGreat
