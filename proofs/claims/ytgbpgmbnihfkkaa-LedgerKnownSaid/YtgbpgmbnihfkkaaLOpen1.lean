/- both ledgers: what a call leaves as it was -/
import Derived.Test.YtgbpgmbnihfkkaaLRow
import Derived.Shelf.Abstract
namespace Go.Proofs.Ytgbpgmbnihfkkaa
open Go.RowKit
set_option linter.unusedSectionVars false
def TD (t : TypeId) : Prop := t = 47 ∨ t = 61 ∨ t = 81
/-- a call of the program's. -/
structure FD (base : Nat) (x : Option Nat) (w w' : World) : Prop where
  below : Below base w w'
  cells : ∀ (j : Nat) (c : Array Value) (t : TypeId) (fr : Nat × Nat), w.heap[j]? = some (.cells c t fr) → ¬ TD t → x ≠ some j → w'.heap[j]? = some (.cells c t fr)
  u8 : ∀ j off v, w.cell? ⟨j, off, none⟩ = some (.int .u8 v) → w'.heap[j]? = w.heap[j]?
theorem FD.refl (base : Nat) (x : Option Nat) (w : World) : FD base x w w := ⟨Below.refl _ _, fun _ _ _ _ h _ _ => h, fun _ _ _ _ => rfl⟩
theorem FD.trans {base : Nat} {x : Option Nat} {a b c : World} (h : FD base x a b) (k : FD base x b c) : FD base x a c := by
  refine ⟨h.below.trans k.below, fun j cs t fr hj ht hx => k.cells j cs t fr (h.cells j cs t fr hj ht hx) ht hx, fun j off v hc => ?_⟩
  have e := h.u8 j off v hc
  exact (k.u8 j off v ((World.cell?_of_block (a := ⟨j, off, none⟩) e).trans hc)).trans e
theorem FD.wide {base : Nat} {w w' : World} (h : FD base none w w') (x : Option Nat) : FD base x w w' := ⟨h.below, fun j c t fr hj ht _ => h.cells j c t fr hj ht (by simp), h.u8⟩
theorem FD.of_below {base : Nat} {x : Option Nat} {w w' : World} (h : Below w.heap.size w w') (hb : base ≤ w.heap.size) : FD base x w w' :=
  ⟨h.mono hb, fun j _ _ _ hj _ _ => (h.block j (heap_lt hj)).trans hj, fun j _ _ hc => h.block j (block_lt_of_cell hc)⟩
theorem not_u8_of {w : World} {j off : Nat} {c : Array Value} {t : TypeId} {fr : Nat × Nat} {v : Int} (hj : w.heap[j]? = some (.cells c t fr)) (hp : ∀ u ∈ c.toList, plainV u = true) (hc : w.cell? ⟨j, off, none⟩ = some (.int .u8 v)) : False := by
  have := plain_of_cells hj hp _ _ hc
  simp [plainV] at this
theorem FD.setCell {base l off : Nat} {w : World} {c : Array Value} {t : TypeId} {fr : Nat × Nat} (hl : w.heap[l]? = some (.cells c t fr)) (hp : ∀ u ∈ c.toList, plainV u = true) (hb : base ≤ l) (v : Value) : FD base (some l) w (w.setCell ⟨l, off, none⟩ v) := by
  refine ⟨(Below.refl _ _).setCell hb v, fun j cs ty f hj _ hx => ?_, fun j o u hc => ?_⟩
  · exact (Below.heap_setCell _ _ _ _ (fun e => hx (by rw [e]))).trans hj
  · refine Below.heap_setCell _ _ _ _ (fun e => ?_)
    have e : j = l := e
    subst e
    exact not_u8_of hl hp hc
section
variable [Zone]
theorem FD.of_kept {d mb base : Nat} {w w' : World} {g : Sig} {x : Option Nat} (hd : DSig w d mb base g) (k : Kept d mb base w w') : FD base x w w' := by
  obtain ⟨st, fu, out, es, c, q3, q5⟩ := hd.map
  exact ⟨k.below, fun j cs t fr hj ht _ => (k.cells q3 q5 hj ⟨fun e => ht (.inl e), fun e => ht (.inr (.inl e)), fun e => ht (.inr (.inr e))⟩).trans hj, fun j off v hc => k.u8s q3 q5 hc⟩
/-- a disk stays where only what else is there changes. -/
theorem DSig.stay {w w' : World} {d mb base : Nat} {g : Sig} (h : DSig w d mb base g) (hsz : w.heap.size ≤ w'.heap.size) (hc : ∀ (j : Nat) (c : Array Value) (t : TypeId) (fr : Nat × Nat), w.heap[j]? = some (.cells c t fr) → TD t → w'.heap[j]? = w.heap[j]?)
    (hm : ∀ (j : Nat) (es : Array MapEntry) (c : Nat), w.heap[j]? = some (.map es c) → w'.heap[j]? = w.heap[j]?) (hu : ∀ j off v, w.cell? ⟨j, off, none⟩ = some (.int .u8 v) → w'.heap[j]? = w.heap[j]?) : DSig w' d mb base g := by
  obtain ⟨M, C, fu, h1, h2, h3⟩ := h
  obtain ⟨q1, q2, q3, c, q4, q5⟩ := h1.dm
  have hoth : ∀ y ∈ M, FileOwn w' y.2.1 base (C y.2.1).1 (C y.2.1).2 ∧ rowOf w' y.2.1 = rowOf w y.2.1 := fun y hy => by
    obtain ⟨⟨ao, n, cap, lv, hr, hs, hds⟩, hf', hsm⟩ := (h1.own y hy).2
    have hrow := hc _ _ _ _ hr (.inr (.inl rfl))
    refine ⟨⟨⟨ao, n, cap, lv, hrow.trans hr, hs.moved hu, hds.moved hu (fun g hg => ?_)⟩, hf', hsm⟩, rowOf_same hrow⟩
    obtain ⟨xs, ho, _⟩ := hds
    rcases ho.2 with ⟨rfl, _⟩ | ⟨g', cap', cur, rfl, _, hg', _⟩
    · simp [Value.ownBlock] at hg
    · simp only [Value.ownBlock, Option.some.injEq] at hg
      subst hg
      exact hc _ _ _ _ hg' (.inr (.inr rfl))
  refine ⟨M, C, fu, ⟨⟨q1, q2, (hc _ _ _ _ q3 (.inl rfl)).trans q3, c, q4, (hm _ _ _ q5).trans q5⟩, h1.low, fun x hx => ⟨(h1.own x hx).1, (hoth x hx).1⟩, h1.apart, fun x hx y hy hne k hk => ?_, h1.zone.mono hsz⟩, h2, h3⟩
  rw [(hoth x hx).2] at hk
  rw [(hoth y hy).2]
  exact h1.rows x hx y hy hne k hk
theorem DSig.fd {w : World} {d mb base base2 : Nat} {g : Sig} {l off : Nat} {v : Value} {c : Array Value} {t : TypeId} {fr : Nat × Nat} (h : DSig w d mb base g) (hl : w.heap[l]? = some (.cells c t fr)) (hp : ∀ u ∈ c.toList, plainV u = true) (ht : ¬ TD t) (_hb : base2 ≤ l) : DSig (w.setCell ⟨l, off, none⟩ v) d mb base g := by
  refine h.stay (by simp) (fun j cs ty f hj hty => Below.heap_setCell _ _ _ _ (fun e => ?_)) (fun j es cl hj => Below.heap_setCell _ _ _ _ (fun e => ?_)) (fun j o u hc => Below.heap_setCell _ _ _ _ (fun e => ?_))
  · have e : j = l := e
    subst e
    rw [hj] at hl
    injection hl with hl
    injection hl with _ hl
    exact ht (hl ▸ hty)
  · have e : j = l := e
    subst e
    rw [hj] at hl
    cases hl
  · have e : j = l := e
    subst e
    exact not_u8_of hl hp hc
end
end Go.Proofs.Ytgbpgmbnihfkkaa

/- ledger: Open's memory and its three steps -/
set_option linter.unusedSimpArgs false
set_option linter.unusedVariables false
namespace Go.Proofs.Ytgbpgmbnihfkkaa
open Go.RowKit
set_option linter.unusedSectionVars false
/-- the memory of Open's loop. -/
structure OpenMem (w : World) (N E F G : Nat) (dp : Option Addr) (nm : ByteArray) (er : Int) (fr : Bool) (sz rest : Int) : Prop where
  box : w.heap[N]? = some (.cells #[.pointer dp] 22 (0, 0))
  name : w.heap[N + 1]? = some (.cells #[.string nm] 9 (0, 0))
  size : w.heap[N + 1 + 1]? = some (.cells #[.int .i64 sz] 3 (0, 0))
  rest : w.heap[N + 1 + 1 + 1]? = some (.cells #[.int .i64 rest] 3 (0, 0))
  err : w.heap[E]? = some (.cells #[.int .i64 er] 28 (0, 0))
  fresh : w.heap[F]? = some (.cells #[.bool fr] 4 (0, 0))
  steps : w.heap[G]? = some (.cells #[.func (.func 30) #[] #[.pointer (some ⟨F, 0, none⟩), .pointer (some ⟨N, 0, none⟩), .pointer (some ⟨N + 1, 0, none⟩), .pointer (some ⟨E, 0, none⟩)],
    .func (.func 31) #[] #[.pointer (some ⟨N + 1 + 1 + 1, 0, none⟩), .pointer (some ⟨N, 0, none⟩), .pointer (some ⟨N + 1, 0, none⟩), .pointer (some ⟨N + 1 + 1, 0, none⟩)],
    .func (.func 33) #[] #[.pointer (some ⟨N, 0, none⟩), .pointer (some ⟨N + 1, 0, none⟩)]] 57 (0, 0))
theorem OpenMem.fd {w w' : World} {base N E F G : Nat} {dp : Option Addr} {nm : ByteArray} {er : Int} {fr : Bool} {sz rest : Int} (h : OpenMem w N E F G dp nm er fr sz rest) (k : FD base none w w') : OpenMem w' N E F G dp nm er fr sz rest :=
  ⟨k.cells _ _ _ _ h.box (by unfold TD; decide) (by simp), k.cells _ _ _ _ h.name (by unfold TD; decide) (by simp), k.cells _ _ _ _ h.size (by unfold TD; decide) (by simp), k.cells _ _ _ _ h.rest (by unfold TD; decide) (by simp),
    k.cells _ _ _ _ h.err (by unfold TD; decide) (by simp), k.cells _ _ _ _ h.fresh (by unfold TD; decide) (by simp), k.cells _ _ _ _ h.steps (by unfold TD; decide) (by simp)⟩
theorem FD.lists {w w' : World} {base b2 : Nat} {v : Value} {L : List (List UInt8)} (k : FD base none w w') (h : Lists w b2 v L) : Lists w' b2 v L :=
  h.move fun g c t hg ht => (k.cells g c t (0, 0) hg (by rcases ht with rfl | rfl <;> unfold TD <;> decide) (by simp)).trans hg.symm
theorem step1_old (N E F : Nat) (er : Int) (w : World) (hE : w.heap[E]? = some (.cells #[.int .i64 er] 28 (0, 0)))
    (hF : w.heap[F]? = some (.cells #[.bool false] 4 (0, 0))) :
    Calls Try.prog 30 #[.pointer (some ⟨F, 0, none⟩), .pointer (some ⟨N, 0, none⟩), .pointer (some ⟨N + 1, 0, none⟩), .pointer (some ⟨E, 0, none⟩)] w
      fun e w' => e = .returned (.int .i64 er) ∧ w = w' := by
  have cE : w.cell? ⟨E, 0, none⟩ = some (.int .i64 er) := cell_of_row _ _ _ _ _ _ hE
  have cF : w.cell? ⟨F, 0, none⟩ = some (.bool false) := cell_of_row _ _ _ _ _ _ hF
  clear hE hF
  go_enter Try.func30, Try.ntmps30
  go_wp2_with fail
  go_ret
  exact ⟨rfl, rfl⟩
theorem step2_whole (N : Nat) (w : World) (hr : w.heap[N + 1 + 1 + 1]? = some (.cells #[.int .i64 0] 3 (0, 0))) :
    Calls Try.prog 31 #[.pointer (some ⟨N + 1 + 1 + 1, 0, none⟩), .pointer (some ⟨N, 0, none⟩), .pointer (some ⟨N + 1, 0, none⟩), .pointer (some ⟨N + 1 + 1, 0, none⟩)] w
      fun e w' => e = .returned (.int .i64 0) ∧ w = w' := by
  have cE : w.cell? ⟨N + 1 + 1 + 1, 0, none⟩ = some (.int .i64 0) := cell_of_row _ _ _ _ _ _ hr
  clear hr
  go_enter Try.func31, Try.ntmps31
  go_wp2_with fail
  go_ret
  exact ⟨rfl, rfl⟩
theorem step2_bad (N : Nat) (w : World) (hr : w.heap[N + 1 + 1 + 1]? = some (.cells #[.int .i64 2] 3 (0, 0))) :
    Calls Try.prog 31 #[.pointer (some ⟨N + 1 + 1 + 1, 0, none⟩), .pointer (some ⟨N, 0, none⟩), .pointer (some ⟨N + 1, 0, none⟩), .pointer (some ⟨N + 1 + 1, 0, none⟩)] w
      fun e w' => e = .returned (.int .i64 4) ∧ w = w' := by
  have cE : w.cell? ⟨N + 1 + 1 + 1, 0, none⟩ = some (.int .i64 2) := cell_of_row _ _ _ _ _ _ hr
  clear hr
  go_enter Try.func31, Try.ntmps31
  go_wp2_with fail
  go_ret
  exact ⟨rfl, rfl⟩
section
variable [Zone]
theorem step1_S (base N E F d mb q k : Nat) (nm : ByteArray) (hss : nm.size ≤ 1099511627776) (g : Sig) (w : World) (hbs : base ≤ w.heap.size) (h0 : w.heap[N]? = some (.cells #[.pointer (some ⟨d, 0, none⟩)] 22 (0, 0))) (h1 : w.heap[N + 1]? = some (.cells #[.string nm] 9 (0, 0)))
    (hF : w.heap[F]? = some (.cells #[.bool true] 4 (0, 0))) (hd : DSig w d mb base g) (hl : Lim q k g) (hq : q ≤ 4294967296) (hk : k ≤ 1000000) :
    Calls Try.prog 30 #[.pointer (some ⟨F, 0, none⟩), .pointer (some ⟨N, 0, none⟩), .pointer (some ⟨N + 1, 0, none⟩), .pointer (some ⟨E, 0, none⟩)] w
      fun e w' => e = .returned (.int .i64 (appG nm [] g).1) ∧ DSig w' d mb base (appG nm [] g).2 ∧ FD base none w w' := by
  have c0 : w.cell? ⟨N, 0, none⟩ = some (.pointer (some ⟨d, 0, none⟩)) := cell_of_row _ _ _ _ _ _ h0
  have c1 : w.cell? ⟨N + 1, 0, none⟩ = some (.string nm) := cell_of_row _ _ _ _ _ _ h1
  have cF : w.cell? ⟨F, 0, none⟩ = some (.bool true) := cell_of_row _ _ _ _ _ _ hF
  have H := Lib.hid (Append_S nm hss d mb base q k g none 0 0 [] w hbs hd hl (by simpa using hq) hk (IsBytes.nil w))
  have HD := Lib.hid hd
  obtain ⟨z, g', hz⟩ : ∃ z g', appG nm [] g = (z, g') := ⟨_, _, rfl⟩
  rw [hz] at H ⊢
  clear h0 h1 hF hd hz hl hq hss
  go_enter Try.func30, Try.ntmps30
  go_wp2_with fail
  refine H.out.mono ?_
  rintro e w' ⟨rfl, hx, hk⟩
  have HX := Lib.hid (And.intro hx (FD.of_kept (x := none) HD.out hk))
  clear hx hk
  go_wp2_with fail
  go_ret
  exact ⟨rfl, HX.out⟩
theorem step2_S (base N d mb q k z : Nat) (nm : ByteArray) (g : Sig) (w : World) (hbs : base ≤ w.heap.size) (h0 : w.heap[N]? = some (.cells #[.pointer (some ⟨d, 0, none⟩)] 22 (0, 0))) (h1 : w.heap[N + 1]? = some (.cells #[.string nm] 9 (0, 0)))
    (hz : w.heap[N + 1 + 1]? = some (.cells #[.int .i64 (z : Int)] 3 (0, 0))) (hr : w.heap[N + 1 + 1 + 1]? = some (.cells #[.int .i64 1] 3 (0, 0))) (hd : DSig w d mb base g) (hl : Lim q k g) (hq : q + 1 ≤ 4294967296) (hk : k ≤ 1000000) :
    Calls Try.prog 31 #[.pointer (some ⟨N + 1 + 1 + 1, 0, none⟩), .pointer (some ⟨N, 0, none⟩), .pointer (some ⟨N + 1, 0, none⟩), .pointer (some ⟨N + 1 + 1, 0, none⟩)] w
      fun e w' => e = .returned (.int .i64 (cutG nm (z : Int) g).1) ∧ DSig w' d mb base (cutG nm (z : Int) g).2 ∧ FD base none w w' := by
  have c0 : w.cell? ⟨N, 0, none⟩ = some (.pointer (some ⟨d, 0, none⟩)) := cell_of_row _ _ _ _ _ _ h0
  have c1 : w.cell? ⟨N + 1, 0, none⟩ = some (.string nm) := cell_of_row _ _ _ _ _ _ h1
  have c2 : w.cell? ⟨N + 1 + 1, 0, none⟩ = some (.int .i64 (z : Int)) := cell_of_row _ _ _ _ _ _ hz
  have c3 : w.cell? ⟨N + 1 + 1 + 1, 0, none⟩ = some (.int .i64 1) := cell_of_row _ _ _ _ _ _ hr
  have H := Lib.hid (Cut_S nm (z : Int) d mb base q k g w hbs hd hl hq hk)
  have HD := Lib.hid hd
  obtain ⟨y, g', hy⟩ : ∃ y g', cutG nm (z : Int) g = (y, g') := ⟨_, _, rfl⟩
  rw [hy] at H ⊢
  clear h0 h1 hz hr hd hl hq hy
  go_enter Try.func31, Try.ntmps31
  go_wp2_with fail
  refine H.out.mono ?_
  rintro e w' ⟨rfl, hx, hk⟩
  have HX := Lib.hid (And.intro hx (FD.of_kept (x := none) HD.out hk))
  clear hx hk
  go_wp2_with fail
  go_ret
  exact ⟨rfl, HX.out⟩
theorem step3_S (base N d mb q k : Nat) (nm : ByteArray) (g : Sig) (w : World) (hbs : base ≤ w.heap.size) (h0 : w.heap[N]? = some (.cells #[.pointer (some ⟨d, 0, none⟩)] 22 (0, 0))) (h1 : w.heap[N + 1]? = some (.cells #[.string nm] 9 (0, 0)))
    (hd : DSig w d mb base g) (hl : Lim q k g) (hk : k ≤ 1000000) :
    Calls Try.prog 33 #[.pointer (some ⟨N, 0, none⟩), .pointer (some ⟨N + 1, 0, none⟩)] w
      fun e w' => e = .returned (.int .i64 (syncG nm g).1) ∧ DSig w' d mb base (syncG nm g).2 ∧ FD base none w w' := by
  have c0 : w.cell? ⟨N, 0, none⟩ = some (.pointer (some ⟨d, 0, none⟩)) := cell_of_row _ _ _ _ _ _ h0
  have c1 : w.cell? ⟨N + 1, 0, none⟩ = some (.string nm) := cell_of_row _ _ _ _ _ _ h1
  have H := Lib.hid (Sync_S nm d mb base q k g w hbs hd hl hk)
  have HD := Lib.hid hd
  obtain ⟨y, g', hy⟩ : ∃ y g', syncG nm g = (y, g') := ⟨_, _, rfl⟩
  rw [hy] at H ⊢
  clear h0 h1 hd hl hy
  go_enter Try.func33, Try.ntmps33
  go_wp2_with fail
  refine H.out.mono ?_
  rintro e w' ⟨rfl, hx, hk⟩
  have HX := Lib.hid (And.intro hx (FD.of_kept (x := none) HD.out hk))
  clear hx hk
  go_wp2_with fail
  go_ret
  exact ⟨rfl, HX.out⟩
end
theorem enters_1 : ∀ args w, (callFunc 30 args).run Try.prog w = .ok (.enter 30 args) w := enters_of (hf := Try.func30) (hname := by kernel_rfl) (hb := rfl)
theorem enters_2 : ∀ args w, (callFunc 31 args).run Try.prog w = .ok (.enter 31 args) w := enters_of (hf := Try.func31) (hname := by kernel_rfl) (hb := rfl)
theorem enters_3 : ∀ args w, (callFunc 33 args).run Try.prog w = .ok (.enter 33 args) w := enters_of (hf := Try.func33) (hname := by kernel_rfl) (hb := rfl)
/-- the memory of Open behind its boxes. -/
theorem open_boxes (dv : Value) (nm : ByteArray) (w w1 : World) (h : (((w.alloc (.cells #[dv] 22)).alloc (.cells #[.string nm] 9)).alloc (.cells #[.int .i64 0] 3)).alloc (.cells #[.int .i64 0] 3) = w1) :
    w1.heap[w.heap.size]? = some (.cells #[dv] 22 (0, 0)) ∧ w1.heap[w.heap.size + 1]? = some (.cells #[.string nm] 9 (0, 0)) ∧ w1.heap[w.heap.size + 1 + 1]? = some (.cells #[.int .i64 0] 3 (0, 0)) ∧ w1.heap[w.heap.size + 1 + 1 + 1]? = some (.cells #[.int .i64 0] 3 (0, 0)) ∧ Below w.heap.size w w1 ∧ w1.heap.size = w.heap.size + 4 := by
  subst h
  refine ⟨?_, ?_, ?_, ?_, ((((Below.refl _ _).alloc (Nat.le_refl _) _).alloc (by simp) _).alloc (by simp <;> omega) _).alloc (by simp <;> omega) _, by simp⟩
  · rw [Below.heap_alloc _ _ _ (by simp <;> omega), Below.heap_alloc _ _ _ (by simp <;> omega), Below.heap_alloc _ _ _ (by simp)]
    exact heap_alloc_new _ _
  · rw [Below.heap_alloc _ _ _ (by simp <;> omega), Below.heap_alloc _ _ _ (by simp)]
    have := heap_alloc_new (w.alloc (.cells #[dv] 22)) (.cells #[.string nm] 9)
    simpa using this
  · rw [Below.heap_alloc _ _ _ (by simp)]
    have := heap_alloc_new ((w.alloc (.cells #[dv] 22)).alloc (.cells #[.string nm] 9)) (.cells #[.int .i64 0] 3)
    simpa using this
  · have := heap_alloc_new (((w.alloc (.cells #[dv] 22)).alloc (.cells #[.string nm] 9)).alloc (.cells #[.int .i64 0] 3)) (.cells #[.int .i64 0] 3)
    simpa using this
/-- the memory of Open ahead of its loop. -/
theorem open_mem (N d : Nat) (nm : ByteArray) (er : Int) (fr : Bool) (sz rest : Int) (w1 X : World) (hs : w1.heap.size = N + 4) (b0 : w1.heap[N]? = some (.cells #[.pointer (some ⟨d, 0, none⟩)] 22 (0, 0))) (b1 : w1.heap[N + 1]? = some (.cells #[.string nm] 9 (0, 0)))
    (b2 : w1.heap[N + 1 + 1]? = some (.cells #[.int .i64 sz] 3 (0, 0))) (b3 : w1.heap[N + 1 + 1 + 1]? = some (.cells #[.int .i64 rest] 3 (0, 0)))
    (h : ((w1.alloc (.cells #[.int .i64 er] 28)).alloc (.cells #[.bool fr] 4)).alloc (.cells #[.func (.func 30) #[] #[.pointer (some ⟨N + 4 + 1, 0, none⟩), .pointer (some ⟨N, 0, none⟩), .pointer (some ⟨N + 1, 0, none⟩), .pointer (some ⟨N + 4, 0, none⟩)],
    .func (.func 31) #[] #[.pointer (some ⟨N + 1 + 1 + 1, 0, none⟩), .pointer (some ⟨N, 0, none⟩), .pointer (some ⟨N + 1, 0, none⟩), .pointer (some ⟨N + 1 + 1, 0, none⟩)],
    .func (.func 33) #[] #[.pointer (some ⟨N, 0, none⟩), .pointer (some ⟨N + 1, 0, none⟩)]] 57) = X) :
    OpenMem X N (N + 4) (N + 4 + 1) (N + 4 + 1 + 1) (some ⟨d, 0, none⟩) nm er fr sz rest ∧ Below w1.heap.size w1 X := by
  have hb : Below w1.heap.size w1 X := by rw [← h]; exact (((Below.refl _ _).alloc (Nat.le_refl _) _).alloc (by simp) _).alloc (by simp <;> omega) _
  refine ⟨⟨(hb.block _ (by omega)).trans b0, (hb.block _ (by omega)).trans b1, (hb.block _ (by omega)).trans b2, (hb.block _ (by omega)).trans b3, ?_, ?_, ?_⟩, hb⟩
  · rw [← h, Below.heap_alloc _ _ _ (by simp <;> omega), Below.heap_alloc _ _ _ (by simp <;> omega), ← hs]
    exact heap_alloc_new _ _
  · rw [← h, Below.heap_alloc _ _ _ (by simp <;> omega), ← hs]
    have := heap_alloc_new (w1.alloc (.cells #[.int .i64 er] 28)) (.cells #[.bool fr] 4)
    simpa using this
  · rw [← h]
    have := heap_alloc_new ((w1.alloc (.cells #[.int .i64 er] 28)).alloc (.cells #[.bool fr] 4)) (.cells #[.func (.func 30) #[] #[.pointer (some ⟨N + 4 + 1, 0, none⟩), .pointer (some ⟨N, 0, none⟩), .pointer (some ⟨N + 1, 0, none⟩), .pointer (some ⟨N + 4, 0, none⟩)],
    .func (.func 31) #[] #[.pointer (some ⟨N + 1 + 1 + 1, 0, none⟩), .pointer (some ⟨N, 0, none⟩), .pointer (some ⟨N + 1, 0, none⟩), .pointer (some ⟨N + 1 + 1, 0, none⟩)],
    .func (.func 33) #[] #[.pointer (some ⟨N, 0, none⟩), .pointer (some ⟨N + 1, 0, none⟩)]] 57)
    simpa [hs] using this
theorem OpenMem.funcs {w : World} {N E F G : Nat} {dp : Option Addr} {nm : ByteArray} {er : Int} {fr : Bool} {sz rest : Int} (h : OpenMem w N E F G dp nm er fr sz rest) :
    w.cell? ⟨G, 0, none⟩ = some (.func (.func 30) #[] #[.pointer (some ⟨F, 0, none⟩), .pointer (some ⟨N, 0, none⟩), .pointer (some ⟨N + 1, 0, none⟩), .pointer (some ⟨E, 0, none⟩)]) ∧
    w.cell? ⟨G, 1, none⟩ = some (.func (.func 31) #[] #[.pointer (some ⟨N + 1 + 1 + 1, 0, none⟩), .pointer (some ⟨N, 0, none⟩), .pointer (some ⟨N + 1, 0, none⟩), .pointer (some ⟨N + 1 + 1, 0, none⟩)]) ∧
    w.cell? ⟨G, 2, none⟩ = some (.func (.func 33) #[] #[.pointer (some ⟨N, 0, none⟩), .pointer (some ⟨N + 1, 0, none⟩)]) :=
  ⟨cell_of_row _ _ _ _ _ _ h.steps, cell_of_row _ _ _ _ _ _ h.steps, cell_of_row _ _ _ _ _ _ h.steps⟩
theorem open_mem2 (N E F : Nat) (dp : Option Addr) (er sz rest : Int) (nm : ByteArray) (w2 w3 X : World) (hE : E = w2.heap.size) (hF : F = w2.heap.size + 1) (hN : N + 4 ≤ w2.heap.size) (b0 : w2.heap[N]? = some (.cells #[.pointer dp] 22 (0, 0))) (b1 : w2.heap[N + 1]? = some (.cells #[.string nm] 9 (0, 0)))
    (b2 : w2.heap[N + 1 + 1]? = some (.cells #[.int .i64 0] 3 (0, 0))) (b3 : w2.heap[N + 1 + 1 + 1]? = some (.cells #[.int .i64 0] 3 (0, 0)))
    (h3 : Below ((w2.alloc (.cells #[.int .i64 er] 28)).alloc (.cells #[.bool false] 4)).heap.size ((w2.alloc (.cells #[.int .i64 er] 28)).alloc (.cells #[.bool false] 4)) w3) (G : Nat) (hG : G = w3.heap.size)
    (h : ((w3.setCell ⟨N + 1 + 1, 0, none⟩ (.int .i64 sz)).setCell ⟨N + 1 + 1 + 1, 0, none⟩ (.int .i64 rest)).alloc (.cells #[.func (.func 30) #[] #[.pointer (some ⟨F, 0, none⟩), .pointer (some ⟨N, 0, none⟩), .pointer (some ⟨N + 1, 0, none⟩), .pointer (some ⟨E, 0, none⟩)],
    .func (.func 31) #[] #[.pointer (some ⟨N + 1 + 1 + 1, 0, none⟩), .pointer (some ⟨N, 0, none⟩), .pointer (some ⟨N + 1, 0, none⟩), .pointer (some ⟨N + 1 + 1, 0, none⟩)],
    .func (.func 33) #[] #[.pointer (some ⟨N, 0, none⟩), .pointer (some ⟨N + 1, 0, none⟩)]] 57) = X) :
    OpenMem X N E F G dp nm er false sz rest ∧ Below N w2 X ∧ (∀ j, j ≠ N + 1 + 1 → j ≠ N + 1 + 1 + 1 → j < w3.heap.size → X.heap[j]? = w3.heap[j]?) := by
  have h12 : Below w2.heap.size w2 ((w2.alloc (.cells #[.int .i64 er] 28)).alloc (.cells #[.bool false] 4)) := ((Below.refl _ _).alloc (Nat.le_refl _) _).alloc (by simp) _
  have hs12 : ((w2.alloc (.cells #[.int .i64 er] 28)).alloc (.cells #[.bool false] 4)).heap.size = w2.heap.size + 2 := by simp
  have h23 : Below w2.heap.size w2 w3 := h12.trans (h3.mono (by omega))
  have hs3 : w2.heap.size + 2 ≤ w3.heap.size := by have := h3.size; omega
  have hk : ∀ j, j ≠ N + 1 + 1 → j ≠ N + 1 + 1 + 1 → j < w3.heap.size → X.heap[j]? = w3.heap[j]? := by
    intro j h1 h2 hj
    rw [← h, Below.heap_alloc _ _ _ (by simpa using hj), Below.heap_setCell _ _ _ _ h2, Below.heap_setCell _ _ _ _ h1]
  have hE3 : w3.heap[E]? = some (.cells #[.int .i64 er] 28 (0, 0)) := by
    rw [h3.block E (by omega), Below.heap_alloc _ _ _ (by simp; omega), hE]
    exact heap_alloc_new _ _
  have hF3 : w3.heap[F]? = some (.cells #[.bool false] 4 (0, 0)) := by
    rw [h3.block F (by omega), hF]
    have := heap_alloc_new (w2.alloc (.cells #[.int .i64 er] 28)) (.cells #[.bool false] 4)
    simpa using this
  have q2 : (w3.setCell ⟨N + 1 + 1, 0, none⟩ (.int .i64 sz)).heap[N + 1 + 1]? = some (.cells #[.int .i64 sz] 3 (0, 0)) := by
    have := heap_setCell_same w3 (N + 1 + 1) 0 _ _ (.int .i64 sz) ((h23.block _ (by omega)).trans b2)
    exact this
  have q3 : ((w3.setCell ⟨N + 1 + 1, 0, none⟩ (.int .i64 sz)).setCell ⟨N + 1 + 1 + 1, 0, none⟩ (.int .i64 rest)).heap[N + 1 + 1 + 1]? = some (.cells #[.int .i64 rest] 3 (0, 0)) := by
    have := heap_setCell_same (w3.setCell ⟨N + 1 + 1, 0, none⟩ (.int .i64 sz)) (N + 1 + 1 + 1) 0 _ _ (.int .i64 rest) ((Below.heap_setCell _ _ _ _ (by dsimp only; omega)).trans ((h23.block _ (by omega)).trans b3))
    exact this
  refine ⟨⟨(hk N (by omega) (by omega) (by omega)).trans ((h23.block _ (by omega)).trans b0), (hk _ (by omega) (by omega) (by omega)).trans ((h23.block _ (by omega)).trans b1), ?_, ?_, (hk E (by omega) (by omega) (by omega)).trans hE3, (hk F (by omega) (by omega) (by omega)).trans hF3, ?_⟩, ?_, hk⟩
  · rw [← h, Below.heap_alloc _ _ _ (by simp; omega), Below.heap_setCell _ _ _ _ (by dsimp only; omega)]
    exact q2
  · rw [← h, Below.heap_alloc _ _ _ (by simp; omega)]
    exact q3
  · rw [← h, hG]
    have := heap_alloc_new ((w3.setCell ⟨N + 1 + 1, 0, none⟩ (.int .i64 sz)).setCell ⟨N + 1 + 1 + 1, 0, none⟩ (.int .i64 rest)) (.cells #[.func (.func 30) #[] #[.pointer (some ⟨F, 0, none⟩), .pointer (some ⟨N, 0, none⟩), .pointer (some ⟨N + 1, 0, none⟩), .pointer (some ⟨E, 0, none⟩)],
    .func (.func 31) #[] #[.pointer (some ⟨N + 1 + 1 + 1, 0, none⟩), .pointer (some ⟨N, 0, none⟩), .pointer (some ⟨N + 1, 0, none⟩), .pointer (some ⟨N + 1 + 1, 0, none⟩)],
    .func (.func 33) #[] #[.pointer (some ⟨N, 0, none⟩), .pointer (some ⟨N + 1, 0, none⟩)]] 57)
    simpa using this
  · rw [← h]
    exact (((h23.mono (by omega)).setCell (p := ⟨N + 1 + 1, 0, none⟩) (by dsimp only; omega) _).setCell (p := ⟨N + 1 + 1 + 1, 0, none⟩) (by dsimp only; omega) _).alloc (by simp; omega) _
end Go.Proofs.Ytgbpgmbnihfkkaa
