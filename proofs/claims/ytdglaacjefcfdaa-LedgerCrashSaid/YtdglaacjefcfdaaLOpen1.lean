/- ledger: what Open's three steps do -/
import Derived.Test.YtdglaacjefcfdaaLAdd
namespace Go.Proofs.Ytdglaacjefcfdaa
open Go.RowKit
/-- every block with cells of another kind than a disk's stays. -/
structure Kc (w w' : World) : Prop where
  size : w.heap.size ≤ w'.heap.size
  cells : ∀ (j : Nat) (c : Array Value) (t : TypeId) (fr : Nat × Nat), w.heap[j]? = some (.cells c t fr) → t ≠ 67 → t ≠ 77 → t ≠ 94 → w'.heap[j]? = some (.cells c t fr)
theorem Kc.refl (w : World) : Kc w w := ⟨Nat.le_refl _, fun _ _ _ _ h _ _ _ => h⟩
theorem Kc.of_log {fu : Int} {d mb f base : Nat} {w w' : World} {S : List UInt8} {D : List Deed} (h : Moved d mb f base w w') (hd : DiskLog w fu d mb f S D) : Kc w w' := ⟨h.size, fun _ _ _ _ hj h1 h2 h3 => h.cells hd hj h1 h2 h3⟩
theorem Kc.of_no {fu : Int} {d mb f base : Nat} {w w' : World} (h : Moved d mb f base w w') (hd : DiskNo w fu d mb) (hf : w.heap.size ≤ f) : Kc w w' := by
  refine ⟨h.size, fun j c t fr hj h1 h2 h3 => ?_⟩
  obtain ⟨st, cc, hfu, hmd, hdr, hm⟩ := hd
  refine (h.block j (heap_lt hj) ?_ ?_ ?_ ?_).trans hj
  · rintro rfl; unfold DiskRow at hdr; rw [hdr] at hj; cases hj; exact h1 rfl
  · rintro rfl; rw [hm] at hj; cases hj
  · have := heap_lt hj; omega
  · intro _ c' t' e; rw [hj] at e; cases e; exact h3 rfl
theorem Kc.lists {w w' : World} {base : Nat} {v : Value} {L : List (List UInt8)} (k : Kc w w') (h : Lists w base v L) : Lists w' base v L :=
  h.move fun g c t hg ht => (k.cells g c t (0, 0) hg (by rcases ht with rfl | rfl <;> decide) (by rcases ht with rfl | rfl <;> decide) (by rcases ht with rfl | rfl <;> decide)).trans hg.symm
/-- the memory of Open's loop. -/
structure OpenMem (w : World) (N E F G : Nat) (dp : Option Addr) (nm : ByteArray) (er : Int) (fr : Bool) (sz rest : Int) : Prop where
  box : w.heap[N]? = some (.cells #[.pointer dp] 25 (0, 0))
  name : w.heap[N + 1]? = some (.cells #[.string nm] 9 (0, 0))
  size : w.heap[N + 1 + 1]? = some (.cells #[.int .i64 sz] 3 (0, 0))
  rest : w.heap[N + 1 + 1 + 1]? = some (.cells #[.int .i64 rest] 3 (0, 0))
  err : w.heap[E]? = some (.cells #[.int .i64 er] 30 (0, 0))
  fresh : w.heap[F]? = some (.cells #[.bool fr] 4 (0, 0))
  steps : w.heap[G]? = some (.cells #[.func (.func 40) #[] #[.pointer (some ⟨F, 0, none⟩), .pointer (some ⟨N, 0, none⟩), .pointer (some ⟨N + 1, 0, none⟩), .pointer (some ⟨E, 0, none⟩)],
    .func (.func 41) #[] #[.pointer (some ⟨N + 1 + 1 + 1, 0, none⟩), .pointer (some ⟨N, 0, none⟩), .pointer (some ⟨N + 1, 0, none⟩), .pointer (some ⟨N + 1 + 1, 0, none⟩)],
    .func (.func 43) #[] #[.pointer (some ⟨N, 0, none⟩), .pointer (some ⟨N + 1, 0, none⟩)]] 73 (0, 0))
theorem OpenMem.kept {w w' : World} {N E F G : Nat} {dp : Option Addr} {nm : ByteArray} {er : Int} {fr : Bool} {sz rest : Int} (h : OpenMem w N E F G dp nm er fr sz rest) (k : Kc w w') : OpenMem w' N E F G dp nm er fr sz rest :=
  ⟨k.cells _ _ _ _ h.box (by decide) (by decide) (by decide), k.cells _ _ _ _ h.name (by decide) (by decide) (by decide), k.cells _ _ _ _ h.size (by decide) (by decide) (by decide), k.cells _ _ _ _ h.rest (by decide) (by decide) (by decide),
    k.cells _ _ _ _ h.err (by decide) (by decide) (by decide), k.cells _ _ _ _ h.fresh (by decide) (by decide) (by decide), k.cells _ _ _ _ h.steps (by decide) (by decide) (by decide)⟩
theorem step1_fresh (base N E F d mb : Nat) (w : World) (hbs : base ≤ w.heap.size) (h0 : w.heap[N]? = some (.cells #[.pointer (some ⟨d, 0, none⟩)] 25 (0, 0))) (h1 : w.heap[N + 1]? = some (.cells #[.string logB] 9 (0, 0)))
    (hF : w.heap[F]? = some (.cells #[.bool true] 4 (0, 0))) (hd : DiskNo w (-1) d mb) :
    Calls Try.prog 40 #[.pointer (some ⟨F, 0, none⟩), .pointer (some ⟨N, 0, none⟩), .pointer (some ⟨N + 1, 0, none⟩), .pointer (some ⟨E, 0, none⟩)] w
      fun e w' => e = .returned (.int .i64 0) ∧ ∃ f, w.heap.size ≤ f ∧ DiskOwn w' (-1) d mb f base [] [] ∧ Moved d mb f base w w' := by
  have c0 : w.cell? ⟨N, 0, none⟩ = some (.pointer (some ⟨d, 0, none⟩)) := cell_of_row _ _ _ _ _ _ h0
  have c1 : w.cell? ⟨N + 1, 0, none⟩ = some (.string logB) := cell_of_row _ _ _ _ _ _ h1
  have cF : w.cell? ⟨F, 0, none⟩ = some (.bool true) := cell_of_row _ _ _ _ _ _ hF
  have H := Lib.hid (Append_new base d mb none 0 0 [] w hbs (by decide) hd (IsBytes.nil w) (by omega))
  clear h0 h1 hF hd
  go_enter Try.func40, Try.ntmps40
  go_wp2_with fail
  refine H.out.mono ?_
  rintro e w' ⟨rfl, hx⟩
  have HX := Lib.hid hx
  clear hx
  go_wp2_with fail
  go_ret
  exact ⟨rfl, HX.out⟩
theorem step1_old (N E F : Nat) (er : Int) (w : World) (hE : w.heap[E]? = some (.cells #[.int .i64 er] 30 (0, 0)))
    (hF : w.heap[F]? = some (.cells #[.bool false] 4 (0, 0))) :
    Calls Try.prog 40 #[.pointer (some ⟨F, 0, none⟩), .pointer (some ⟨N, 0, none⟩), .pointer (some ⟨N + 1, 0, none⟩), .pointer (some ⟨E, 0, none⟩)] w
      fun e w' => e = .returned (.int .i64 er) ∧ w = w' := by
  have cE : w.cell? ⟨E, 0, none⟩ = some (.int .i64 er) := cell_of_row _ _ _ _ _ _ hE
  have cF : w.cell? ⟨F, 0, none⟩ = some (.bool false) := cell_of_row _ _ _ _ _ _ hF
  clear hE hF
  go_enter Try.func40, Try.ntmps40
  go_wp2_with fail
  go_ret
  exact ⟨rfl, rfl⟩
theorem step2_whole (N : Nat) (w : World) (hr : w.heap[N + 1 + 1 + 1]? = some (.cells #[.int .i64 0] 3 (0, 0))) :
    Calls Try.prog 41 #[.pointer (some ⟨N + 1 + 1 + 1, 0, none⟩), .pointer (some ⟨N, 0, none⟩), .pointer (some ⟨N + 1, 0, none⟩), .pointer (some ⟨N + 1 + 1, 0, none⟩)] w
      fun e w' => e = .returned (.int .i64 0) ∧ w = w' := by
  have cE : w.cell? ⟨N + 1 + 1 + 1, 0, none⟩ = some (.int .i64 0) := cell_of_row _ _ _ _ _ _ hr
  clear hr
  go_enter Try.func41, Try.ntmps41
  go_wp2_with fail
  go_ret
  exact ⟨rfl, rfl⟩
theorem step2_bad (N : Nat) (w : World) (hr : w.heap[N + 1 + 1 + 1]? = some (.cells #[.int .i64 2] 3 (0, 0))) :
    Calls Try.prog 41 #[.pointer (some ⟨N + 1 + 1 + 1, 0, none⟩), .pointer (some ⟨N, 0, none⟩), .pointer (some ⟨N + 1, 0, none⟩), .pointer (some ⟨N + 1 + 1, 0, none⟩)] w
      fun e w' => e = .returned (.int .i64 4) ∧ w = w' := by
  have cE : w.cell? ⟨N + 1 + 1 + 1, 0, none⟩ = some (.int .i64 2) := cell_of_row _ _ _ _ _ _ hr
  clear hr
  go_enter Try.func41, Try.ntmps41
  go_wp2_with fail
  go_ret
  exact ⟨rfl, rfl⟩
theorem step3_any (base N d mb f : Nat) (S : List UInt8) (D : List Deed) (w : World) (h0 : w.heap[N]? = some (.cells #[.pointer (some ⟨d, 0, none⟩)] 25 (0, 0))) (h1 : w.heap[N + 1]? = some (.cells #[.string logB] 9 (0, 0)))
    (hd : DiskLog w (-1) d mb f S D) :
    Calls Try.prog 43 #[.pointer (some ⟨N, 0, none⟩), .pointer (some ⟨N + 1, 0, none⟩)] w
      fun e w' => e = .returned (.int .i64 0) ∧ DiskOwn w' (-1) d mb f base (allB S D) [] ∧ Moved d mb f base w w' := by
  have c0 : w.cell? ⟨N, 0, none⟩ = some (.pointer (some ⟨d, 0, none⟩)) := cell_of_row _ _ _ _ _ _ h0
  have c1 : w.cell? ⟨N + 1, 0, none⟩ = some (.string logB) := cell_of_row _ _ _ _ _ _ h1
  have H := Lib.hid (Sync_any base d mb f S D w (by decide) hd)
  clear h0 h1 hd
  go_enter Try.func43, Try.ntmps43
  go_wp2_with fail
  refine H.out.mono ?_
  rintro e w' ⟨rfl, hx⟩
  have HX := Lib.hid hx
  clear hx
  go_wp2_with fail
  go_ret
  exact ⟨rfl, HX.out⟩
end Go.Proofs.Ytdglaacjefcfdaa
