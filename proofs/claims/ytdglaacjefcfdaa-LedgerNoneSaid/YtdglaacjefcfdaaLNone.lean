/- law 28: long, of one act; LedgerNone -/
import Derived.Test.YtdglaacjefcfdaaLAwake
namespace Go.Proofs.Ytdglaacjefcfdaa
open Go.RowKit
/-- a bool is returned. -/
def SaysBool (e : Ending) : Prop := ∃ r : Bool, e = .returned (.bool r)
set_option maxRecDepth 100000 in
theorem Add_none (v s : Value) (w : World) (h : ∀ w', Below w.heap.size w w' → Calls Try.prog 26 #[v] w' fun e w'' => e = .returned (.bool true) ∧ w' = w'') (hv : ∃ a, v = .pointer a) :
    Calls Try.prog 11 #[v, s] w fun e w' => e = .returned (.int .i64 1) ∧ Below w.heap.size w w' := by
  obtain ⟨a, rfl⟩ := hv
  have H := Lib.hid h
  clear h
  go_enter_defers Try.func11, Try.ntmps11
  go_wp2_with fail
  refine (H.out _ (((Below.refl _ _).alloc (Nat.le_refl _) _).alloc (by simp) _)).mono ?_
  rintro e w' ⟨rfl, rfl⟩
  go_wp2_with fail
  have hb : Below w.heap.size w ((w.alloc (.cells #[.pointer a] 27)).alloc (.cells #[.int .i64 1] 30)) := ((Below.refl _ _).alloc (Nat.le_refl _) _).alloc (by simp) _
  have hc : ((w.alloc (.cells #[.pointer a] 27)).alloc (.cells #[.int .i64 1] 30)).cell? ⟨w.heap.size + 1, 0, none⟩ = some (.int .i64 1) := by
    have := heap_alloc_new (w.alloc (.cells #[.pointer a] 27)) (.cells #[.int .i64 1] 30)
    rw [show (w.alloc (.cells #[.pointer a] 27)).heap.size = w.heap.size + 1 by simp] at this
    exact cell_of_row _ _ _ _ _ _ this
  generalize (World.alloc (World.alloc w _) _) = w2 at hb hc ⊢
  have HB := Lib.hid hb
  clear hb
  simp [bodyPostD, Leaves, results, Try.results11, go_sem, hc]
  exact HB.out
set_option maxRecDepth 100000 in
theorem long_any (b n cap : Nat) (k s p : Int) (nm : ByteArray) (ao : Option Addr) (w : World) (hn : n ≤ 9223372036854775807) (h : w.heap[b]? = some (.cells #[.int .i64 k, .int .i64 s, .int .i64 p, .string nm, .slice ao n cap] 42 (0, 0))) :
    Calls Try.prog 18 #[.slice (some ⟨b, 0, none⟩) 1 1] w fun e w' => SaysBool e ∧ w = w' := by
  have c3 : w.cell? ⟨b, 3, none⟩ = some (.string nm) := cell_of_row _ _ _ _ _ _ h
  have c4 : w.cell? ⟨b, 4, none⟩ = some (.slice ao n cap) := cell_of_row _ _ _ _ _ _ h
  clear h
  go_enter Try.func18, Try.ntmps18
  go_wp2
  go_loopw [3, 4] (fun sm i wr => ∃ j : Nat, j ≤ 1 ∧ i = .int .i64 j ∧ (∃ z, sm = .int .i64 z ∧ (j = 0 → z = 0)) ∧ w = wr) (fun _ i _ => 1 - (intOf i).toNat)
  case atStart => exact ⟨0, by omega, rfl, ⟨0, rfl, fun _ => rfl⟩, rfl⟩
  case round =>
    obtain ⟨j, hj, rfl, ⟨z, rfl, hz⟩, rfl⟩ := hrel
    have hj2 : j = 0 ∨ j = 1 := by omega
    rcases hj2 with rfl | rfl
    · obtain rfl := hz rfl
      clear hz
      have hw : IntKind.i64.wrap (0 + (n : Int)) = (n : Int) := by rw [Int.zero_add]; exact IntWalk.i64_in _ (by omega)
      by_cases hb : (100 : Int) < (nm.size : Int)
      · go_wp2
        go_ret
        exact ⟨⟨_, rfl⟩, rfl⟩
      · go_wp2
        go_roundw
        case rel => exact ⟨1, by omega, rfl, ⟨_, rfl, by omega⟩, trivial⟩
        case measure => simp [intOf]
    · by_cases hb : (3000 : Int) < z
      · go_wp2
        go_ret
        exact ⟨⟨_, rfl⟩, rfl⟩
      · go_wp2
        go_ret
        exact ⟨⟨_, rfl⟩, rfl⟩
end Go.Proofs.Ytdglaacjefcfdaa
