/- ledger: Open of no disk -/
import Derived.Test.YtdglaacjefcfdaaLOpen4
namespace Go.Proofs.Ytdglaacjefcfdaa
open Go.RowKit
set_option maxRecDepth 100000 in
set_option maxHeartbeats 2000000 in
theorem Open_nil (nm : ByteArray) (w : World) :
    Calls Try.prog 16 #[.pointer none, .string nm] w
      fun e w' => e = .returned (.tuple #[.pointer none, .slice none 0 0, .int .i64 1]) ∧ Below w.heap.size w w' := by
  have hmf : ∀ (fn : Fn) (first cap : Array Value) (w : World), (Instr.makeFunc fn first cap).run Try.prog w = .ok (.func fn first cap) w := fun _ _ _ _ => rfl
  go_enter Try.func16, Try.ntmps16
  go_wp2_with fail
  generalize hw1 : (((w.alloc (.cells #[.pointer none] 25)).alloc (.cells #[.string nm] 9)).alloc (.cells #[.int .i64 0] 3)).alloc (.cells #[.int .i64 0] 3) = w1
  obtain ⟨b0, b1, b2, b3, hB1, hS1⟩ := open_boxes _ nm w w1 hw1
  clear hw1
  generalize hN : w.heap.size = N at b0 b1 b2 b3 hS1 ⊢
  have HX := Lib.hid (And.intro b0 (And.intro b1 (And.intro b2 (And.intro b3 hB1))))
  clear b0 b1 b2 b3 hB1
  refine (Read_nil _ w1).mono ?_
  rintro e w2 ⟨rfl, rfl⟩
  go_wp2_with fail
  refine (Scan_any none 0 0 [] _ (IsBytes.nil _) (by omega)).mono ?_
  rintro e w3 ⟨lv, rfl, hls, hb3⟩
  have hsc0 : Fr.scanF [] = ([], 0, 0) := rfl
  rw [hsc0] at hls ⊢
  have h23 : Below w1.heap.size w1 w3 := Below.trans (((Below.refl _ _).alloc (Nat.le_refl _) _).alloc (by simp) _) (hb3.mono (by simp <;> omega))
  have hs2 : N + 4 ≤ w1.heap.size := by omega
  have hx2 : w3.cell? ⟨N + 1 + 1, 0, none⟩ = some (.int .i64 0) := cell_of_row _ _ _ _ _ _ ((h23.block _ (by omega)).trans HX.out.2.2.1)
  have hx3 : w3.cell? ⟨N + 1 + 1 + 1, 0, none⟩ = some (.int .i64 0) := cell_of_row _ _ _ _ _ _ ((h23.block _ (by omega)).trans HX.out.2.2.2.1)
  have hz2 : w3.frozen? ⟨N + 1 + 1, 0, none⟩ = false := frozen_of_row _ _ _ _ _ ((h23.block _ (by omega)).trans HX.out.2.2.1)
  have hz3 : w3.frozen? ⟨N + 1 + 1 + 1, 0, none⟩ = false := frozen_of_row _ _ _ _ _ ((h23.block _ (by omega)).trans HX.out.2.2.2.1)
  obtain ⟨la, lc, hlv, hll⟩ := hls.reads
  subst hlv
  have HLS := Lib.hid hls
  have HB3 := Lib.hid hb3
  have H23 := Lib.hid h23
  clear hls hb3 h23 hll
  go_wp2_with fail
  obtain ⟨F, hF⟩ : ∃ F, F = N + 4 + 1 := ⟨_, rfl⟩
  obtain ⟨E, hE⟩ : ∃ E, E = N + 4 := ⟨_, rfl⟩
  obtain ⟨G, hG⟩ : ∃ G, G = w3.heap.size := ⟨_, rfl⟩
  rw [← hF, ← hE, ← hG]
  generalize hX : (World.alloc (World.setCell (World.setCell w3 _ _) _ _) _) = X
  obtain ⟨hmem, hbX, hkX⟩ := open_mem2 N E F none 1 0 0 nm w1 w3 X (by omega) (by omega) hs2 HX.out.1 HX.out.2.1 HX.out.2.2.1 HX.out.2.2.2.1 HB3.out G hG hX
  have hbw : Below w.heap.size w X := HX.out.2.2.2.2.trans (by rw [hN]; exact hbX)
  have HXX := Lib.hid (And.intro hmem hbw)
  clear hmem hbX hkX hbw hX hx2 hx3 hz2 hz3 hE hF hG HB3 H23 HLS
  have en1 := enters_1
  go_loopw [37] (fun i wr => i = .int .i64 0 ∧ Hid (X = wr)) (fun i _ => 0)
  case atStart => exact ⟨rfl, Lib.hid rfl⟩
  case round =>
    obtain ⟨rfl, hXw⟩ := hrel
    have hXw : X = wr := hXw.out
    subst hXw
    obtain ⟨f0, f1, f2⟩ := HXX.out.1.funcs
    go_wp2_with fail
    refine (step1_old N E F 1 X HXX.out.1.err HXX.out.1.fresh).mono ?_
    rintro e w2 ⟨rfl, rfl⟩
    go_wp2_with fail
    go_ret3
    exact ⟨rfl, HXX.out.2⟩
end Go.Proofs.Ytdglaacjefcfdaa
