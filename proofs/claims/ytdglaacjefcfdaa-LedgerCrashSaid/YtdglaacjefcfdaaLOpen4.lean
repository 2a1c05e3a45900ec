/- ledger: Open of a bad file; of no disk -/
import Derived.Test.YtdglaacjefcfdaaLOpen3
namespace Go.Proofs.Ytdglaacjefcfdaa
open Go.RowKit
set_option maxRecDepth 100000 in
set_option maxHeartbeats 2000000 in
theorem Open_bad (base d mb f : Nat) (S : List UInt8) (D : List Deed) (bs : List UInt8) (recs : List (List UInt8)) (sz : Nat) (w : World) (_hbs : base ≤ w.heap.size) (hd : DiskOwn w (-1) d mb f base S D) (hbsx : bs = allB S D) (hscan : Fr.scanF bs = (recs, sz, 2)) :
    Calls Try.prog 16 #[.pointer (some ⟨d, 0, none⟩), .string logB] w
      fun e w' => e = .returned (.tuple #[.pointer none, .slice none 0 0, .int .i64 4]) ∧ Below w.heap.size w w' := by
  have hmf : ∀ (fn : Fn) (first cap : Array Value) (w : World), (Instr.makeFunc fn first cap).run Try.prog w = .ok (.func fn first cap) w := fun _ _ _ _ => rfl
  have HD := Lib.hid hd
  have HSC := Lib.hid hscan
  have HBS := Lib.hid hbsx
  clear hd hscan
  generalize hnm : logB = nm
  have HNM := Lib.hid hnm
  clear hnm
  go_enter Try.func16, Try.ntmps16
  go_wp2_with fail
  generalize hw1 : (((w.alloc (.cells #[.pointer (some ⟨d, 0, none⟩)] 25)).alloc (.cells #[.string nm] 9)).alloc (.cells #[.int .i64 0] 3)).alloc (.cells #[.int .i64 0] 3) = w1
  obtain ⟨b0, b1, b2, b3, hB1, hS1⟩ := open_boxes _ nm w w1 hw1
  clear hw1
  generalize hN : w.heap.size = N at b0 b1 b2 b3 hS1 ⊢
  have hd1 : DiskOwn w1 (-1) d mb f base S D := HD.out.later hB1
  have HR := Lib.hid (show Calls Try.prog 12 #[.pointer (some ⟨d, 0, none⟩), .string nm] w1 _ by rw [← HNM.out]; obtain ⟨st, c, b, _, _, h1, h2, h3⟩ := hd1; exact Read_log d mb c b f st (-1) S D w1 h1 h2 h3.at)
  have HX := Lib.hid (And.intro b0 (And.intro b1 (And.intro b2 (And.intro b3 (And.intro hB1 hd1)))))
  clear b0 b1 b2 b3 hB1 hd1
  refine HR.out.mono ?_
  rintro e w2 ⟨v, rfl, hown, hb2⟩
  rw [← hbsx] at hown
  obtain ⟨va, vc, hv, hvb, _⟩ := hown.bytes
  have hlen : bs.length ≤ 4294967296 := by
    rw [hbsx]
    have h1 := afterZ_length D S (unitsD D : Nat)
    have h2 := HD.out.log
    obtain ⟨_, _, _, _, _, _, _, h3⟩ := h2
    have h4 := h3.small
    unfold allB
    omega
  subst hv
  have HVB := Lib.hid hvb
  have HB2 := Lib.hid hb2
  have HLEN := Lib.hid hlen
  clear hown hb2 hvb hlen hbsx
  go_wp2_with fail
  refine (Scan_any va bs.length vc bs _ (HVB.out.later (((Below.refl _ _).alloc (Nat.le_refl _) _).alloc (by simp) _)) HLEN.out).mono ?_
  rintro e w3 ⟨lv, rfl, hls, hb3⟩
  rw [HSC.out] at hls ⊢
  have h23 : Below w2.heap.size w2 w3 := Below.trans (((Below.refl _ _).alloc (Nat.le_refl _) _).alloc (by simp) _) (hb3.mono (by simp <;> omega))
  have hs2 : N + 4 ≤ w2.heap.size := by have := HB2.out.size; omega
  have hx2 : w3.cell? ⟨N + 1 + 1, 0, none⟩ = some (.int .i64 0) := cell_of_row _ _ _ _ _ _ ((h23.block _ (by omega)).trans ((HB2.out.block _ (by omega)).trans HX.out.2.2.1))
  have hx3 : w3.cell? ⟨N + 1 + 1 + 1, 0, none⟩ = some (.int .i64 0) := cell_of_row _ _ _ _ _ _ ((h23.block _ (by omega)).trans ((HB2.out.block _ (by omega)).trans HX.out.2.2.2.1))
  have hz2 : w3.frozen? ⟨N + 1 + 1, 0, none⟩ = false := frozen_of_row _ _ _ _ _ ((h23.block _ (by omega)).trans ((HB2.out.block _ (by omega)).trans HX.out.2.2.1))
  have hz3 : w3.frozen? ⟨N + 1 + 1 + 1, 0, none⟩ = false := frozen_of_row _ _ _ _ _ ((h23.block _ (by omega)).trans ((HB2.out.block _ (by omega)).trans HX.out.2.2.2.1))
  obtain ⟨la, lc, hlv, hll⟩ := hls.reads
  subst hlv
  have HLS := Lib.hid hls
  have HB3 := Lib.hid hb3
  have H23 := Lib.hid h23
  clear hls hb3 h23 hll
  go_wp2_with fail
  obtain ⟨F, hF⟩ : ∃ F, F = w2.heap.size + 1 := ⟨_, rfl⟩
  obtain ⟨E, hE⟩ : ∃ E, E = w2.heap.size := ⟨_, rfl⟩
  obtain ⟨G, hG⟩ : ∃ G, G = w3.heap.size := ⟨_, rfl⟩
  rw [← hF, ← hE, ← hG]
  generalize hX : (World.alloc (World.setCell (World.setCell w3 _ _) _ _) _) = X
  obtain ⟨hmem, hbX, hkX⟩ := open_mem2 N E F (some ⟨d, 0, none⟩) 0 sz 2 logB w2 w3 X hE hF hs2 ((HB2.out.block _ (by omega)).trans HX.out.1) (by rw [HNM.out]; exact (HB2.out.block _ (by omega)).trans HX.out.2.1) ((HB2.out.block _ (by omega)).trans HX.out.2.2.1) ((HB2.out.block _ (by omega)).trans HX.out.2.2.2.1) HB3.out G hG hX
  have hbw : Below w.heap.size w X := HX.out.2.2.2.2.1.trans (by rw [hN]; exact (HB2.out.mono (by omega)).trans hbX)
  have hlX : Lists X w.heap.size (.slice la recs.length lc) recs := by
    refine (HLS.out.move fun g c t hg ht => ?_).base ?_
    · refine hkX g ?_ ?_ (heap_lt hg)
      · rintro rfl
        rw [(H23.out.block _ (by omega)).trans ((HB2.out.block _ (by omega)).trans HX.out.2.2.1)] at hg
        cases hg
        rcases ht with h | h <;> cases h
      · rintro rfl
        rw [(H23.out.block _ (by omega)).trans ((HB2.out.block _ (by omega)).trans HX.out.2.2.2.1)] at hg
        cases hg
        rcases ht with h | h <;> cases h
    · have := HB2.out.size
      simp
      omega
  have HXX := Lib.hid (And.intro hmem (And.intro hbw (And.intro hlX (HD.out.later hbw))))
  clear hmem hbX hkX hbw hlX hX hx2 hx3 hz2 hz3 hE hF hG HB2 HB3 H23 HVB HLS
  have en1 := enters_1
  have en2 := enters_2
  have en3 := enters_3
  go_loopw [37] (fun i wr => ∃ k : Nat, k ≤ 3 ∧ i = .int .i64 k ∧ Hid (OpenMem wr N E F G (some ⟨d, 0, none⟩) logB 0 false sz 2) ∧ Hid (Lists wr w.heap.size (.slice la recs.length lc) recs) ∧ Hid (k ≤ 1 ∧ X = wr)) (fun i _ => 3 - (intOf i).toNat)
  case atStart => exact ⟨0, by omega, rfl, Lib.hid HXX.out.1, Lib.hid HXX.out.2.2.1, Lib.hid ⟨by omega, rfl⟩⟩
  case round =>
    obtain ⟨k, hk, rfl, hm, hL, hD⟩ := hrel
    obtain ⟨f0, f1, f2⟩ := hm.out.funcs
    have hk4 : k = 0 ∨ k = 1 := by have := hD.out.1; omega
    rcases hk4 with rfl | rfl
    · go_wp2_with fail
      refine (step1_old N E F 0 wr hm.out.err hm.out.fresh).mono ?_
      rintro e w2 ⟨rfl, rfl⟩
      go_wp2_with fail
      go_roundw
      case rel => exact ⟨1, by omega, rfl, hm, hL, Lib.hid ⟨by omega, hD.out.2⟩⟩
      case measure => simp [intOf]
    · have hXw : X = wr := hD.out.2
      subst hXw
      go_wp2_with fail
      refine (step2_bad N X hm.out.rest).mono ?_
      rintro e w2 ⟨rfl, rfl⟩
      go_wp2_with fail
      go_ret3
      exact ⟨rfl, HXX.out.2.1⟩
end Go.Proofs.Ytdglaacjefcfdaa
