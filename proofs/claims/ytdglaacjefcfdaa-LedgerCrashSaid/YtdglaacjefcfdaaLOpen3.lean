/- ledger: Open of a file that is there -/
import Derived.Test.YtdglaacjefcfdaaLOpen2
import Derived.Test.YtdglaacjefcfdaaScan
namespace Go.Proofs.Ytdglaacjefcfdaa
open Go.RowKit
theorem open_mem2 (N E F : Nat) (dp : Option Addr) (er sz rest : Int) (nm : ByteArray) (w2 w3 X : World) (hE : E = w2.heap.size) (hF : F = w2.heap.size + 1) (hN : N + 4 ≤ w2.heap.size) (b0 : w2.heap[N]? = some (.cells #[.pointer dp] 25 (0, 0))) (b1 : w2.heap[N + 1]? = some (.cells #[.string nm] 9 (0, 0)))
    (b2 : w2.heap[N + 1 + 1]? = some (.cells #[.int .i64 0] 3 (0, 0))) (b3 : w2.heap[N + 1 + 1 + 1]? = some (.cells #[.int .i64 0] 3 (0, 0)))
    (h3 : Below ((w2.alloc (.cells #[.int .i64 er] 30)).alloc (.cells #[.bool false] 4)).heap.size ((w2.alloc (.cells #[.int .i64 er] 30)).alloc (.cells #[.bool false] 4)) w3) (G : Nat) (hG : G = w3.heap.size)
    (h : ((w3.setCell ⟨N + 1 + 1, 0, none⟩ (.int .i64 sz)).setCell ⟨N + 1 + 1 + 1, 0, none⟩ (.int .i64 rest)).alloc (.cells #[.func (.func 40) #[] #[.pointer (some ⟨F, 0, none⟩), .pointer (some ⟨N, 0, none⟩), .pointer (some ⟨N + 1, 0, none⟩), .pointer (some ⟨E, 0, none⟩)],
    .func (.func 41) #[] #[.pointer (some ⟨N + 1 + 1 + 1, 0, none⟩), .pointer (some ⟨N, 0, none⟩), .pointer (some ⟨N + 1, 0, none⟩), .pointer (some ⟨N + 1 + 1, 0, none⟩)],
    .func (.func 43) #[] #[.pointer (some ⟨N, 0, none⟩), .pointer (some ⟨N + 1, 0, none⟩)]] 73) = X) :
    OpenMem X N E F G dp nm er false sz rest ∧ Below N w2 X ∧ (∀ j, j ≠ N + 1 + 1 → j ≠ N + 1 + 1 + 1 → j < w3.heap.size → X.heap[j]? = w3.heap[j]?) := by
  have h12 : Below w2.heap.size w2 ((w2.alloc (.cells #[.int .i64 er] 30)).alloc (.cells #[.bool false] 4)) := ((Below.refl _ _).alloc (Nat.le_refl _) _).alloc (by simp) _
  have hs12 : ((w2.alloc (.cells #[.int .i64 er] 30)).alloc (.cells #[.bool false] 4)).heap.size = w2.heap.size + 2 := by simp
  have h23 : Below w2.heap.size w2 w3 := h12.trans (h3.mono (by omega))
  have hs3 : w2.heap.size + 2 ≤ w3.heap.size := by have := h3.size; omega
  have hk : ∀ j, j ≠ N + 1 + 1 → j ≠ N + 1 + 1 + 1 → j < w3.heap.size → X.heap[j]? = w3.heap[j]? := by
    intro j h1 h2 hj
    rw [← h, Below.heap_alloc _ _ _ (by simpa using hj), Below.heap_setCell _ _ _ _ h2, Below.heap_setCell _ _ _ _ h1]
  have hE3 : w3.heap[E]? = some (.cells #[.int .i64 er] 30 (0, 0)) := by
    rw [h3.block E (by omega), Below.heap_alloc _ _ _ (by simp; omega), hE]
    exact heap_alloc_new _ _
  have hF3 : w3.heap[F]? = some (.cells #[.bool false] 4 (0, 0)) := by
    rw [h3.block F (by omega), hF]
    have := heap_alloc_new (w2.alloc (.cells #[.int .i64 er] 30)) (.cells #[.bool false] 4)
    simpa using this
  have q2 : (w3.setCell ⟨N + 1 + 1, 0, none⟩ (.int .i64 sz)).heap[N + 1 + 1]? = some (.cells #[.int .i64 sz] 3 (0, 0)) := by
    have := heap_setCell_same w3 (N + 1 + 1) 0 _ _ (.int .i64 sz) ((h23.block _ (by omega)).trans b2)
    exact this
  have q3 : ((w3.setCell ⟨N + 1 + 1, 0, none⟩ (.int .i64 sz)).setCell ⟨N + 1 + 1 + 1, 0, none⟩ (.int .i64 rest)).heap[N + 1 + 1 + 1]? = some (.cells #[.int .i64 rest] 3 (0, 0)) := by
    have := heap_setCell_same (w3.setCell ⟨N + 1 + 1, 0, none⟩ (.int .i64 sz)) (N + 1 + 1 + 1) 0 _ _ (.int .i64 rest) ((Below.heap_setCell _ _ _ _ (by dsimp only; omega)).trans ((h23.block _ (by omega)).trans b3))
    exact this
  refine ⟨⟨(hk N (by omega) (by omega) (by omega)).trans ((h23.block _ (by omega)).trans b0), (hk _ (by omega) (by omega) (by omega)).trans ((h23.block _ (by omega)).trans b1), ?_, ?_, (hk E (by omega) (by omega) (by omega)).trans hE3, (hk F (by omega) (by omega) (by omega)).trans hF3, ?_⟩, ?_, hk⟩
  · rw [← h, Below.heap_alloc _ _ _ (by simp; omega), Below.heap_setCell _ _ _ _ (by dsimp only; omega)]
    exact q2
  · rw [← h, Below.heap_alloc _ _ _ (by simp; omega)]
    exact q3
  · rw [← h, hG]
    have := heap_alloc_new ((w3.setCell ⟨N + 1 + 1, 0, none⟩ (.int .i64 sz)).setCell ⟨N + 1 + 1 + 1, 0, none⟩ (.int .i64 rest)) (.cells #[.func (.func 40) #[] #[.pointer (some ⟨F, 0, none⟩), .pointer (some ⟨N, 0, none⟩), .pointer (some ⟨N + 1, 0, none⟩), .pointer (some ⟨E, 0, none⟩)],
    .func (.func 41) #[] #[.pointer (some ⟨N + 1 + 1 + 1, 0, none⟩), .pointer (some ⟨N, 0, none⟩), .pointer (some ⟨N + 1, 0, none⟩), .pointer (some ⟨N + 1 + 1, 0, none⟩)],
    .func (.func 43) #[] #[.pointer (some ⟨N, 0, none⟩), .pointer (some ⟨N + 1, 0, none⟩)]] 73)
    simpa using this
  · rw [← h]
    exact (((h23.mono (by omega)).setCell (p := ⟨N + 1 + 1, 0, none⟩) (by dsimp only; omega) _).setCell (p := ⟨N + 1 + 1 + 1, 0, none⟩) (by dsimp only; omega) _).alloc (by simp; omega) _
/-- the disk behind so many of Open's steps, where all of the file is whole. -/
def OpenW (X : World) (d mb f base : Nat) (S : List UInt8) (D : List Deed) : Nat → World → Prop
  | 0, wr => X = wr
  | 1, wr => X = wr
  | 2, wr => X = wr
  | _ + 3, wr => DiskOwn wr (-1) d mb f base (allB S D) [] ∧ Moved d mb f base X wr
set_option maxRecDepth 100000 in
set_option maxHeartbeats 2000000 in
theorem Open_log (base d mb f : Nat) (S : List UInt8) (D : List Deed) (bs : List UInt8) (recs : List (List UInt8)) (sz : Nat) (w : World) (_hbs : base ≤ w.heap.size) (hd : DiskOwn w (-1) d mb f base S D) (hbsx : bs = allB S D) (hscan : Fr.scanF bs = (recs, sz, 0)) :
    Calls Try.prog 16 #[.pointer (some ⟨d, 0, none⟩), .string logB] w
      fun e w' => ∃ l v, e = .returned (.tuple #[.pointer (some ⟨l, 0, none⟩), v, .int .i64 0]) ∧ w.heap.size ≤ l ∧ LedRow w' l d (recs.length : Nat) (sz : Nat) false ∧ DiskOwn w' (-1) d mb f base bs [] ∧ Lists w' w.heap.size v recs ∧ Moved d mb f base w w' := by
  have hmf : ∀ (fn : Fn) (first cap : Array Value) (w : World), (Instr.makeFunc fn first cap).run Try.prog w = .ok (.func fn first cap) w := fun _ _ _ _ => rfl
  have HD := Lib.hid hd
  have HSC := Lib.hid hscan
  have HBS := Lib.hid hbsx
  clear hd hscan
  generalize hnm : logB = nm
  have HNM := Lib.hid hnm
  clear hnm
  go_enter Try.func16, Try.ntmps16
  go_wp2_with fail
  generalize hw1 : (((w.alloc (.cells #[.pointer (some ⟨d, 0, none⟩)] 25)).alloc (.cells #[.string nm] 9)).alloc (.cells #[.int .i64 0] 3)).alloc (.cells #[.int .i64 0] 3) = w1
  obtain ⟨b0, b1, b2, b3, hB1, hS1⟩ := open_boxes _ nm w w1 hw1
  clear hw1
  generalize hN : w.heap.size = N at b0 b1 b2 b3 hS1 ⊢
  have hd1 : DiskOwn w1 (-1) d mb f base S D := HD.out.later hB1
  have HR := Lib.hid (show Calls Try.prog 12 #[.pointer (some ⟨d, 0, none⟩), .string nm] w1 _ by rw [← HNM.out]; obtain ⟨st, c, b, _, _, h1, h2, h3⟩ := hd1; exact Read_log d mb c b f st (-1) S D w1 h1 h2 h3.at)
  have HX := Lib.hid (And.intro b0 (And.intro b1 (And.intro b2 (And.intro b3 (And.intro hB1 hd1)))))
  clear b0 b1 b2 b3 hB1 hd1
  refine HR.out.mono ?_
  rintro e w2 ⟨v, rfl, hown, hb2⟩
  rw [← hbsx] at hown
  obtain ⟨va, vc, hv, hvb, _⟩ := hown.bytes
  have hlen : bs.length ≤ 4294967296 := by
    rw [hbsx]
    have h1 := afterZ_length D S (unitsD D : Nat)
    have h2 := HD.out.log
    obtain ⟨_, _, _, _, _, _, _, h3⟩ := h2
    have h4 := h3.small
    unfold allB
    omega
  subst hv
  have HVB := Lib.hid hvb
  have HB2 := Lib.hid hb2
  have HLEN := Lib.hid hlen
  clear hown hb2 hvb hlen hbsx
  go_wp2_with fail
  refine (Scan_any va bs.length vc bs _ (HVB.out.later (((Below.refl _ _).alloc (Nat.le_refl _) _).alloc (by simp) _)) HLEN.out).mono ?_
  rintro e w3 ⟨lv, rfl, hls, hb3⟩
  rw [HSC.out] at hls ⊢
  have h23 : Below w2.heap.size w2 w3 := Below.trans (((Below.refl _ _).alloc (Nat.le_refl _) _).alloc (by simp) _) (hb3.mono (by simp <;> omega))
  have hs2 : N + 4 ≤ w2.heap.size := by have := HB2.out.size; omega
  have hx2 : w3.cell? ⟨N + 1 + 1, 0, none⟩ = some (.int .i64 0) := cell_of_row _ _ _ _ _ _ ((h23.block _ (by omega)).trans ((HB2.out.block _ (by omega)).trans HX.out.2.2.1))
  have hx3 : w3.cell? ⟨N + 1 + 1 + 1, 0, none⟩ = some (.int .i64 0) := cell_of_row _ _ _ _ _ _ ((h23.block _ (by omega)).trans ((HB2.out.block _ (by omega)).trans HX.out.2.2.2.1))
  have hz2 : w3.frozen? ⟨N + 1 + 1, 0, none⟩ = false := frozen_of_row _ _ _ _ _ ((h23.block _ (by omega)).trans ((HB2.out.block _ (by omega)).trans HX.out.2.2.1))
  have hz3 : w3.frozen? ⟨N + 1 + 1 + 1, 0, none⟩ = false := frozen_of_row _ _ _ _ _ ((h23.block _ (by omega)).trans ((HB2.out.block _ (by omega)).trans HX.out.2.2.2.1))
  obtain ⟨la, lc, hlv, hll⟩ := hls.reads
  subst hlv
  have HLS := Lib.hid hls
  have HB3 := Lib.hid hb3
  have H23 := Lib.hid h23
  clear hls hb3 h23 hll
  go_wp2_with fail
  obtain ⟨F, hF⟩ : ∃ F, F = w2.heap.size + 1 := ⟨_, rfl⟩
  obtain ⟨E, hE⟩ : ∃ E, E = w2.heap.size := ⟨_, rfl⟩
  obtain ⟨G, hG⟩ : ∃ G, G = w3.heap.size := ⟨_, rfl⟩
  rw [← hF, ← hE, ← hG]
  generalize hX : (World.alloc (World.setCell (World.setCell w3 _ _) _ _) _) = X
  obtain ⟨hmem, hbX, hkX⟩ := open_mem2 N E F (some ⟨d, 0, none⟩) 0 sz 0 logB w2 w3 X hE hF hs2 ((HB2.out.block _ (by omega)).trans HX.out.1) (by rw [HNM.out]; exact (HB2.out.block _ (by omega)).trans HX.out.2.1) ((HB2.out.block _ (by omega)).trans HX.out.2.2.1) ((HB2.out.block _ (by omega)).trans HX.out.2.2.2.1) HB3.out G hG hX
  have hbw : Below w.heap.size w X := HX.out.2.2.2.2.1.trans (by rw [hN]; exact (HB2.out.mono (by omega)).trans hbX)
  have hlX : Lists X w.heap.size (.slice la recs.length lc) recs := by
    refine (HLS.out.move fun g c t hg ht => ?_).base ?_
    · refine hkX g ?_ ?_ (heap_lt hg)
      · rintro rfl
        rw [(H23.out.block _ (by omega)).trans ((HB2.out.block _ (by omega)).trans HX.out.2.2.1)] at hg
        cases hg
        rcases ht with h | h <;> cases h
      · rintro rfl
        rw [(H23.out.block _ (by omega)).trans ((HB2.out.block _ (by omega)).trans HX.out.2.2.2.1)] at hg
        cases hg
        rcases ht with h | h <;> cases h
    · have := HB2.out.size
      simp
      omega
  have HXX := Lib.hid (And.intro hmem (And.intro hbw (And.intro hlX (HD.out.later hbw))))
  clear hmem hbX hkX hbw hlX hX hx2 hx3 hz2 hz3 hE hF hG HB2 HB3 H23 HVB HLS
  have en1 := enters_1
  have en2 := enters_2
  have en3 := enters_3
  go_loopw [37] (fun i wr => ∃ k : Nat, k ≤ 3 ∧ i = .int .i64 k ∧ Hid (OpenMem wr N E F G (some ⟨d, 0, none⟩) logB 0 false sz 0) ∧ Hid (Lists wr w.heap.size (.slice la recs.length lc) recs) ∧ Hid (OpenW X d mb f base S D k wr)) (fun i _ => 3 - (intOf i).toNat)
  case atStart => exact ⟨0, by omega, rfl, Lib.hid HXX.out.1, Lib.hid HXX.out.2.2.1, Lib.hid rfl⟩
  case round =>
    obtain ⟨k, hk, rfl, hm, hL, hD⟩ := hrel
    obtain ⟨f0, f1, f2⟩ := hm.out.funcs
    have hk4 : k = 0 ∨ k = 1 ∨ k = 2 ∨ k = 3 := by omega
    rcases hk4 with rfl | rfl | rfl | rfl
    · go_wp2_with fail
      refine (step1_old N E F 0 wr hm.out.err hm.out.fresh).mono ?_
      rintro e w2 ⟨rfl, rfl⟩
      go_wp2_with fail
      go_roundw
      case rel => exact ⟨1, by omega, rfl, hm, hL, Lib.hid hD.out⟩
      case measure => simp [intOf]
    · go_wp2_with fail
      refine (step2_whole N wr hm.out.rest).mono ?_
      rintro e w2 ⟨rfl, rfl⟩
      go_wp2_with fail
      go_roundw
      case rel => exact ⟨2, by omega, rfl, hm, hL, Lib.hid hD.out⟩
      case measure => simp [intOf]
    · have hXw : X = wr := hD.out
      subst hXw
      go_wp2_with fail
      refine (step3_any base N d mb f S D X hm.out.box hm.out.name HXX.out.2.2.2.log).mono ?_
      rintro e w2 ⟨rfl, hd3, hmv3⟩
      have hk3 := Kc.of_log hmv3 HXX.out.2.2.2.log
      have hrel2 : OpenMem w2 N E F G (some ⟨d, 0, none⟩) logB 0 false sz 0 ∧ Lists w2 w.heap.size (.slice la recs.length lc) recs ∧ OpenW X d mb f base S D 3 w2 := ⟨hm.out.kept hk3, hk3.lists hL.out, hd3, hmv3⟩
      have HREL := Lib.hid hrel2
      clear hrel2 hd3 hmv3 hk3
      go_wp2_with fail
      go_roundw
      case rel => exact ⟨3, by omega, rfl, Lib.hid HREL.out.1, Lib.hid HREL.out.2.1, Lib.hid HREL.out.2.2⟩
      case measure => simp [intOf]
    · obtain ⟨hd2, hmv⟩ := hD.out
      have HF := Lib.hid (And.intro hd2 hmv)
      have g0 : wr.cell? ⟨N, 0, none⟩ = some (.pointer (some ⟨d, 0, none⟩)) := cell_of_row _ _ _ _ _ _ hm.out.box
      have g1 : wr.cell? ⟨N + 1, 0, none⟩ = some (.string logB) := cell_of_row _ _ _ _ _ _ hm.out.name
      have g2 : wr.cell? ⟨N + 1 + 1, 0, none⟩ = some (.int .i64 sz) := cell_of_row _ _ _ _ _ _ hm.out.size
      clear hd2 hmv
      go_wp2_with fail
      go_ret3
      refine ⟨wr.heap.size, _, rfl, ?_, heap_alloc_new _ _, ?_, hL.out.later ((Below.refl _ _).alloc (Nat.le_refl _) _), ?_⟩
      · have h1 := HF.out.2.size
        have h2 := HXX.out.2.1.size
        omega
      · rw [HBS.out]
        exact HF.out.1.later ((Below.refl _ _).alloc (Nat.le_refl _) _)
      · exact ((Moved.of_below HXX.out.2.1).trans HF.out.2).alloc _
end Go.Proofs.Ytdglaacjefcfdaa
