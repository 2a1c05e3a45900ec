/- ledger: Open -/
import Derived.Test.YtdglaacjefcfdaaLOpen1
namespace Go.Proofs.Ytdglaacjefcfdaa
open Go.RowKit
theorem enters_1 : ∀ args w, (callFunc 40 args).run Try.prog w = .ok (.enter 40 args) w := enters_of (hf := Try.func40) (hname := by kernel_rfl) (hb := rfl)
theorem enters_2 : ∀ args w, (callFunc 41 args).run Try.prog w = .ok (.enter 41 args) w := enters_of (hf := Try.func41) (hname := by kernel_rfl) (hb := rfl)
theorem enters_3 : ∀ args w, (callFunc 43 args).run Try.prog w = .ok (.enter 43 args) w := enters_of (hf := Try.func43) (hname := by kernel_rfl) (hb := rfl)
/-- the memory of Open behind its boxes. -/
theorem open_boxes (dv : Value) (nm : ByteArray) (w w1 : World) (h : (((w.alloc (.cells #[dv] 25)).alloc (.cells #[.string nm] 9)).alloc (.cells #[.int .i64 0] 3)).alloc (.cells #[.int .i64 0] 3) = w1) :
    w1.heap[w.heap.size]? = some (.cells #[dv] 25 (0, 0)) ∧ w1.heap[w.heap.size + 1]? = some (.cells #[.string nm] 9 (0, 0)) ∧ w1.heap[w.heap.size + 1 + 1]? = some (.cells #[.int .i64 0] 3 (0, 0)) ∧ w1.heap[w.heap.size + 1 + 1 + 1]? = some (.cells #[.int .i64 0] 3 (0, 0)) ∧ Below w.heap.size w w1 ∧ w1.heap.size = w.heap.size + 4 := by
  subst h
  refine ⟨?_, ?_, ?_, ?_, ((((Below.refl _ _).alloc (Nat.le_refl _) _).alloc (by simp) _).alloc (by simp <;> omega) _).alloc (by simp <;> omega) _, by simp⟩
  · rw [Below.heap_alloc _ _ _ (by simp <;> omega), Below.heap_alloc _ _ _ (by simp <;> omega), Below.heap_alloc _ _ _ (by simp)]
    exact heap_alloc_new _ _
  · rw [Below.heap_alloc _ _ _ (by simp <;> omega), Below.heap_alloc _ _ _ (by simp)]
    have := heap_alloc_new (w.alloc (.cells #[dv] 25)) (.cells #[.string nm] 9)
    simpa using this
  · rw [Below.heap_alloc _ _ _ (by simp)]
    have := heap_alloc_new ((w.alloc (.cells #[dv] 25)).alloc (.cells #[.string nm] 9)) (.cells #[.int .i64 0] 3)
    simpa using this
  · have := heap_alloc_new (((w.alloc (.cells #[dv] 25)).alloc (.cells #[.string nm] 9)).alloc (.cells #[.int .i64 0] 3)) (.cells #[.int .i64 0] 3)
    simpa using this
/-- the memory of Open ahead of its loop. -/
theorem open_mem (N d : Nat) (er : Int) (fr : Bool) (sz rest : Int) (w1 X : World) (hs : w1.heap.size = N + 4) (b0 : w1.heap[N]? = some (.cells #[.pointer (some ⟨d, 0, none⟩)] 25 (0, 0))) (b1 : w1.heap[N + 1]? = some (.cells #[.string logB] 9 (0, 0)))
    (b2 : w1.heap[N + 1 + 1]? = some (.cells #[.int .i64 sz] 3 (0, 0))) (b3 : w1.heap[N + 1 + 1 + 1]? = some (.cells #[.int .i64 rest] 3 (0, 0)))
    (h : ((w1.alloc (.cells #[.int .i64 er] 30)).alloc (.cells #[.bool fr] 4)).alloc (.cells #[.func (.func 40) #[] #[.pointer (some ⟨N + 4 + 1, 0, none⟩), .pointer (some ⟨N, 0, none⟩), .pointer (some ⟨N + 1, 0, none⟩), .pointer (some ⟨N + 4, 0, none⟩)],
    .func (.func 41) #[] #[.pointer (some ⟨N + 1 + 1 + 1, 0, none⟩), .pointer (some ⟨N, 0, none⟩), .pointer (some ⟨N + 1, 0, none⟩), .pointer (some ⟨N + 1 + 1, 0, none⟩)],
    .func (.func 43) #[] #[.pointer (some ⟨N, 0, none⟩), .pointer (some ⟨N + 1, 0, none⟩)]] 73) = X) :
    OpenMem X N (N + 4) (N + 4 + 1) (N + 4 + 1 + 1) (some ⟨d, 0, none⟩) logB er fr sz rest ∧ Below w1.heap.size w1 X := by
  have hb : Below w1.heap.size w1 X := by rw [← h]; exact (((Below.refl _ _).alloc (Nat.le_refl _) _).alloc (by simp) _).alloc (by simp <;> omega) _
  refine ⟨⟨(hb.block _ (by omega)).trans b0, (hb.block _ (by omega)).trans b1, (hb.block _ (by omega)).trans b2, (hb.block _ (by omega)).trans b3, ?_, ?_, ?_⟩, hb⟩
  · rw [← h, Below.heap_alloc _ _ _ (by simp <;> omega), Below.heap_alloc _ _ _ (by simp <;> omega), ← hs]
    exact heap_alloc_new _ _
  · rw [← h, Below.heap_alloc _ _ _ (by simp <;> omega), ← hs]
    have := heap_alloc_new (w1.alloc (.cells #[.int .i64 er] 30)) (.cells #[.bool fr] 4)
    simpa using this
  · rw [← h]
    have := heap_alloc_new ((w1.alloc (.cells #[.int .i64 er] 30)).alloc (.cells #[.bool fr] 4)) (.cells #[.func (.func 40) #[] #[.pointer (some ⟨N + 4 + 1, 0, none⟩), .pointer (some ⟨N, 0, none⟩), .pointer (some ⟨N + 1, 0, none⟩), .pointer (some ⟨N + 4, 0, none⟩)],
    .func (.func 41) #[] #[.pointer (some ⟨N + 1 + 1 + 1, 0, none⟩), .pointer (some ⟨N, 0, none⟩), .pointer (some ⟨N + 1, 0, none⟩), .pointer (some ⟨N + 1 + 1, 0, none⟩)],
    .func (.func 43) #[] #[.pointer (some ⟨N, 0, none⟩), .pointer (some ⟨N + 1, 0, none⟩)]] 73)
    simpa [hs] using this
/-- the disk behind so many of Open's steps, where it had no file. -/
def OpenD (X : World) (d mb base : Nat) : Nat → World → Prop
  | 0, wr => X = wr
  | _ + 1, wr => ∃ f, X.heap.size ≤ f ∧ DiskOwn wr (-1) d mb f base [] [] ∧ Moved d mb f base X wr
theorem OpenMem.funcs {w : World} {N E F G : Nat} {dp : Option Addr} {nm : ByteArray} {er : Int} {fr : Bool} {sz rest : Int} (h : OpenMem w N E F G dp nm er fr sz rest) :
    w.cell? ⟨G, 0, none⟩ = some (.func (.func 40) #[] #[.pointer (some ⟨F, 0, none⟩), .pointer (some ⟨N, 0, none⟩), .pointer (some ⟨N + 1, 0, none⟩), .pointer (some ⟨E, 0, none⟩)]) ∧
    w.cell? ⟨G, 1, none⟩ = some (.func (.func 41) #[] #[.pointer (some ⟨N + 1 + 1 + 1, 0, none⟩), .pointer (some ⟨N, 0, none⟩), .pointer (some ⟨N + 1, 0, none⟩), .pointer (some ⟨N + 1 + 1, 0, none⟩)]) ∧
    w.cell? ⟨G, 2, none⟩ = some (.func (.func 43) #[] #[.pointer (some ⟨N, 0, none⟩), .pointer (some ⟨N + 1, 0, none⟩)]) :=
  ⟨cell_of_row _ _ _ _ _ _ h.steps, cell_of_row _ _ _ _ _ _ h.steps, cell_of_row _ _ _ _ _ _ h.steps⟩
set_option maxRecDepth 100000 in
set_option maxHeartbeats 2000000 in
theorem Open_new (base d mb : Nat) (w : World) (hbs : base ≤ w.heap.size) (hd : DiskNo w (-1) d mb) :
    Calls Try.prog 16 #[.pointer (some ⟨d, 0, none⟩), .string logB] w
      fun e w' => ∃ l f, e = .returned (.tuple #[.pointer (some ⟨l, 0, none⟩), .slice none 0 0, .int .i64 0]) ∧ w.heap.size ≤ l ∧ w.heap.size ≤ f ∧ LedRow w' l d 0 0 false ∧ DiskOwn w' (-1) d mb f base [] [] ∧ Moved d mb f base w w' := by
  have hmf : ∀ (fn : Fn) (first cap : Array Value) (w : World), (Instr.makeFunc fn first cap).run Try.prog w = .ok (.func fn first cap) w := fun _ _ _ _ => rfl
  have HD := Lib.hid hd
  clear hd
  generalize hnm : logB = nm
  have HNM := Lib.hid hnm
  clear hnm
  go_enter Try.func16, Try.ntmps16
  go_wp2_with fail
  generalize hw1 : (((w.alloc (.cells #[.pointer (some ⟨d, 0, none⟩)] 25)).alloc (.cells #[.string nm] 9)).alloc (.cells #[.int .i64 0] 3)).alloc (.cells #[.int .i64 0] 3) = w1
  obtain ⟨b0, b1, b2, b3, hB1, hS1⟩ := open_boxes _ nm w w1 hw1
  clear hw1
  generalize hN : w.heap.size = N at b0 b1 b2 b3 hS1 hbs ⊢
  have hd1 : DiskNo w1 (-1) d mb := HD.out.later hB1
  have HR := Lib.hid (show Calls Try.prog 12 #[.pointer (some ⟨d, 0, none⟩), .string nm] w1 _ by rw [← HNM.out]; obtain ⟨st, c, _, _, h1, h2⟩ := hd1; exact Read_none d mb c st (-1) w1 h1 h2)
  have HX := Lib.hid (And.intro b0 (And.intro b1 (And.intro b2 (And.intro b3 (And.intro hB1 hd1)))))
  clear b0 b1 b2 b3 hB1 hd1
  refine HR.out.mono ?_
  rintro e w' ⟨rfl, rfl⟩
  go_wp2_with fail
  generalize hX : (World.alloc (World.alloc (World.alloc w1 _) _) _) = X
  obtain ⟨hmem, hbX⟩ := open_mem N d 6 true 0 0 w1 X hS1 HX.out.1 (by rw [HNM.out]; exact HX.out.2.1) HX.out.2.2.1 HX.out.2.2.2.1 hX
  have HXX := Lib.hid (And.intro hbX hmem)
  clear hX hbX hmem
  have en1 := enters_1
  have en2 := enters_2
  have en3 := enters_3
  go_loopw [37] (fun i wr => ∃ k : Nat, k ≤ 3 ∧ i = .int .i64 k ∧ Hid (OpenMem wr N (N + 4) (N + 4 + 1) (N + 4 + 1 + 1) (some ⟨d, 0, none⟩) logB 6 true 0 0) ∧ Hid (OpenD X d mb base k wr)) (fun i _ => 3 - (intOf i).toNat)
  case atStart => exact ⟨0, by omega, rfl, Lib.hid HXX.out.2, Lib.hid rfl⟩
  case round =>
    obtain ⟨k, hk, rfl, hm, hD⟩ := hrel
    obtain ⟨f0, f1, f2⟩ := hm.out.funcs
    have hk4 : k = 0 ∨ k = 1 ∨ k = 2 ∨ k = 3 := by omega
    rcases hk4 with rfl | rfl | rfl | rfl
    · have hXw : X = wr := hD.out
      subst hXw
      go_wp2_with fail
      have hno : DiskNo X (-1) d mb := HX.out.2.2.2.2.2.later HXX.out.1
      refine (step1_fresh base N (N + 4) (N + 4 + 1) d mb X (by have := HXX.out.1.size; omega) hm.out.box hm.out.name hm.out.fresh hno).mono ?_
      rintro e w2 ⟨rfl, f, hf, hd2, hmv⟩
      have hrel2 : OpenMem w2 N (N + 4) (N + 4 + 1) (N + 4 + 1 + 1) (some ⟨d, 0, none⟩) logB 6 true 0 0 ∧ OpenD X d mb base 1 w2 := ⟨hm.out.kept (Kc.of_no hmv hno hf), f, hf, hd2, hmv⟩
      have HREL := Lib.hid hrel2
      clear hrel2 hd2 hmv hno
      go_wp2_with fail
      go_roundw
      case rel => exact ⟨1, by omega, rfl, Lib.hid HREL.out.1, Lib.hid HREL.out.2⟩
      case measure => simp [intOf]
    · go_wp2_with fail
      refine (step2_whole N wr hm.out.rest).mono ?_
      rintro e w2 ⟨rfl, rfl⟩
      go_wp2_with fail
      go_roundw
      case rel => exact ⟨2, by omega, rfl, hm, Lib.hid hD.out⟩
      case measure => simp [intOf]
    · obtain ⟨f, hf, hd2, hmv⟩ := hD.out
      have HF := Lib.hid (And.intro hf (And.intro hd2 hmv))
      clear hf hd2 hmv
      go_wp2_with fail
      refine (step3_any base N d mb f [] [] wr hm.out.box hm.out.name HF.out.2.1.log).mono ?_
      rintro e w2 ⟨rfl, hd3, hmv3⟩
      have hrel2 : OpenMem w2 N (N + 4) (N + 4 + 1) (N + 4 + 1 + 1) (some ⟨d, 0, none⟩) logB 6 true 0 0 ∧ OpenD X d mb base 3 w2 := ⟨hm.out.kept (Kc.of_log hmv3 HF.out.2.1.log), f, HF.out.1, hd3, HF.out.2.2.trans hmv3⟩
      have HREL := Lib.hid hrel2
      clear hrel2 hd3 hmv3
      go_wp2_with fail
      go_roundw
      case rel => exact ⟨3, by omega, rfl, Lib.hid HREL.out.1, Lib.hid HREL.out.2⟩
      case measure => simp [intOf]
    · obtain ⟨f, hf, hd2, hmv⟩ := hD.out
      have HF := Lib.hid (And.intro hf (And.intro hd2 hmv))
      have g0 : wr.cell? ⟨N, 0, none⟩ = some (.pointer (some ⟨d, 0, none⟩)) := cell_of_row _ _ _ _ _ _ hm.out.box
      have g1 : wr.cell? ⟨N + 1, 0, none⟩ = some (.string logB) := cell_of_row _ _ _ _ _ _ hm.out.name
      have g2 : wr.cell? ⟨N + 1 + 1, 0, none⟩ = some (.int .i64 0) := cell_of_row _ _ _ _ _ _ hm.out.size
      clear hf hd2 hmv
      go_wp2_with fail
      go_ret3
      refine ⟨wr.heap.size, f, rfl, ?_, ?_, heap_alloc_new _ _, HF.out.2.1.later ((Below.refl _ _).alloc (Nat.le_refl _) _), ?_⟩
      · have h1 := HF.out.2.2.size
        have h2 := HXX.out.1.size
        omega
      · have h1 := HF.out.1
        have h2 := HXX.out.1.size
        omega
      · exact ((Moved.of_below (HX.out.2.2.2.2.1.trans (HXX.out.1.mono (by omega)))).trans HF.out.2.2).alloc _
end Go.Proofs.Ytdglaacjefcfdaa
