/- LedgerNone's walk -/
import Derived.Test.YtdglaacjefcfdaaLNone
namespace Go.Proofs.Ytdglaacjefcfdaa
open Go.RowKit
theorem none_boxes (c : Array Value) (t : TypeId) (w : World) : ((w.alloc (.cells c t)).alloc (.cells c t)).heap[w.heap.size]? = some (.cells c t (0, 0)) ∧ ((w.alloc (.cells c t)).alloc (.cells c t)).heap[w.heap.size + 1]? = some (.cells c t (0, 0)) ∧ Below w.heap.size w ((w.alloc (.cells c t)).alloc (.cells c t)) := by
  refine ⟨?_, ?_, ((Below.refl _ _).alloc (Nat.le_refl _) _).alloc (by simp) _⟩
  · rw [Below.heap_alloc _ _ _ (by simp)]; exact heap_alloc_new _ _
  · have := heap_alloc_new (w.alloc (.cells c t)) (.cells c t)
    simpa using this
theorem none_two (w : World) : ((w.alloc (.cells #[.pointer none, .string ⟨#[]⟩, .int .i64 0, .int .i64 0, .bool false] 46)).alloc (.cells #[.pointer none, .pointer (some ⟨w.heap.size, 0, none⟩)] 27)).heap[w.heap.size]? = some (.cells #[.pointer none, .string ⟨#[]⟩, .int .i64 0, .int .i64 0, .bool false] 46 (0, 0)) ∧
    ((w.alloc (.cells #[.pointer none, .string ⟨#[]⟩, .int .i64 0, .int .i64 0, .bool false] 46)).alloc (.cells #[.pointer none, .pointer (some ⟨w.heap.size, 0, none⟩)] 27)).heap[w.heap.size + 1]? = some (.cells #[.pointer none, .pointer (some ⟨w.heap.size, 0, none⟩)] 27 (0, 0)) ∧
    Below w.heap.size w ((w.alloc (.cells #[.pointer none, .string ⟨#[]⟩, .int .i64 0, .int .i64 0, .bool false] 46)).alloc (.cells #[.pointer none, .pointer (some ⟨w.heap.size, 0, none⟩)] 27)) := by
  refine ⟨?_, ?_, ((Below.refl _ _).alloc (Nat.le_refl _) _).alloc (by simp) _⟩
  · rw [Below.heap_alloc _ _ _ (by simp)]; exact heap_alloc_new _ _
  · have := heap_alloc_new (w.alloc (.cells #[.pointer none, .string ⟨#[]⟩, .int .i64 0, .int .i64 0, .bool false] 46)) (.cells #[.pointer none, .pointer (some ⟨w.heap.size, 0, none⟩)] 27)
    simpa using this
set_option maxRecDepth 100000 in
set_option maxHeartbeats 2000000 in
theorem LedgerNone_any (n cap : Nat) (k s p : Int) (nm : ByteArray) (ao : Option Addr) (w : World) (hn : n ≤ 9223372036854775807) :
    Calls Try.prog 4 #[.agg #[.int .i64 k, .int .i64 s, .int .i64 p, .string nm, .slice ao n cap]] w fun e w' => e = .returned (.bool true) ∧ Below w.heap.size w w' := by
  go_enter Try.func4, Try.ntmps4
  go_wp2_with fail
  obtain ⟨b0, b1, hb⟩ := none_boxes #[.int .i64 k, .int .i64 s, .int .i64 p, .string nm, .slice ao n cap] 42 w
  generalize (World.alloc (World.alloc w _) _) = w1 at b0 b1 hb ⊢
  have HL := Lib.hid (long_any (w.heap.size + 1) n cap k s p nm ao w1 hn b1)
  have c3 : w1.cell? ⟨w.heap.size, 3, none⟩ = some (.string nm) := cell_of_row _ _ _ _ _ _ b0
  have c4 : w1.cell? ⟨w.heap.size, 4, none⟩ = some (.slice ao n cap) := cell_of_row _ _ _ _ _ _ b0
  have HB0 := Lib.hid b0
  have HB := Lib.hid hb
  clear b0 b1 hb
  refine HL.out.mono ?_
  rintro e w2 ⟨⟨r, rfl⟩, rfl⟩
  cases r with
  | true =>
    go_wp2_with fail
    refine (awake_any _).mono ?_
    rintro e w3 ⟨rfl, hb3⟩
    have HB3 := Lib.hid (Below.trans HB.out (hb3.mono HB.out.size))
    clear hb3
    go_wp2_with fail
    go_ret
    exact ⟨rfl, HB3.out⟩
  | false =>
    go_wp2_with fail
    obtain ⟨z0, z1, hbz⟩ := none_two w1
    obtain ⟨Z, hZ⟩ : ∃ Z, Z = w1.heap.size := ⟨_, rfl⟩
    rw [← hZ] at z0 z1 hbz ⊢
    generalize (World.alloc (World.alloc w1 _) _) = W at z0 z1 hbz ⊢
    have d3 : W.cell? ⟨w.heap.size, 3, none⟩ = some (.string nm) := (hbz.cell (by rw [hZ]; exact heap_lt HB0.out)).trans c3
    have d4 : W.cell? ⟨w.heap.size, 4, none⟩ = some (.slice ao n cap) := (hbz.cell (by rw [hZ]; exact heap_lt HB0.out)).trans c4
    have HBW := Lib.hid (Below.trans HB.out (hbz.mono (by rw [hZ]; exact HB.out.size)))
    have HZ := Lib.hid (And.intro z0 z1)
    clear hbz z0 z1 hZ c3 c4
    go_loopw [4] (fun i wr => ∃ j : Nat, j ≤ 2 ∧ i = .int .i64 j ∧ Hid (Below W.heap.size W wr)) (fun i _ => 2 - (intOf i).toNat)
    case atStart => exact ⟨0, by omega, rfl, Lib.hid (Below.refl _ _)⟩
    case round =>
      obtain ⟨j, hj, rfl, hbr⟩ := hrel
      have e3 : wr.cell? ⟨w.heap.size, 3, none⟩ = some (.string nm) := (hbr.out.cell (block_lt_of_cell d3)).trans d3
      have e4 : wr.cell? ⟨w.heap.size, 4, none⟩ = some (.slice ao n cap) := (hbr.out.cell (block_lt_of_cell d4)).trans d4
      have y0 : wr.cell? ⟨Z + 1, 0, none⟩ = some (.pointer none) := cell_of_row _ _ _ _ _ _ ((hbr.out.block _ (heap_lt HZ.out.2)).trans HZ.out.2)
      have y1 : wr.cell? ⟨Z + 1, 1, none⟩ = some (.pointer (some ⟨Z, 0, none⟩)) := cell_of_row _ _ _ _ _ _ ((hbr.out.block _ (heap_lt HZ.out.2)).trans HZ.out.2)
      have hnil : ∀ w', Calls Try.prog 26 #[.pointer none] w' fun e w'' => e = .returned (.bool true) ∧ w' = w'' := lnone_nil
      have hzer : ∀ w', Below wr.heap.size wr w' → Calls Try.prog 26 #[.pointer (some ⟨Z, 0, none⟩)] w' fun e w'' => e = .returned (.bool true) ∧ w' = w'' :=
        fun w' hb => lnone_zero Z w' (cell_of_row _ _ _ _ _ _ ((hb.block _ (Nat.lt_of_lt_of_le (heap_lt HZ.out.1) hbr.out.size)).trans ((hbr.out.block _ (heap_lt HZ.out.1)).trans HZ.out.1)))
      have HNIL := Lib.hid hnil
      have HZER := Lib.hid hzer
      clear hnil hzer
      have hj3 : j = 0 ∨ j = 1 ∨ j = 2 := by omega
      rcases hj3 with rfl | rfl | rfl
      · go_wp2_with fail
        refine (Add_none (.pointer none) _ wr (fun w' _ => HNIL.out w') ⟨_, rfl⟩).mono ?_
        rintro e w3 ⟨rfl, hb3⟩
        have HB3 := Lib.hid hb3
        clear hb3
        go_wp2_with fail
        refine (Len_none _ w3 (HNIL.out w3)).mono ?_
        rintro e w4 ⟨rfl, rfl⟩
        go_wp2_with fail
        refine (Size_none _ w3 (HNIL.out w3)).mono ?_
        rintro e w4 ⟨rfl, rfl⟩
        go_wp2_with fail
        refine (Broken_none _ w3 (HNIL.out w3)).mono ?_
        rintro e w4 ⟨rfl, rfl⟩
        go_wp2_with fail
        go_roundw
        case rel => exact ⟨1, by omega, rfl, Lib.hid (hbr.out.trans (HB3.out.mono hbr.out.size))⟩
        case measure => simp [intOf]
      · go_wp2_with fail
        refine (Add_none (.pointer (some ⟨Z, 0, none⟩)) _ wr HZER.out ⟨_, rfl⟩).mono ?_
        rintro e w3 ⟨rfl, hb3⟩
        have HB3 := Lib.hid hb3
        clear hb3
        go_wp2_with fail
        refine (Len_none _ w3 (HZER.out w3 HB3.out)).mono ?_
        rintro e w4 ⟨rfl, rfl⟩
        go_wp2_with fail
        refine (Size_none _ w3 (HZER.out w3 HB3.out)).mono ?_
        rintro e w4 ⟨rfl, rfl⟩
        go_wp2_with fail
        refine (Broken_none _ w3 (HZER.out w3 HB3.out)).mono ?_
        rintro e w4 ⟨rfl, rfl⟩
        go_wp2_with fail
        go_roundw
        case rel => exact ⟨2, by omega, rfl, Lib.hid (hbr.out.trans (HB3.out.mono hbr.out.size))⟩
        case measure => simp [intOf]
      · go_wp2_with fail
        refine (Open_nil nm wr).mono ?_
        rintro e w3 ⟨rfl, hb3⟩
        have HB3 := Lib.hid hb3
        clear hb3
        go_wp2_with fail
        refine (awake_any w3).mono ?_
        rintro e w4 ⟨rfl, hb4⟩
        have HB4 := Lib.hid hb4
        clear hb4
        go_wp2_with fail
        go_ret
        refine ⟨rfl, ?_⟩
        have s1 := HBW.out.size
        have s2 := hbr.out.size
        have s3 := HB3.out.size
        exact HBW.out.trans ((hbr.out.mono (by omega)).trans ((HB3.out.mono (by omega)).trans (HB4.out.mono (by omega))))
end Go.Proofs.Ytdglaacjefcfdaa
