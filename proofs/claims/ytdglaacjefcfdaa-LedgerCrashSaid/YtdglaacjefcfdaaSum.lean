/- frame.Sum, walked -/
import Derived.Test.YtdglaacjefcfdaaSums
import Derived.Test.YtdglaacjefcfdaaMem
namespace Go.Proofs.Ytdglaacjefcfdaa
open Go.RowKit
theorem bxor_bd (a c : Nat) (hc : c < 256) : 0 ≤ bits .xor .u8 ((a : Int) % 256) (c : Int) ∧ bits .xor .u8 ((a : Int) % 256) (c : Int) < 256 := by
  have e1 : ((a : Int) % 256) = ((a % 256 : Nat) : Int) := by omega
  rw [e1, u8_xor_nat _ _ (by omega) hc]
  have h3 : (a % 256) ^^^ c < 256 := Nat.xor_lt_two_pow (n := 8) (by omega) (by omega)
  omega
theorem crcL_succ (l : List UInt8) (k : Nat) (s : BitVec 32) (h : k < l.length) : Fr.crcL s (Fr.bv (l.take (k + 1))) = Fr.bs (Fr.crcL s (Fr.bv (l.take k))) (l.getD k 0).toBitVec := by
  have e : (l.take (k + 1)).map (·.toBitVec) = (l.take k).map (·.toBitVec) ++ [(l.getD k 0).toBitVec] := by
    rw [List.take_succ_eq_append_getElem h, List.map_append]; simp [List.getD_eq_getElem?_getD, h]
  unfold Fr.crcL Fr.bv
  rw [e, List.foldl_append]; rfl
set_option maxRecDepth 100000 in
set_option maxHeartbeats 400000 in
theorem Sum_any (ao : Option Addr) (n cap : Nat) (l : List UInt8) (w : World) (hs : IsBytes w ao n cap l) :
    Calls Try.prog 47 #[.slice ao n cap] w fun e w' => e = .returned (.int .u32 ((Fr.sumB l).toNat : Int)) ∧ Below w.heap.size w w' := by
  obtain ⟨hl, hnc, hcm, hat, _⟩ := hs
  unfold maxLen at hcm
  have hz := Try.zeroValue_tab
  go_enter Try.func47, Try.ntmps47
  go_wp2_with fail
  refine (sums_any _).mono ?_
  rintro e w1 ⟨rfl, hb1⟩
  have hsz : (tab 256).size = 256 := by simp [tab]
  have h1 : (tab 256).all (·.oneCell') = true := by
    rw [Array.all_eq_true]
    intro i hi
    have := tab_get 256 i (by omega)
    rw [Array.getElem?_eq_getElem hi] at this
    injection this with this
    rw [this, if_pos (by omega)]; rfl
  have H1 := Lib.hid h1
  have HS := Lib.hid hsz
  have hh : (w1.alloc (.cells zero256 105)).heap[w1.heap.size]? = some (.cells (tab 0) 105 (0, 0)) := by
    rw [← zero_tab]; exact heap_alloc_new _ _
  have HH := Lib.hid hh
  have H0 : Hid ((tab 0).size = (tab 256).size) := by show _ = _; simp [tab]
  clear hsz h1 hh
  go_wp2_with (first | (refine wpList_store_row rfl 105 _ _ rfl w1.heap.size (tab 256) rfl rfl _ (tab 0) HH.out (by rw [HS.out]; kernel_rfl) H0.out H1.out ?_))
  have hh2 := setRow_heap (w1.alloc (.cells zero256 105)) w1.heap.size (tab 0) (tab 256) _ _ HH.out
  have hb2 : Below w1.heap.size w1 ((w1.alloc (.cells zero256 105)).setRow w1.heap.size (tab 256)) := by
    refine ⟨rfl, rfl, rfl, by simp, fun k hk => ?_⟩
    rw [setRow_other _ _ _ _ (by omega)]; exact heap_alloc_old _ _ hk
  obtain ⟨W, hW⟩ : ∃ W, W = (w1.alloc (.cells zero256 105)).setRow w1.heap.size (tab 256) := ⟨_, rfl⟩
  rw [← hW] at hh2 hb2 ⊢
  clear hW
  have hb : Below w.heap.size w W := hb1.trans (hb2.mono hb1.size)
  obtain ⟨T, hT⟩ : ∃ T, T = w1.heap.size := ⟨_, rfl⟩
  rw [← hT] at hh2 ⊢
  clear hT hb2 hb1
  go_loop [4, 10] (fun s i => ∃ k : Nat, k ≤ n ∧ i = .int .i64 k ∧ s = .int .u32 ((Fr.crcL (BitVec.allOnes 32) (Fr.bv (l.take k))).toNat : Int)) (fun _ i => n - (intOf i).toNat)
  case atStart => exact ⟨0, by omega, rfl, by simp [Fr.crcL, Fr.bv]⟩
  case round =>
    obtain ⟨k, hk, rfl, rfl⟩ := hrel
    by_cases hlt : k < n
    · obtain ⟨b, off, rfl, hat2⟩ := hat (by intro h; rw [h] at hl; simp at hl; omega)
      have hcell : W.cell? ⟨b, off + k, none⟩ = some (.int .u8 ((l.getD k 0).toNat : Int)) := by
        have hk' : k < l.length := by omega
        have := hat2 k hk'
        exact (hb.cell (p := ⟨b, off + k, none⟩) (block_lt_of_cell this)).trans this
      have hs := crcL_succ l k (BitVec.allOnes 32) (by omega)
      obtain ⟨s, hsd⟩ : ∃ s, s = Fr.crcL (BitVec.allOnes 32) (Fr.bv (l.take k)) := ⟨_, rfl⟩
      rw [← hsd] at hs ⊢
      obtain ⟨c, hc⟩ : ∃ c, c = l.getD k 0 := ⟨_, rfl⟩
      rw [← hc] at hs hcell
      have hbd := bxor_bd s.toNat c.toNat c.toNat_lt
      obtain ⟨hx0, hx1⟩ := hbd
      have htab : W.cell? ⟨T, (bits .xor .u8 ((s.toNat : Int) % 256) (c.toNat : Int)).toNat, none⟩ = some (.int .u32 ((Fr.fk 8 (BitVec.ofNat 32 (bits .xor .u8 ((s.toNat : Int) % 256) (c.toNat : Int)).toNat)).toNat : Int)) := by
        rw [cell_of_row _ _ _ _ _ _ hh2, tab_get 256 _ (by omega), if_pos (by omega)]
      have hcl := c.toNat_lt
      have hsl := s.isLt
      have HSS := Lib.hid hs
      have HSD := Lib.hid hsd
      have HC := Lib.hid hc
      have HL := Lib.hid hl
      have HH2 := Lib.hid hh2
      clear hs hsd hc hl hh2 hat hat2
      go_wp2
      go_round
      case rel => exact ⟨k + 1, by omega, by go_num, by rw [HSS.out, Fr.step_bs]⟩
      case measure => simp [intOf]; omega
    · obtain rfl : k = n := by omega
      go_wp2
      go_ret
      refine ⟨?_, hb⟩
      rw [List.take_of_length_le (by omega)]
      unfold Fr.sumB
      exact congrArg (fun x => Ending.returned (.int .u32 x)) (Fr.not_u32 _)
end Go.Proofs.Ytdglaacjefcfdaa
