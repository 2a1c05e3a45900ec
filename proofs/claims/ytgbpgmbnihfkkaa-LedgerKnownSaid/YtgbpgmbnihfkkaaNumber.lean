/- the model's bits of numbers of 32 and 8 bits, as the plain law's -/
import Derived.Test.YtgbpgmbnihfkkaaPFrame4
import Derived.WalkKit
import Derived.Test.YtgbpgmbnihfkkaaRows
import Derived.WalkSpells
import Derived.WalkLawsBesides
import Derived.Lib.Hide
import Derived.WalkSmall
import Derived.Deep.QuietTactic
import Derived.BigQuiet
namespace Go.Proofs.Ytgbpgmbnihfkkaa.Fr
open Go.RowKit
theorem step_f1 (s : BitVec 32) : bits .xor .u32 ((s.toNat : Int) / 2) (3988292384 * bits .and .u32 (s.toNat : Int) 1 % 4294967296) = ((f1 s).toNat : Int) := by
  have h := s.isLt
  have e1 : bits .and .u32 (s.toNat : Int) 1 = ((s.toNat % 2 : Nat) : Int) := by
    have := u32_and_nat s.toNat 1 h (by omega)
    rw [nat_mask1] at this; exact this
  have e0 : s.getLsbD 0 = decide (s.toNat % 2 = 1) := by
    show s.toNat.testBit 0 = _
    rw [Nat.testBit_zero]
  rw [e1]
  have e2 : ((s.toNat : Int) / 2) = ((s.toNat / 2 : Nat) : Int) := by omega
  rw [e2]
  have e3 : (s >>> 1).toNat = s.toNat / 2 := by rw [BitVec.toNat_ushiftRight, Nat.shiftRight_eq_div_pow]
  by_cases hp : s.toNat % 2 = 1
  · have e4 : (3988292384 * ((s.toNat % 2 : Nat) : Int) % 4294967296) = ((3988292384 : Nat) : Int) := by rw [hp]; rfl
    rw [e4, u32_xor_nat _ _ (by omega) (by omega)]
    unfold f1
    rw [e0, hp]
    simp only [decide_true, if_true, BitVec.toNat_xor, e3]
    rfl
  · have e4 : (3988292384 * ((s.toNat % 2 : Nat) : Int) % 4294967296) = ((0 : Nat) : Int) := by rw [show s.toNat % 2 = 0 by omega]; rfl
    rw [e4, u32_xor_nat _ _ (by omega) (by omega)]
    unfold f1
    rw [e0]
    simp [hp, e3]
theorem fk_succ (m : Nat) (s : BitVec 32) : fk (m + 1) s = f1 (fk m s) := by rw [fk_add m 1]; rfl
/-- a byte through the register, as 'frame.Sum' reckons it. -/
theorem step_bs (s : BitVec 32) (c : UInt8) :
    bits .xor .u32 ((s.toNat : Int) / 256) ((fk 8 (BitVec.ofNat 32 (bits .xor .u8 ((s.toNat : Int) % 256) (c.toNat : Int)).toNat)).toNat : Int) = ((bs s c.toBitVec).toNat : Int) := by
  have h := s.isLt
  have hc := c.toNat_lt
  have e1 : ((s.toNat : Int) % 256) = ((s.toNat % 256 : Nat) : Int) := by omega
  have e2 : ((s.toNat : Int) / 256) = ((s.toNat / 256 : Nat) : Int) := by omega
  rw [e1, e2, u8_xor_nat _ _ (by omega) (by omega), u32_xor_nat _ _ (by omega) (BitVec.isLt _), bs_table, BitVec.toNat_xor, BitVec.toNat_ushiftRight, Nat.shiftRight_eq_div_pow]
  congr 3
  have : BitVec.ofNat 32 ((((s.toNat % 256) ^^^ c.toNat : Nat) : Int)).toNat = (s ^^^ c.toBitVec.setWidth 32) &&& 255#32 := by
    apply BitVec.eq_of_toNat_eq
    have h3 : (s.toNat % 256) ^^^ c.toNat < 256 := Nat.xor_lt_two_pow (n := 8) (by omega) (by omega)
    have h5 : (c.toBitVec.setWidth 32).toNat = c.toNat := by
      rw [BitVec.toNat_setWidth]; exact Nat.mod_eq_of_lt (by show c.toNat < _; omega)
    rw [BitVec.toNat_ofNat, Int.toNat_natCast, BitVec.toNat_and, BitVec.toNat_xor, h5, Nat.mod_eq_of_lt (by omega)]
    show _ = (s.toNat ^^^ c.toNat) &&& 255
    rw [nat_mask8, Nat.xor_mod_two_pow (n := 8), Nat.mod_eq_of_lt (a := c.toNat) (by omega)]
  rw [this]
theorem not_u32 (s : BitVec 32) : bits .xor .u32 IntKind.u32.max (s.toNat : Int) = ((~~~ s).toNat : Int) := by
  have h := s.isLt
  have e : IntKind.u32.max = ((4294967295 : Nat) : Int) := by decide
  rw [e, u32_xor_nat _ _ (by omega) h]
  have : (4294967295 ^^^ s.toNat) = (~~~ s).toNat := by
    rw [← BitVec.xor_allOnes, BitVec.xor_comm, BitVec.toNat_xor, BitVec.toNat_allOnes]
  rw [this]
theorem not_nat (n : Nat) (h : n < 4294967296) : bits .xor .u32 IntKind.u32.max (n : Int) = ((4294967295 - n : Nat) : Int) := by
  have := not_u32 (BitVec.ofNat 32 n)
  rw [BitVec.toNat_ofNat, Nat.mod_eq_of_lt (by omega)] at this
  rw [this, BitVec.toNat_not, BitVec.toNat_ofNat, Nat.mod_eq_of_lt (by omega)]
end Go.Proofs.Ytgbpgmbnihfkkaa.Fr

namespace Go.Proofs.Ytgbpgmbnihfkkaa
open Go.RowKit
def zero256 : Array Value := Array.replicate 256 (.int .u32 0)
def tab (k : Nat) : Array Value := (Array.range 256).map (fun i => if i < k then .int .u32 ((Fr.fk 8 (BitVec.ofNat 32 i)).toNat : Int) else .int .u32 0)
theorem zero_tab : zero256 = tab 0 := by
  apply Array.ext
  · simp [zero256, tab]
  · intro i h1 h2; simp [zero256, tab]
theorem tab_get (k i : Nat) (h : i < 256) : (tab k)[i]? = some (if i < k then .int .u32 ((Fr.fk 8 (BitVec.ofNat 32 i)).toNat : Int) else .int .u32 0) := by
  simp [tab, h]
theorem tab_set (k : Nat) (_h : k < 256) : (tab k).setIfInBounds k (.int .u32 ((Fr.fk 8 (BitVec.ofNat 32 k)).toNat : Int)) = tab (k + 1) := by
  apply Array.ext_getElem?
  intro i
  rw [Array.getElem?_setIfInBounds]
  by_cases hi : i < 256
  · rw [tab_get k i hi, tab_get (k + 1) i hi]
    by_cases hik : k = i
    · subst hik; simp [tab, _h]
    · simp only [hik, if_false]
      by_cases h : i < k
      · simp [h, show i < k + 1 by omega]
      · simp [h, show ¬ i < k + 1 by omega]
  · rw [if_neg (by omega)]; simp [tab, hi]
theorem Try.zeroValue_tab (w : World) : (zeroValue 91).run Try.prog w = .ok (.agg zero256) w := by kernel_rfl
set_option maxRecDepth 100000 in
set_option maxHeartbeats 400000 in
theorem sums_any (w : World) :
    Calls Try.prog 47 #[] w fun e w' => e = .returned (.agg (tab 256)) ∧ Below w.heap.size w w' := by
  have hz := Try.zeroValue_tab
  go_enter Try.func47, Try.ntmps47
  go_wp2
  obtain ⟨B, hB⟩ : ∃ B, B = w.heap.size := ⟨_, rfl⟩
  have hh : (w.alloc (.cells zero256 91)).heap[B]? = some (.cells (tab 0) 91 (0, 0)) := by
    rw [hB, ← zero_tab]; exact heap_alloc_new _ _
  have hb : Below B w (w.alloc (.cells zero256 91)) := (Below.refl _ _).alloc (by omega) _
  rw [← hB]
  obtain ⟨W, hW⟩ : ∃ W, W = w.alloc (.cells zero256 91) := ⟨_, rfl⟩
  rw [← hW] at hh hb ⊢
  clear hW
  go_loopw [1, 2, 3, 8] (fun _ _ i _ wr => ∃ k : Nat, k ≤ 256 ∧ i = .int .i64 k ∧ wr.heap[B]? = some (.cells (tab k) 91 (0, 0)) ∧ Below B w wr) (fun _ _ i _ _ => 256 - (intOf i).toNat)
  case atStart => exact ⟨0, by omega, rfl, hh, hb⟩
  case round =>
    obtain ⟨k, hk, rfl, hh, hb⟩ := hrel
    by_cases hlt : k < 256
    · have HB := Lib.hid hB
      clear hB
      have HH := Lib.hid hh
      clear hh
      have hc : wr.cell? ⟨B, k, none⟩ = some (.int .u32 0) := by
        rw [cell_of_row _ _ _ _ _ _ HH.out, tab_get k k hlt, if_neg (by omega)]
      have hf : wr.frozen? ⟨B, k, none⟩ = false := frozen_of_row _ _ _ _ _ HH.out
      go_wp2
      go_loop [2, 8] (fun n j => ∃ m : Nat, m ≤ 8 ∧ j = .int .i64 m ∧ n = .int .u32 ((Fr.fk m (BitVec.ofNat 32 k)).toNat : Int)) (fun _ j => 8 - (intOf j).toNat)
      case atStart => exact ⟨0, by omega, rfl, by simp [Fr.fk]; omega⟩
      case round =>
        obtain ⟨m, hm, rfl, rfl⟩ := hrel
        by_cases hmt : m < 8
        · have hlim := (Fr.fk m (BitVec.ofNat 32 k)).isLt
          go_wp2
          go_round
          case rel => exact ⟨m + 1, by omega, by go_num, by rw [Fr.step_f1, Fr.fk_succ]⟩
          case measure => simp [intOf]; omega
        · obtain rfl : m = 8 := by omega
          go_wp2
          go_roundw
          case rel =>
            refine ⟨k + 1, by omega, by go_num, ?_, hb.setCell (by simp) _⟩
            rw [heap_setCell_same _ _ _ _ _ _ HH.out, tab_set k hlt]
          case measure => simp [intOf]; omega
    · obtain rfl : k = 256 := by omega
      have HB := Lib.hid hB
      clear hB
      have hs : (tab 256).size = 256 := by simp [tab]
      have h1 : (tab 256).all (·.oneCell') = true := by
        rw [Array.all_eq_true]
        intro i hi
        have := tab_get 256 i (by omega)
        rw [Array.getElem?_eq_getElem hi] at this
        injection this with this
        rw [this, if_pos (by omega)]; rfl
      have H1 := Lib.hid h1
      have HS := Lib.hid hs
      clear hs h1
      go_wp2_with (first | (refine wpList_load_row rfl 91 _ rfl B rfl _ (tab 256) _ _ hh Try.underlying91 rfl (by rw [HS.out]; kernel_rfl) ?_) | (refine wpList_store_row rfl 91 _ _ rfl B (tab 256) rfl rfl _ (tab 256) hh (by rw [HS.out]; kernel_rfl) rfl H1.out ?_))
      have hh2 := setRow_heap wr B (tab 256) (tab 256) _ _ hh
      refine bodyPost_ret (results_cell_row rfl _ _ B _ (tab 256) _ _ rfl hh2 Try.underlying91 rfl (by rw [HS.out]; kernel_rfl)) rfl ⟨rfl, ?_⟩
      rw [← HB.out]
      exact ⟨hb.os, hb.tape, hb.output, by simpa using hb.size, fun k hk => (setRow_other _ _ _ _ (by omega)).trans (hb.block k hk)⟩
end Go.Proofs.Ytgbpgmbnihfkkaa

/- slices of bytes in a world: what a walk is told of them -/
namespace Go.Proofs.Ytgbpgmbnihfkkaa
open Go.RowKit
/-- a byte as a value. -/
def u8 (c : UInt8) : Value := .int .u8 (c.toNat : Int)
def u8s (l : List UInt8) : List Value := l.map u8
/-- the bytes l lie in block b from off on. -/
def BytesAt (w : World) (b off : Nat) (l : List UInt8) : Prop := ∀ i, i < l.length → w.cell? ⟨b, off + i, none⟩ = some (.int .u8 ((l.getD i 0).toNat : Int))
/-- a slice's parts read as the bytes l. -/
def IsBytes (w : World) (ao : Option Addr) (n cap : Nat) (l : List UInt8) : Prop :=
  l.length = n ∧ n ≤ cap ∧ cap ≤ maxLen ∧ (l ≠ [] → ∃ b off, ao = some ⟨b, off, none⟩ ∧ BytesAt w b off l) ∧ (ao = none → n = 0 ∧ cap = 0)
theorem BytesAt.lt {w : World} {b off : Nat} {l : List UInt8} (h : BytesAt w b off l) (hl : l ≠ []) : b < w.heap.size := by
  have : 0 < l.length := by cases l; exact absurd rfl hl; simp
  exact block_lt_of_cell (h 0 this)
theorem BytesAt.later {w w' : World} {b off : Nat} {l : List UInt8} {B : Nat} (h : BytesAt w b off l) (hb : Below B w w') (hB : b < B) : BytesAt w' b off l :=
  fun i hi => (hb.cell (p := ⟨b, off + i, none⟩) hB).trans (h i hi)
theorem IsBytes.later {w w' : World} {ao : Option Addr} {n cap : Nat} {l : List UInt8} (h : IsBytes w ao n cap l) (hb : Below w.heap.size w w') : IsBytes w' ao n cap l := by
  obtain ⟨h1, h2, h3, h4, h5⟩ := h
  refine ⟨h1, h2, h3, fun hl => ?_, h5⟩
  obtain ⟨b, off, e, hc⟩ := h4 hl
  exact ⟨b, off, e, hc.later hb (hc.lt hl)⟩
theorem IsBytes.nil (w : World) : IsBytes w none 0 0 [] := ⟨rfl, Nat.le_refl _, by unfold maxLen; omega, fun h => absurd rfl h, fun _ => ⟨rfl, rfl⟩⟩
theorem getD_take (l : List UInt8) (k i : Nat) (h : i < k) : (l.take k).getD i 0 = l.getD i 0 := by
  simp [List.getD_eq_getElem?_getD, h]
theorem getD_drop (l : List UInt8) (k i : Nat) : (l.drop k).getD i 0 = l.getD (k + i) 0 := by
  simp [List.getD_eq_getElem?_getD]
theorem BytesAt.take {w : World} {b off : Nat} {l : List UInt8} (h : BytesAt w b off l) (k : Nat) : BytesAt w b off (l.take k) :=
  fun i hi => by
    have hk : i < k := by simp at hi; omega
    rw [getD_take l k i hk]; exact h i (by simp at hi; omega)
theorem BytesAt.drop {w : World} {b off : Nat} {l : List UInt8} (h : BytesAt w b off l) (k : Nat) : BytesAt w b (off + k) (l.drop k) :=
  fun i hi => by
    rw [getD_drop l k i, Nat.add_assoc]; exact h (k + i) (by simp at hi; omega)
theorem IsBytes.drewN {w : World} {ao : Option Addr} {n cap : Nat} {l : List UInt8} (h : IsBytes w ao n cap l) (q : Nat) : IsBytes (w.drewN q) ao n cap l := h.later (below_drewN (Below.refl _ _) q)
theorem below_grownBy {w w' : World} (hb : Below w.heap.size w w') (row : Option Nat) : w.grownBy w' row := ⟨hb.os, hb.tape, hb.output, hb.size, fun k hk _ => hb.block k hk⟩
theorem ownsRow_later {w w' : World} {base e size : Nat} {v : Value} {n : Nat} {xs : List Value} (h : w.ownsRow base e size v n xs) (hb : Below w.heap.size w w') : w'.ownsRow base e size v n xs :=
  h.kept (below_grownBy hb none) (by cases v.ownBlock <;> simp)
end Go.Proofs.Ytgbpgmbnihfkkaa

/- frame.Sum, walked -/
namespace Go.Proofs.Ytgbpgmbnihfkkaa
open Go.RowKit
theorem bxor_bd (a c : Nat) (hc : c < 256) : 0 ≤ bits .xor .u8 ((a : Int) % 256) (c : Int) ∧ bits .xor .u8 ((a : Int) % 256) (c : Int) < 256 := by
  have e1 : ((a : Int) % 256) = ((a % 256 : Nat) : Int) := by omega
  rw [e1, u8_xor_nat _ _ (by omega) hc]
  have h3 : (a % 256) ^^^ c < 256 := Nat.xor_lt_two_pow (n := 8) (by omega) (by omega)
  omega
theorem crcL_succ (l : List UInt8) (k : Nat) (s : BitVec 32) (h : k < l.length) : Fr.crcL s (Fr.bv (l.take (k + 1))) = Fr.bs (Fr.crcL s (Fr.bv (l.take k))) (l.getD k 0).toBitVec := by
  have e : (l.take (k + 1)).map (·.toBitVec) = (l.take k).map (·.toBitVec) ++ [(l.getD k 0).toBitVec] := by
    rw [List.take_succ_eq_append_getElem h, List.map_append]; simp [List.getD_eq_getElem?_getD, h]
  unfold Fr.crcL Fr.bv
  rw [e, List.foldl_append]; rfl
set_option maxRecDepth 100000 in
set_option maxHeartbeats 400000 in
theorem Sum_any (ao : Option Addr) (n cap : Nat) (l : List UInt8) (w : World) (hs : IsBytes w ao n cap l) :
    Calls Try.prog 38 #[.slice ao n cap] w fun e w' => e = .returned (.int .u32 ((Fr.sumB l).toNat : Int)) ∧ Below w.heap.size w w' := by
  obtain ⟨hl, hnc, hcm, hat, _⟩ := hs
  unfold maxLen at hcm
  have hz := Try.zeroValue_tab
  go_enter Try.func38, Try.ntmps38
  go_wp2_with fail
  refine (sums_any _).mono ?_
  rintro e w1 ⟨rfl, hb1⟩
  have hsz : (tab 256).size = 256 := by simp [tab]
  have h1 : (tab 256).all (·.oneCell') = true := by
    rw [Array.all_eq_true]
    intro i hi
    have := tab_get 256 i (by omega)
    rw [Array.getElem?_eq_getElem hi] at this
    injection this with this
    rw [this, if_pos (by omega)]; rfl
  have H1 := Lib.hid h1
  have HS := Lib.hid hsz
  have hh : (w1.alloc (.cells zero256 91)).heap[w1.heap.size]? = some (.cells (tab 0) 91 (0, 0)) := by
    rw [← zero_tab]; exact heap_alloc_new _ _
  have HH := Lib.hid hh
  have H0 : Hid ((tab 0).size = (tab 256).size) := by show _ = _; simp [tab]
  clear hsz h1 hh
  go_wp2_with (first | (refine wpList_store_row rfl 91 _ _ rfl w1.heap.size (tab 256) rfl rfl _ (tab 0) HH.out (by rw [HS.out]; kernel_rfl) H0.out H1.out ?_))
  have hh2 := setRow_heap (w1.alloc (.cells zero256 91)) w1.heap.size (tab 0) (tab 256) _ _ HH.out
  have hb2 : Below w1.heap.size w1 ((w1.alloc (.cells zero256 91)).setRow w1.heap.size (tab 256)) := by
    refine ⟨rfl, rfl, rfl, by simp, fun k hk => ?_⟩
    rw [setRow_other _ _ _ _ (by omega)]; exact heap_alloc_old _ _ hk
  obtain ⟨W, hW⟩ : ∃ W, W = (w1.alloc (.cells zero256 91)).setRow w1.heap.size (tab 256) := ⟨_, rfl⟩
  rw [← hW] at hh2 hb2 ⊢
  clear hW
  have hb : Below w.heap.size w W := hb1.trans (hb2.mono hb1.size)
  obtain ⟨T, hT⟩ : ∃ T, T = w1.heap.size := ⟨_, rfl⟩
  rw [← hT] at hh2 ⊢
  clear hT hb2 hb1
  go_loop [4, 10] (fun s i => ∃ k : Nat, k ≤ n ∧ i = .int .i64 k ∧ s = .int .u32 ((Fr.crcL (BitVec.allOnes 32) (Fr.bv (l.take k))).toNat : Int)) (fun _ i => n - (intOf i).toNat)
  case atStart => exact ⟨0, by omega, rfl, by simp [Fr.crcL, Fr.bv]⟩
  case round =>
    obtain ⟨k, hk, rfl, rfl⟩ := hrel
    by_cases hlt : k < n
    · obtain ⟨b, off, rfl, hat2⟩ := hat (by intro h; rw [h] at hl; simp at hl; omega)
      have hcell : W.cell? ⟨b, off + k, none⟩ = some (.int .u8 ((l.getD k 0).toNat : Int)) := by
        have hk' : k < l.length := by omega
        have := hat2 k hk'
        exact (hb.cell (p := ⟨b, off + k, none⟩) (block_lt_of_cell this)).trans this
      have hs := crcL_succ l k (BitVec.allOnes 32) (by omega)
      obtain ⟨s, hsd⟩ : ∃ s, s = Fr.crcL (BitVec.allOnes 32) (Fr.bv (l.take k)) := ⟨_, rfl⟩
      rw [← hsd] at hs ⊢
      obtain ⟨c, hc⟩ : ∃ c, c = l.getD k 0 := ⟨_, rfl⟩
      rw [← hc] at hs hcell
      have hbd := bxor_bd s.toNat c.toNat c.toNat_lt
      obtain ⟨hx0, hx1⟩ := hbd
      have htab : W.cell? ⟨T, (bits .xor .u8 ((s.toNat : Int) % 256) (c.toNat : Int)).toNat, none⟩ = some (.int .u32 ((Fr.fk 8 (BitVec.ofNat 32 (bits .xor .u8 ((s.toNat : Int) % 256) (c.toNat : Int)).toNat)).toNat : Int)) := by
        rw [cell_of_row _ _ _ _ _ _ hh2, tab_get 256 _ (by omega), if_pos (by omega)]
      have hcl := c.toNat_lt
      have hsl := s.isLt
      have HSS := Lib.hid hs
      have HSD := Lib.hid hsd
      have HC := Lib.hid hc
      have HL := Lib.hid hl
      have HH2 := Lib.hid hh2
      clear hs hsd hc hl hh2 hat hat2
      go_wp2
      go_round
      case rel => exact ⟨k + 1, by omega, by go_num, by rw [HSS.out, Fr.step_bs]⟩
      case measure => simp [intOf]; omega
    · obtain rfl : k = n := by omega
      go_wp2
      go_ret
      refine ⟨?_, hb⟩
      rw [List.take_of_length_le (by omega)]
      unfold Fr.sumB
      exact congrArg (fun x => Ending.returned (.int .u32 x)) (Fr.not_u32 _)
end Go.Proofs.Ytgbpgmbnihfkkaa

/- frame.number, frame.word, walked -/
namespace Go.Proofs.Ytgbpgmbnihfkkaa
open Go.RowKit
/-- the first k bytes of four as a number. -/
def numK (l : List UInt8) : Nat → Nat
  | 0 => 0
  | k + 1 => numK l k + 256 ^ k * (l.getD k 0).toNat
theorem numK_lt (l : List UInt8) (k : Nat) : numK l k < 256 ^ k := by
  induction k with
  | zero => simp [numK]
  | succ k ih =>
    have := (l.getD k 0).toNat_lt
    have h2 : 256 ^ k * (l.getD k 0).toNat ≤ 256 ^ k * 255 := Nat.mul_le_mul_left _ (by omega)
    rw [Nat.pow_succ]; unfold numK; omega
theorem numK_four (l : List UInt8) (h : 4 ≤ l.length) : numK l 4 = Fr.num4 l := by
  match l, h with
  | a :: b :: c :: d :: _, _ => simp [numK, Fr.num4]
theorem or_byte (x c m : Nat) (hx : x < 2 ^ m) : x ||| c * 2 ^ m = x + 2 ^ m * c := by
  rw [Nat.or_comm, nat_join m (c * 2 ^ m) x (by simp) hx, Nat.mul_comm, Nat.add_comm]
set_option maxRecDepth 100000 in
set_option maxHeartbeats 400000 in
theorem number_any (ao : Option Addr) (n cap : Nat) (l : List UInt8) (w : World) (hs : IsBytes w ao n cap l) (h4 : 4 ≤ n) :
    Calls Try.prog 53 #[.slice ao n cap] w fun e w' => e = .returned (.int .u32 (Fr.num4 l : Int)) ∧ w = w' := by
  obtain ⟨hl, hnc, hcm, hat, _⟩ := hs
  unfold maxLen at hcm
  obtain ⟨b, off, rfl, hat2⟩ := hat (by intro h; rw [h] at hl; simp at hl; omega)
  have HL := Lib.hid hl
  clear hl hat
  have hp : (4 : Int) ≤ (n : Int) := by omega
  go_enter Try.func53, Try.ntmps53
  go_wp2
  go_loop [3, 4, 5] (fun s _ i => ∃ k : Nat, k ≤ 4 ∧ i = .int .i64 k ∧ s = .int .u32 (numK l k : Int)) (fun _ _ i => 4 - (intOf i).toNat)
  case atStart => exact ⟨0, by omega, rfl, by simp [numK]⟩
  case round =>
    obtain ⟨k, hk, rfl, rfl⟩ := hrel
    by_cases hlt : k < 4
    · have hcell : w.cell? ⟨b, off + k, none⟩ = some (.int .u8 ((l.getD k 0).toNat : Int)) := hat2 k (by have := HL.out; omega)
      have hx := numK_lt l k
      have hn : numK l (k + 1) = numK l k + 256 ^ k * (l.getD k 0).toNat := rfl
      obtain ⟨x, hxd⟩ : ∃ x, x = numK l k := ⟨_, rfl⟩
      obtain ⟨c, hcd⟩ : ∃ c, c = l.getD k 0 := ⟨_, rfl⟩
      rw [← hxd] at hx hn ⊢
      rw [← hcd] at hcell hn
      have hcl := c.toNat_lt
      have HN := Lib.hid hn
      have HX := Lib.hid hxd
      have HC := Lib.hid hcd
      clear hn hxd hcd hat2
      have hfin : ∀ m, 256 ^ k = 2 ^ m → m ≤ 24 → bits .or .u32 (x : Int) ((c.toNat : Int) * 2 ^ m) = (numK l (k + 1) : Int) := by
        intro m hm hm24
        have h256 : c.toNat * 2 ^ m ≤ 255 * 2 ^ 24 := Nat.mul_le_mul (by omega) (Nat.pow_le_pow_right (by omega) hm24)
        have hx2 : x < 2 ^ m := by rw [← hm]; exact hx
        have hx3 : (2 : Nat) ^ m ≤ 2 ^ 24 := Nat.pow_le_pow_right (by omega) hm24
        have e : ((c.toNat : Int) * 2 ^ m) = ((c.toNat * 2 ^ m : Nat) : Int) := by push_cast; rfl
        rw [e, u32_or_nat _ _ (by omega) (by omega), HN.out, hm, or_byte _ _ _ hx2]
      have hk4 : k = 0 ∨ k = 1 ∨ k = 2 ∨ k = 3 := by omega
      have HF := Lib.hid hfin
      clear hfin hx
      rcases hk4 with rfl | rfl | rfl | rfl
      · rw [Nat.add_zero] at hcell
        go_wp2
        go_round
        case rel =>
          have hq : bits .or .u32 (x : Int) (c.toNat : Int) = (numK l (0 + 1) : Int) := by have := HF.out 0 (by decide) (by omega); simpa using this
          exact ⟨0 + 1, by omega, rfl, by rw [hq]⟩
        case measure => simp [intOf]
      · go_wp2
        go_round
        case rel =>
          have hq : bits .or .u32 (x : Int) ((c.toNat : Int) * 256) = (numK l (1 + 1) : Int) := by have := HF.out 8 (by decide) (by omega); simpa using this
          exact ⟨1 + 1, by omega, rfl, by rw [hq]⟩
        case measure => simp [intOf]
      · go_wp2
        go_round
        case rel =>
          have hq : bits .or .u32 (x : Int) ((c.toNat : Int) * 65536) = (numK l (2 + 1) : Int) := by have := HF.out 16 (by decide) (by omega); simpa using this
          exact ⟨2 + 1, by omega, rfl, by rw [hq]⟩
        case measure => simp [intOf]
      · go_wp2
        go_round
        case rel =>
          have hq : bits .or .u32 (x : Int) ((c.toNat : Int) * 16777216) = (numK l (3 + 1) : Int) := by have := HF.out 24 (by decide) (by omega); simpa using this
          exact ⟨3 + 1, by omega, rfl, by rw [hq]⟩
        case measure => simp [intOf]
    · obtain rfl : k = 4 := by omega
      go_wp2
      go_ret
      exact ⟨by rw [numK_four l (by have := HL.out; omega)]; rfl, rfl⟩
end Go.Proofs.Ytgbpgmbnihfkkaa
