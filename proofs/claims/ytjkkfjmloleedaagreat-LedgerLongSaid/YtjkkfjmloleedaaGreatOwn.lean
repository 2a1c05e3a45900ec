/- the model's bits of numbers of 32 and 8 bits, as the plain law's -/
import Derived.Test.YtjkkfjmloleedaaGreatPFrame4
import Derived.WalkKit
import Derived.Test.YtjkkfjmloleedaaGreatRows
import Derived.WalkSpells
import Derived.WalkLawsBesides
import Derived.Lib.Hide
import Derived.WalkSmall
import Derived.Deep.QuietTactic
import Derived.BigQuiet
import Derived.Laws.AppendOwnNone
namespace Go.Proofs.YtjkkfjmloleedaaGreat.Fr
open Go.RowKit
theorem step_f1 (s : BitVec 32) : bits .xor .u32 ((s.toNat : Int) / 2) (3988292384 * bits .and .u32 (s.toNat : Int) 1 % 4294967296) = ((f1 s).toNat : Int) := by
  have h := s.isLt
  have e1 : bits .and .u32 (s.toNat : Int) 1 = ((s.toNat % 2 : Nat) : Int) := by
    have := u32_and_nat s.toNat 1 h (by omega)
    rw [nat_mask1] at this; exact this
  have e0 : s.getLsbD 0 = decide (s.toNat % 2 = 1) := by
    show s.toNat.testBit 0 = _
    rw [Nat.testBit_zero]
  rw [e1]
  have e2 : ((s.toNat : Int) / 2) = ((s.toNat / 2 : Nat) : Int) := by omega
  rw [e2]
  have e3 : (s >>> 1).toNat = s.toNat / 2 := by rw [BitVec.toNat_ushiftRight, Nat.shiftRight_eq_div_pow]
  by_cases hp : s.toNat % 2 = 1
  · have e4 : (3988292384 * ((s.toNat % 2 : Nat) : Int) % 4294967296) = ((3988292384 : Nat) : Int) := by rw [hp]; rfl
    rw [e4, u32_xor_nat _ _ (by omega) (by omega)]
    unfold f1
    rw [e0, hp]
    simp only [decide_true, if_true, BitVec.toNat_xor, e3]
    rfl
  · have e4 : (3988292384 * ((s.toNat % 2 : Nat) : Int) % 4294967296) = ((0 : Nat) : Int) := by rw [show s.toNat % 2 = 0 by omega]; rfl
    rw [e4, u32_xor_nat _ _ (by omega) (by omega)]
    unfold f1
    rw [e0]
    simp [hp, e3]
theorem fk_succ (m : Nat) (s : BitVec 32) : fk (m + 1) s = f1 (fk m s) := by rw [fk_add m 1]; rfl
/-- a byte through the register, as 'frame.Sum' reckons it. -/
theorem step_bs (s : BitVec 32) (c : UInt8) :
    bits .xor .u32 ((s.toNat : Int) / 256) ((fk 8 (BitVec.ofNat 32 (bits .xor .u8 ((s.toNat : Int) % 256) (c.toNat : Int)).toNat)).toNat : Int) = ((bs s c.toBitVec).toNat : Int) := by
  have h := s.isLt
  have hc := c.toNat_lt
  have e1 : ((s.toNat : Int) % 256) = ((s.toNat % 256 : Nat) : Int) := by omega
  have e2 : ((s.toNat : Int) / 256) = ((s.toNat / 256 : Nat) : Int) := by omega
  rw [e1, e2, u8_xor_nat _ _ (by omega) (by omega), u32_xor_nat _ _ (by omega) (BitVec.isLt _), bs_table, BitVec.toNat_xor, BitVec.toNat_ushiftRight, Nat.shiftRight_eq_div_pow]
  congr 3
  have : BitVec.ofNat 32 ((((s.toNat % 256) ^^^ c.toNat : Nat) : Int)).toNat = (s ^^^ c.toBitVec.setWidth 32) &&& 255#32 := by
    apply BitVec.eq_of_toNat_eq
    have h3 : (s.toNat % 256) ^^^ c.toNat < 256 := Nat.xor_lt_two_pow (n := 8) (by omega) (by omega)
    have h5 : (c.toBitVec.setWidth 32).toNat = c.toNat := by
      rw [BitVec.toNat_setWidth]; exact Nat.mod_eq_of_lt (by show c.toNat < _; omega)
    rw [BitVec.toNat_ofNat, Int.toNat_natCast, BitVec.toNat_and, BitVec.toNat_xor, h5, Nat.mod_eq_of_lt (by omega)]
    show _ = (s.toNat ^^^ c.toNat) &&& 255
    rw [nat_mask8, Nat.xor_mod_two_pow (n := 8), Nat.mod_eq_of_lt (a := c.toNat) (by omega)]
  rw [this]
theorem not_u32 (s : BitVec 32) : bits .xor .u32 IntKind.u32.max (s.toNat : Int) = ((~~~ s).toNat : Int) := by
  have h := s.isLt
  have e : IntKind.u32.max = ((4294967295 : Nat) : Int) := by decide
  rw [e, u32_xor_nat _ _ (by omega) h]
  have : (4294967295 ^^^ s.toNat) = (~~~ s).toNat := by
    rw [← BitVec.xor_allOnes, BitVec.xor_comm, BitVec.toNat_xor, BitVec.toNat_allOnes]
  rw [this]
theorem not_nat (n : Nat) (h : n < 4294967296) : bits .xor .u32 IntKind.u32.max (n : Int) = ((4294967295 - n : Nat) : Int) := by
  have := not_u32 (BitVec.ofNat 32 n)
  rw [BitVec.toNat_ofNat, Nat.mod_eq_of_lt (by omega)] at this
  rw [this, BitVec.toNat_not, BitVec.toNat_ofNat, Nat.mod_eq_of_lt (by omega)]
end Go.Proofs.YtjkkfjmloleedaaGreat.Fr

namespace Go.Proofs.YtjkkfjmloleedaaGreat
open Go.RowKit
def zero256 : Array Value := Array.replicate 256 (.int .u32 0)
def tab (k : Nat) : Array Value := (Array.range 256).map (fun i => if i < k then .int .u32 ((Fr.fk 8 (BitVec.ofNat 32 i)).toNat : Int) else .int .u32 0)
theorem zero_tab : zero256 = tab 0 := by
  apply Array.ext
  · simp [zero256, tab]
  · intro i h1 h2; simp [zero256, tab]
theorem tab_get (k i : Nat) (h : i < 256) : (tab k)[i]? = some (if i < k then .int .u32 ((Fr.fk 8 (BitVec.ofNat 32 i)).toNat : Int) else .int .u32 0) := by
  simp [tab, h]
theorem tab_set (k : Nat) (_h : k < 256) : (tab k).setIfInBounds k (.int .u32 ((Fr.fk 8 (BitVec.ofNat 32 k)).toNat : Int)) = tab (k + 1) := by
  apply Array.ext_getElem?
  intro i
  rw [Array.getElem?_setIfInBounds]
  by_cases hi : i < 256
  · rw [tab_get k i hi, tab_get (k + 1) i hi]
    by_cases hik : k = i
    · subst hik; simp [tab, _h]
    · simp only [hik, if_false]
      by_cases h : i < k
      · simp [h, show i < k + 1 by omega]
      · simp [h, show ¬ i < k + 1 by omega]
  · rw [if_neg (by omega)]; simp [tab, hi]
theorem Tryz.zeroValue_tab (w : World) : (zeroValue 126).run Tryz.prog w = .ok (.agg zero256) w := by kernel_rfl
set_option maxRecDepth 100000 in
set_option maxHeartbeats 400000 in
theorem sums_any (w : World) :
    Calls Tryz.prog 92 #[] w fun e w' => e = .returned (.agg (tab 256)) ∧ Below w.heap.size w w' := by
  have hz := Tryz.zeroValue_tab
  go_enter Tryz.func92, Tryz.ntmps92
  go_wp2
  obtain ⟨B, hB⟩ : ∃ B, B = w.heap.size := ⟨_, rfl⟩
  have hh : (w.alloc (.cells zero256 126)).heap[B]? = some (.cells (tab 0) 126 (0, 0)) := by
    rw [hB, ← zero_tab]; exact heap_alloc_new _ _
  have hb : Below B w (w.alloc (.cells zero256 126)) := (Below.refl _ _).alloc (by omega) _
  rw [← hB]
  obtain ⟨W, hW⟩ : ∃ W, W = w.alloc (.cells zero256 126) := ⟨_, rfl⟩
  rw [← hW] at hh hb ⊢
  clear hW
  go_loopw [1, 2, 3, 8] (fun _ _ i _ wr => ∃ k : Nat, k ≤ 256 ∧ i = .int .i64 k ∧ wr.heap[B]? = some (.cells (tab k) 126 (0, 0)) ∧ Below B w wr) (fun _ _ i _ _ => 256 - (intOf i).toNat)
  case atStart => exact ⟨0, by omega, rfl, hh, hb⟩
  case round =>
    obtain ⟨k, hk, rfl, hh, hb⟩ := hrel
    by_cases hlt : k < 256
    · have HB := Lib.hid hB
      clear hB
      have HH := Lib.hid hh
      clear hh
      have hc : wr.cell? ⟨B, k, none⟩ = some (.int .u32 0) := by
        rw [cell_of_row _ _ _ _ _ _ HH.out, tab_get k k hlt, if_neg (by omega)]
      have hf : wr.frozen? ⟨B, k, none⟩ = false := frozen_of_row _ _ _ _ _ HH.out
      go_wp2
      go_loop [2, 8] (fun n j => ∃ m : Nat, m ≤ 8 ∧ j = .int .i64 m ∧ n = .int .u32 ((Fr.fk m (BitVec.ofNat 32 k)).toNat : Int)) (fun _ j => 8 - (intOf j).toNat)
      case atStart => exact ⟨0, by omega, rfl, by simp [Fr.fk]; omega⟩
      case round =>
        obtain ⟨m, hm, rfl, rfl⟩ := hrel
        by_cases hmt : m < 8
        · have hlim := (Fr.fk m (BitVec.ofNat 32 k)).isLt
          go_wp2
          go_round
          case rel => exact ⟨m + 1, by omega, by go_num, by rw [Fr.step_f1, Fr.fk_succ]⟩
          case measure => simp [intOf]; omega
        · obtain rfl : m = 8 := by omega
          go_wp2
          go_roundw
          case rel =>
            refine ⟨k + 1, by omega, by go_num, ?_, hb.setCell (by simp) _⟩
            rw [heap_setCell_same _ _ _ _ _ _ HH.out, tab_set k hlt]
          case measure => simp [intOf]; omega
    · obtain rfl : k = 256 := by omega
      have HB := Lib.hid hB
      clear hB
      have hs : (tab 256).size = 256 := by simp [tab]
      have h1 : (tab 256).all (·.oneCell') = true := by
        rw [Array.all_eq_true]
        intro i hi
        have := tab_get 256 i (by omega)
        rw [Array.getElem?_eq_getElem hi] at this
        injection this with this
        rw [this, if_pos (by omega)]; rfl
      have H1 := Lib.hid h1
      have HS := Lib.hid hs
      clear hs h1
      go_wp2_with (first | (refine wpList_load_row rfl 126 _ rfl B rfl _ (tab 256) _ _ hh Tryz.underlying126 rfl (by rw [HS.out]; kernel_rfl) ?_) | (refine wpList_store_row rfl 126 _ _ rfl B (tab 256) rfl rfl _ (tab 256) hh (by rw [HS.out]; kernel_rfl) rfl H1.out ?_))
      have hh2 := setRow_heap wr B (tab 256) (tab 256) _ _ hh
      refine bodyPost_ret (results_cell_row rfl _ _ B _ (tab 256) _ _ rfl hh2 Tryz.underlying126 rfl (by rw [HS.out]; kernel_rfl)) rfl ⟨rfl, ?_⟩
      rw [← HB.out]
      exact ⟨hb.os, hb.tape, hb.output, by simpa using hb.size, fun k hk => (setRow_other _ _ _ _ (by omega)).trans (hb.block k hk)⟩
end Go.Proofs.YtjkkfjmloleedaaGreat

/- slices of bytes in a world: what a walk is told of them -/
namespace Go.Proofs.YtjkkfjmloleedaaGreat
open Go.RowKit
/-- a byte as a value. -/
def u8 (c : UInt8) : Value := .int .u8 (c.toNat : Int)
def u8s (l : List UInt8) : List Value := l.map u8
/-- the bytes l lie in block b from off on. -/
def BytesAt (w : World) (b off : Nat) (l : List UInt8) : Prop := ∀ i, i < l.length → w.cell? ⟨b, off + i, none⟩ = some (.int .u8 ((l.getD i 0).toNat : Int))
/-- a slice's parts read as the bytes l. -/
def IsBytes (w : World) (ao : Option Addr) (n cap : Nat) (l : List UInt8) : Prop :=
  l.length = n ∧ n ≤ cap ∧ cap ≤ maxLen ∧ (l ≠ [] → ∃ b off, ao = some ⟨b, off, none⟩ ∧ BytesAt w b off l) ∧ (ao = none → n = 0 ∧ cap = 0)
theorem BytesAt.lt {w : World} {b off : Nat} {l : List UInt8} (h : BytesAt w b off l) (hl : l ≠ []) : b < w.heap.size := by
  have : 0 < l.length := by cases l; exact absurd rfl hl; simp
  exact block_lt_of_cell (h 0 this)
theorem BytesAt.later {w w' : World} {b off : Nat} {l : List UInt8} {B : Nat} (h : BytesAt w b off l) (hb : Below B w w') (hB : b < B) : BytesAt w' b off l :=
  fun i hi => (hb.cell (p := ⟨b, off + i, none⟩) hB).trans (h i hi)
theorem IsBytes.later {w w' : World} {ao : Option Addr} {n cap : Nat} {l : List UInt8} (h : IsBytes w ao n cap l) (hb : Below w.heap.size w w') : IsBytes w' ao n cap l := by
  obtain ⟨h1, h2, h3, h4, h5⟩ := h
  refine ⟨h1, h2, h3, fun hl => ?_, h5⟩
  obtain ⟨b, off, e, hc⟩ := h4 hl
  exact ⟨b, off, e, hc.later hb (hc.lt hl)⟩
theorem IsBytes.nil (w : World) : IsBytes w none 0 0 [] := ⟨rfl, Nat.le_refl _, by unfold maxLen; omega, fun h => absurd rfl h, fun _ => ⟨rfl, rfl⟩⟩
theorem getD_take (l : List UInt8) (k i : Nat) (h : i < k) : (l.take k).getD i 0 = l.getD i 0 := by
  simp [List.getD_eq_getElem?_getD, h]
theorem getD_drop (l : List UInt8) (k i : Nat) : (l.drop k).getD i 0 = l.getD (k + i) 0 := by
  simp [List.getD_eq_getElem?_getD]
theorem BytesAt.take {w : World} {b off : Nat} {l : List UInt8} (h : BytesAt w b off l) (k : Nat) : BytesAt w b off (l.take k) :=
  fun i hi => by
    have hk : i < k := by simp at hi; omega
    rw [getD_take l k i hk]; exact h i (by simp at hi; omega)
theorem BytesAt.drop {w : World} {b off : Nat} {l : List UInt8} (h : BytesAt w b off l) (k : Nat) : BytesAt w b (off + k) (l.drop k) :=
  fun i hi => by
    rw [getD_drop l k i, Nat.add_assoc]; exact h (k + i) (by simp at hi; omega)
theorem IsBytes.drewN {w : World} {ao : Option Addr} {n cap : Nat} {l : List UInt8} (h : IsBytes w ao n cap l) (q : Nat) : IsBytes (w.drewN q) ao n cap l := h.later (below_drewN (Below.refl _ _) q)
theorem below_grownBy {w w' : World} (hb : Below w.heap.size w w') (row : Option Nat) : w.grownBy w' row := ⟨hb.os, hb.tape, hb.output, hb.size, fun k hk _ => hb.block k hk⟩
theorem ownsRow_later {w w' : World} {base e size : Nat} {v : Value} {n : Nat} {xs : List Value} (h : w.ownsRow base e size v n xs) (hb : Below w.heap.size w w') : w'.ownsRow base e size v n xs :=
  h.kept (below_grownBy hb none) (by cases v.ownBlock <;> simp)
end Go.Proofs.YtjkkfjmloleedaaGreat

/- frame.Sum, walked -/
namespace Go.Proofs.YtjkkfjmloleedaaGreat
open Go.RowKit
theorem bxor_bd (a c : Nat) (hc : c < 256) : 0 ≤ bits .xor .u8 ((a : Int) % 256) (c : Int) ∧ bits .xor .u8 ((a : Int) % 256) (c : Int) < 256 := by
  have e1 : ((a : Int) % 256) = ((a % 256 : Nat) : Int) := by omega
  rw [e1, u8_xor_nat _ _ (by omega) hc]
  have h3 : (a % 256) ^^^ c < 256 := Nat.xor_lt_two_pow (n := 8) (by omega) (by omega)
  omega
theorem crcL_succ (l : List UInt8) (k : Nat) (s : BitVec 32) (h : k < l.length) : Fr.crcL s (Fr.bv (l.take (k + 1))) = Fr.bs (Fr.crcL s (Fr.bv (l.take k))) (l.getD k 0).toBitVec := by
  have e : (l.take (k + 1)).map (·.toBitVec) = (l.take k).map (·.toBitVec) ++ [(l.getD k 0).toBitVec] := by
    rw [List.take_succ_eq_append_getElem h, List.map_append]; simp [List.getD_eq_getElem?_getD, h]
  unfold Fr.crcL Fr.bv
  rw [e, List.foldl_append]; rfl
set_option maxRecDepth 100000 in
set_option maxHeartbeats 400000 in
theorem Sum_any (ao : Option Addr) (n cap : Nat) (l : List UInt8) (w : World) (hs : IsBytes w ao n cap l) :
    Calls Tryz.prog 81 #[.slice ao n cap] w fun e w' => e = .returned (.int .u32 ((Fr.sumB l).toNat : Int)) ∧ Below w.heap.size w w' := by
  obtain ⟨hl, hnc, hcm, hat, _⟩ := hs
  unfold maxLen at hcm
  have hz := Tryz.zeroValue_tab
  go_enter Tryz.func81, Tryz.ntmps81
  go_wp2_with fail
  refine (sums_any _).mono ?_
  rintro e w1 ⟨rfl, hb1⟩
  have hsz : (tab 256).size = 256 := by simp [tab]
  have h1 : (tab 256).all (·.oneCell') = true := by
    rw [Array.all_eq_true]
    intro i hi
    have := tab_get 256 i (by omega)
    rw [Array.getElem?_eq_getElem hi] at this
    injection this with this
    rw [this, if_pos (by omega)]; rfl
  have H1 := Lib.hid h1
  have HS := Lib.hid hsz
  have hh : (w1.alloc (.cells zero256 126)).heap[w1.heap.size]? = some (.cells (tab 0) 126 (0, 0)) := by
    rw [← zero_tab]; exact heap_alloc_new _ _
  have HH := Lib.hid hh
  have H0 : Hid ((tab 0).size = (tab 256).size) := by show _ = _; simp [tab]
  clear hsz h1 hh
  go_wp2_with (first | (refine wpList_store_row rfl 126 _ _ rfl w1.heap.size (tab 256) rfl rfl _ (tab 0) HH.out (by rw [HS.out]; kernel_rfl) H0.out H1.out ?_))
  have hh2 := setRow_heap (w1.alloc (.cells zero256 126)) w1.heap.size (tab 0) (tab 256) _ _ HH.out
  have hb2 : Below w1.heap.size w1 ((w1.alloc (.cells zero256 126)).setRow w1.heap.size (tab 256)) := by
    refine ⟨rfl, rfl, rfl, by simp, fun k hk => ?_⟩
    rw [setRow_other _ _ _ _ (by omega)]; exact heap_alloc_old _ _ hk
  obtain ⟨W, hW⟩ : ∃ W, W = (w1.alloc (.cells zero256 126)).setRow w1.heap.size (tab 256) := ⟨_, rfl⟩
  rw [← hW] at hh2 hb2 ⊢
  clear hW
  have hb : Below w.heap.size w W := hb1.trans (hb2.mono hb1.size)
  obtain ⟨T, hT⟩ : ∃ T, T = w1.heap.size := ⟨_, rfl⟩
  rw [← hT] at hh2 ⊢
  clear hT hb2 hb1
  go_loop [4, 10] (fun s i => ∃ k : Nat, k ≤ n ∧ i = .int .i64 k ∧ s = .int .u32 ((Fr.crcL (BitVec.allOnes 32) (Fr.bv (l.take k))).toNat : Int)) (fun _ i => n - (intOf i).toNat)
  case atStart => exact ⟨0, by omega, rfl, by simp [Fr.crcL, Fr.bv]⟩
  case round =>
    obtain ⟨k, hk, rfl, rfl⟩ := hrel
    by_cases hlt : k < n
    · obtain ⟨b, off, rfl, hat2⟩ := hat (by intro h; rw [h] at hl; simp at hl; omega)
      have hcell : W.cell? ⟨b, off + k, none⟩ = some (.int .u8 ((l.getD k 0).toNat : Int)) := by
        have hk' : k < l.length := by omega
        have := hat2 k hk'
        exact (hb.cell (p := ⟨b, off + k, none⟩) (block_lt_of_cell this)).trans this
      have hs := crcL_succ l k (BitVec.allOnes 32) (by omega)
      obtain ⟨s, hsd⟩ : ∃ s, s = Fr.crcL (BitVec.allOnes 32) (Fr.bv (l.take k)) := ⟨_, rfl⟩
      rw [← hsd] at hs ⊢
      obtain ⟨c, hc⟩ : ∃ c, c = l.getD k 0 := ⟨_, rfl⟩
      rw [← hc] at hs hcell
      have hbd := bxor_bd s.toNat c.toNat c.toNat_lt
      obtain ⟨hx0, hx1⟩ := hbd
      have htab : W.cell? ⟨T, (bits .xor .u8 ((s.toNat : Int) % 256) (c.toNat : Int)).toNat, none⟩ = some (.int .u32 ((Fr.fk 8 (BitVec.ofNat 32 (bits .xor .u8 ((s.toNat : Int) % 256) (c.toNat : Int)).toNat)).toNat : Int)) := by
        rw [cell_of_row _ _ _ _ _ _ hh2, tab_get 256 _ (by omega), if_pos (by omega)]
      have hcl := c.toNat_lt
      have hsl := s.isLt
      have HSS := Lib.hid hs
      have HSD := Lib.hid hsd
      have HC := Lib.hid hc
      have HL := Lib.hid hl
      have HH2 := Lib.hid hh2
      clear hs hsd hc hl hh2 hat hat2
      go_wp2
      go_round
      case rel => exact ⟨k + 1, by omega, by go_num, by rw [HSS.out, Fr.step_bs]⟩
      case measure => simp [intOf]; omega
    · obtain rfl : k = n := by omega
      go_wp2
      go_ret
      refine ⟨?_, hb⟩
      rw [List.take_of_length_le (by omega)]
      unfold Fr.sumB
      exact congrArg (fun x => Ending.returned (.int .u32 x)) (Fr.not_u32 _)
end Go.Proofs.YtjkkfjmloleedaaGreat

/- frame.number, frame.word, walked -/
namespace Go.Proofs.YtjkkfjmloleedaaGreat
open Go.RowKit
/-- the first k bytes of four as a number. -/
def numK (l : List UInt8) : Nat → Nat
  | 0 => 0
  | k + 1 => numK l k + 256 ^ k * (l.getD k 0).toNat
theorem numK_lt (l : List UInt8) (k : Nat) : numK l k < 256 ^ k := by
  induction k with
  | zero => simp [numK]
  | succ k ih =>
    have := (l.getD k 0).toNat_lt
    have h2 : 256 ^ k * (l.getD k 0).toNat ≤ 256 ^ k * 255 := Nat.mul_le_mul_left _ (by omega)
    rw [Nat.pow_succ]; unfold numK; omega
theorem numK_four (l : List UInt8) (h : 4 ≤ l.length) : numK l 4 = Fr.num4 l := by
  match l, h with
  | a :: b :: c :: d :: _, _ => simp [numK, Fr.num4]
theorem or_byte (x c m : Nat) (hx : x < 2 ^ m) : x ||| c * 2 ^ m = x + 2 ^ m * c := by
  rw [Nat.or_comm, nat_join m (c * 2 ^ m) x (by simp) hx, Nat.mul_comm, Nat.add_comm]
set_option maxRecDepth 100000 in
set_option maxHeartbeats 400000 in
theorem number_any (ao : Option Addr) (n cap : Nat) (l : List UInt8) (w : World) (hs : IsBytes w ao n cap l) (h4 : 4 ≤ n) :
    Calls Tryz.prog 98 #[.slice ao n cap] w fun e w' => e = .returned (.int .u32 (Fr.num4 l : Int)) ∧ w = w' := by
  obtain ⟨hl, hnc, hcm, hat, _⟩ := hs
  unfold maxLen at hcm
  obtain ⟨b, off, rfl, hat2⟩ := hat (by intro h; rw [h] at hl; simp at hl; omega)
  have HL := Lib.hid hl
  clear hl hat
  have hp : (4 : Int) ≤ (n : Int) := by omega
  go_enter Tryz.func98, Tryz.ntmps98
  go_wp2
  go_loop [3, 4, 5] (fun s _ i => ∃ k : Nat, k ≤ 4 ∧ i = .int .i64 k ∧ s = .int .u32 (numK l k : Int)) (fun _ _ i => 4 - (intOf i).toNat)
  case atStart => exact ⟨0, by omega, rfl, by simp [numK]⟩
  case round =>
    obtain ⟨k, hk, rfl, rfl⟩ := hrel
    by_cases hlt : k < 4
    · have hcell : w.cell? ⟨b, off + k, none⟩ = some (.int .u8 ((l.getD k 0).toNat : Int)) := hat2 k (by have := HL.out; omega)
      have hx := numK_lt l k
      have hn : numK l (k + 1) = numK l k + 256 ^ k * (l.getD k 0).toNat := rfl
      obtain ⟨x, hxd⟩ : ∃ x, x = numK l k := ⟨_, rfl⟩
      obtain ⟨c, hcd⟩ : ∃ c, c = l.getD k 0 := ⟨_, rfl⟩
      rw [← hxd] at hx hn ⊢
      rw [← hcd] at hcell hn
      have hcl := c.toNat_lt
      have HN := Lib.hid hn
      have HX := Lib.hid hxd
      have HC := Lib.hid hcd
      clear hn hxd hcd hat2
      have hfin : ∀ m, 256 ^ k = 2 ^ m → m ≤ 24 → bits .or .u32 (x : Int) ((c.toNat : Int) * 2 ^ m) = (numK l (k + 1) : Int) := by
        intro m hm hm24
        have h256 : c.toNat * 2 ^ m ≤ 255 * 2 ^ 24 := Nat.mul_le_mul (by omega) (Nat.pow_le_pow_right (by omega) hm24)
        have hx2 : x < 2 ^ m := by rw [← hm]; exact hx
        have hx3 : (2 : Nat) ^ m ≤ 2 ^ 24 := Nat.pow_le_pow_right (by omega) hm24
        have e : ((c.toNat : Int) * 2 ^ m) = ((c.toNat * 2 ^ m : Nat) : Int) := by push_cast; rfl
        rw [e, u32_or_nat _ _ (by omega) (by omega), HN.out, hm, or_byte _ _ _ hx2]
      have hk4 : k = 0 ∨ k = 1 ∨ k = 2 ∨ k = 3 := by omega
      have HF := Lib.hid hfin
      clear hfin hx
      rcases hk4 with rfl | rfl | rfl | rfl
      · rw [Nat.add_zero] at hcell
        go_wp2
        go_round
        case rel =>
          have hq : bits .or .u32 (x : Int) (c.toNat : Int) = (numK l (0 + 1) : Int) := by have := HF.out 0 (by decide) (by omega); simpa using this
          exact ⟨0 + 1, by omega, rfl, by rw [hq]⟩
        case measure => simp [intOf]
      · go_wp2
        go_round
        case rel =>
          have hq : bits .or .u32 (x : Int) ((c.toNat : Int) * 256) = (numK l (1 + 1) : Int) := by have := HF.out 8 (by decide) (by omega); simpa using this
          exact ⟨1 + 1, by omega, rfl, by rw [hq]⟩
        case measure => simp [intOf]
      · go_wp2
        go_round
        case rel =>
          have hq : bits .or .u32 (x : Int) ((c.toNat : Int) * 65536) = (numK l (2 + 1) : Int) := by have := HF.out 16 (by decide) (by omega); simpa using this
          exact ⟨2 + 1, by omega, rfl, by rw [hq]⟩
        case measure => simp [intOf]
      · go_wp2
        go_round
        case rel =>
          have hq : bits .or .u32 (x : Int) ((c.toNat : Int) * 16777216) = (numK l (3 + 1) : Int) := by have := HF.out 24 (by decide) (by omega); simpa using this
          exact ⟨3 + 1, by omega, rfl, by rw [hq]⟩
        case measure => simp [intOf]
    · obtain rfl : k = 4 := by omega
      go_wp2
      go_ret
      exact ⟨by rw [numK_four l (by have := HL.out; omega)]; rfl, rfl⟩
end Go.Proofs.YtjkkfjmloleedaaGreat

/- rows of the call's own, of whose block every cell is known to be of a kind: what a loop over all of the capacity asks -/
namespace Go.Proofs.YtjkkfjmloleedaaGreat
open Go.RowKit
/-- may this be a cell of what is neither bytes nor deeds? -/
def plainV : Value → Bool
  | .int .u8 _ => false
  | .iface _ _ => false
  | _ => true
/-- every cell of v's block is ok. -/
def AllCells (w : World) (v : Value) (ok : Value → Prop) : Prop := ∀ g c t f, v.ownBlock = some g → w.heap[g]? = some (.cells c t f) → ∀ u, u ∈ c → ok u
theorem AllCells.move {w w' : World} {v : Value} {ok : Value → Prop} (h : AllCells w v ok) (hb : ∀ g, v.ownBlock = some g → w'.heap[g]? = w.heap[g]?) : AllCells w' v ok :=
  fun g c t f hg hc => h g c t f hg (by rw [← hb g hg]; exact hc)
theorem ownsRow_move {w w' : World} {base e s n : Nat} {v : Value} {xs : List Value} (h : w.ownsRow base e s v n xs) (hb : ∀ g, v.ownBlock = some g → w'.heap[g]? = w.heap[g]?) : w'.ownsRow base e s v n xs := by
  refine ⟨h.1, ?_⟩
  rcases h.2 with hn | ⟨g, cap, cur, rfl, hbg, hgg, rest⟩
  · exact .inl hn
  · exact .inr ⟨g, cap, cur, rfl, hbg, by rw [hb g rfl]; exact hgg, rest⟩
theorem ownsRow_base {w : World} {base base' e s n : Nat} {v : Value} {xs : List Value} (h : w.ownsRow base e s v n xs) (hb : base' ≤ base) : w.ownsRow base' e s v n xs := by
  refine ⟨h.1, ?_⟩
  rcases h.2 with hn | ⟨g, cap, cur, rfl, hbg, rest⟩
  · exact .inl hn
  · exact .inr ⟨g, cap, cur, rfl, by omega, rest⟩
theorem ownsRow_shape {w : World} {base e s n : Nat} {v : Value} {xs : List Value} (h : w.ownsRow base e s v n xs) : ∃ ao cap, v = .slice ao n cap := by
  rcases h.2 with ⟨rfl, rfl⟩ | ⟨g, cap, cur, rfl, _⟩
  · exact ⟨_, _, rfl⟩
  · exact ⟨_, _, rfl⟩
/-- a block with cells of another type is not v's. -/
theorem box_ne {W : World} {c : Array Value} {t b e s n base : Nat} {f : Nat × Nat} {u : Value} {xs : List Value} (hb : W.heap[b]? = some (.cells c t f)) (hu : W.ownsRow base e s u n xs) (ht : t ≠ e) : some b ≠ u.ownBlock := by
  rcases hu.2 with ⟨rfl, _⟩ | ⟨g, cap, cur, rfl, _, hg, _⟩
  · simp [Value.ownBlock]
  · simp only [Value.ownBlock]
    intro h
    injection h with h
    subst h
    rw [hb] at hg
    injection hg with hg
    injection hg with _ h2
    exact ht h2
theorem ownBlock_ne {w : World} {base b2 e e' s s' : Nat} {v u : Value} {n m : Nat} {xs ys : List Value} (he : e ≠ e') (hv : w.ownsRow base e s v n xs) (hu : w.ownsRow b2 e' s' u m ys) :
    ∀ g, u.ownBlock = some g → some g ≠ v.ownBlock := by
  intro g hg
  rcases hu.2 with ⟨rfl, _⟩ | ⟨g', cap, cur, rfl, _, hg', _⟩
  · simp [Value.ownBlock] at hg
  · simp only [Value.ownBlock, Option.some.injEq] at hg
    subst hg
    exact box_ne hg' hv (Ne.symm he)
/-- an own row's block is not one that holds no cells. -/
theorem obj_ne {W : World} {o : Obj} {b e s n base : Nat} {u : Value} {xs : List Value} (hb : W.heap[b]? = some o) (ho : ∀ c t f, o ≠ .cells c t f) (hu : W.ownsRow base e s u n xs) : some b ≠ u.ownBlock := by
  rcases hu.2 with ⟨rfl, _⟩ | ⟨g, cap, cur, rfl, _, hg, _⟩
  · simp [Value.ownBlock]
  · simp only [Value.ownBlock]
    intro h
    injection h with h
    subst h
    rw [hb] at hg
    injection hg with hg
    exact ho _ _ _ hg
theorem mem_zeroCells {z : Array Value} {k : Nat} {u : Value} (h : u ∈ Builtin.zeroCells z k) : u ∈ z := by
  unfold Builtin.zeroCells at h
  rw [Array.mem_map] at h
  obtain ⟨i, hi, rfl⟩ := h
  rw [Array.mem_range] at hi
  have hz : 0 < z.size := by
    rcases Nat.eq_zero_or_pos z.size with h0 | h0
    · rw [h0] at hi; simp at hi
    · exact h0
  have hlt : i % z.size < z.size := Nat.mod_lt _ hz
  rw [getElem!_pos z (i % z.size) hlt]
  exact Array.getElem_mem hlt
section
variable {P : Program} (w : World)
theorem run_append_all (base : Nat) (t ty e : TypeId) (i : TypeInfo) (z : Value) (size bytes : Nat) (ht : P.underlying t = some (.slice e)) (hi : P.info? e = some i) (hz : i.zero = some z)
    (hsize : i.size = size) (hby : i.bytes = bytes) (hzs : z.cells.size = size) (hsz : 0 < size)
    (v : Value) (n : Nat) (xs : List Value) (hown : w.ownsRow base e size v n xs)
    (a : Addr) (m c : Nat) (news : List Value) (hl : news.length = m * size) (hnews : ∀ j u, news[j]? = some u → w.cell? (a.add j) = some u) (h1 : ∀ u ∈ news, u.oneCell' = true)
    (h63 : n + m ≤ maxLen) (hbytes : (n + m) * bytes ≤ 140737488355328) (hbase : base ≤ w.heap.size)
    (ok : Value → Prop) (hzok : ∀ u, u ∈ z.cells → ok u) (hnok : ∀ u, u ∈ news → ok u) (hold : AllCells w v ok) :
    ∃ v' w', (Builtin.append_ #[t, t] ty #[v, .slice (some a) m c]).run P w = .ok v' w' ∧ w'.ownsRow base e size v' (n + m) (xs ++ news) ∧ w.grownBy w' v.ownBlock ∧ AllCells w' v' ok ∧ (v' = .slice none 0 0 ↔ v = .slice none 0 0 ∧ m = 0) ∧
      (∀ g, v'.ownBlock = some g → v.ownBlock = some g ∨ g = w.heap.size) := by
  obtain ⟨v', w', hr, h2, h3, h4⟩ := run_append_own (P := P) w base t ty e i z size bytes ht hi hz hsize hby hzs hsz v n xs hown a m c news hl hnews h1 h63 hbytes hbase
  refine ⟨v', w', hr, h2, h3, ?_, h4, ?_⟩
  all_goals
    subst hsize
    subst hby
    rcases hown.2 with ⟨rfl, rfl⟩ | ⟨g, cap, cur, rfl, hbg, hg, hnc, hcm, hcs, htake⟩
    · have hx : xs = [] := List.eq_nil_of_length_eq_zero (by simpa using hown.1)
      subst hx
      by_cases hm : m = 0
      · have := h4.2 ⟨rfl, hm⟩
        subst this
        first | (intro g c t f hg; simp [Value.ownBlock] at hg; done) | (intro g hg; simp [Value.ownBlock] at hg; done)
      · have hr2 := run_append_nil (P := P) w t ty e i z ht hi hz a m c news hl hnews (by omega) (by unfold maxLen at h63; omega) (by have hb := hbytes; simp only [Nat.zero_add] at hb; omega)
        rw [hr2] at hr
        injection hr with e1 e2
        subst e1 e2
        first
        | (intro g c t f hg hc u hu
           simp only [Value.ownBlock, Option.some.injEq] at hg
           subst hg
           have := heap_alloc_new w.drew (.cells (news.toArray ++ Builtin.zeroCells z.cells (grownCap w m 0 e - m)) e)
           rw [show w.drew.heap.size = w.heap.size from rfl] at this
           rw [this] at hc
           cases hc
           rcases Array.mem_append.1 hu with h | h
           · exact hnok u (by simpa using h)
           · exact hzok u (mem_zeroCells h))
        | (intro g hg; right; simpa [Value.ownBlock] using hg.symm)
    · by_cases hroom : n + m ≤ cap
      · have hfit : n * i.size + news.length ≤ cur.size := by rw [hl, hcs, ← Nat.add_mul]; exact Nat.mul_le_mul_right _ hroom
        have hr2 := run_append_room (P := P) w t ty e i ht hi g n cap cur hg a m c news hl hnews h1 hroom hfit
        rw [hr2] at hr
        injection hr with e1 e2
        subst e1 e2
        first
        | (intro g' c' t' f' hg' hc' u hu
           simp only [Value.ownBlock, Option.some.injEq] at hg'
           subst hg'
           rw [setRow_heap w g cur _ e _ hg] at hc'
           cases hc'
           have hu' : u ∈ cur.toList.take (n * i.size) ++ news ++ cur.toList.drop (n * i.size + news.length) := by simpa using hu
           rcases List.mem_append.1 hu' with h | h
           · rcases List.mem_append.1 h with h | h
             · exact hold g cur e (0, 0) rfl hg u (by simpa using List.mem_of_mem_take h)
             · exact hnok u h
           · exact hold g cur e (0, 0) rfl hg u (by simpa using List.mem_of_mem_drop h))
        | (intro g' hg'; left; exact hg')
      · have holds : ∀ j u, xs[j]? = some u → w.cell? ((⟨g, 0, none⟩ : Addr).add j) = some u := hown.cells (g := g) rfl
        have hr2 := run_append_grow (P := P) w t ty e i z ht hi hz ⟨g, 0, none⟩ n cap xs hown.1 holds a m c news hl hnews (by omega) (by unfold maxLen at h63; omega) (growslice_fits (by omega) hbytes)
        rw [hr2] at hr
        injection hr with e1 e2
        subst e1 e2
        first
        | (intro g' c' t' f' hg' hc' u hu
           simp only [Value.ownBlock, Option.some.injEq] at hg'
           subst hg'
           have := heap_alloc_new w.drew (.cells (xs.toArray ++ news.toArray ++ Builtin.zeroCells z.cells (grownCap w (n + m) cap e - (n + m))) e)
           rw [show w.drew.heap.size = w.heap.size from rfl] at this
           rw [this] at hc'
           cases hc'
           rcases Array.mem_append.1 hu with h | h
           · rcases Array.mem_append.1 h with h | h
             · have h' : u ∈ xs := by simpa using h
               rw [← htake] at h'
               exact hold g cur e (0, 0) rfl hg u (by simpa using List.mem_of_mem_take h')
             · exact hnok u (by simpa using h)
           · exact hzok u (mem_zeroCells h))
        | (intro g' hg'; right; simpa [Value.ownBlock] using hg'.symm)
end
end Go.Proofs.YtjkkfjmloleedaaGreat
