/- layer 28's statements: LedgerLong -/
import Derived.Test.YtjkkfjmloleedaaGreatPScript
set_option linter.unusedSimpArgs false
set_option linter.unusedVariables false
namespace Go.Proofs.YtjkkfjmloleedaaGreat
open Go.RowKit
set_option linter.unusedSectionVars false
theorem made_bytes {w : World} {base g n : Nat} (h : w.ownsRow base 5 1 (.slice (some ⟨g, 0, none⟩) n n) n (madeCells (Value.int .u8 0).cells (n * 1)).toList) (hn : n ≤ maxLen) : ∃ B : List UInt8, IsBytes w (some ⟨g, 0, none⟩) n n B := by
  refine ⟨List.replicate n 0, ?_⟩
  rcases h.2 with ⟨h, _⟩ | ⟨g', cap2, cur, he, _, hgg, _, _, hsz, ht⟩
  · cases h
  · injection he with he1 he2 he3
    injection he1 with he1
    injection he1 with he1
    subst he1
    subst he3
    have e : cur.toList = u8s (List.replicate n 0) := by
      have e1 : u8s (List.replicate n 0) = List.replicate n (Value.int .u8 0) := by
        unfold u8s
        rw [List.map_replicate]
        rfl
      rw [e1, ← made_zero, ← ht, List.take_of_length_le (by simp; omega)]
    have e2 : cur = (u8s (List.replicate n 0)).toArray := by rw [← e]
    rw [e2] at hgg
    have := block_IsBytes hgg (by simpa using hn)
    rwa [List.length_replicate] at this
section
variable {p d mb r base q k : Nat} {g : Sig} {Lo : Option LSig} {lv mv : Value} {w : World}
theorem pact_zero {ba : Option Addr} {bn bc : Nat} {B : List UInt8} (h : PairAt w p d mb r base q k g Lo lv mv) (hq : q + bn + 13 ≤ 4294967296) (hk9 : k + 3 ≤ 100000) (hB : IsBytes w ba bn bc B) :
    Calls Tryz.prog 7 #[.pointer (some ⟨p, 0, none⟩), .agg #[.int .i64 0, .int .i64 0, .int .i64 0, .string ⟨#[]⟩, .slice ba bn bc]] w fun e w' => PActR p d mb r base (q + bn + 13) (k + 2) w e w' := by
  have hx : ∀ w', Still8 base w w' → IsBytes w' ba bn bc B := fun w' hs => hB.moved fun j off v hc => hs.2 j off v hc
  rcases h.led with ⟨rfl, rfl, rfl⟩ | ⟨L, l, m, rfl, rfl, rfl, _⟩
  · exact (pact_none0 (x := ⟨0, 0, 0, ⟨#[]⟩, ba, bn, bc, B⟩) rfl h (by omega) trivial).mono fun e w' hr => hr.mono (by omega) (by omega)
  · exact pact_add0 (x := ⟨0, 0, 0, ⟨#[]⟩, ba, bn, bc, B⟩) rfl h (by omega) (by omega) hx
end
set_option maxRecDepth 100000 in
set_option maxHeartbeats 1000000 in
theorem LedgerLong_any (x : Int) (w : World) (hx : -9223372036854775808 ≤ x ∧ x ≤ 9223372036854775807) :
    Calls Tryz.prog 4 #[.int .i64 x] w fun e w' => e = .returned (.bool true) ∧ Below w.heap.size w w' := by
  have HX := Lib.hid hx
  clear hx
  go_enter Tryz.func4, Tryz.ntmps4
  go_wp2_with fail
  refine (New_zero w).mono ?_
  rintro e w1 ⟨d, mb, rfl, hd, hb1⟩
  have H1 := Lib.hid (And.intro hd hb1)
  clear hd hb1
  obtain ⟨r, hre⟩ : ∃ r, r = w1.heap.size := ⟨_, rfl⟩
  obtain ⟨p, hpe⟩ : ∃ p, p = w1.heap.size + 1 := ⟨_, rfl⟩
  have hr := heap_alloc_new w1 (.cells #[.slice none 0 0, .int .i64 0, .bool false, .int .i64 0, .bool false] 29)
  have hb2 : Below w1.heap.size w1 (w1.alloc (.cells #[.slice none 0 0, .int .i64 0, .bool false, .int .i64 0, .bool false] 29)) := (Below.refl _ _).alloc (Nat.le_refl _) _
  obtain ⟨w2, hw2⟩ : ∃ w2, w2 = w1.alloc (.cells #[.slice none 0 0, .int .i64 0, .bool false, .int .i64 0, .bool false] 29) := ⟨_, rfl⟩
  have hs2 : w2.heap.size = w1.heap.size + 1 := by rw [hw2]; simp
  have hp := heap_alloc_new w2 (.cells #[.pointer (some ⟨d, 0, none⟩), .pointer (some ⟨w1.heap.size, 0, none⟩), .pointer none, .pointer none] 33)
  have hb3 : Below w2.heap.size w2 (w2.alloc (.cells #[.pointer (some ⟨d, 0, none⟩), .pointer (some ⟨w1.heap.size, 0, none⟩), .pointer none, .pointer none] 33)) := (Below.refl _ _).alloc (Nat.le_refl _) _
  rw [← hw2] at hr hb2
  have H2 := Lib.hid (And.intro (new_pair H1.out.1 H1.out.2.size hr (Nat.le_refl _) hb2 hp (Nat.le_refl _) hb3) (H1.out.2.trans ((hb2.mono H1.out.2.size).trans (hb3.mono (Nat.le_trans H1.out.2.size hb2.size)))))
  rw [hs2, ← hpe, ← hre, hw2] at H2
  clear hr hb2 hp hb3 hs2 hw2
  have c0 := H2.out.1.cells.1
  rw [hre] at c0 H2
  rw [hpe] at c0 H2
  go_wp2_with fail
  generalize (World.alloc (World.alloc w1 _) _) = w3 at H2 c0 ⊢
  rw [← hpe, ← hre] at H2
  rw [← hpe, ← hre]
  clear c0 hpe hre
  obtain ⟨base, hbase⟩ : ∃ b, b = w.heap.size := ⟨_, rfl⟩
  rw [← hbase] at H2
  have HBA := Lib.hid hbase
  clear hbase
  refine (opens_any ⟨#[102]⟩ (by decide) H2.out.1 (by omega) (by omega)).mono ?_
  rintro e w4 ⟨rfl, ⟨g4, Lo4, lv4, mv4, hA4⟩, hb4⟩
  have H4 := Lib.hid (And.intro hA4 (H2.out.2.trans hb4))
  clear hA4 hb4
  go_wp2_with fail
  refine (Pick_any x 10 w4 HX.out.1 HX.out.2 (by omega) (by omega)).mono ?_
  rintro e w' ⟨rfl, rfl⟩
  obtain ⟨n, hn⟩ : ∃ n : Nat, x % 10 = (n : Int) ∧ n < 10 := ⟨(x % 10).toNat, by omega, by omega⟩
  have HN := Lib.hid hn.2
  rw [hn.1]
  clear hn
  obtain ⟨m, hm⟩ : ∃ m : Nat, m = 16 + n % 3 := ⟨_, rfl⟩
  have hm1 : ((n : Int)).tmod 3 = ((n % 3 : Nat) : Int) := by
    rw [Int.tmod_eq_emod_of_nonneg (by omega)]
    omega
  have hm2 : IntKind.i64.wrap (16 + ((n % 3 : Nat) : Int)) = (m : Int) := by rw [hm]; exact (IntWalk.i64_in _ (by omega)).trans (by omega)
  have hm3 : (16 + ((n % 3 : Nat) : Int)) = (m : Int) := by rw [hm]; omega
  have hm17 : m ≤ 18 := by omega
  clear hm
  have HM := Lib.hid hm17
  clear hm17
  go_wp2_with fail
  go_loopw [4] (fun i wr => ∃ k : Nat, k ≤ m ∧ i = .int .i64 k ∧ Hid ((∃ g Lo lv mv, PairAt wr p d mb r base (1 + k * 60013) (2 + 2 * k) g Lo lv mv) ∧ Below w.heap.size w wr)) (fun i _ => m - (intOf i).toNat)
  case atStart => exact ⟨0, by omega, rfl, Lib.hid ⟨⟨_, _, _, _, H4.out.1⟩, HBA.out ▸ H4.out.2⟩⟩
  case round =>
    obtain ⟨k, hk, rfl, hI⟩ := hrel
    by_cases hlt : k < m
    · have hi0 : (0 : Int) ≤ (k : Int) := by omega
      have hi1 : (k : Int) < (m : Int) := by omega
      obtain ⟨i0, hi, hz0, hz1, hz2⟩ := info_parts Tryz.infoByte
      obtain ⟨g, Lo, lv, mv, hA⟩ := hI.out.1
      have HA := Lib.hid hA
      clear hA
      go_wp2_with (at_make; refine wpList_make_full _ rfl _ _ 36 rfl wr.heap.size 5 i0 (.int .u8 0) 1 Tryz.underlying36 hi hz0 hz1 _ _ _ _ 60000 rfl rfl (by omega) (by omega) (by rw [hz2]; omega) (by unfold maxLen; omega) (Nat.le_refl _) ?_; intro w5 hown5 hg5)
      obtain ⟨B, hB⟩ := made_bytes hown5 (by unfold maxLen; omega)
      have hb5 : Below wr.heap.size wr w5 := (Below.refl _ _).grown hg5 (Nat.le_refl _) (fun k hk => by cases hk)
      have HB := Lib.hid (And.intro hB hb5)
      clear hown5 hg5 hB hb5 hi hz0 hz1 hz2
      refine (pact_zero (HA.out.later HB.out.2) (by have := HM.out; omega) (by have := HM.out; omega) HB.out.1).mono ?_
      rintro e w6 ⟨rfl, ⟨g6, Lo6, lv6, mv6, hA6⟩, hb6⟩
      have H6 := Lib.hid (And.intro (hA6.mono (q' := 1 + (k + 1) * 60013) (k' := 2 + 2 * (k + 1)) (by omega) (by omega)) (hI.out.2.trans ((HB.out.2.mono hI.out.2.size).trans (HBA.out ▸ hb6))))
      clear hA6 hb6
      go_wp2_with fail
      go_roundw
      case rel => exact ⟨k + 1, by omega, by go_num, Lib.hid ⟨⟨_, _, _, _, H6.out.1⟩, H6.out.2⟩⟩
      case measure => simp [intOf]; omega
    · obtain rfl : k = m := by omega
      have hi1 : ¬ ((k : Int) < 16 + ((n % 3 : Nat) : Int)) := by omega
      obtain ⟨i0, hi, hz0, hz1, hz2⟩ := info_parts Tryz.infoByte
      obtain ⟨g, Lo, lv, mv, hA⟩ := hI.out.1
      have HA := Lib.hid (hA.mono (q' := 1100000) (k' := 40) (by have := HM.out; omega) (by have := HM.out; omega))
      clear hA
      have hn10 := HN.out
      obtain ⟨z, hz⟩ : ∃ z : Nat, z = 65530 + n := ⟨_, rfl⟩
      have hz3 : (65530 + (n : Int)) = (z : Int) := by omega
      have hz4 : IntKind.i64.wrap (65530 + (n : Int)) = (z : Int) := by rw [hz]; exact (IntWalk.i64_in _ (by omega)).trans (by omega)
      have hz5 : z ≤ 65540 := by omega
      clear hz hn10
      have HZ := Lib.hid hz5
      go_wp2_with (at_make; refine wpList_make_full _ rfl _ _ 36 rfl wr.heap.size 5 i0 (.int .u8 0) 1 Tryz.underlying36 hi hz0 hz1 _ _ _ _ z rfl rfl (by omega) (by omega) (by rw [hz2]; omega) (by unfold maxLen; omega) (Nat.le_refl _) ?_; intro w5 hown5 hg5)
      obtain ⟨B, hB⟩ := made_bytes hown5 (by unfold maxLen; omega)
      have hb5 : Below wr.heap.size wr w5 := (Below.refl _ _).grown hg5 (Nat.le_refl _) (fun k hk => by cases hk)
      have HB := Lib.hid (And.intro hB hb5)
      clear hown5 hg5 hB hb5 hi hz0 hz1 hz2
      refine (pact_zero (HA.out.later HB.out.2) (by have := HZ.out; omega) (by omega) HB.out.1).mono ?_
      rintro e w6 ⟨rfl, ⟨g6, Lo6, lv6, mv6, hA6⟩, hb6⟩
      have H6 := Lib.hid (And.intro (hA6.mono (q' := 1200000) (k' := 42) (by have := HZ.out; omega) (by omega)) (hI.out.2.trans ((HB.out.2.mono hI.out.2.size).trans (HBA.out ▸ hb6))))
      clear hA6 hb6
      go_wp2_with fail
      have hlt := IsBytes.lit w6 [1] 5 (by simp)
      rw [show (u8s [1]).toArray = #[.int .u8 1] by simp [u8s, u8]] at hlt
      rw [show ([1] : List UInt8).length = 1 from rfl] at hlt
      have hb7 : Below w6.heap.size w6 (w6.alloc (.cells #[.int .u8 1] 5)) := (Below.refl _ _).alloc (Nat.le_refl _) _
      have H7 := Lib.hid (And.intro hlt (And.intro (H6.out.1.later hb7) (H6.out.2.trans (hb7.mono H6.out.2.size))))
      clear hlt hb7
      generalize w6.alloc (.cells #[.int .u8 1] 5) = w7 at H7 ⊢
      refine (pact_zero H7.out.2.1 (by omega) (by omega) H7.out.1).mono ?_
      rintro e w8 ⟨rfl, ⟨g8, Lo8, lv8, mv8, hA8⟩, hb8⟩
      have H8 := Lib.hid (And.intro hA8 (H7.out.2.2.trans (HBA.out ▸ hb8)))
      clear hA8 hb8
      go_wp2_with fail
      refine (psame_any H8.out.1 (by omega) (by omega)).mono ?_
      rintro e w9 ⟨rfl, hb9⟩
      have H9 := Lib.hid (H8.out.2.trans (hb9.mono H8.out.2.size))
      clear hb9
      go_wp2_with fail
      refine (awake_any _).mono ?_
      rintro e w10 ⟨rfl, hb10⟩
      have H10 := Lib.hid (H9.out.trans (hb10.mono H9.out.size))
      clear hb10
      go_wp2_with fail
      go_ret
      exact ⟨rfl, H10.out⟩
end Go.Proofs.YtjkkfjmloleedaaGreat
