/- layer 27's statements: DiskLong -/
import Derived.Test.YtmpjjkfbojhfoaaDScript
set_option linter.unusedSimpArgs false
set_option linter.unusedVariables false
namespace Go.Proofs.Ytmpjjkfbojhfoaa
open Go.RowKit
theorem made_bytes {w : World} {base g n : Nat} (h : w.ownsRow base 5 1 (.slice (some ⟨g, 0, none⟩) n n) n (madeCells (Value.int .u8 0).cells (n * 1)).toList) (hn : n ≤ maxLen) : ∃ B : List UInt8, IsBytes w (some ⟨g, 0, none⟩) n n B := by
  refine ⟨List.replicate n 0, ?_⟩
  rcases h.2 with ⟨h, _⟩ | ⟨g', cap2, cur, he, _, hgg, _, _, hsz, ht⟩
  · cases h
  · injection he with he1 he2 he3
    injection he1 with he1
    injection he1 with he1
    subst he1
    subst he3
    have e : cur.toList = u8s (List.replicate n 0) := by
      have e1 : u8s (List.replicate n 0) = List.replicate n (Value.int .u8 0) := by
        unfold u8s
        rw [List.map_replicate]
        rfl
      rw [e1, ← made_zero, ← ht, List.take_of_length_le (by simp; omega)]
    have e2 : cur = (u8s (List.replicate n 0)).toArray := by rw [← e]
    rw [e2] at hgg
    have := block_IsBytes hgg (by simpa using hn)
    rwa [List.length_replicate] at this
section
variable {d mb r base q k : Nat} {g : Sig} {w w' : World}
theorem bytes_keptD {ao : Option Addr} {n cap : Nat} {l : List UInt8} (h : IsBytes w ao n cap l) (hd : @DSig ⟨none⟩ w d mb base g) (hk : Kept d mb base w w') : IsBytes w' ao n cap l := by
  obtain ⟨st, fu, out, es, c, q3, q5⟩ := @DSig.map ⟨none⟩ _ _ _ _ _ hd
  exact h.moved fun j off v hc => hk.u8s q3 q5 hc
theorem bytes_keptR {ao : Option Addr} {n cap : Nat} {l : List UInt8} (h : IsBytes w ao n cap l) (hr : @RSig ⟨none⟩ w r base g) (hm : MovedR r base w w') : IsBytes w' ao n cap l :=
  h.moved fun j off v hc => @RefAt.kept_u8 ⟨none⟩ _ _ _ _ _ _ _ _ _ hr hm _ _ _ hc
/-- Append of both disks, one behind the other. -/
structure AppMid (w w1 : World) (d mb r base : Nat) (g g' : Sig) (bo : Option Addr) (bn bc : Nat) (B : List UInt8) : Prop where
  ds : @DSig ⟨none⟩ w1 d mb base g'
  rs : @RSig ⟨none⟩ w1 r base g
  bs : IsBytes w1 bo bn bc B
  below : Below base w w1
theorem app_first (s : ByteArray) (hss : s.size ≤ 1099511627776) (bo : Option Addr) (n cap : Nat) (B : List UInt8) (co : Option Addr) (cn cc : Nat) (C : List UInt8) (h : ActAt w d mb r base q k g) (hq : q + n ≤ 4294967296) (hk : k ≤ 100000) (hB : IsBytes w bo n cap B) (hC : IsBytes w co cn cc C) :
    Calls Try.prog 12 #[.pointer (some ⟨d, 0, none⟩), .string s, .slice bo n cap] w fun e w' => e = .returned (.int .i64 (appG s B g).1) ∧ AppMid w w' d mb r base g (appG s B g).2 co cn cc C := by
  refine (@Append_S ⟨none⟩ s hss d mb base q k g bo n cap B w h.hb h.ds h.lim (by have := hB.1; omega) (by omega) hB).mono ?_
  rintro e w' ⟨rfl, h1, h2⟩
  exact ⟨rfl, h1, @RSig.keptD ⟨none⟩ _ _ _ _ _ _ _ _ _ h.rs h.ds h2, bytes_keptD hC h.ds h2, h2.below⟩
theorem app_second {w1 : World} (s : ByteArray) (hss : s.size ≤ 1099511627776) (bo : Option Addr) (n cap : Nat) (B : List UInt8) (co : Option Addr) (cn cc : Nat) (C : List UInt8) (h : ActAt w d mb r base q k g) (hq : q + n ≤ 4294967296) (hk : k ≤ 100000) (hm : AppMid w w1 d mb r base g (appG s B g).2 co cn cc C) (hB : IsBytes w1 bo n cap B) :
    Calls Try.prog 21 #[.pointer (some ⟨r, 0, none⟩), .string s, .slice bo n cap] w1 fun e w' => e = .returned (.int .i64 (appG s B g).1) ∧ ActAt w' d mb r base (q + n) (k + 1) (appG s B g).2 ∧ IsBytes w' co cn cc C ∧ Below base w w' := by
  have hin := h.rin (by omega) hk
  have hbn := hB.1
  refine (@rAppend_S ⟨none⟩ s hss r base q k g bo n cap B w1 hm.rs hin (fun k hk => by cases hk) hB (fun wa wb ha hb => bytes_keptR (hB.later ha) (@RSig.later ⟨none⟩ _ _ _ _ _ hm.rs ha) hb) (by omega)).mono ?_
  rintro e w' ⟨rfl, h1, h2⟩
  exact ⟨rfl, ⟨@DSig.keptR ⟨none⟩ _ _ _ _ _ _ _ _ _ hm.ds hm.rs h2, h1, h.lim.app (by omega) (by omega), Nat.le_trans h.hb (hm.below.trans h2.below).size⟩, bytes_keptR hm.bs hm.rs h2, hm.below.trans h2.below⟩
end
set_option maxRecDepth 100000 in
theorem DiskLong_any (x : Int) (w : World) (hx : -9223372036854775808 ≤ x ∧ x ≤ 9223372036854775807) :
    Calls Try.prog 4 #[.int .i64 x] w fun e w' => e = .returned (.bool true) ∧ Below w.heap.size w w' := by
  obtain ⟨i0, hi, hz0, hz1, hz2⟩ := info_parts Try.infoByte
  have HX := Lib.hid hx
  clear hx
  go_enter Try.func4, Try.ntmps4
  go_wp2_with fail
  refine (New_sig w).mono ?_
  rintro e w1 ⟨d, mb, rfl, hd, hb1⟩
  have H1 := Lib.hid (And.intro hd hb1)
  clear hd hb1
  go_wp2_with fail
  have hr := heap_alloc_new w1 (.cells #[.slice none 0 0, .int .i64 0, .bool false, .int .i64 0, .bool false] 43)
  have hb2 : Below w1.heap.size w1 (w1.alloc (.cells #[.slice none 0 0, .int .i64 0, .bool false, .int .i64 0, .bool false] 43)) := (Below.refl _ _).alloc (Nat.le_refl _) _
  obtain ⟨r, hre⟩ : ∃ r, r = w1.heap.size := ⟨_, rfl⟩
  rw [← hre] at hr ⊢
  generalize w1.alloc (.cells #[.slice none 0 0, .int .i64 0, .bool false, .int .i64 0, .bool false] 43) = w2 at hr hb2 ⊢
  have H2 := Lib.hid (And.intro (new_act H1.out.1 hb2 hr (by rw [hre]; exact H1.out.2.size) H1.out.2.size) (H1.out.2.trans (hb2.mono H1.out.2.size)))
  clear hr hb2 hre
  obtain ⟨base, hbase⟩ : ∃ b, b = w.heap.size := ⟨_, rfl⟩
  rw [← hbase] at H2
  have HBA := Lib.hid hbase
  clear hbase
  refine (Pick_any x 20 w2 HX.out.1 HX.out.2 (by omega) (by omega)).mono ?_
  rintro e w' ⟨rfl, rfl⟩
  obtain ⟨n, hn⟩ : ∃ n : Nat, x % 20 = (n : Int) ∧ n < 20 := ⟨(x % 20).toNat, by omega, by omega⟩
  have HN := Lib.hid hn.2
  rw [hn.1]
  clear hn
  go_wp2_with (at_make; refine wpList_make_full _ rfl _ _ 23 rfl w2.heap.size 5 i0 (.int .u8 0) 1 Try.underlying23 hi hz0 hz1 _ _ _ _ 1048570 rfl rfl (by omega) (by omega) (by rw [hz2]; omega) (by unfold maxLen; omega) (Nat.le_refl _) ?_; intro w3 hown3 hg3)
  obtain ⟨B, hB⟩ := made_bytes hown3 (by unfold maxLen; omega)
  have hb3 : Below w2.heap.size w2 w3 := (Below.refl _ _).grown hg3 (Nat.le_refl _) (fun k hk => by cases hk)
  obtain ⟨N, hNe⟩ : ∃ N : Nat, N = 1048570 := ⟨_, rfl⟩
  obtain ⟨bo, hbo⟩ : ∃ bo : Option Addr, bo = some ⟨w2.heap.size, 0, none⟩ := ⟨_, rfl⟩
  rw [← hNe, ← hbo] at hB
  rw [← hNe, ← hbo]
  have hA3 := H2.out.1.later hb3
  have H3 := Lib.hid (And.intro hA3 (And.intro (H2.out.2.trans (hb3.mono H2.out.1.hb)) hB))
  have H3D := Lib.hid (And.intro (hA3.later (Below.refl w3.heap.size w3).drew) (show IsBytes w3.drew bo N N B from hB.later (Below.refl w3.heap.size w3).drew))
  have HNN := Lib.hid (And.intro hNe HN.out)
  have hsl := (slice_to hB n (by have := HNN.out; omega)).1
  clear hown3 hg3 hB hb3 hA3 hbo hi hz0 hz1 hz2 hNe
  obtain ⟨A, hA⟩ : ∃ A : ByteArray, A = ⟨#[97]⟩ := ⟨_, rfl⟩
  have hAs : A.size ≤ 1099511627776 := by rw [hA]; decide
  obtain ⟨z1, g1, hz1⟩ : ∃ z g', appG A B sig0 = (z, g') := ⟨_, _, rfl⟩
  obtain ⟨z2, g2, hz2⟩ : ∃ z g', appG A (B.take n) g1 = (z, g') := ⟨_, _, rfl⟩
  obtain ⟨z3, hz3⟩ : ∃ z, z = looseG A g2 := ⟨_, rfl⟩
  have HZ := Lib.hid (And.intro hz1 (And.intro hz2 (And.intro hz3 hAs)))
  have n1 : (z1 != z1) = false := by simp
  have n2 : (z2 != z2) = false := by simp
  have n3 : (z3 != z3) = false := by simp
  clear hz1 hz2 hz3 hAs
  rw [← hA]
  have HAA := Lib.hid hA
  clear hA
  go_region_held3 (fun w' => True)
    (exact trivial)
    (first
      | (go_at_call 12
         go_split_ands
         refine (app_first A HZ.out.2.2.2 bo n N (B.take n) bo N N B ha2 (by have := HNN.out; omega) (by omega) (hb2.cut n (by have := HNN.out; omega)) hb2).mono ?_
         rintro e w6 ⟨rfl, hm6⟩
         rw [HZ.out.2.1] at hm6
         rw [HZ.out.2.1])
      | (go_at_call 12
         refine (app_first A HZ.out.2.2.2 bo N N B bo N N B H3D.out.1 (by have := HNN.out; omega) (by omega) H3D.out.2 H3D.out.2).mono ?_
         rintro e w4 ⟨rfl, hm4⟩
         have hm4h := Lib.hid hm4)
      | (go_at_call 21
         go_split_ands
         refine (app_second A HZ.out.2.2.2 bo n N (B.take n) bo N N B ha2 (by have := HNN.out; omega) (by omega) (by rw [HZ.out.2.1]; exact hm6) (hm6.bs.cut n (by have := HNN.out; omega))).mono ?_
         rintro e w7 ⟨rfl, ha7, hb7, hbb7⟩
         rw [HZ.out.2.1] at ha7
         rw [HZ.out.2.1])
      | (go_at_call 21
         refine (app_second A HZ.out.2.2.2 bo N N B bo N N B H3D.out.1 (by have := HNN.out; omega) (by omega) hm4h.out hm4h.out.bs).mono ?_
         rintro e w5 ⟨rfl, ha2, hb2, hbb2⟩
         rw [HZ.out.1] at ha2
         rw [HZ.out.1])
      | (go_at_call 15
         go_split_ands
         refine (@Loose_S ⟨none⟩ A d mb base g2 _ ha7.ds).mono ?_
         rintro e w8 ⟨rfl, rfl⟩
         rw [← HZ.out.2.2.1])
      | (go_at_call 22
         go_split_ands
         refine (@rLoose_S ⟨none⟩ A r base _ _ g2 _ ha7.rs (ha7.rin (by have := HNN.out; omega) (by omega))).mono ?_
         rintro e w9 ⟨rfl, hb9⟩
         rw [← HZ.out.2.2.1]))
  all_goals
    have H9 := Lib.hid (And.intro ((ha7.later hb9).mono (q' := 3000000) (k' := 2) (by have := HNN.out; omega) (by omega)) (((H3.out.2.1.trans ((Below.refl base w3).drew)).trans (hbb2.trans hbb7)).trans (hb9.mono ha7.hb)))
    clear hm4h hb2 hbb2 ha2 hb9 ha7 hb7 hbb7 hm6 n1 n2 n3 hsl
    obtain ⟨m, hm⟩ : ∃ m : Nat, m = 13 + n % 5 := ⟨_, rfl⟩
    have hm1 : ((n : Int)).tmod 5 = ((n % 5 : Nat) : Int) := by
      rw [Int.tmod_eq_emod_of_nonneg (by omega)]
      omega
    have hm2 : IntKind.i64.wrap (13 + ((n % 5 : Nat) : Int)) = (m : Int) := by rw [hm]; exact (IntWalk.i64_in _ (by omega)).trans (by omega)
    have hm3 : (13 + ((n % 5 : Nat) : Int)) = (m : Int) := by rw [hm]; omega
    have hm17 : m ≤ 17 := by omega
    clear hm
    go_wp2_with fail
    go_loopw [6] (fun i wr => ∃ k : Nat, k ≤ m ∧ i = .int .i64 k ∧ Hid ((∃ g, ActAt wr d mb r base 3000000 (k + 2) g) ∧ Below base w wr)) (fun i _ => m - (intOf i).toNat)
    case atStart => exact ⟨0, by omega, rfl, Lib.hid ⟨⟨_, H9.out.1⟩, H9.out.2⟩⟩
    case round =>
      obtain ⟨k, hk, rfl, hI⟩ := hrel
      by_cases hlt : k < m
      · have hi0 : (0 : Int) ≤ (k : Int) := by omega
        have hi1 : (k : Int) < (m : Int) := by omega
        have hc1 : IntKind.i64.wrap (98 + (k : Int)) = 98 + (k : Int) := IntWalk.i64_in _ (by omega)
        obtain ⟨c, hc⟩ : ∃ c : UInt8, ((c.toNat : Nat) : Int) = 98 + (k : Int) := ⟨UInt8.ofNat (98 + k), by simp; omega⟩
        have hcv := convert_bytes (IsBytes.lit wr [c] 5 (by simp))
        rw [show (u8s [c]).toArray = #[.int .u8 (98 + (k : Int))] by simp [u8s, u8, hc]] at hcv
        rw [show [c].length = 1 from rfl] at hcv
        have hbX : Below wr.heap.size wr (wr.alloc (.cells #[.int .u8 (98 + (k : Int))] 5)) := (Below.refl _ _).alloc (Nat.le_refl _) _
        obtain ⟨g, hA⟩ := hI.out.1
        have hss : (⟨#[c]⟩ : ByteArray).size ≤ 1099511627776 := by
          show 1 ≤ 1099511627776
          omega
        obtain ⟨s, hs⟩ : ∃ s : ByteArray, s = ⟨#[c]⟩ := ⟨_, rfl⟩
        obtain ⟨z, g', hzg⟩ : ∃ z g', appG s [] g = (z, g') := ⟨_, _, rfl⟩
        have hzz : (z != z) = false := by simp
        rw [← hs] at hss
        have HS := Lib.hid (And.intro hs (And.intro hss hzg))
        have HA := Lib.hid (And.intro (hA.later hbX) (hI.out.2.trans (hbX.mono hA.hb)))
        clear hA hbX hss hs hzg
        go_wp2_with fail
        rw [← HS.out.1]
        generalize wr.alloc (.cells #[.int .u8 (98 + (k : Int))] 5) = W at HA ⊢
        refine (app_first s HS.out.2.1 none 0 0 [] none 0 0 [] HA.out.1 (by omega) (by omega) (IsBytes.nil W) (IsBytes.nil W)).mono ?_
        rintro e w6 ⟨rfl, hm6⟩
        have HM := Lib.hid hm6
        rw [HS.out.2.2]
        clear hm6
        go_wp2_with fail
        refine (app_second s HS.out.2.1 none 0 0 [] none 0 0 [] HA.out.1 (by omega) (by omega) HM.out (IsBytes.nil w6)).mono ?_
        rintro e w7 ⟨rfl, hA7, _, hb7⟩
        rw [HS.out.2.2] at hA7
        have H7 := Lib.hid (And.intro (hA7.mono (q' := 3000000) (k' := k + 1 + 2) (by omega) (by omega)) (HA.out.2.trans hb7))
        rw [HS.out.2.2]
        clear hA7 hb7
        go_wp2_with fail
        go_roundw
        case rel => exact ⟨k + 1, by omega, by go_num, Lib.hid ⟨⟨_, H7.out.1⟩, H7.out.2⟩⟩
        case measure => simp [intOf]; omega
      · obtain rfl : k = m := by omega
        have hi1 : ¬ ((k : Int) < 13 + ((n % 5 : Nat) : Int)) := by omega
        obtain ⟨g, hA⟩ := hI.out.1
        have HA := Lib.hid (And.intro hA hI.out.2)
        clear hA
        go_wp2_with fail
        refine (same_any HA.out.1 (by omega) (by omega)).mono ?_
        rintro e w8 ⟨rfl, hb8⟩
        have H8 := Lib.hid (HA.out.2.trans (hb8.mono HA.out.1.hb))
        clear hb8
        go_wp2_with fail
        refine (awake_any _).mono ?_
        rintro e w10 ⟨rfl, hb10⟩
        have H10 := Lib.hid (H8.out.trans (hb10.mono (Nat.le_trans (by rw [HBA.out]; exact Nat.le_refl _) H8.out.size)))
        clear hb10
        go_wp2_with fail
        go_ret
        exact ⟨rfl, HBA.out ▸ H10.out⟩
end Go.Proofs.Ytmpjjkfbojhfoaa
