/- LedgerKnown: the bounds of its states; its small slices -/
import Derived.Test.YtgbpgmbnihfkkaaLKnownS
set_option linter.unusedSimpArgs false
set_option linter.unusedVariables false
namespace Go.Proofs.Ytgbpgmbnihfkkaa
open Go.RowKit
set_option linter.unusedSectionVars false
def S2 : List UInt8 := [] ++ Fr.putF [1, 2] ++ Fr.putF []
theorem S2_len : S2.length = 26 := by simp [S2, putF_len]
theorem S2_eq : S2 = Fr.putF [1, 2] ++ Fr.putF [] := rfl
/-- the disk after Fuse(1). -/
def fuG : Sig := ⟨[(logN, S2, [])], 6, true, 1, false⟩
/-- after the Add that broke. -/
def brG : Sig := ⟨[(logN, S2, [.more (Fr.putF [7])])], 7, true, 0, true⟩
theorem fu_eq : fuseG 1 (oneG logN S2 6 0) = (0, fuG) := fuse_one
theorem fu_lim : Lim 30 10 fuG := by
  have h := (oneG_lim (s := logN) (S := S2) (N := 6) (lf := 0) (q := 30) (k := 10) (by rw [S2_len]; decide) (by decide) (by decide) (by decide)).fuse (n := 1) (by decide)
  rwa [fu_eq] at h
theorem br_eq : addG [7] ⟨logN, 2, 26, false⟩ fuG = (10, ⟨logN, 2, 26, true⟩, brG) := add_broken (by rw [S2_len]; decide)
theorem br_lim : Lim 60 12 brG ∧ LLim 60 ⟨logN, 2, 26, true⟩ := by
  have h := addG_lim (B := [7]) (q' := 60) (k' := 12) fu_lim (L := ⟨logN, 2, 26, false⟩) ⟨by decide, by decide, by decide, by decide⟩ (by decide) (by decide)
  rwa [br_eq] at h
theorem st_eq : addG [7] ⟨logN, 2, 26, true⟩ brG = (9, ⟨logN, 2, 26, true⟩, brG) := add_state rfl
def tnG : Sig := oneG logN (S2 ++ (Fr.putF [7]).take 6) 7 0
theorem cr_eq : crashG [20] brG = (0, tnG) := crash_one (by rw [putF_len]; rfl)
theorem tn_lim : Lim 60 12 tnG := oneG_lim (by simp [S2_len, putF_len]) (by decide) (by decide) (by decide)
theorem op_eq : openG logN tnG = (0, some ⟨logN, 2, 26, false⟩, [[1, 2], []], oneG logN S2 9 0) := by
  have h := open_torn (S := S2) (t := (Fr.putF [7]).take 6) (N := 7) (lf := 0) scan_torn S2_len
  exact h
theorem on_lim : Lim 30 10 (oneG logN S2 9 0) := oneG_lim (by rw [S2_len]; decide) (by decide) (by decide) (by decide)
def xG : Sig := twoG S2 ([], [.more [5]]) 10
theorem ax_eq : appG xN [5] (oneG logN S2 9 0) = (0, xG) := app_x
theorem x_lim : Lim 40 20 xG := by
  have h := on_lim.app (s := xN) (B := [5]) (q' := 40) (k' := 20) (by decide) (by decide)
  rwa [ax_eq] at h
def yG : Sig := threeG S2 ([], [.more [5]]) ([], [.more [0, 0, 0, 0, 0, 0, 0, 0]]) 11
theorem ay_eq : appG yN [0, 0, 0, 0, 0, 0, 0, 0] xG = (0, yG) := app_y
theorem y_lim : Lim 60 30 yG := by
  have h := x_lim.app (s := yN) (B := [0, 0, 0, 0, 0, 0, 0, 0]) (q' := 60) (k' := 30) (by decide) (by decide)
  rwa [ay_eq] at h
def oxG : Sig := threeG S2 ([], []) ([], [.more [0, 0, 0, 0, 0, 0, 0, 0]]) 13
theorem ox_eq : openG xN yG = (0, some ⟨xN, 0, 0, false⟩, [], oxG) := open_x
theorem ox_lim : Lim 70 40 oxG := by
  have h := (openG_lim (nm := xN) y_lim (q' := 70) (k' := 40) (by decide) (by decide)).1
  rwa [ox_eq] at h
theorem rx_eq : readG xN oxG = (0, []) := read_x
theorem oy_eq : openG yN oxG = (4, none, [], oxG) := open_y
theorem lit1 (w : World) (b : UInt8) : IsBytes (w.alloc (.cells #[.int .u8 (b.toNat : Int)] 5)) (some ⟨w.heap.size, 0, none⟩) 1 1 [b] := by
  refine ⟨rfl, Nat.le_refl _, by unfold maxLen; omega, fun _ => ⟨w.heap.size, 0, rfl, fun i hi => ?_⟩, fun h => by cases h⟩
  have h := heap_alloc_new w (.cells #[.int .u8 (b.toNat : Int)] 5)
  match i, hi with
  | 0, _ => exact cell_of_row _ _ _ _ _ _ h
theorem lit8 (w : World) : IsBytes (w.alloc (.cells #[.int .u8 0, .int .u8 0, .int .u8 0, .int .u8 0, .int .u8 0, .int .u8 0, .int .u8 0, .int .u8 0] 5)) (some ⟨w.heap.size, 0, none⟩) 8 8 [0, 0, 0, 0, 0, 0, 0, 0] := by
  refine ⟨rfl, Nat.le_refl _, by unfold maxLen; omega, fun _ => ⟨w.heap.size, 0, rfl, fun i hi => ?_⟩, fun h => by cases h⟩
  have h := heap_alloc_new w (.cells #[.int .u8 0, .int .u8 0, .int .u8 0, .int .u8 0, .int .u8 0, .int .u8 0, .int .u8 0, .int .u8 0] 5)
  match i, hi with
  | 0, _ => exact cell_of_row _ _ _ _ _ _ h
  | 1, _ => exact cell_of_row _ _ _ _ _ _ h
  | 2, _ => exact cell_of_row _ _ _ _ _ _ h
  | 3, _ => exact cell_of_row _ _ _ _ _ _ h
  | 4, _ => exact cell_of_row _ _ _ _ _ _ h
  | 5, _ => exact cell_of_row _ _ _ _ _ _ h
  | 6, _ => exact cell_of_row _ _ _ _ _ _ h
  | 7, _ => exact cell_of_row _ _ _ _ _ _ h
theorem keep1 (w : World) : IsKeeps (w.alloc (.cells #[.int .i64 20] 3)) (some ⟨w.heap.size, 0, none⟩) 1 1 [20] := by
  have h := heap_alloc_new w (.cells #[.int .i64 20] 3)
  refine ⟨rfl, Nat.le_refl _, by unfold maxLen; omega, (fun e => by cases e), fun i hi => ?_⟩
  match i, hi with
  | 0, _ => exact ⟨_, 0, _, _, _, 20, rfl, h, by decide, rfl, rfl, by decide, by decide⟩
/-- where the ledger and its disk stand. -/
structure LAt (base d mb l : Nat) (n z : Int) (br : Bool) (g : Sig) (w0 w : World) : Prop where
  hs : base ≤ w.heap.size
  hl : base ≤ l
  row : LedRow w l d logN n z br
  ds : @DSig Z0 w d mb base g
  below : Below base w0 w
theorem LAt.later {base d mb l : Nat} {n z : Int} {br : Bool} {g : Sig} {w0 w w' : World} (h : LAt base d mb l n z br g w0 w) (hb : Below w.heap.size w w') : LAt base d mb l n z br g w0 w' :=
  ⟨Nat.le_trans h.hs hb.size, h.hl, h.row.below hb, @DSig.later Z0 _ _ _ _ _ _ h.ds hb, h.below.trans (hb.mono h.hs)⟩
theorem LAt.kept {base d mb l : Nat} {n z : Int} {br : Bool} {g g' : Sig} {w0 w w' : World} (h : LAt base d mb l n z br g w0 w) (hk : Kept d mb base w w') (hd : @DSig Z0 w' d mb base g') : LAt base d mb l n z br g' w0 w' :=
  ⟨Nat.le_trans h.hs hk.below.size, h.hl, h.row.fd (FD.of_kept h.ds hk), hd, h.below.trans hk.below⟩
theorem LAt.fd {base d mb l : Nat} {n z n' z' : Int} {br br' : Bool} {g g' : Sig} {w0 w w' : World} (h : LAt base d mb l n z br g w0 w) (hk : FD base (some l) w w') (hd : @DSig Z0 w' d mb base g') (hr : LedRow w' l d logN n' z' br') : LAt base d mb l n' z' br' g' w0 w' :=
  ⟨Nat.le_trans h.hs hk.below.size, h.hl, hr, hd, h.below.trans hk.below⟩
theorem LAt.fdn {base d mb l : Nat} {n z : Int} {br : Bool} {g g' : Sig} {w0 w w' : World} (h : LAt base d mb l n z br g w0 w) (hk : FD base none w w') (hd : @DSig Z0 w' d mb base g') : LAt base d mb l n z br g' w0 w' :=
  ⟨Nat.le_trans h.hs hk.below.size, h.hl, h.row.fd hk, hd, h.below.trans hk.below⟩
/-- an Add at such a place. -/
theorem LAt.add {base d mb l : Nat} {n z n' z' : Int} {br br' : Bool} {g g' : Sig} {w0 w : World} {q k : Nat} {c : Int} {ao : Option Addr} {m cap : Nat} {B : List UInt8} (h : LAt base d mb l n z br g w0 w) (hB : IsBytes w ao m cap B) (hlim : Lim q k g) (hLl : LLim q ⟨logN, n, z, br⟩) (hq : q + m + 13 ≤ 4294967296) (hk : k + 2 ≤ 1000000) (he : addG B ⟨logN, n, z, br⟩ g = (c, ⟨logN, n', z', br'⟩, g')) :
    Calls Try.prog 6 #[.pointer (some ⟨l, 0, none⟩), .slice ao m cap] w fun e w' => e = .returned (.int .i64 c) ∧ LAt base d mb l n' z' br' g' w0 w' := by
  have ha := @Add_S Z0 base d mb l q k ⟨logN, n, z, br⟩ g ao m cap B w (show ByteArray.size ⟨#[108, 111, 103]⟩ ≤ 1099511627776 by decide) h.hs h.hl h.row h.ds hB hlim hLl hq hk
  rw [he] at ha
  refine ha.mono ?_
  rintro e w' ⟨rfl, hd, hl, hf⟩
  exact ⟨rfl, h.fd hf hd hl⟩
theorem LAt.broken {base d mb l : Nat} {n z : Int} {br : Bool} {g : Sig} {w0 w : World} (h : LAt base d mb l n z br g w0 w) :
    Calls Try.prog 8 #[.pointer (some ⟨l, 0, none⟩)] w fun e w' => e = .returned (.bool br) ∧ w = w' := Broken_any l d logN n z br w h.row
theorem LAt.crash {base d mb l : Nat} {n z : Int} {br : Bool} {g g' : Sig} {w0 w : World} {c : Int} {ao : Option Addr} {m cap : Nat} {K : List Int} (h : LAt base d mb l n z br g w0 w) (hK : IsKeeps w ao m cap K) (he : crashG K g = (c, g')) :
    Calls Try.prog 9 #[.pointer (some ⟨d, 0, none⟩), .slice ao m cap] w fun e w' => e = .returned (.int .i64 c) ∧ LAt base d mb l n z br g' w0 w' := by
  have ha := @Crash_S Z0 ao m cap K d mb base g w h.hs h.ds hK
  rw [he] at ha
  refine ha.mono ?_
  rintro e w' ⟨rfl, hd, hk⟩
  exact ⟨rfl, h.kept hk hd⟩
theorem LAt.fuse {base d mb l : Nat} {n z : Int} {br : Bool} {g g' : Sig} {w0 w : World} {c x : Int} (h : LAt base d mb l n z br g w0 w) (hx : x ≤ 9223372036854775807) (he : fuseG x g = (c, g')) :
    Calls Try.prog 7 #[.pointer (some ⟨d, 0, none⟩), .int .i64 x] w fun e w' => e = .returned (.int .i64 c) ∧ LAt base d mb l n z br g' w0 w' := by
  have ha := @Fuse_S Z0 x hx d mb base g w h.hs h.ds
  rw [he] at ha
  refine ha.mono ?_
  rintro e w' ⟨rfl, hd, hk⟩
  exact ⟨rfl, h.kept hk hd⟩
theorem LAt.app {base d mb l : Nat} {n z : Int} {br : Bool} {g g' : Sig} {w0 w : World} {c : Int} {q k : Nat} {s : ByteArray} {ao : Option Addr} {m cap : Nat} {B : List UInt8} (h : LAt base d mb l n z br g w0 w) (hs : s.size ≤ 1099511627776) (hB : IsBytes w ao m cap B) (hl : Lim q k g) (hq : q + B.length ≤ 4294967296) (hk : k ≤ 1000000) (he : appG s B g = (c, g')) :
    Calls Try.prog 10 #[.pointer (some ⟨d, 0, none⟩), .string s, .slice ao m cap] w fun e w' => e = .returned (.int .i64 c) ∧ LAt base d mb l n z br g' w0 w' := by
  have ha := @Append_S Z0 s hs d mb base q k g ao m cap B w h.hs h.ds hl hq hk hB
  rw [he] at ha
  refine ha.mono ?_
  rintro e w' ⟨rfl, hd, hk⟩
  exact ⟨rfl, h.kept hk hd⟩
theorem LAt.read {base d mb l : Nat} {n z : Int} {br : Bool} {g : Sig} {w0 w : World} {c : Int} {s : ByteArray} {B : List UInt8} {m : Nat} (h : LAt base d mb l n z br g w0 w) (he : readG s g = (c, B)) (hm : B.length = m) :
    Calls Try.prog 12 #[.pointer (some ⟨d, 0, none⟩), .string s] w fun e w' => ∃ ao cap, e = .returned (.tuple #[.slice ao m cap, .int .i64 c]) ∧ LAt base d mb l n z br g w0 w' := by
  have ha := @Read_S Z0 s d mb base g w h.ds
  rw [he] at ha
  refine ha.mono ?_
  rintro e w' ⟨v, rfl, ho, hb⟩
  obtain ⟨ao, cap, rfl, _⟩ := ho.bytes
  rw [← hm]
  exact ⟨ao, cap, rfl, h.later hb⟩
theorem LAt.open {base d mb l : Nat} {n z : Int} {br : Bool} {g g' : Sig} {w0 w : World} {c : Int} {q k : Nat} {nm : ByteArray} {Lo : Option LSig} {R : List (List UInt8)} {m : Nat} (h : LAt base d mb l n z br g w0 w) (hs : nm.size ≤ 1099511627776) (hl : Lim q k g) (hq : q + 1 ≤ 4294967296) (hk : k + 2 ≤ 1000000) (he : openG nm g = (c, Lo, R, g')) (hm : R.length = m) :
    Calls Try.prog 11 #[.pointer (some ⟨d, 0, none⟩), .string nm] w fun e w' => ∃ lv ao cap, e = .returned (.tuple #[lv, .slice ao m cap, .int .i64 c]) ∧ LAt base d mb l n z br g' w0 w' := by
  have ha := Open_S nm hs base d mb q k g w h.hs h.ds hl hq hk
  rw [he] at ha
  refine ha.mono ?_
  rintro e w' ⟨hi, _, _, ⟨lv, v, rfl, h1, h2, h3, _⟩, _⟩
  have h2 : Lists w' w.heap.size v R := h2
  obtain ⟨ao, cap, rfl, _⟩ := h2.reads
  rw [← hm]
  exact ⟨lv, ao, cap, rfl, h.fdn h3 (DSig.z0 h1)⟩
theorem LAt.opened {base d mb l : Nat} {n z : Int} {br : Bool} {g g' : Sig} {w0 w : World} {q k m : Nat} {L : LSig} {R : List (List UInt8)} (h : LAt base d mb l n z br g w0 w) (hl : Lim q k g) (hq : q + 1 ≤ 4294967296) (hk : k + 2 ≤ 1000000) (he : openG logN g = (0, some L, R, g')) (hL : L.n = (R.length : Nat)) (hm : R.length = m) :
    Calls Try.prog 5 #[.pointer (some ⟨d, 0, none⟩), .int .i64 (-1)] w fun e w' => ∃ lv ao cap, e = .returned (.tuple #[lv, .slice ao m cap, .bool true]) ∧ LAt base d mb l n z br g' w0 w' := by
  refine (opened_S base d mb q k g g' R L (-1) w h.hs h.ds hl hq hk he hL (.inl (by decide))).mono ?_
  rintro e w' ⟨l2, v, rfl, _, _, hd, hls, hf⟩
  obtain ⟨ao, cap, rfl, _⟩ := hls.reads
  rw [← hm]
  exact ⟨_, ao, cap, rfl, h.fdn hf hd⟩
end Go.Proofs.Ytgbpgmbnihfkkaa

/- LedgerKnown, the walk -/
set_option linter.unusedSimpArgs false
set_option linter.unusedVariables false
namespace Go.Proofs.Ytgbpgmbnihfkkaa
open Go.RowKit
set_option linter.unusedSectionVars false
theorem mk8 (w : World) : Sem.run Try.prog (Instr.makeSlice 30 (.int .i64 8) (.int .i64 8)) w = .ok (.slice (some ⟨w.heap.size, 0, none⟩) 8 8) (w.alloc (.cells #[.int .u8 0, .int .u8 0, .int .u8 0, .int .u8 0, .int .u8 0, .int .u8 0, .int .u8 0, .int .u8 0] 5)) := by kernel_rfl
attribute [local go_sem] mk8
set_option maxRecDepth 100000 in
set_option maxHeartbeats 4000000 in
theorem Known_any (w : World) : Calls Try.prog 3 #[] w fun e w' => e = .returned (.bool true) ∧ Below w.heap.size w w' := by
  obtain ⟨base, hbase⟩ : ∃ b, b = w.heap.size := ⟨_, rfl⟩
  have HBASE := Lib.hid hbase
  have HAW := Lib.hid (fun w => awake_any w)
  go_enter Try.func3, Try.ntmps3
  go_wp2_with fail
  refine (New_zero w).mono ?_
  rintro e w1 ⟨d, mb, rfl, hd, hb1⟩
  rw [← hbase] at hd hb1
  have hs1 : base ≤ w1.heap.size := by have := hb1.size; omega
  have HX1 := Lib.hid (And.intro hs1 (And.intro hd hb1))
  clear hs1 hd hb1 hbase
  go_wp2_with fail
  refine (opened_S base d mb 0 0 _ _ [] ⟨logN, 0, 0, false⟩ 0 w1 HX1.out.1 HX1.out.2.1 zeroG_lim (by omega) (by omega) (open_zero logN_name) rfl (.inr rfl)).mono ?_
  rintro e w2 ⟨l, v, rfl, hl, hlr, hd2, hls, hf2⟩
  obtain ⟨va, vc, rfl, _⟩ := hls.reads
  have H2 : LAt base d mb l 0 0 false (oneG logN [] 2 0) w w2 := ⟨Nat.le_trans HX1.out.1 hf2.below.size, Nat.le_trans HX1.out.1 hl, hlr, hd2, HX1.out.2.2.trans hf2.below⟩
  have H2 := Lib.hid H2
  clear HX1 hl hlr hd2 hls hf2
  have HB3 := Lib.hid (And.intro (H2.out.later ((Below.refl _ _).alloc (Nat.le_refl _) (.cells #[.int .u8 1, .int .u8 2] 5))) (lit12 w2))
  go_wp2_with fail
  refine (HB3.out.1.add (n' := 1) (z' := 14) (br' := false) HB3.out.2 (q := 30) (k := 10) (oneG_lim (by decide) (by decide) (by decide) (by decide)) ⟨by decide, by decide, by decide, by decide⟩ (by decide) (by decide) (add_one logN_name [1, 2] (by decide) (by decide))).mono ?_
  rintro e w3 ⟨rfl, h3⟩
  have H3 : Hid (LAt base d mb l 1 14 false (oneG logN ([] ++ Fr.putF [1, 2]) 4 0) w w3) := Lib.hid h3
  clear h3 H2 HB3
  go_wp2_with fail
  refine (H3.out.add (n' := 2) (z' := 26) (br' := false) (IsBytes.nil _) (q := 30) (k := 10) (oneG_lim (by rw [List.nil_append, putF_len]; decide) (by decide) (by decide) (by decide)) ⟨by decide, by decide, by decide, by decide⟩ (by decide) (by decide) (add_one logN_name [] (by decide) (by rw [List.nil_append, putF_len]; decide))).mono ?_
  rintro e w4 ⟨rfl, h4⟩
  have H4 : Hid (LAt base d mb l 2 26 false (oneG logN S2 6 0) w w4) := Lib.hid h4
  clear h4 H3
  go_wp2_with fail
  refine (H4.out.fuse (by decide) fu_eq).mono ?_
  rintro e w5 ⟨rfl, h5⟩
  have H5 := Lib.hid h5
  clear h5 H4
  have H6 : Hid (LAt base d mb l 2 26 false fuG w _ ∧ _) := Lib.hid (And.intro (H5.out.later ((Below.refl _ _).alloc (Nat.le_refl _) (.cells #[.int .u8 ((7 : UInt8).toNat : Int)] 5))) (lit1 w5 7))
  go_wp2_with fail
  refine (H6.out.1.add (q := 30) (k := 10) H6.out.2 fu_lim ⟨by decide, by decide, by decide, by decide⟩ (by decide) (by decide) br_eq).mono ?_
  rintro e w7 ⟨rfl, h7⟩
  have H7 := Lib.hid h7
  clear h7 H5 H6
  go_wp2_with fail
  refine H7.out.broken.mono ?_
  rintro e w8 ⟨rfl, rfl⟩
  have H8 := Lib.hid (And.intro (H7.out.later ((Below.refl _ _).alloc (Nat.le_refl _) (.cells #[.int .u8 ((7 : UInt8).toNat : Int)] 5))) (lit1 w7 7))
  go_wp2_with fail
  refine (H8.out.1.add (q := 60) (k := 12) H8.out.2 br_lim.1 br_lim.2 (by decide) (by decide) st_eq).mono ?_
  rintro e w9 ⟨rfl, h9⟩
  have H9 := Lib.hid (And.intro (h9.later ((Below.refl _ _).alloc (Nat.le_refl _) (.cells #[.int .i64 20] 3))) (keep1 w9))
  clear h9 H7 H8
  go_wp2_with fail
  refine (H9.out.1.crash H9.out.2 cr_eq).mono ?_
  rintro e w10 ⟨rfl, h10⟩
  have H10 := Lib.hid h10
  clear h10 H9
  go_wp2_with fail
  refine (H10.out.opened tn_lim (by decide) (by decide) op_eq rfl rfl).mono ?_
  rintro e w11 ⟨lv, ra, rc, rfl, h11⟩
  have H11 := Lib.hid h11
  have H12 := Lib.hid (And.intro (h11.later ((Below.refl _ _).alloc (Nat.le_refl _) (.cells #[.int .u8 ((5 : UInt8).toNat : Int)] 5))) (lit1 w11 5))
  clear h11 H10
  go_wp2_with fail
  refine (H12.out.1.app (s := xN) (by decide) H12.out.2 on_lim (by decide) (by decide) ax_eq).mono ?_
  rintro e w13 ⟨rfl, h13⟩
  have H13 := Lib.hid (And.intro (h13.later ((Below.refl _ _).alloc (Nat.le_refl _) (.cells #[.int .u8 0, .int .u8 0, .int .u8 0, .int .u8 0, .int .u8 0, .int .u8 0, .int .u8 0, .int .u8 0] 5))) (lit8 w13))
  clear h13 H11 H12
  go_wp2_with fail
  refine (H13.out.1.app (s := yN) (by decide) H13.out.2 x_lim (by decide) (by decide) ay_eq).mono ?_
  rintro e w14 ⟨rfl, h14⟩
  have H14 := Lib.hid h14
  clear h14 H13
  go_wp2_with fail
  refine (H14.out.open (nm := xN) (by decide) y_lim (by decide) (by decide) ox_eq rfl).mono ?_
  rintro e w15 ⟨lv2, oa, oc, rfl, h15⟩
  have H15 := Lib.hid h15
  clear h15 H14
  go_wp2_with fail
  refine (H15.out.read (s := xN) rx_eq rfl).mono ?_
  rintro e w16 ⟨ba, bc, rfl, h16⟩
  have H16 := Lib.hid h16
  clear h16 H15
  go_wp2_with fail
  refine (H16.out.open (nm := yN) (by decide) ox_lim (by decide) (by decide) oy_eq rfl).mono ?_
  rintro e w17 ⟨lv3, pa, pc, rfl, h17⟩
  have H17 := Lib.hid h17
  clear h17 H16
  go_wp2_with fail
  refine (HAW.out w17).mono ?_
  rintro e w18 ⟨rfl, hb18⟩
  have H18 := Lib.hid (And.intro H17.out.below (hb18.mono H17.out.hs))
  clear hb18
  go_wp2_with fail
  go_ret
  refine ⟨rfl, ?_⟩
  rw [← HBASE.out]
  exact H18.out.1.trans H18.out.2
end Go.Proofs.Ytgbpgmbnihfkkaa
