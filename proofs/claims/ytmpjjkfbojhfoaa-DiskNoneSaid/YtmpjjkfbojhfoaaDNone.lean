/- layer 27's statements: DiskNone -/
import Derived.Test.YtmpjjkfbojhfoaaDLong
import Derived.Test.YtmpjjkfbojhfoaaDAwake
import Derived.BigRegion
namespace Go.Proofs.Ytmpjjkfbojhfoaa
open Go.RowKit
/-- a disk that is nil, or that New did not make. -/
def NoDisk (w : World) (p : Option Addr) : Prop := p = none ∨ ∃ d, p = some ⟨d, 0, none⟩ ∧ w.cell? ⟨d, 0, none⟩ = some (.map none)
theorem NoDisk.later {w w' : World} {p : Option Addr} (h : NoDisk w p) (hb : Below w.heap.size w w') : NoDisk w' p := by
  rcases h with rfl | ⟨d, rfl, hc⟩
  · exact .inl rfl
  · exact .inr ⟨d, rfl, (hb.cell (block_lt_of_cell hc)).trans hc⟩
set_option maxRecDepth 100000 in
theorem none_no (p : Option Addr) (w : World) (h : NoDisk w p) : Calls Try.prog 45 #[.pointer p] w fun e w' => e = .returned (.bool true) ∧ w = w' := by
  rcases h with rfl | ⟨d, rfl, h0⟩
  · exact none_nil w
  · have hem := fun w' => run_eql_map_nil (P := Try.prog) w' 61 9 72 none Try.underlying61
    go_enter Try.func45, Try.ntmps45
    go_wp2
    go_ret
    exact ⟨rfl, rfl⟩
theorem down_no (p : Option Addr) (w : World) (h : NoDisk w p) : Calls Try.prog 34 #[.pointer p] w fun e w' => e = .returned (.int .i64 1) ∧ w = w' := by
  have H := Lib.hid h
  clear h
  go_enter Try.func34, Try.ntmps34
  go_wp2_with fail
  refine (none_no _ _ H.out).mono ?_
  rintro e w' ⟨rfl, rfl⟩
  go_wp2_with fail
  go_ret
  exact ⟨rfl, rfl⟩
theorem open_no (p : Option Addr) (nv : Value) (w : World) (h : NoDisk w p) : Calls Try.prog 40 #[.pointer p, nv] w fun e w' => e = .returned (.tuple #[.pointer none, .int .i64 1]) ∧ w = w' := by
  have H := Lib.hid h
  clear h
  go_enter Try.func40, Try.ntmps40
  go_wp2_with fail
  refine (down_no _ _ H.out).mono ?_
  rintro e w' ⟨rfl, rfl⟩
  go_wp2_with fail
  go_ret2
  exact ⟨rfl, rfl⟩
theorem Read_no (p : Option Addr) (nv : Value) (w : World) (h : NoDisk w p) : Calls Try.prog 28 #[.pointer p, nv] w fun e w' => e = .returned (.tuple #[.slice none 0 0, .int .i64 1]) ∧ w = w' := by
  have H := Lib.hid h
  clear h
  go_enter Try.func28, Try.ntmps28
  go_wp2_with fail
  refine (open_no _ nv _ H.out).mono ?_
  rintro e w' ⟨rfl, rfl⟩
  go_wp2_with fail
  go_ret2
  exact ⟨rfl, rfl⟩
theorem Append_no (p : Option Addr) (nm : ByteArray) (ao : Option Addr) (n cap : Nat) (w : World) (h : NoDisk w p) : Calls Try.prog 12 #[.pointer p, .string nm, .slice ao n cap] w fun e w' => e = .returned (.int .i64 1) ∧ Below w.heap.size w w' := by
  have H := Lib.hid h
  clear h
  go_enter Try.func12, Try.ntmps12
  go_wp2_with fail
  have hb : Below w.heap.size w (((w.alloc (.cells #[.pointer p] 27)).alloc (.cells #[.string nm] 9)).alloc (.cells #[.slice ao n cap] 23)) := (((Below.refl _ _).alloc (Nat.le_refl _) _).alloc (by simp) _).alloc (by simp; omega) _
  generalize (((w.alloc (.cells #[.pointer p] 27)).alloc (.cells #[.string nm] 9)).alloc (.cells #[.slice ao n cap] 23)) = w1 at hb ⊢
  have HB := Lib.hid hb
  refine (down_no _ _ (H.out.later hb)).mono ?_
  clear hb
  rintro e w' ⟨rfl, rfl⟩
  go_wp2_with fail
  go_ret
  exact ⟨rfl, HB.out⟩
theorem Cut_no (p : Option Addr) (nm : ByteArray) (z : Int) (w : World) (h : NoDisk w p) : Calls Try.prog 29 #[.pointer p, .string nm, .int .i64 z] w fun e w' => e = .returned (.int .i64 1) ∧ Below w.heap.size w w' := by
  have H := Lib.hid h
  clear h
  go_enter Try.func29, Try.ntmps29
  go_wp2_with fail
  have hb1 : Below w.heap.size w (w.alloc (.cells #[.int .i64 z] 3)) := (Below.refl _ _).alloc (Nat.le_refl _) _
  have HB := Lib.hid (And.intro hb1 (show w.heap.size ≤ (w.alloc (.cells #[.int .i64 z] 3)).heap.size by simp))
  clear hb1
  refine (open_no _ _ _ (H.out.later HB.out.1)).mono ?_
  rintro e w' ⟨rfl, rfl⟩
  go_wp2_with fail
  go_ret
  exact ⟨rfl, by first | exact HB.out.1 | exact HB.out.1.alloc HB.out.2 _⟩
theorem Sync_no (p : Option Addr) (nm : ByteArray) (w : World) (h : NoDisk w p) : Calls Try.prog 13 #[.pointer p, .string nm] w fun e w' => e = .returned (.int .i64 1) ∧ Below w.heap.size w w' := by
  have H := Lib.hid h
  clear h
  go_enter Try.func13, Try.ntmps13
  go_wp2_with fail
  refine (open_no _ _ _ H.out).mono ?_
  rintro e w' ⟨rfl, rfl⟩
  go_wp2_with fail
  go_ret
  exact ⟨rfl, by first | exact Below.refl _ _ | exact (Below.refl _ _).alloc (Nat.le_refl _) _⟩
theorem Rename_no (p : Option Addr) (nm to : ByteArray) (w : World) (h : NoDisk w p) : Calls Try.prog 27 #[.pointer p, .string nm, .string to] w fun e w' => e = .returned (.int .i64 1) ∧ Below w.heap.size w w' := by
  have H := Lib.hid h
  clear h
  go_enter Try.func27, Try.ntmps27
  go_wp2_with fail
  have hb : Below w.heap.size w (((w.alloc (.cells #[.pointer p] 27)).alloc (.cells #[.string nm] 9)).alloc (.cells #[.string to] 9)) := (((Below.refl _ _).alloc (Nat.le_refl _) _).alloc (by simp) _).alloc (by simp; omega) _
  generalize (((w.alloc (.cells #[.pointer p] 27)).alloc (.cells #[.string nm] 9)).alloc (.cells #[.string to] 9)) = w1 at hb ⊢
  have HB := Lib.hid hb
  refine (down_no _ _ (H.out.later hb)).mono ?_
  clear hb
  rintro e w' ⟨rfl, rfl⟩
  go_wp2_with fail
  go_ret
  exact ⟨rfl, HB.out⟩
theorem Remove_no (p : Option Addr) (nm : ByteArray) (w : World) (h : NoDisk w p) : Calls Try.prog 18 #[.pointer p, .string nm] w fun e w' => e = .returned (.int .i64 1) ∧ Below w.heap.size w w' := by
  have H := Lib.hid h
  clear h
  go_enter Try.func18, Try.ntmps18
  go_wp2_with fail
  have hb : Below w.heap.size w ((w.alloc (.cells #[.pointer p] 27)).alloc (.cells #[.string nm] 9)) := ((Below.refl _ _).alloc (Nat.le_refl _) _).alloc (by simp) _
  generalize ((w.alloc (.cells #[.pointer p] 27)).alloc (.cells #[.string nm] 9)) = w1 at hb ⊢
  have HB := Lib.hid hb
  refine (open_no _ _ _ (H.out.later hb)).mono ?_
  clear hb
  rintro e w' ⟨rfl, rfl⟩
  go_wp2_with fail
  go_ret
  exact ⟨rfl, HB.out⟩
theorem Fuse_no (p : Option Addr) (z : Int) (w : World) (h : NoDisk w p) : Calls Try.prog 24 #[.pointer p, .int .i64 z] w fun e w' => e = .returned (.int .i64 1) ∧ w = w' := by
  have H := Lib.hid h
  clear h
  go_enter Try.func24, Try.ntmps24
  go_wp2_with fail
  refine (none_no _ _ H.out).mono ?_
  rintro e w' ⟨rfl, rfl⟩
  go_wp2_with fail
  go_ret
  exact ⟨rfl, rfl⟩
theorem Crash_no (p : Option Addr) (v : Value) (w : World) (h : NoDisk w p) : Calls Try.prog 16 #[.pointer p, v] w fun e w' => e = .returned (.int .i64 1) ∧ w = w' := by
  have H := Lib.hid h
  clear h
  go_enter Try.func16, Try.ntmps16
  go_wp2_with fail
  refine (none_no _ _ H.out).mono ?_
  rintro e w' ⟨rfl, rfl⟩
  go_wp2_with fail
  go_ret
  exact ⟨rfl, rfl⟩
theorem Names_no (p : Option Addr) (w : World) (h : NoDisk w p) : Calls Try.prog 17 #[.pointer p] w fun e w' => e = .returned (.slice none 0 0) ∧ w = w' := by
  have H := Lib.hid h
  clear h
  go_enter Try.func17, Try.ntmps17
  go_wp2_with fail
  refine (none_no _ _ H.out).mono ?_
  rintro e w' ⟨rfl, rfl⟩
  go_wp2_with fail
  go_ret
  exact ⟨rfl, rfl⟩
theorem Loose_no (p : Option Addr) (nv : Value) (w : World) (h : NoDisk w p) : Calls Try.prog 15 #[.pointer p, nv] w fun e w' => e = .returned (.int .i64 0) ∧ w = w' := by
  have H := Lib.hid h
  clear h
  go_enter Try.func15, Try.ntmps15
  go_wp2_with fail
  refine (none_no _ _ H.out).mono ?_
  rintro e w' ⟨rfl, rfl⟩
  go_wp2_with fail
  go_ret
  exact ⟨rfl, rfl⟩
theorem Steps_no (p : Option Addr) (w : World) (h : NoDisk w p) : Calls Try.prog 30 #[.pointer p] w fun e w' => e = .returned (.int .i64 0) ∧ w = w' := by
  have H := Lib.hid h
  clear h
  go_enter Try.func30, Try.ntmps30
  go_wp2_with fail
  refine (none_no _ _ H.out).mono ?_
  rintro e w' ⟨rfl, rfl⟩
  go_wp2_with fail
  go_ret
  exact ⟨rfl, rfl⟩
theorem Up_no (p : Option Addr) (w : World) (h : NoDisk w p) : Calls Try.prog 25 #[.pointer p] w fun e w' => e = .returned (.bool false) ∧ w = w' := by
  have H := Lib.hid h
  clear h
  go_enter Try.func25, Try.ntmps25
  go_wp2_with fail
  refine (none_no _ _ H.out).mono ?_
  rintro e w' ⟨rfl, rfl⟩
  go_wp2_with fail
  go_ret
  exact ⟨rfl, rfl⟩
set_option maxRecDepth 100000 in
set_option maxHeartbeats 4000000 in
theorem DiskNone_any (x : ActV) (w : World) (hx : ActOk w x) : Calls Try.prog 9 #[.agg x.row] w fun e w' => e = .returned (.bool true) ∧ Below w.heap.size w w' := by
  have HX := Lib.hid hx
  have hBc := hx.B.2.2.1
  have hBn := hx.B.2.1
  unfold maxLen at hBc
  obtain ⟨X, hXX⟩ : ∃ X, X = [x] := ⟨_, rfl⟩
  have HXX := Lib.hid hXX
  have HLONG : Hid (∀ (W : World) (g : Nat), Below w.heap.size w W → (∀ j, j < 6 → W.cell? ⟨g, 0 + 0 * 6 + j, none⟩ = x.row[j]?) → Calls Try.prog 31 #[.slice (some ⟨g, 0, none⟩) 1 1] W (LongR X 1 W)) := Lib.hid (fun W g hb hc => by
    refine long_any _ 1 1 X W ⟨by rw [hXX]; rfl, Nat.le_refl _, by unfold maxLen; omega, fun _ => ⟨g, 0, rfl, fun i hi => ?_⟩⟩ (fun k hk _ => ?_)
    · obtain rfl : i = 0 := by omega
      have : X.getD 0 act0 = x := by rw [hXX]; rfl
      rw [this]
      exact ⟨hc, hx.later hb⟩
    · rw [hXX]
      have : k = 0 ∨ k = 1 := by omega
      rcases this with rfl | rfl
      · simp [sumA]
      · simp [sumA]; omega)
  clear hx hXX
  obtain ⟨xk, xs, nm, to, ba, bn, bc, B, ka, kn, kc, K⟩ := x
  change Calls Try.prog 9 #[.agg #[.int .i64 xk, .int .i64 xs, .string nm, .string to, .slice ba bn bc, .slice ka kn kc]] w _
  go_enter Try.func9, Try.ntmps9
  go_wp2_with fail
  have hx0 := heap_alloc_new w (.cells #[.int .i64 xk, .int .i64 xs, .string nm, .string to, .slice ba bn bc, .slice ka kn kc] 60)
  have hb0 : Below w.heap.size w (w.alloc (.cells #[.int .i64 xk, .int .i64 xs, .string nm, .string to, .slice ba bn bc, .slice ka kn kc] 60)) := (Below.refl _ _).alloc (Nat.le_refl _) _
  have hs0 : (w.alloc (.cells #[.int .i64 xk, .int .i64 xs, .string nm, .string to, .slice ba bn bc, .slice ka kn kc] 60)).heap.size = w.heap.size + 1 := by simp
  generalize w.alloc (.cells #[.int .i64 xk, .int .i64 xs, .string nm, .string to, .slice ba bn bc, .slice ka kn kc] 60) = w0 at hx0 hb0 hs0 ⊢
  have hx1 := heap_alloc_new w0 (.cells #[.int .i64 xk, .int .i64 xs, .string nm, .string to, .slice ba bn bc, .slice ka kn kc] 60)
  have hb1 : Below w0.heap.size w0 (w0.alloc (.cells #[.int .i64 xk, .int .i64 xs, .string nm, .string to, .slice ba bn bc, .slice ka kn kc] 60)) := (Below.refl _ _).alloc (Nat.le_refl _) _
  generalize w0.alloc (.cells #[.int .i64 xk, .int .i64 xs, .string nm, .string to, .slice ba bn bc, .slice ka kn kc] 60) = W at hx1 hb1 ⊢
  rw [hs0] at hx1
  have hxr := (hb1.block _ (heap_lt hx0)).trans hx0
  have hbW : Below w.heap.size w W := hb0.trans (hb1.mono (by omega))
  obtain ⟨bx, hbx⟩ : ∃ b, b = w.heap.size := ⟨_, rfl⟩
  rw [← hbx] at hxr
  have hcl : ∀ j, j < 6 → W.cell? ⟨w.heap.size + 1, 0 + 0 * 6 + j, none⟩ = (ActV.row ⟨xk, xs, nm, to, ba, bn, bc, B, ka, kn, kc, K⟩)[j]? := by
    intro j hj
    rw [show 0 + 0 * 6 + j = j by omega]
    simp only [World.cell?, hx1]
    rfl
  have HW := Lib.hid (And.intro hbW (And.intro hxr hcl))
  have HBX := Lib.hid hbx
  rw [← hbx]
  clear hx0 hb0 hs0 hx1 hb1 hxr hbW hcl
  refine (HLONG.out W _ HW.out.1 (by rw [hbx]; exact HW.out.2.2)).mono ?_
  clear hbx
  rintro e w' ⟨r, rfl, _, rfl⟩
  cases r with
  | true =>
    go_wp2_with fail
    refine (awake_any W).mono ?_
    rintro e w2 ⟨rfl, hb2⟩
    have HB2 := Lib.hid (HW.out.1.trans (hb2.mono HW.out.1.size))
    clear hb2
    go_wp2_with fail
    go_ret
    exact ⟨rfl, HB2.out⟩
  | false =>
    go_wp2_with fail
    have hy0 := heap_alloc_new W (.cells #[.map none, .int .i64 0, .int .i64 0, .bool false] 68)
    have hb0 : Below W.heap.size W (W.alloc (.cells #[.map none, .int .i64 0, .int .i64 0, .bool false] 68)) := (Below.refl _ _).alloc (Nat.le_refl _) _
    obtain ⟨dd, hdd⟩ : ∃ d, d = W.heap.size := ⟨_, rfl⟩
    rw [← hdd] at hy0 ⊢
    have hs1 : (W.alloc (.cells #[.map none, .int .i64 0, .int .i64 0, .bool false] 68)).heap.size = dd + 1 := by rw [hdd]; simp
    generalize W.alloc (.cells #[.map none, .int .i64 0, .int .i64 0, .bool false] 68) = W1 at hy0 hb0 hs1 ⊢
    have hy1 := heap_alloc_new W1 (.cells #[.pointer none, .pointer (some ⟨dd, 0, none⟩)] 27)
    have hb1 : Below W1.heap.size W1 (W1.alloc (.cells #[.pointer none, .pointer (some ⟨dd, 0, none⟩)] 27)) := (Below.refl _ _).alloc (Nat.le_refl _) _
    rw [hs1] at hy1
    obtain ⟨g2, hg2⟩ : ∃ g, g = dd + 1 := ⟨_, rfl⟩
    rw [← hg2] at hy1
    generalize W1.alloc (.cells #[.pointer none, .pointer (some ⟨dd, 0, none⟩)] 27) = W2 at hy1 hb1 ⊢
    have hdr := (hb1.block _ (heap_lt hy0)).trans hy0
    have hb2 : Below W.heap.size W W2 := hb0.trans (hb1.mono hb0.size)
    have hxr := (hb2.block _ (heap_lt HW.out.2.1)).trans HW.out.2.1
    have HB2 := Lib.hid (HW.out.1.trans (hb2.mono HW.out.1.size))
    have HF : Hid (∀ w' : World, Below W2.heap.size W2 w' → w'.heap[bx]? = some (.cells #[.int .i64 xk, .int .i64 xs, .string nm, .string to, .slice ba bn bc, .slice ka kn kc] 60 (0, 0))) := Lib.hid (fun w' hb => (hb.block _ (heap_lt hxr)).trans hxr)
    have HR : Hid (∀ w' : World, Below W2.heap.size W2 w' → ∀ k, k < 2 → ∃ p, w'.cell? ⟨g2, k, none⟩ = some (.pointer p) ∧ NoDisk w' p) := Lib.hid (fun w' hb k hk => by
      have h1 := (hb.block _ (heap_lt hy1)).trans hy1
      have h2 := (hb.block _ (heap_lt hdr)).trans hdr
      have : k = 0 ∨ k = 1 := by omega
      rcases this with rfl | rfl
      · exact ⟨none, cell_of_row _ _ _ _ _ _ h1, .inl rfl⟩
      · exact ⟨_, cell_of_row _ _ _ _ _ _ h1, .inr ⟨dd, rfl, cell_of_row _ _ _ _ _ _ h2⟩⟩)
    first | rw [← hg2] | skip
    have HG2 := Lib.hid hg2
    clear hy0 hb0 hdd hy1 hb1 hg2 hdr hb2 hxr
    go_wp2_with fail
    go_loopw [4] (fun i wr => ∃ k : Nat, k ≤ 2 ∧ i = .int .i64 k ∧ Hid (Below W2.heap.size W2 wr)) (fun i _ => 2 - (intOf i).toNat)
    case atStart => exact ⟨0, by omega, rfl, Lib.hid (Below.refl _ _)⟩
    case round =>
      obtain ⟨k, hk, rfl, hbl⟩ := hrel
      by_cases hlt : k < 2
      · have hi0 : (0 : Int) ≤ (k : Int) := by omega
        have hi1 : (k : Int) < 2 := by omega
        obtain ⟨p, hp, hno⟩ := HR.out wr hbl.out k hlt
        have HNO := Lib.hid hno
        have hrow := HF.out wr hbl.out
        have c2 : wr.cell? ⟨bx, 2, none⟩ = some (.string nm) := cell_of_row _ _ _ _ _ _ hrow
        have c4 : wr.cell? ⟨bx, 4, none⟩ = some (.slice ba bn bc) := cell_of_row _ _ _ _ _ _ hrow
        have H0 := hbl
        clear hno hrow
        go_wp2_with fail
        refine (Read_no p _ wr HNO.out).mono ?_
        rintro e w' ⟨rfl, rfl⟩
        go_wp2_with fail
        refine (Append_no p nm ba bn bc wr HNO.out).mono ?_
        rintro e w1 ⟨rfl, hb⟩
        have H1 := Lib.hid (H0.out.trans (hb.mono H0.out.size))
        have HN1 := Lib.hid (HNO.out.later hb)
        clear hb c2 c4 hp
        have hrow := HF.out w1 H1.out
        have c1 : w1.cell? ⟨bx, 1, none⟩ = some (.int .i64 xs) := cell_of_row _ _ _ _ _ _ hrow
        have c2 : w1.cell? ⟨bx, 2, none⟩ = some (.string nm) := cell_of_row _ _ _ _ _ _ hrow
        clear hrow
        go_wp2_with fail
        refine (Cut_no p nm xs w1 HN1.out).mono ?_
        rintro e w2 ⟨rfl, hb⟩
        have H2 := Lib.hid (H1.out.trans (hb.mono H1.out.size))
        have HN2 := Lib.hid (HN1.out.later hb)
        clear hb c1 c2
        have hrow := HF.out w2 H2.out
        have c2 : w2.cell? ⟨bx, 2, none⟩ = some (.string nm) := cell_of_row _ _ _ _ _ _ hrow
        clear hrow
        go_wp2_with fail
        refine (Sync_no p nm w2 HN2.out).mono ?_
        rintro e w3 ⟨rfl, hb⟩
        have H3 := Lib.hid (H2.out.trans (hb.mono H2.out.size))
        have HN3 := Lib.hid (HN2.out.later hb)
        clear hb c2
        have hrow := HF.out w3 H3.out
        have c2 : w3.cell? ⟨bx, 2, none⟩ = some (.string nm) := cell_of_row _ _ _ _ _ _ hrow
        have c3 : w3.cell? ⟨bx, 3, none⟩ = some (.string to) := cell_of_row _ _ _ _ _ _ hrow
        clear hrow
        go_wp2_with fail
        refine (Rename_no p nm to w3 HN3.out).mono ?_
        rintro e w4 ⟨rfl, hb⟩
        have H4 := Lib.hid (H3.out.trans (hb.mono H3.out.size))
        have HN4 := Lib.hid (HN3.out.later hb)
        clear hb c2 c3
        have hrow := HF.out w4 H4.out
        have c2 : w4.cell? ⟨bx, 2, none⟩ = some (.string nm) := cell_of_row _ _ _ _ _ _ hrow
        clear hrow
        go_wp2_with fail
        refine (Remove_no p nm w4 HN4.out).mono ?_
        rintro e w5 ⟨rfl, hb⟩
        have H5 := Lib.hid (H4.out.trans (hb.mono H4.out.size))
        have HN5 := Lib.hid (HN4.out.later hb)
        clear hb c2
        have hrow := HF.out w5 H5.out
        have c1 : w5.cell? ⟨bx, 1, none⟩ = some (.int .i64 xs) := cell_of_row _ _ _ _ _ _ hrow
        have c2 : w5.cell? ⟨bx, 2, none⟩ = some (.string nm) := cell_of_row _ _ _ _ _ _ hrow
        have c5 : w5.cell? ⟨bx, 5, none⟩ = some (.slice ka kn kc) := cell_of_row _ _ _ _ _ _ hrow
        clear hrow
        go_wp2_with fail
        refine (Fuse_no p xs w5 HN5.out).mono ?_
        rintro e w' ⟨rfl, rfl⟩
        go_wp2_with fail
        refine (Crash_no p _ w5 HN5.out).mono ?_
        rintro e w' ⟨rfl, rfl⟩
        go_wp2_with fail
        refine (Names_no p w5 HN5.out).mono ?_
        rintro e w' ⟨rfl, rfl⟩
        go_wp2_with fail
        refine (Loose_no p _ w5 HN5.out).mono ?_
        rintro e w' ⟨rfl, rfl⟩
        go_wp2_with fail
        refine (Steps_no p w5 HN5.out).mono ?_
        rintro e w' ⟨rfl, rfl⟩
        go_wp2_with fail
        refine (Up_no p w5 HN5.out).mono ?_
        rintro e w' ⟨rfl, rfl⟩
        go_wp2_with fail
        go_roundw
        case rel => exact ⟨k + 1, by omega, by go_num, H5⟩
        case measure => simp [intOf]; omega
      · have hi1 : ¬ (k : Int) < 2 := by omega
        go_wp2_with fail
        refine (awake_any wr).mono ?_
        rintro e w2 ⟨rfl, hb3⟩
        have HB3 := Lib.hid ((HB2.out.trans (hbl.out.mono HB2.out.size)).trans (hb3.mono (Nat.le_trans HB2.out.size hbl.out.size)))
        clear hb3
        go_wp2_with fail
        go_ret
        exact ⟨rfl, HB3.out⟩
end Go.Proofs.Ytmpjjkfbojhfoaa
