/- frame.Scan, walked -/
import Derived.Test.YtgbpgmbnihfkkaaLSig
import Derived.Test.YtgbpgmbnihfkkaaKit
import Derived.Test.YtgbpgmbnihfkkaaScanReg
namespace Go.Proofs.Ytgbpgmbnihfkkaa
open Go.RowKit Go.Shelf
attribute [local go_sem] Oper.semAt_some
theorem frames_any (ao : Option Addr) (n cap : Nat) (p : Option Addr) (w : World) :
    Calls Try.prog 44 #[.slice ao n cap, .pointer p] w fun e w' => e = .returned (.func (.func 52) #[] #[.pointer (some ⟨w.heap.size, 0, none⟩), .pointer (some ⟨w.heap.size + 1, 0, none⟩)]) ∧
      (w.alloc (.cells #[.slice ao n cap] 30)).alloc (.cells #[.pointer p] 87) = w' := by
  go_enter Try.func44, Try.ntmps44
  go_wp2
  go_ret
  exact ⟨rfl, rfl⟩
/-- what the loop of Scan keeps. -/
structure ScanInv (w0 : World) (B : Nat) (ao : Option Addr) (n cap : Nat) (bs : List UInt8) (pre : List (List UInt8)) (k : Nat) (W : World) : Prop where
  out : ∃ v, W.heap[B]? = some (.cells #[v] 25 (0, 0)) ∧ Lists W (B + 5) v pre
  size : W.heap[B + 1]? = some (.cells #[.int .i64 (k : Int)] 3 (0, 0))
  rest : W.heap[B + 2]? = some (.cells #[.int .i64 0] 3 (0, 0))
  bb : W.heap[B + 3]? = some (.cells #[.slice ao n cap] 30 (0, 0))
  br : W.heap[B + 4]? = some (.cells #[.pointer (some ⟨B + 2, 0, none⟩)] 87 (0, 0))
  bytes : IsBytes W ao n cap bs
  few : 12 * pre.length ≤ k ∧ k ≤ n
  below : Below B w0 W
theorem ScanInv.later {w0 : World} {B : Nat} {ao : Option Addr} {n cap : Nat} {bs : List UInt8} {pre : List (List UInt8)} {k : Nat} {W W' : World} (h : ScanInv w0 B ao n cap bs pre k W) (hb : Below W.heap.size W W') : ScanInv w0 B ao n cap bs pre k W' := by
  have key : ∀ j o, W.heap[j]? = some o → W'.heap[j]? = some o := fun j o e => (hb.block j (Array.getElem?_eq_some_iff.1 e).1).trans e
  obtain ⟨v, hv, hl⟩ := h.out
  have hlt := (Array.getElem?_eq_some_iff.1 hv).1
  exact ⟨⟨v, key _ _ hv, hl.later hb⟩, key _ _ h.size, key _ _ h.rest, key _ _ h.bb, key _ _ h.br, h.bytes.later hb, h.few, h.below.trans (hb.mono (by omega))⟩
theorem ScanInv.putObj {w0 : World} {B : Nat} {ao : Option Addr} {n cap : Nat} {bs : List UInt8} {pre : List (List UInt8)} {k r : Nat} {W : World} {o o' : Obj} (h : ScanInv w0 B ao n cap bs pre k W) (hB : B ≤ r) (hr : W.heap[r]? = some o) (ho : o.isCells = false) :
    ScanInv w0 B ao n cap bs pre k (W.putObj r o') := by
  have hne : ∀ j c t f, W.heap[j]? = some (Obj.cells c t f) → j ≠ r := by
    intro j c t f hj e; subst e; rw [hr] at hj; cases hj; simp [Obj.isCells] at ho
  have key : ∀ j c t f, W.heap[j]? = some (Obj.cells c t f) → (W.putObj r o').heap[j]? = some (Obj.cells c t f) := fun j c t f e => (World.putObj_heap_other (hne _ _ _ _ e)).trans e
  obtain ⟨v, hv, hl⟩ := h.out
  refine ⟨⟨v, key _ _ _ _ hv, hl.putObj hr ho⟩, key _ _ _ _ h.size, key _ _ _ _ h.rest, key _ _ _ _ h.bb, key _ _ _ _ h.br, ?_, h.few, ?_⟩
  · refine ⟨h.bytes.1, h.bytes.2.1, h.bytes.2.2.1, fun hl' => ?_, h.bytes.2.2.2.2⟩
    obtain ⟨b, off, e, hc⟩ := h.bytes.2.2.2.1 hl'
    refine ⟨b, off, e, fun i hi' => ?_⟩
    rw [← hc i hi']
    have hbl : ¬ b = r := by
      intro e'
      have h0 := hc 0 (by cases bs; exact absurd rfl hl'; simp)
      rw [e'] at h0
      cases o <;> simp_all [World.cell?, Obj.isCells]
    exact World.cell?_of_block (by exact World.putObj_heap_other hbl)
  · exact h.below.trans ⟨rfl, rfl, rfl, by simp, fun j hj => World.putObj_heap_other (by omega)⟩
theorem ScanInv.mem {w0 : World} {B : Nat} {ao : Option Addr} {n cap : Nat} {bs : List UInt8} {pre : List (List UInt8)} {k : Nat} {W : World} (h : ScanInv w0 B ao n cap bs pre k W) : FramesMem ao n cap bs (B + 3) (B + 4) (B + 2) W :=
  ⟨by rw [cell_of_row _ _ _ _ _ _ h.bb]; rfl, by rw [cell_of_row _ _ _ _ _ _ h.br]; rfl, ⟨_, by rw [cell_of_row _ _ _ _ _ _ h.rest]; rfl⟩, frozen_of_row _ _ _ _ _ h.rest, h.bytes⟩
set_option maxRecDepth 100000 in
set_option maxHeartbeats 1000000 in
theorem Scan_any (ao : Option Addr) (n cap : Nat) (bs : List UInt8) (w : World) (hs : IsBytes w ao n cap bs) (hn : n ≤ 4294967296) :
    Calls Try.prog 29 #[.slice ao n cap] w fun e w' => ∃ v, e = .returned (.tuple #[v, .int .i64 ((Fr.scanF bs).2.1 : Int), .int .i64 ((Fr.scanF bs).2.2 : Int)]) ∧ Lists w' w.heap.size v (Fr.scanF bs).1 ∧ Below w.heap.size w w' := by
  obtain ⟨i0, hi, hz0, hz1, hz2⟩ := info_parts Try.infoSlice
  refine (callsIn_wide (n := 2)).1 ?_
  refine callsIn_of_wp_marks Try.func29 rfl trivial ?_ rfl
  simp only [Try.ntmps29, List.size_toArray, List.length_cons, List.length_nil, Nat.reduceAdd, Nat.reduceSub, Array.replicate_succ, Array.replicate_zero, List.push_toArray, List.append_toArray, List.nil_append, List.cons_append]
  gi_wp2_with fail
  refine ⟨trivial, ?_⟩
  refine (callsIn_wide.2 (frames_any _ _ _ _ _)).mono ?_
  rintro e w1 ⟨rfl, hw1⟩
  obtain ⟨B, hB⟩ : ∃ B, B = w.heap.size := ⟨_, rfl⟩
  have hinv : ScanInv w B ao n cap bs [] 0 w1 := by
    have a0 := heap_alloc_new w (.cells #[.slice none 0 0] 25)
    have a1 := heap_alloc_new (w.alloc (.cells #[.slice none 0 0] 25)) (.cells #[.int .i64 0] 3)
    have a2 := heap_alloc_new ((w.alloc (.cells #[.slice none 0 0] 25)).alloc (.cells #[.int .i64 0] 3)) (.cells #[.int .i64 0] 3)
    have a3 := heap_alloc_new (((w.alloc (.cells #[.slice none 0 0] 25)).alloc (.cells #[.int .i64 0] 3)).alloc (.cells #[.int .i64 0] 3)) (.cells #[.slice ao n cap] 30)
    have a4 := heap_alloc_new ((((w.alloc (.cells #[.slice none 0 0] 25)).alloc (.cells #[.int .i64 0] 3)).alloc (.cells #[.int .i64 0] 3)).alloc (.cells #[.slice ao n cap] 30)) (.cells #[.pointer (some ⟨w.heap.size + 1 + 1, 0, none⟩)] 87)
    simp only [World.size_alloc] at a1 a2 a3 a4
    have hb : Below B w w1 := by
      rw [hB, ← hw1]
      exact ((((((Below.refl _ w).alloc (Nat.le_refl _) _).alloc (by simp) _).alloc (by simp; omega) _).alloc (by simp; omega) _).alloc (by simp; omega) _)
    have up : ∀ (X : World) (o o' : Obj) (j : Nat), X.heap[j]? = some o → (X.alloc o').heap[j]? = some o := fun X o o' j h => (Below.heap_alloc X o' j (Array.getElem?_eq_some_iff.1 h).1).trans h
    refine ⟨⟨_, ?_, Lists.nil _ _⟩, ?_, ?_, ?_, ?_, hs.later (by rw [← hB]; exact hb), by simp, hb⟩
    · rw [hB, ← hw1]; exact up _ _ _ _ (up _ _ _ _ (up _ _ _ _ (up _ _ _ _ a0)))
    · rw [hB, ← hw1]; exact up _ _ _ _ (up _ _ _ _ (up _ _ _ _ a1))
    · rw [hB, ← hw1]; exact up _ _ _ _ (up _ _ _ _ a2)
    · rw [hB, ← hw1]; exact up _ _ _ _ a3
    · rw [hB, ← hw1]; exact a4
  have hsz : w1.heap.size = B + 5 := by rw [← hw1, hB]; simp
  have hblk : bs ≠ [] → ∀ x, ao = some x → x.block < B := by
    intro hne x hx
    obtain ⟨b, off, e, hc⟩ := hs.2.2.2.1 hne
    rw [hx] at e; cases e
    rw [hB]; exact hc.lt hne
  simp only [World.size_alloc, ← hB]
  clear hw1 hs
  have HB := Lib.hid hB
  have HSZ := Lib.hid hsz
  have HI := Lib.hid hinv
  have HK := Lib.hid hblk
  clear hB hsz hinv hblk
  gi_wp2_with fail
  refine wpIn_range_frames 0 (B + 3) (B + 4) (B + 2) ao n cap bs rfl rfl (by omega) (ScanInv w B ao n cap bs) (fun pre k A B' h hb => h.later hb) (fun pre k A r o o' h hr ho hc => h.putObj (by rw [HSZ.out] at hr; omega) ho hc) (fun pre k A h => h.mem) (by rw [HSZ.out]; omega) HI.out
    (fun x y => { tmps := #[.slice ao n cap, undef, .slice none 0 0, .int .i64 0, .int .i64 0, .pointer (some ⟨B, 0, none⟩), .pointer (some ⟨B + 1, 0, none⟩), .pointer (some ⟨B + 2, 0, none⟩), x, y, .slice ao n cap, .func (.func 52) #[] #[.pointer (some ⟨B + 3, 0, none⟩), .pointer (some ⟨B + 4, 0, none⟩)], x, y, undef, undef, undef, undef, undef, undef, undef, undef, undef, undef], defers := [] }) ?assign ?body ?done
  case assign =>
    intro l x y W K hK
    gi_wp2
    exact hK
  case body =>
    intro l pre k r ao' n' cap' W hi' hr hao hkn hrl hlt
    have HI' := Lib.hid hi'
    have HR := Lib.hid hr
    have HAO := Lib.hid hao
    clear hi' hr hao
    gi_wp2_with fail
    obtain ⟨v, hv, vs, hvl, ⟨hvo, hva⟩, hvi⟩ := HI'.out.out
    have hBW : B < W.heap.size := (Array.getElem?_eq_some_iff.1 hv).1
    have hB5 : B + 5 ≤ W.heap.size := by have := HSZ.out; omega
    have hsz1 := HI'.out.size
    have hfew := HI'.out.few
    refine wpIn_region_inv (I := fun L a wr => ∃ t14 t15 t16 t17 t18 t19 t20, a = { tmps := #[.slice ao n cap, undef, .slice none 0 0, .int .i64 0, .int .i64 0, .pointer (some ⟨B, 0, none⟩), .pointer (some ⟨B + 1, 0, none⟩), .pointer (some ⟨B + 2, 0, none⟩), .slice ao' n' cap', .int .i64 ((k + (r.length + 12) : Nat) : Int), .slice ao n cap, .func (.func 52) #[] #[.pointer (some ⟨B + 3, 0, none⟩), .pointer (some ⟨B + 4, 0, none⟩)], .slice ao' n' cap', .int .i64 ((k + (r.length + 12) : Nat) : Int), t14, t15, t16, t17, t18, t19, t20, undef, undef, undef], defers := [] } ∧ RegW W B (k + (r.length + 12)) v pre r (.slice ao' n' cap') L wr t14 t15 t16 t17 t18 t19 t20) (by kernel_rfl) (by kernel_rfl) ?step ?fin ?start
    case start =>
      exact ⟨undef, undef, undef, undef, undef, undef, undef, rfl, RegW.start _ _ _ _ _ _ _ _ _ _ _ _ _ _⟩
    case fin =>
      rintro L a wr hall ⟨t14, t15, t16, t17, t18, t19, t20, rfl, h⟩
      have h5 := hall 5 (by decide)
      have h7 := hall 7 (by decide)
      have h8 := hall 8 (by decide)
      have key : ∀ j c t f, W.heap[j]? = some (Obj.cells c t f) → j ≠ B → j ≠ B + 1 → t ≠ 30 → wr.heap[j]? = some (Obj.cells c t f) := fun j c t f hj n1 n2 n3 =>
        (h.keep j (Array.getElem?_eq_some_iff.1 hj).1 (fun _ => n1) (fun _ => n2) (fun _ => box_ne hj hvo n3)).trans hj
      have hlow : ∀ j, j < B → wr.heap[j]? = W.heap[j]? := fun j hj => h.keep j (by omega) (fun _ => by omega) (fun _ => by omega) (fun _ e => by have := (hvo.lt j e.symm).1; omega)
      have hbb : wr.heap[B + 3]? = W.heap[B + 3]? := h.keep _ (Array.getElem?_eq_some_iff.1 HI'.out.bb).1 (fun _ => by omega) (fun _ => by omega) (fun _ e => by have := (hvo.lt _ e.symm).1; omega)
      refine ⟨⟨Nat.le_trans h.size (Nat.le_refl _), fun j o hB' hj ho => ?_⟩, ⟨⟨t19, h.h7 h7, h.h19 h5⟩, h.h8 h8, key _ _ _ _ HI'.out.rest (by omega) (by omega) (by decide), hbb.trans HI'.out.bb, key _ _ _ _ HI'.out.br (by omega) (by omega) (by decide), ?_, ?_, ?_⟩⟩
      · rw [HSZ.out] at hB'
        rw [← hj]
        refine h.keep j (Array.getElem?_eq_some_iff.1 hj).1 (fun _ => by omega) (fun _ => by omega) (fun _ e => ?_)
        rcases hvo.2 with ⟨rfl, _⟩ | ⟨g, cap2, cur, rfl, _, hg, _⟩
        · simp [Value.ownBlock] at e
        · simp only [Value.ownBlock] at e
          injection e with e
          subst e
          rw [hg] at hj
          cases hj
          simp [Obj.isCells] at ho
      · refine ⟨HI'.out.bytes.1, HI'.out.bytes.2.1, HI'.out.bytes.2.2.1, fun hl => ?_, HI'.out.bytes.2.2.2.2⟩
        obtain ⟨b, off, e, hc⟩ := HI'.out.bytes.2.2.2.1 hl
        refine ⟨b, off, e, fun i hi => ?_⟩
        rw [← hc i hi]
        exact World.cell?_of_block (hlow b (HK.out hl _ e))
      · simp; omega
      · exact HI'.out.below.trans ⟨h.os, h.tape, h.output, h.size, hlow⟩
    case step =>
      rintro i hi9 L a wr hL hcome ⟨t14, t15, t16, t17, t18, t19, t20, rfl, h⟩
      have hi9 : i < 9 := hi9
      have hcase : i = 0 ∨ i = 1 ∨ i = 2 ∨ i = 3 ∨ i = 4 ∨ i = 5 ∨ i = 6 ∨ i = 7 ∨ i = 8 := by omega
      rcases hcase with rfl | rfl | rfl | rfl | rfl | rfl | rfl | rfl | rfl
      · have hn5 : L 5 = false := by cases e : L 5 with | false => rfl | true => rw [h.o50 e] at hL; cases hL
        have hcell : wr.cell? ⟨B, 0, none⟩ = some v := by
          rw [cell_of_row _ _ _ _ _ _ ((h.keep B hBW (fun e => by rw [h.o7 e] at hn5; cases hn5) (fun _ => by omega) (fun e => by rw [e] at hn5; cases hn5)).trans hv)]; rfl
        refine wpOpIn_value rfl rfl (fun c e => by cases e) rfl (v := v) (w' := wr) (by go_simp) ?_
        exact ⟨_, t15, t16, t17, t18, t19, t20, rfl, h.op0⟩
      · refine wpOpIn_value rfl rfl (fun c e => by cases e) rfl (v := .slice (some ⟨wr.heap.size, 0, none⟩) 0 0) (w' := wr.alloc (.cells #[] 5)) (by go_simp) ?_
        exact ⟨t14, _, t16, t17, t18, t19, t20, rfl, h.op1 hL⟩
      · refine wpOpIn_value rfl rfl (fun c e => by cases e) rfl (v := .slice ao' n' cap') (w' := wr) rfl ?_
        exact ⟨t14, t15, _, t17, t18, t19, t20, rfl, h.op2⟩
      · have hd : L 1 = true ∧ L 2 = true := by simpa [mayCome, Region.binds] using hcome
        have hn5 : L 5 = false := by cases e : L 5 with | false => rfl | true => rw [h.o4 (h.o5 e)] at hL; cases hL
        obtain rfl := h.h16 hd.2
        obtain ⟨x, w', hrun, hx, hg, _⟩ := run_append_bytes 30 W.heap.size t15 [] (h.h15 hd.1 hL) ao' n' cap' r (h.bytes hn5 HR.out) (by have := HR.out.1; simp; omega) h.size
        refine wpOpIn_value (o := ⟨some 17, .call { callee := .builtin .append, args := #[.tmp 15, .tmp 16], argTypes := #[30, 30] }, _, _, _, none⟩) rfl rfl (fun c e => by cases e) (by simp [Oper.about, resolve, Target.leads, Sem.run_pure]) (v := x) (w' := w') ?_ ?_
        · unfold execOp
          simp only [resolve, invoke, builtin, Sem.run_bind, Sem.run_pure, Result.andThen_ok, List.map_toArray, List.map_cons, List.map_nil]
          exact (congrArg (fun z => Result.andThen z _) hrun)
        rw [List.nil_append] at hx
        exact ⟨t14, t15, _, _, t18, t19, t20, rfl, h.op3 hL hd.1 hd.2 hx hg⟩
      · have hd : L 3 = true := by simpa [mayCome, Region.binds] using hcome
        obtain ⟨ao17, c17, rfl⟩ := ownsRow_shape (h.h17 hd).1
        refine wpOpIn_value rfl rfl (fun c e => by cases e) rfl (v := .slice (some ⟨wr.heap.size, 0, none⟩) 1 1) (w' := wr.alloc (.cells #[.slice ao17 r.length c17] 30)) (by go_simp) ?_
        exact ⟨t14, t15, t16, _, _, t19, t20, rfl, h.op4 hL hd⟩
      · have hd : L 0 = true ∧ L 4 = true ∧ L 3 = true := by simpa [mayCome, Region.binds] using hcome
        obtain ⟨hd0, hd4, _⟩ := hd
        obtain rfl := h.h14 hd0
        obtain ⟨g, rfl, hgW, hg18⟩ := h.h18 hd4 hL
        obtain ⟨ao17, c17, rfl⟩ := ownsRow_shape (h.h17 (h.o4 hd4)).1
        obtain ⟨x, w', hrun, hx, hg, hxa, _, _⟩ := run_append_all (P := Try.prog) wr (B + 5) 25 25 30 i0 (.slice none 0 0) 1 24 Try.underlying25 hi hz0 hz1 hz2 rfl (by decide) t14 pre.length vs (h.row hL hvo).1 ⟨g, 0, none⟩ 1 1 [.slice ao17 r.length c17] rfl
          (by
            intro j u hu
            match j, hu with
            | 0, hu =>
              simp at hu; subst hu
              rw [show (⟨g, 0, none⟩ : Addr).add 0 = ⟨g, 0, none⟩ from rfl, cell_of_row _ _ _ _ _ _ hg18]; rfl)
          (by intro u hu; simp at hu; subst hu; rfl) (by unfold maxLen; omega) (by omega) (Nat.le_trans hB5 h.size) (fun u => plainV u = true) (fun u hu => by simp [Value.cells] at hu; subst hu; rfl) (fun u hu => by simp at hu; subst hu; rfl) (hva.move (h.row hL hvo).2)
        refine wpOpIn_value (o := ⟨some 19, .call { callee := .builtin .append, args := #[.tmp 14, .tmp 18], argTypes := #[25, 25] }, _, _, _, none⟩) rfl rfl (fun c e => by cases e) (by simp [Oper.about, resolve, Target.leads, Sem.run_pure]) (v := x) (w' := w') ?_ ?_
        · unfold execOp
          simp only [resolve, invoke, builtin, Sem.run_bind, Sem.run_pure, Result.andThen_ok, List.map_toArray, List.map_cons, List.map_nil]
          exact (congrArg (fun z => Result.andThen z _) hrun)
        exact ⟨_, t15, t16, _, _, _, t20, rfl, h.op5 hL hd0 hd4 hvl hB5 hvo hvi ⟨hx, hxa⟩ hg⟩
      · refine wpOpIn_value rfl rfl (fun c e => by cases e) rfl (v := .int .i64 ((k + (r.length + 12) : Nat) : Int)) (w' := wr) rfl ?_
        exact ⟨t14, t15, t16, t17, t18, t19, _, rfl, h.op6⟩
      · have hd : L 5 = true := by have := hcome; simp [mayCome, Region.binds] at this; simp [this]
        have hbox : wr.heap[B]? = some (.cells #[v] 25 (0, 0)) := by
          rw [h.keep B hBW (fun e => by rw [e] at hL; cases hL) (fun _ => by omega) (fun _ => box_ne hv hvo (by decide))]; exact hv
        obtain ⟨vs19, _, ⟨ho19, _⟩, _⟩ := h.h19 hd
        obtain ⟨ao19, c19, rfl⟩ := ownsRow_shape ho19
        have hcell : wr.cell? ⟨B, 0, none⟩ = some v := by rw [cell_of_row _ _ _ _ _ _ hbox]; rfl
        have hfr : wr.frozen? ⟨B, 0, none⟩ = false := frozen_of_row _ _ _ _ _ hbox
        refine wpOpIn_skip rfl rfl (fun c e => by cases e) rfl (w' := wr.setCell ⟨B, 0, none⟩ (.slice ao19 (pre ++ [r]).length c19)) (by go_simp) ?_
        exact ⟨t14, t15, t16, t17, t18, _, t20, rfl, h.op7 hL hd hbox⟩
      · have hd : L 6 = true ∧ L 7 = true := by have := hcome; simp [mayCome, Region.binds] at this; simp [this]
        obtain ⟨hd6, hd7⟩ := hd
        obtain rfl := h.h20 hd6
        have hbox : wr.heap[B + 1]? = some (.cells #[.int .i64 (k : Int)] 3 (0, 0)) := by
          rw [h.keep (B + 1) (Array.getElem?_eq_some_iff.1 hsz1).1 (fun _ => by omega) (fun e => by rw [e] at hL; cases hL) (fun _ => box_ne hsz1 hvo (by decide))]; exact hsz1
        have hcell : wr.cell? ⟨B + 1, 0, none⟩ = some (.int .i64 (k : Int)) := by rw [cell_of_row _ _ _ _ _ _ hbox]; rfl
        have hfr : wr.frozen? ⟨B + 1, 0, none⟩ = false := frozen_of_row _ _ _ _ _ hbox
        refine wpOpIn_skip rfl rfl (fun c e => by cases e) rfl (w' := wr.setCell ⟨B + 1, 0, none⟩ (.int .i64 ((k + (r.length + 12) : Nat) : Int))) (by go_simp) ?_
        exact ⟨t14, t15, t16, t17, t18, t19, _, rfl, h.op8 hL hd7 hbox⟩
  case done =>
    intro D W hD hI hdef
    obtain ⟨v, hv, hl⟩ := hI.out
    obtain ⟨vs, _, ⟨hvo, _⟩, _⟩ := hl
    obtain ⟨av, cv, rfl⟩ := ownsRow_shape hvo
    have hrest := hI.rest
    have ho2 : (W.setCell ⟨B + 2, 0, none⟩ (.int .i64 ((Fr.scanF bs).2.2 : Int))).heap[B + 2]? = some (.cells #[.int .i64 ((Fr.scanF bs).2.2 : Int)] 3 (0, 0)) := by rw [heap_setCell_same _ _ _ _ _ _ hrest]; rfl
    have ho0 : (W.setCell ⟨B + 2, 0, none⟩ (.int .i64 ((Fr.scanF bs).2.2 : Int))).heap[B]? = some (.cells #[.slice av (Fr.scanF bs).1.length cv] 25 (0, 0)) := by rw [Below.heap_setCell _ _ _ _ (by simp)]; exact hv
    have ho1 : (W.setCell ⟨B + 2, 0, none⟩ (.int .i64 ((Fr.scanF bs).2.2 : Int))).heap[B + 1]? = some (.cells #[.int .i64 ((Fr.scanF bs).2.1 : Int)] 3 (0, 0)) := by rw [Below.heap_setCell _ _ _ _ (by simp)]; exact hI.size
    have hll := (show Lists W (B + 5) (.slice av (Fr.scanF bs).1.length cv) (Fr.scanF bs).1 from by obtain ⟨v', hv', hl'⟩ := hI.out; rw [hv] at hv'; cases hv'; exact hl')
    have hfin : Lists (W.setCell ⟨B + 2, 0, none⟩ (.int .i64 ((Fr.scanF bs).2.2 : Int))) (B + 5) (.slice av (Fr.scanF bs).1.length cv) (Fr.scanF bs).1 := hll.setCell hrest (by decide) (by decide)
    have hbel : Below B w (W.setCell ⟨B + 2, 0, none⟩ (.int .i64 ((Fr.scanF bs).2.2 : Int))) := hI.below.setCell (by simp) _
    obtain ⟨W', hW'⟩ : ∃ W', W' = W.setCell ⟨B + 2, 0, none⟩ (.int .i64 ((Fr.scanF bs).2.2 : Int)) := ⟨_, rfl⟩
    rw [← hW'] at ho0 ho1 ho2 hfin hbel hdef ⊢
    have hc0 : W'.cell? ⟨B, 0, none⟩ = some (.slice av (Fr.scanF bs).1.length cv) := by rw [cell_of_row _ _ _ _ _ _ ho0]; rfl
    have hc1 : W'.cell? ⟨B + 1, 0, none⟩ = some (.int .i64 ((Fr.scanF bs).2.1 : Int)) := by rw [cell_of_row _ _ _ _ _ _ ho1]; rfl
    have hc2 : W'.cell? ⟨B + 2, 0, none⟩ = some (.int .i64 ((Fr.scanF bs).2.2 : Int)) := by rw [cell_of_row _ _ _ _ _ _ ho2]; rfl
    have HF := Lib.hid hfin
    have HBl := Lib.hid hbel
    have HD := Lib.hid hdef
    clear hW' hI hv hvo hrest ho0 ho1 ho2 hll hfin hbel hdef
    gi_wp2_with fail
    gi_region
    gi_wp2_with fail
    refine ⟨by simp, .inl ⟨_, _, rfl, run_takeDeferred HD.out, ?_⟩⟩
    refine ⟨_, results_tmp3 rfl _ _ _, _, rfl, ?_, ?_⟩
    · rw [← HB.out]
      have hdr : Lists W'.drew (B + 5) (.slice av (Fr.scanF bs).1.length cv) (Fr.scanF bs).1 := HF.out.later (Below.refl _ _).drew
      exact (hdr.putObj (r := D) HD.out rfl).base (by omega)
    · rw [← HB.out]
      have hdl := (Array.getElem?_eq_some_iff.1 HD.out).1
      exact HBl.out.trans ⟨rfl, rfl, rfl, by simp, fun j hj => World.putObj_heap_other (by rw [HSZ.out] at hD; omega)⟩
end Go.Proofs.Ytgbpgmbnihfkkaa
