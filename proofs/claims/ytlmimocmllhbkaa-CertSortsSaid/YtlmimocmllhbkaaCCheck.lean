/- cert: Check -/
import Derived.Test.YtlmimocmllhbkaaCOrd
import Derived.StillTactics
namespace Go.Proofs.Ytlmimocmllhbkaa
open Go.RowKit
def c0 : Crt := ⟨0, 0, 0, 0, 0⟩
/-- the slice holds these certificates. -/
def CertsAt (w : World) (b off n : Nat) (L : List Crt) : Prop := ∀ i, i < n → ∀ j, j < 5 → w.cell? ⟨b, off + i * 5 + j, none⟩ = some (.int .i64 ((L.getD i c0).get j))
def IsCerts (w : World) (ao : Option Addr) (n cap : Nat) (L : List Crt) : Prop :=
  L.length = n ∧ n ≤ cap ∧ cap ≤ maxLen ∧ (0 < n → ∃ b off, ao = some ⟨b, off, none⟩ ∧ CertsAt w b off n L) ∧ (ao = none → n = 0 ∧ cap = 0)
theorem CertsAt.lt {w : World} {b off n : Nat} {L : List Crt} (h : CertsAt w b off n L) (hl : 0 < n) : b < w.heap.size := block_lt_of_cell (h 0 hl 0 (by omega))
theorem CertsAt.later {w w' : World} {b off n : Nat} {L : List Crt} {B : Nat} (h : CertsAt w b off n L) (hb : Below B w w') (hB : b < B) : CertsAt w' b off n L :=
  fun i hi j hj => (hb.cell (p := ⟨b, off + i * 5 + j, none⟩) hB).trans (h i hi j hj)
theorem IsCerts.later {w w' : World} {B : Nat} {ao : Option Addr} {n cap : Nat} {L : List Crt} (h : IsCerts w ao n cap L) (hb : Below B w w') (hB : w.heap.size ≤ B) : IsCerts w' ao n cap L := by
  obtain ⟨h1, h2, h3, h4, h5⟩ := h
  refine ⟨h1, h2, h3, fun hn => ?_, h5⟩
  obtain ⟨b, off, rfl, hc⟩ := h4 hn
  exact ⟨b, off, rfl, hc.later hb (Nat.lt_of_lt_of_le (hc.lt hn) hB)⟩
def fineC (c : Crt) : Bool := decide (1 ≤ c.cu) && decide (c.cu ≤ 1099511627775) && (decide (0 ≤ c.ju) && decide (c.ju ≤ 1099511627775)) && (decide (0 ≤ c.ca) && decide (c.ca ≤ 1099511627775)) && (decide (0 ≤ c.fr) && decide (c.fr ≤ 3652058)) && (decide (0 ≤ c.to) && decide (c.to ≤ 3652058))
/-- is certificate i in its place? -/
def placed (L : List Crt) (i : Nat) : Prop := (L.getD i c0).fr ≤ (L.getD i c0).to ∧ (i = 0 ∨ cmpC (L.getD (i - 1) c0) (L.getD i c0) < 0)
instance (L : List Crt) (i : Nat) : Decidable (placed L i) := by unfold placed; infer_instance
def chk (L : List Crt) : Nat → Nat → Int × Int
  | 0, _ => (0, 0)
  | f + 1, i => if fineC (L.getD i c0) = true then (if placed L i then chk L f (i + 1) else (2, (i : Int))) else (5, (i : Int))
def checkP (L : List Crt) : Int × Int := if 500 < L.length then (3, 0) else chk L L.length 0
/-- a proposition that is not looked into. -/
structure Box (p : Prop) : Prop where
  out : p
theorem still_val {P : Program} {ops : Array Oper} {w : World} {Q : Act → Prop} {o : Oper} {rest : List Oper} {a : Act} {v : Value} (h : Region.wanted o (yielded ops a.tmps) = true)
    (hv : (execOp a.eval o).run P w = .ok (.value v) w) (hn : Box (wpStill P ops w Q rest (a.put o.dst v))) : Box (wpStill P ops w Q (o :: rest) a) := by
  refine ⟨?_⟩
  unfold wpStill
  rw [if_pos h]
  unfold Oper.still
  rw [hv]
  exact ⟨rfl, hn.out⟩
theorem still_skip {P : Program} {ops : Array Oper} {w : World} {Q : Act → Prop} {o : Oper} {rest : List Oper} {a : Act} (h : Region.wanted o (yielded ops a.tmps) = false)
    (hn : Box (wpStill P ops w Q rest (a.put o.dst undef))) : Box (wpStill P ops w Q (o :: rest) a) := by
  refine ⟨?_⟩
  unfold wpStill
  rw [if_neg (by rw [h]; exact Bool.false_ne_true)]
  exact hn.out
theorem chkS_step {B b : Nat} {o0 o1 o2 o3 o4 : Nat} {a0 a1 a2 a3 a4 b0 b1 b2 b3 b4 : Int} {w0 w1 w2 : World} (hB : B < w0.heap.size) (hb : b < w0.heap.size) (hbc : Below w1.heap.size w1 w2) (h0 : w1.cell? ⟨B, 0, none⟩ = some (.int .i64 a0)) (h1 : w1.cell? ⟨B, 1, none⟩ = some (.int .i64 a1)) (h2 : w1.cell? ⟨B, 2, none⟩ = some (.int .i64 a2)) (h3 : w1.cell? ⟨B, 3, none⟩ = some (.int .i64 a3)) (h4 : w1.cell? ⟨B, 4, none⟩ = some (.int .i64 a4)) (h5 : w1.cell? ⟨b, o0, none⟩ = some (.int .i64 b0)) (h6 : w1.cell? ⟨b, o1, none⟩ = some (.int .i64 b1)) (h7 : w1.cell? ⟨b, o2, none⟩ = some (.int .i64 b2)) (h8 : w1.cell? ⟨b, o3, none⟩ = some (.int .i64 b3)) (h9 : w1.cell? ⟨b, o4, none⟩ = some (.int .i64 b4)) (hbw : Below w0.heap.size w0 w1) :
    w2.cell? ⟨B, 0, none⟩ = some (.int .i64 a0) ∧ w2.cell? ⟨B, 1, none⟩ = some (.int .i64 a1) ∧ w2.cell? ⟨B, 2, none⟩ = some (.int .i64 a2) ∧ w2.cell? ⟨B, 3, none⟩ = some (.int .i64 a3) ∧ w2.cell? ⟨B, 4, none⟩ = some (.int .i64 a4) ∧ w2.cell? ⟨b, o0, none⟩ = some (.int .i64 b0) ∧ w2.cell? ⟨b, o1, none⟩ = some (.int .i64 b1) ∧ w2.cell? ⟨b, o2, none⟩ = some (.int .i64 b2) ∧ w2.cell? ⟨b, o3, none⟩ = some (.int .i64 b3) ∧ w2.cell? ⟨b, o4, none⟩ = some (.int .i64 b4) ∧ Below w0.heap.size w0 w2 := by
  have hs := hbw.size
  have hbc2 : Below w0.heap.size w1 w2 := hbc.mono hs
  refine ⟨?_, ?_, ?_, ?_, ?_, ?_, ?_, ?_, ?_, ?_, hbw.trans hbc2⟩
  all_goals exact (hbc2.cell (by dsimp only; omega)).trans (by assumption)
set_option maxRecDepth 100000 in
set_option maxHeartbeats 2000000 in
theorem Check_any (ao : Option Addr) (n cap : Nat) (L : List Crt) (w : World) (h : IsCerts w ao n cap L) :
    Calls Try.prog 9 #[.slice ao n cap] w fun e w' => e = .returned (.tuple #[.int .i64 (checkP L).1, .int .i64 (checkP L).2]) ∧ Below w.heap.size w w' := by
  obtain ⟨hl, hnc, hcm, hc, h0⟩ := h
  unfold maxLen at hcm
  by_cases hbig : 500 < n
  · have hbi : (500 : Int) < (n : Int) := by omega
    rw [show checkP L = (3, 0) by unfold checkP; rw [hl, if_pos hbig]]
    clear hl hc
    go_enter Try.func9, Try.ntmps9
    go_wp2
    go_ret2
    exact ⟨rfl, Below.refl _ _⟩
  · have hbi : ¬ (500 : Int) < (n : Int) := by omega
    have hR : checkP L = chk L n 0 := by unfold checkP; rw [hl, if_neg hbig]
    rw [hR]
    have HL := Lib.hid hl
    have HC := Lib.hid hc
    clear hl hc hR
    go_enter Try.func9, Try.ntmps9
    go_wp2
    go_loopw [12] (fun i wr => ∃ k : Nat, k ≤ n ∧ i = .int .i64 k ∧ Hid (chk L n 0 = chk L (n - k) k) ∧ Hid (Below w.heap.size w wr)) (fun i _ => n - (intOf i).toNat)
    case atStart => exact ⟨0, by omega, rfl, rfl, Below.refl _ _⟩
    case round =>
      obtain ⟨k, hk, rfl, hch, hbl⟩ := hrel
      by_cases hlt : k < n
      · have hi0 : (0 : Int) ≤ (k : Int) := by omega
        have hi5 : (k : Int) < (n : Int) := by omega
        obtain ⟨b, off, rfl, hcs⟩ := HC.out (by omega)
        have hcs2 := hcs.later hbl.out (hcs.lt (by omega))
        obtain ⟨c, hc⟩ : ∃ c, c = L.getD k c0 := ⟨_, rfl⟩
        have hk0 := hcs2 k hlt
        rw [← hc] at hk0
        have e0 : wr.cell? ⟨b, off + k * 5, none⟩ = some (.int .i64 c.cu) := hk0 0 (by omega)
        have e1 : wr.cell? ⟨b, off + k * 5 + 1, none⟩ = some (.int .i64 c.ju) := hk0 1 (by omega)
        have e2 : wr.cell? ⟨b, off + k * 5 + 2, none⟩ = some (.int .i64 c.ca) := hk0 2 (by omega)
        have e3 : wr.cell? ⟨b, off + k * 5 + 3, none⟩ = some (.int .i64 c.fr) := hk0 3 (by omega)
        have e4 : wr.cell? ⟨b, off + k * 5 + 4, none⟩ = some (.int .i64 c.to) := hk0 4 (by omega)
        have HK := Lib.hid hcs2
        have HCE := Lib.hid hc
        clear hcs hcs2 hk0 hc
        obtain ⟨p0, hp0⟩ : ∃ p, p = (decide ((1 : Int) ≤ c.cu) && decide (c.cu ≤ 1099511627775)) := ⟨_, rfl⟩
        have W0 : ∀ w', Calls Try.prog 18 #[.int .i64 c.cu, .int .i64 1, .int .i64 1099511627775] w' fun e w2 => e = .returned (.bool p0) ∧ w' = w2 := by rw [hp0]; exact within_any _ _ _
        obtain ⟨p1, hp1⟩ : ∃ p, p = (decide ((0 : Int) ≤ c.ju) && decide (c.ju ≤ 1099511627775)) := ⟨_, rfl⟩
        have W1 : ∀ w', Calls Try.prog 18 #[.int .i64 c.ju, .int .i64 0, .int .i64 1099511627775] w' fun e w2 => e = .returned (.bool p1) ∧ w' = w2 := by rw [hp1]; exact within_any _ _ _
        obtain ⟨p2, hp2⟩ : ∃ p, p = (decide ((0 : Int) ≤ c.ca) && decide (c.ca ≤ 1099511627775)) := ⟨_, rfl⟩
        have W2 : ∀ w', Calls Try.prog 18 #[.int .i64 c.ca, .int .i64 0, .int .i64 1099511627775] w' fun e w2 => e = .returned (.bool p2) ∧ w' = w2 := by rw [hp2]; exact within_any _ _ _
        obtain ⟨p3, hp3⟩ : ∃ p, p = (decide ((0 : Int) ≤ c.fr) && decide (c.fr ≤ 3652058)) := ⟨_, rfl⟩
        have W3 : ∀ w', Calls Try.prog 18 #[.int .i64 c.fr, .int .i64 0, .int .i64 3652058] w' fun e w2 => e = .returned (.bool p3) ∧ w' = w2 := by rw [hp3]; exact within_any _ _ _
        obtain ⟨p4, hp4⟩ : ∃ p, p = (decide ((0 : Int) ≤ c.to) && decide (c.to ≤ 3652058)) := ⟨_, rfl⟩
        have W4 : ∀ w', Calls Try.prog 18 #[.int .i64 c.to, .int .i64 0, .int .i64 3652058] w' fun e w2 => e = .returned (.bool p4) ∧ w' = w2 := by rw [hp4]; exact within_any _ _ _
        have hf : fineC (L.getD k c0) = (p0 && p1 && p2 && p3 && p4) := by rw [← HCE.out, hp0, hp1, hp2, hp3, hp4]; rfl
        have HF := Lib.hid hf
        clear hf hp0 hp1 hp2 hp3 hp4
        have HW0 := Lib.hid W0
        have HW1 := Lib.hid W1
        have HW2 := Lib.hid W2
        have HW3 := Lib.hid W3
        have HW4 := Lib.hid W4
        clear W0 W1 W2 W3 W4
        have hstep : n - k = (n - (k + 1)) + 1 := by omega
        have HS := Lib.hid hstep
        clear hstep
        cases hq0 : p0 with
        | false =>
          subst hq0
          go_wp2_with fail
          refine (HW0.out _).mono ?_
          rintro e w' ⟨rfl, rfl⟩
          go_wp2_with fail
          go_ret2
          refine ⟨?_, hbl.out.alloc hbl.out.size _⟩
          have h := hch.out
          rw [HS.out, chk, HF.out] at h
          rw [h]
          rfl
        | true =>
          subst hq0
          cases hq1 : p1 with
          | false =>
            subst hq1
            go_wp2_with fail
            refine (HW0.out _).mono ?_
            rintro e w' ⟨rfl, rfl⟩
            go_wp2_with fail
            refine (HW1.out _).mono ?_
            rintro e w' ⟨rfl, rfl⟩
            go_wp2_with fail
            go_ret2
            refine ⟨?_, hbl.out.alloc hbl.out.size _⟩
            have h := hch.out
            rw [HS.out, chk, HF.out] at h
            rw [h]
            rfl
          | true =>
            subst hq1
            cases hq2 : p2 with
            | false =>
              subst hq2
              go_wp2_with fail
              refine (HW0.out _).mono ?_
              rintro e w' ⟨rfl, rfl⟩
              go_wp2_with fail
              refine (HW1.out _).mono ?_
              rintro e w' ⟨rfl, rfl⟩
              go_wp2_with fail
              refine (HW2.out _).mono ?_
              rintro e w' ⟨rfl, rfl⟩
              go_wp2_with fail
              go_ret2
              refine ⟨?_, hbl.out.alloc hbl.out.size _⟩
              have h := hch.out
              rw [HS.out, chk, HF.out] at h
              rw [h]
              rfl
            | true =>
              subst hq2
              cases hq3 : p3 with
              | false =>
                subst hq3
                go_wp2_with fail
                refine (HW0.out _).mono ?_
                rintro e w' ⟨rfl, rfl⟩
                go_wp2_with fail
                refine (HW1.out _).mono ?_
                rintro e w' ⟨rfl, rfl⟩
                go_wp2_with fail
                refine (HW2.out _).mono ?_
                rintro e w' ⟨rfl, rfl⟩
                go_wp2_with fail
                refine (HW3.out _).mono ?_
                rintro e w' ⟨rfl, rfl⟩
                go_wp2_with fail
                go_ret2
                refine ⟨?_, hbl.out.alloc hbl.out.size _⟩
                have h := hch.out
                rw [HS.out, chk, HF.out] at h
                rw [h]
                rfl
              | true =>
                subst hq3
                cases hq4 : p4 with
                | false =>
                  subst hq4
                  go_wp2_with fail
                  refine (HW0.out _).mono ?_
                  rintro e w' ⟨rfl, rfl⟩
                  go_wp2_with fail
                  refine (HW1.out _).mono ?_
                  rintro e w' ⟨rfl, rfl⟩
                  go_wp2_with fail
                  refine (HW2.out _).mono ?_
                  rintro e w' ⟨rfl, rfl⟩
                  go_wp2_with fail
                  refine (HW3.out _).mono ?_
                  rintro e w' ⟨rfl, rfl⟩
                  go_wp2_with fail
                  refine (HW4.out _).mono ?_
                  rintro e w' ⟨rfl, rfl⟩
                  go_wp2_with fail
                  go_ret2
                  refine ⟨?_, hbl.out.alloc hbl.out.size _⟩
                  have h := hch.out
                  rw [HS.out, chk, HF.out] at h
                  rw [h]
                  rfl
                | true =>
                  subst hq4
                  go_wp2_with fail
                  refine (HW0.out _).mono ?_
                  rintro e w' ⟨rfl, rfl⟩
                  go_wp2_with fail
                  refine (HW1.out _).mono ?_
                  rintro e w' ⟨rfl, rfl⟩
                  go_wp2_with fail
                  refine (HW2.out _).mono ?_
                  rintro e w' ⟨rfl, rfl⟩
                  go_wp2_with fail
                  refine (HW3.out _).mono ?_
                  rintro e w' ⟨rfl, rfl⟩
                  go_wp2_with fail
                  refine (HW4.out _).mono ?_
                  rintro e w' ⟨rfl, rfl⟩
                  go_wp2_with fail
                  obtain ⟨B, hB⟩ : ∃ B, B = wr.heap.size := ⟨_, rfl⟩
                  generalize hw1 : wr.alloc (Obj.cells #[Value.int IntKind.i64 c.cu, Value.int IntKind.i64 c.ju, Value.int IntKind.i64 c.ca, Value.int IntKind.i64 c.fr, Value.int IntKind.i64 c.to] 30) = w1
                  have hh : w1.heap[B]? = some (.cells #[Value.int IntKind.i64 c.cu, Value.int IntKind.i64 c.ju, Value.int IntKind.i64 c.ca, Value.int IntKind.i64 c.fr, Value.int IntKind.i64 c.to] 30 (0, 0)) := by rw [← hw1, hB]; exact alloc_new _ _
                  have hb1 : Below wr.heap.size wr w1 := by rw [← hw1]; exact (Below.refl _ _).alloc (Nat.le_refl _) _
                  rw [← hB]
                  have f0 : w1.cell? ⟨B, 0, none⟩ = some (.int .i64 c.cu) := cell_of_row _ _ _ _ _ _ hh
                  have f1 : w1.cell? ⟨B, 1, none⟩ = some (.int .i64 c.ju) := cell_of_row _ _ _ _ _ _ hh
                  have f2 : w1.cell? ⟨B, 2, none⟩ = some (.int .i64 c.ca) := cell_of_row _ _ _ _ _ _ hh
                  have f3 : w1.cell? ⟨B, 3, none⟩ = some (.int .i64 c.fr) := cell_of_row _ _ _ _ _ _ hh
                  have f4 : w1.cell? ⟨B, 4, none⟩ = some (.int .i64 c.to) := cell_of_row _ _ _ _ _ _ hh
                  have HB1 := Lib.hid hb1
                  have HBE := Lib.hid hB
                  clear hb1 hB hw1 hh e0 e1 e2 e3 e4
                  by_cases hto : c.to < c.fr
                  · have HTO := Lib.hid hto
                    go_wp2
                    go_region
                    go_wp2
                    go_ret2
                    refine ⟨?_, hbl.out.trans ((HB1.out.mono hbl.out.size).drew)⟩
                    have h := hch.out
                    rw [HS.out, chk, HF.out, if_pos (show (true && true && true && true && true) = true from rfl), if_neg (by rintro ⟨hp, _⟩; rw [← HCE.out] at hp; have := HTO.out; omega)] at h
                    rw [h]
                    rfl
                  · have HTO := Lib.hid hto
                    by_cases hk0 : k = 0
                    · have hkz : ¬ (0 : Int) < (k : Int) := by omega
                      have hkn : ¬ 0 < k := by omega
                      have HK0 := Lib.hid hk0
                      clear hk0
                      refine wp_region_still_lit (by kernel_rfl) (by kernel_rfl) ?_
                      iterate 8 still_step
                      refine Box.out ?_
                      refine still_val (v := .bool false) rfl (by first | rfl | (go_simp; done)) ?_
                      simp only [Act.put, List.setIfInBounds_toArray, List.set_cons_zero, List.set_cons_succ]
                      refine still_skip rfl ?_
                      simp only [Act.put, List.setIfInBounds_toArray, List.set_cons_zero, List.set_cons_succ]
                      refine still_skip rfl ?_
                      simp only [Act.put, List.setIfInBounds_toArray, List.set_cons_zero, List.set_cons_succ]
                      refine still_skip rfl ?_
                      simp only [Act.put, List.setIfInBounds_toArray, List.set_cons_zero, List.set_cons_succ]
                      refine still_skip rfl ?_
                      simp only [Act.put, List.setIfInBounds_toArray, List.set_cons_zero, List.set_cons_succ]
                      refine still_skip rfl ?_
                      simp only [Act.put, List.setIfInBounds_toArray, List.set_cons_zero, List.set_cons_succ]
                      refine still_skip rfl ?_
                      simp only [Act.put, List.setIfInBounds_toArray, List.set_cons_zero, List.set_cons_succ]
                      refine still_skip rfl ?_
                      simp only [Act.put, List.setIfInBounds_toArray, List.set_cons_zero, List.set_cons_succ]
                      refine still_skip rfl ?_
                      simp only [Act.put, List.setIfInBounds_toArray, List.set_cons_zero, List.set_cons_succ]
                      refine still_val (v := .bool false) rfl (by first | rfl | (go_simp; done)) ?_
                      simp only [Act.put, List.setIfInBounds_toArray, List.set_cons_zero, List.set_cons_succ]
                      refine still_val (v := .bool false) rfl (by first | rfl | (go_simp; done)) ?_
                      simp only [Act.put, List.setIfInBounds_toArray, List.set_cons_zero, List.set_cons_succ]
                      refine still_val (v := .bool false) rfl (by first | rfl | (go_simp; done)) ?_
                      simp only [Act.put, List.setIfInBounds_toArray, List.set_cons_zero, List.set_cons_succ]
                      refine Box.mk (wpStill_nil ?_)
                      go_wp2_with fail
                      go_roundw
                      case rel =>
                        refine ⟨k + 1, by omega, by go_num, ?_, hbl.out.trans ((HB1.out.mono hbl.out.size).drew)⟩
                        have h := hch.out
                        rw [HS.out, chk, HF.out, if_pos (show (true && true && true && true && true) = true from rfl), if_pos ⟨by rw [← HCE.out]; have := HTO.out; omega, .inl HK0.out⟩] at h
                        exact h
                      case measure => simp [intOf]; omega
                    · obtain ⟨m, hkm⟩ : ∃ m, k = m + 1 := ⟨k - 1, by omega⟩
                      have hm := HK.out m (by omega)
                      have hbz : b < wr.heap.size := HK.out.lt (by omega)
                      have hm1 : ∀ j, j < 5 → w1.cell? ⟨b, off + m * 5 + j, none⟩ = some (.int .i64 ((L.getD m c0).get j)) := fun j hj => (HB1.out.cell (by dsimp only; omega)).trans (hm j hj)
                      obtain ⟨d, hd⟩ : ∃ d, d = L.getD m c0 := ⟨_, rfl⟩
                      rw [← hd] at hm1
                      have g0 : w1.cell? ⟨b, off + m * 5, none⟩ = some (.int .i64 d.cu) := hm1 0 (by omega)
                      have g1 : w1.cell? ⟨b, off + m * 5 + 1, none⟩ = some (.int .i64 d.ju) := hm1 1 (by omega)
                      have g2 : w1.cell? ⟨b, off + m * 5 + 2, none⟩ = some (.int .i64 d.ca) := hm1 2 (by omega)
                      have g3 : w1.cell? ⟨b, off + m * 5 + 3, none⟩ = some (.int .i64 d.fr) := hm1 3 (by omega)
                      have g4 : w1.cell? ⟨b, off + m * 5 + 4, none⟩ = some (.int .i64 d.to) := hm1 4 (by omega)
                      have HD := Lib.hid hd
                      clear hm hm1 hd
                      have hmw : IntKind.i64.wrap ((k : Int) - 1) = (m : Int) := by rw [show (k : Int) - 1 = (m : Int) by omega]; exact IntWalk.i64_in _ (by omega)
                      have hm0 : (0 : Int) ≤ (m : Int) := by omega
                      have hmn : (m : Int) < (n : Int) := by omega
                      have hmp : (0 : Int) < (k : Int) := by omega
                      have hkn : 0 < k := by omega
                      have HKM := Lib.hid hkm
                      clear hkm hk0
                      have HSB : Hid (B < w1.heap.size) := Lib.hid (block_lt_of_cell f0)
                      have HSb : Hid (b < w1.heap.size) := Lib.hid (block_lt_of_cell g0)
                      have hor := fun x0 x1 x2 x3 x4 y0 y1 y2 y3 y4 => order_any ⟨x0, x1, x2, x3, x4⟩ ⟨y0, y1, y2, y3, y4⟩
                      have HO := Lib.hid hor
                      clear hor
                      go_region_held3 (fun w' => w'.cell? ⟨B, 0, none⟩ = some (.int .i64 c.cu) ∧ w'.cell? ⟨B, 1, none⟩ = some (.int .i64 c.ju) ∧ w'.cell? ⟨B, 2, none⟩ = some (.int .i64 c.ca) ∧ w'.cell? ⟨B, 3, none⟩ = some (.int .i64 c.fr) ∧ w'.cell? ⟨B, 4, none⟩ = some (.int .i64 c.to) ∧ w'.cell? ⟨b, off + m * 5, none⟩ = some (.int .i64 d.cu) ∧ w'.cell? ⟨b, off + m * 5 + 1, none⟩ = some (.int .i64 d.ju) ∧ w'.cell? ⟨b, off + m * 5 + 2, none⟩ = some (.int .i64 d.ca) ∧ w'.cell? ⟨b, off + m * 5 + 3, none⟩ = some (.int .i64 d.fr) ∧ w'.cell? ⟨b, off + m * 5 + 4, none⟩ = some (.int .i64 d.to) ∧ Below w1.heap.size w1 w')
                        (first
                          | (exact ⟨f0, f1, f2, f3, f4, g0, g1, g2, g3, g4, (Below.refl _ _).drew⟩)
                          | (go_split_ands; refine chkS_step HSB.out HSb.out hbc ?_ ?_ ?_ ?_ ?_ ?_ ?_ ?_ ?_ ?_ ?_; all_goals assumption))
                        (first
                          | (go_at_call 19; go_split_ands; refine (HO.out _ _ _ _ _ _ _ _ _ _ _).mono ?_; rintro e w1 ⟨rfl, hbc⟩)
                          | fail)
                      obtain ⟨r, hr⟩ : ∃ r, r = cmpC ⟨d.cu, d.ju, d.ca, d.fr, d.to⟩ ⟨c.cu, c.ju, c.ca, c.fr, c.to⟩ := ⟨_, rfl⟩
                      rw [← hr]
                      have HR : Hid (r = cmpC d c) := Lib.hid hr
                      clear hr
                      have hbz : Below wr.heap.size wr w1 := by
                        go_split_ands
                        exact HB1.out.trans (Below.mono (by assumption) HB1.out.size)
                      have HBZ := Lib.hid hbz
                      clear hbz
                      by_cases hrz : 0 ≤ r
                      · have HRZ := Lib.hid hrz
                        go_wp2_with fail
                        go_ret2
                        refine ⟨?_, hbl.out.trans (HBZ.out.mono hbl.out.size)⟩
                        have h := hch.out
                        have hp : ¬ placed L k := by
                          rintro ⟨_, hp⟩
                          have h1 := HKM.out
                          have h2 := HRZ.out
                          rw [h1] at hp
                          rw [← h1, show k - 1 = m by omega, ← HCE.out, ← HD.out, ← HR.out] at hp
                          omega
                        rw [HS.out, chk, HF.out, if_pos (show (true && true && true && true && true) = true from rfl), if_neg hp] at h
                        rw [h]
                        rfl
                      · have HRZ := Lib.hid hrz
                        go_wp2_with fail
                        go_roundw
                        case rel =>
                          refine ⟨k + 1, by omega, by go_num, ?_, hbl.out.trans (HBZ.out.mono hbl.out.size)⟩
                          have h := hch.out
                          have hp : placed L k := by
                            have h1 := HKM.out
                            have h2 := HRZ.out
                            refine ⟨by rw [← HCE.out]; have := HTO.out; omega, .inr ?_⟩
                            rw [show k - 1 = m by omega, ← HCE.out, ← HD.out, ← HR.out]
                            omega
                          rw [HS.out, chk, HF.out, if_pos (show (true && true && true && true && true) = true from rfl), if_pos hp] at h
                          exact h
                        case measure => simp [intOf]; omega
      · obtain rfl : k = n := by omega
        go_wp2
        go_ret2
        refine ⟨?_, hbl.out⟩
        rw [hch.out, show k - k = 0 by omega]
        rfl
end Go.Proofs.Ytlmimocmllhbkaa
