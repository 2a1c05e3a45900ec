/- the reference's disk: Append of a new file -/
import Derived.Test.YtjkkfjmloleedaaGreatRAppOld
import Derived.Test.YtjkkfjmloleedaaGreatRName
import Derived.Deep.DeepCutAuto
import Derived.Deep.CutBlock
set_option linter.unusedSimpArgs false
namespace Go.Proofs.YtjkkfjmloleedaaGreat
open Go.RowKit
set_option linter.unusedSectionVars false
variable [Zone]
/-- where a new name comes to stand. -/
def InsAt (s : ByteArray) (R : List FileV) (k : Nat) : Prop := k ≤ R.length ∧ (∀ j, j < k → Op.bytesLess (R.getD j f0).1.toList s.toList = true) ∧ (k < R.length → Op.bytesLess (R.getD k f0).1.toList s.toList = false)
def insF (R : List FileV) (k : Nat) (x : FileV) : List FileV := R.take k ++ [x] ++ R.drop k
theorem insAt_ex (s : ByteArray) (R : List FileV) : ∃ k, InsAt s R k := by
  have key : ∀ d k, R.length - k = d → k ≤ R.length → (∀ j, j < k → Op.bytesLess (R.getD j f0).1.toList s.toList = true) → ∃ k, InsAt s R k := by
    intro d
    induction d with
    | zero => exact fun k h1 h2 h3 => ⟨k, h2, h3, fun h => absurd h (by omega)⟩
    | succ d ih =>
      intro k h1 h2 h3
      by_cases hb : Op.bytesLess (R.getD k f0).1.toList s.toList = true
      · refine ih (k + 1) (by omega) (by omega) (fun j hj => ?_)
        rcases Nat.lt_succ_iff_lt_or_eq.1 hj with q | rfl
        · exact h3 j q
        · exact hb
      · exact ⟨k, h2, h3, fun _ => by simpa using hb⟩
  exact key _ 0 rfl (Nat.zero_le _) (fun j hj => absurd hj (by omega))
theorem insF_length {R : List FileV} {k : Nat} (x : FileV) (h : k ≤ R.length) : (insF R k x).length = R.length + 1 := by
  unfold insF
  simp only [List.length_append, List.length_take, List.length_drop, List.length_cons, List.length_nil]
  omega
theorem insF_at {R : List FileV} {k : Nat} (x : FileV) (h : k ≤ R.length) : (insF R k x).getD k f0 = x := by
  unfold insF
  have hl : (R.take k).length = k := by rw [List.length_take]; omega
  rw [List.append_assoc, List.getD_eq_getElem?_getD, List.getElem?_append_right (by omega), hl, Nat.sub_self]
  rfl
theorem insF_set {R : List FileV} {k : Nat} (x y : FileV) (h : k ≤ R.length) : (insF R k x).set k y = insF R k y := by
  unfold insF
  have hl : (R.take k).length = k := by rw [List.length_take]; omega
  rw [List.append_assoc, List.set_append, if_neg (by omega), hl, Nat.sub_self, List.append_assoc]
  rfl
theorem IsRFiles.new_at {w : World} {g : Nat} {s : ByteArray} (h : w.heap[g]? = some (.cells #[.string s, .slice none 0 0, .slice none 0 0] 86 (0, 0))) : IsRFiles w (some ⟨g, 0, none⟩) 1 1 [(s, [], [])] :=
  IsRFiles.one (t := (.string s, .slice none 0 0, .slice none 0 0)) h (by intro u hu; simp [flat3] at hu; rcases hu with rfl | rfl <;> exact ⟨rfl, rfl⟩) ⟨rfl, ⟨none, 0, 0, rfl, ⟨rfl, Nat.le_refl _, by unfold maxLen; omega, fun h => absurd rfl h, by simp⟩, ZS.nil⟩, ⟨none, 0, 0, rfl, IsRActs.nil w⟩⟩
theorem RefAt.rows2 {w : World} {r base : Nat} {R : List FileV} {N lf : Int} {fz out : Bool} (h : RefAt w r base R N fz lf out) : ∃ a cap, RefRow w r (.slice a R.length cap) N fz lf out ∧ IsRFiles w a R.length cap R ∧ ((a = none ∧ R.length = 0 ∧ cap = 0) ∨ ∃ g, a = some ⟨g, 0, none⟩) ∧ r < w.heap.size ∧ ∀ w', Below w.heap.size w w' → w'.frozen? ⟨r, 0, none⟩ = false := by
  obtain ⟨hbr, v, T, hr, hown, hf⟩ := h
  have hrl := hr.lt
  have hfz : ∀ w', Below w.heap.size w w' → w'.frozen? ⟨r, 0, none⟩ = false := fun w' hb => frozen_of_row _ _ _ _ _ ((hb.block r hrl).trans hr)
  rcases hown.1.2 with ⟨rfl, h0⟩ | ⟨g, cap, cur, rfl, _, hg, _⟩
  · have hT : T = [] := List.eq_nil_of_length_eq_zero h0
    subst hT
    have hR : R = [] := List.eq_nil_of_length_eq_zero hf.1.symm
    subst hR
    exact ⟨none, 0, hr, IsRFiles.nil w, .inl ⟨rfl, rfl, rfl⟩, hrl, hfz⟩
  · obtain ⟨ao, cap', e, h3⟩ := hown.is3
    injection e with e1 e2 e3
    subst e1
    subst e3
    have hl := hf.1
    refine ⟨_, _, hl ▸ hr, hl ▸ ⟨T, h3, hf⟩, .inr ⟨g, rfl⟩, hrl, hfz⟩
/-- what Append tells at a file that is not there. -/
def RNewR (s : ByteArray) (B : List UInt8) (r base : Nat) (R : List FileV) (N : Int) (fz : Bool) (lf : Int) (out : Bool) (w : World) (e : Ending) (w' : World) : Prop :=
  (out = true ∧ e = .returned (.int .i64 10) ∧ w' = w) ∨ (out = false ∧ ((nameP s.data.toList = false ∧ e = .returned (.int .i64 2) ∧ w' = w) ∨ (nameP s.data.toList = true ∧
    ((16 ≤ R.length ∧ e = .returned (.int .i64 8) ∧ w' = w) ∨ (R.length < 16 ∧ ((1048576 < B.length ∧ e = .returned (.int .i64 3) ∧ w' = w) ∨
      (B.length ≤ 1048576 ∧ ∃ k, InsAt s R k ∧ RDone r base R (insF R k (s, [], addB B)) N fz lf w e w')))))))
set_option maxRecDepth 100000 in
set_option maxHeartbeats 8000000 in
theorem rAppend_new (s : ByteArray) (hss : s.size ≤ 1099511627776) (ba : Option Addr) (bn bc : Nat) (B : List UInt8) (r base : Nat) (R : List FileV) (N : Int) (fz : Bool) (lf : Int) (out : Bool) (w : World) (hN0 : 0 ≤ N) (hN1 : N ≤ 1000000) (hl0 : 0 ≤ lf) (hl1 : lf ≤ 9223372036854775807) (hzw : ZW w) (h : RefAt w r base R N fz lf out)
    (hB : IsBytes w ba bn bc B) (hBK : ∀ w1 w2, Below w.heap.size w w1 → MovedR r base w1 w2 → IsBytes w2 ba bn bc B) (hBn : bn ≤ 17592186044416) (hno : ∀ j, j < R.length → (R.getD j f0).1 ≠ s) :
    Calls Tryz.prog 21 #[.pointer (some ⟨r, 0, none⟩), .string s, .slice ba bn bc] w fun e w' => RNewR s B r base R N fz lf out w e w' := by
  have HZW0 := Lib.hid hzw
  clear hzw
  have HAt := Lib.hid (At_any s r base R N fz lf out w h)
  obtain ⟨a, cap, hrow, hfl, _, hrl, hfz⟩ := h.rows
  have r4 := hrow.cells.2.2.2.2
  obtain ⟨n, hn⟩ : ∃ n, n = R.length := ⟨_, rfl⟩
  rw [← hn] at hrow hfl
  have r0 := hrow.cells.1
  have HNN := Lib.hid hn
  have HNO := Lib.hid hno
  have HNA := Lib.hid (rname_any s w hss)
  have H := Lib.hid h
  have HBL : Hid (B.length = bn) := Lib.hid hB.1
  have HBK := Lib.hid hBK
  clear h hrow hB hBK hno hss hfl hfz hn
  go_enter Tryz.func21, Tryz.ntmps21
  go_wp2_with fail
  refine HAt.out.mono ?_
  rintro e w' ⟨z0, rfl, hz, rfl⟩
  obtain rfl := hz.none HNO.out
  clear hz
  cases out with
  | true =>
    go_wp2_with fail
    go_ret
    exact .inl ⟨rfl, rfl, rfl⟩
  | false =>
    obtain ⟨nb, hnb⟩ : ∃ nb, nb = nameP s.data.toList := ⟨_, rfl⟩
    rw [← hnb] at HNA
    have HNB := Lib.hid hnb
    clear hnb
    go_wp2_with fail
    refine HNA.out.mono ?_
    rintro e w' ⟨rfl, rfl⟩
    cases nb with
    | false =>
      go_wp2_with fail
      go_ret
      exact .inr ⟨rfl, .inl ⟨HNB.out.symm, rfl, rfl⟩⟩
    | true =>
      by_cases h16 : (16 : Int) ≤ (n : Int)
      · go_wp2_with fail
        go_ret
        exact .inr ⟨rfl, .inr ⟨HNB.out.symm, .inl ⟨by have := HNN.out; omega, rfl, rfl⟩⟩⟩
      · by_cases hbl : (1048576 : Int) < (bn : Int)
        · go_wp2_with fail
          go_ret
          exact .inr ⟨rfl, .inr ⟨HNB.out.symm, .inr ⟨by have := HNN.out; omega, .inl ⟨by have := HBL.out; omega, rfl, rfl⟩⟩⟩⟩
        · go_wp2_with fail
          refine (rstep_any r base R N fz lf false w hN0 hN1 hl0 hl1 H.out).mono ?_
          rintro e W ⟨hmv, ⟨hq, rfl, hout⟩ | ⟨hq, rfl, hW⟩⟩
          · have HQ := Lib.hid (And.intro hmv (And.intro hq hout))
            clear hmv hq hout
            have hins : ∃ k, InsAt s R k := insAt_ex s R
            have HI := Lib.hid hins
            clear hins
            go_wp2_with fail
            go_ret
            obtain ⟨k, hk⟩ := HI.out
            exact .inr ⟨rfl, .inr ⟨HNB.out.symm, .inr ⟨by have := HNN.out; omega, .inr ⟨by have := HBL.out; omega, k, hk, HQ.out.1, .inl ⟨HQ.out.2.1, rfl, HQ.out.2.2⟩⟩⟩⟩⟩
          · have HQ := Lib.hid (And.intro hmv hq)
            have HZW : Hid (ZW W) := Lib.hid (HZW0.out.mono hmv.below.size)
            obtain ⟨a2, cap2, hr2, hf2, hg2, hrl2, hfz2⟩ := hW.rows2
            rw [← HNN.out] at hr2 hf2 hg2
            have r2 := hr2.cells.1
            have hcap := hf2.len.2.1
            have hcm := hf2.len.2.2
            unfold maxLen at hcm
            have HF2 := Lib.hid hf2
            have HW := Lib.hid hW
            have HG2 := Lib.hid hg2
            have HFZ := Lib.hid hfz2
            have HRL := Lib.hid hrl2
            clear hr2 hf2 hW hmv hq r0 r4 hg2 hfz2 hrl2
            go_upto_if 63 with fail
            go_cut [7] (fun s7 wc => ∃ k : Nat, s7 = .int .i64 (k : Int) ∧ k ≤ n ∧ Hid (InsAt s R k) ∧ Hid (RefAt wc r base (insF R k (s, [], [])) (N + 1) fz (if fz = true then lf - 1 else lf) false) ∧ Hid (MovedR r base W wc))
            case first =>
              go_upto_block 1 with fail
              go_cut [7] (fun s7 wc => ∃ k : Nat, s7 = .int .i64 (k : Int) ∧ k ≤ n ∧ Hid (InsAt s R k) ∧ W = wc)
              case first =>
                go_wp2_with fail
                go_loopw [7] (fun i wr => ∃ k : Nat, k ≤ n ∧ i = .int .i64 (k : Int) ∧ Hid (∀ j, j < k → Op.bytesLess (R.getD j f0).1.toList s.toList = true) ∧ W = wr) (fun i _ => n - (intOf i).toNat)
                case atStart => exact ⟨0, by omega, rfl, Lib.hid (fun j hj => absurd hj (by omega)), rfl⟩
                case round =>
                  obtain ⟨k, hk, rfl, hall, rfl⟩ := hrel
                  by_cases hlt : k < n
                  · have hk0 : (0 : Int) ≤ (k : Int) := by omega
                    have hk1 : (k : Int) < (n : Int) := by omega
                    obtain ⟨T, t1, t2⟩ := HF2.out
                    obtain ⟨b, off, rfl, c0, _, _⟩ := t1.cells hlt
                    have hfk := t2.2 k (by have := HNN.out; omega)
                    rw [hfk.1] at c0
                    obtain ⟨y, hy⟩ : ∃ y, y = (R.getD k f0).1 := ⟨_, rfl⟩
                    rw [← hy] at c0
                    have HY := Lib.hid hy
                    clear t1 t2 hfk hy
                    by_cases hbl : Op.bytesLess y.toList s.toList = true
                    · go_wp2_with fail
                      go_roundw
                      case rel =>
                        refine ⟨k + 1, by omega, by go_num, Lib.hid (fun j hj => ?_), trivial⟩
                        rcases Nat.lt_succ_iff_lt_or_eq.1 hj with hj | rfl
                        · exact hall.out j hj
                        · rw [← HY.out]; exact hbl
                      case measure => simp [intOf]; omega
                    · replace hbl : Op.bytesLess y.toList s.toList = false := by simpa using hbl
                      have HI : Hid (InsAt s R k) := Lib.hid ⟨by have := HNN.out; omega, hall.out, fun _ => by rw [← HY.out]; exact hbl⟩
                      go_wp2_with fail
                      go_meet
                      exact ⟨k, rfl, hk, HI, rfl⟩
                  · obtain rfl : k = n := by omega
                    have HI : Hid (InsAt s R k) := Lib.hid ⟨by have := HNN.out; omega, hall.out, fun h => absurd h (by have := HNN.out; omega)⟩
                    have hk1 : ¬ (k : Int) < (k : Int) := by omega
                    go_wp2_with fail
                    go_meet
                    exact ⟨k, rfl, hk, HI, rfl⟩
              case rest =>
                obtain ⟨k, rfl, hkn, hins, rfl⟩ := hcut
                have HRL0 : Hid (R.length ≤ 1000000) := Lib.hid (by have := HNN.out; omega)
                rcases HG2.out with ⟨rfl, rfl, rfl⟩ | ⟨g, rfl⟩
                · obtain rfl : k = 0 := by omega
                  have HX : Hid (True ∧ R.length ≤ 1000000 ∧ r < W.heap.size) := Lib.hid ⟨trivial, HRL0.out, HRL.out⟩
                  have HINS : Hid (∀ (X : World) (v : Value), Below W.heap.size W X → OwnF X W.heap.size v (([] ++ [(s, [], [])] ++ [] : List FileV)) → Hid (InsAt s R 0) ∧ Hid (RefAt (X.setCell ⟨r, 0, none⟩ v) r base (insF R 0 (s, [], [])) (N + 1) fz (if fz = true then lf - 1 else lf) false) ∧ Hid (MovedR r base W (X.setCell ⟨r, 0, none⟩ v))) := Lib.hid (fun X v hb ho => by
                    have hR0 : R = [] := List.eq_nil_of_length_eq_zero HNN.out.symm
                    refine ⟨hins, Lib.hid ?_, Lib.hid (HW.out.list hb ho).2⟩
                    have h1 := (HW.out.list hb ho).1
                    rw [hR0]
                    exact h1)
                  clear hins
                  go_upto_region 16 with fail
                  refine wp_region_D 22 (S := fun w' => w'.cell? ⟨r, 0, none⟩ = some (.slice none 0 0)) (by kernel_rfl) ?hS0 (fun hHeld => ?_)
                  case hS0 => (exact ((Below.refl W.heap.size W).drew.cell (p := ⟨r, 0, none⟩) HX.out.2.2).trans r2)
                  refine anyD_take (i := 0) (v := ?v1) rfl (by kernel_rfl) (by kernel_rfl) (by kernel_rfl) (by kernel_rfl) (fun _ _ _ h => h) (Or.inl ⟨?hw1, ?hy1⟩) (by assumption) ?_
                  case hw1 => rfl
                  case hy1 => (intro w hSw; (try dsimp only at hSw); go_simp; (first | done | with_reducible rfl))
                  try simp only [Act.put, List.setIfInBounds_toArray, List.set_cons_zero, List.set_cons_succ]
                  refine anyD_take (i := 2) (v := ?v2) rfl (by kernel_rfl) (by kernel_rfl) (by kernel_rfl) (by kernel_rfl) (fun _ _ _ h => h) (Or.inl ⟨?hw2, ?hy2⟩) (by assumption) ?_
                  case hw2 => rfl
                  case hy2 => (intro w hSw; (try dsimp only at hSw); go_simp; (first | done | with_reducible rfl))
                  try simp only [Act.put, List.setIfInBounds_toArray, List.set_cons_zero, List.set_cons_succ]
                  refine anyD_take (i := 3) (v := ?v3) rfl (by kernel_rfl) (by kernel_rfl) (by kernel_rfl) (by kernel_rfl) (fun _ _ _ h => h) (Or.inl ⟨?hw3, ?hy3⟩) (by assumption) ?_
                  case hw3 => rfl
                  case hy3 => (intro w hSw; (try dsimp only at hSw); go_simp; (first | done | with_reducible rfl))
                  try simp only [Act.put, List.setIfInBounds_toArray, List.set_cons_zero, List.set_cons_succ]
                  refine anyD_take (i := 4) (v := ?v4) rfl (by kernel_rfl) (by kernel_rfl) (by kernel_rfl) (by kernel_rfl) (fun _ _ _ h => h) (Or.inl ⟨?hw4, ?hy4⟩) (by assumption) ?_
                  case hw4 => rfl
                  case hy4 => (intro w hSw; (try dsimp only at hSw); go_simp; (first | done | with_reducible rfl))
                  try simp only [Act.put, List.setIfInBounds_toArray, List.set_cons_zero, List.set_cons_succ]
                  refine anyD_take (i := 5) (v := ?v5) rfl (by kernel_rfl) (by kernel_rfl) (by kernel_rfl) (by kernel_rfl) (fun _ _ _ h => h) (Or.inl ⟨?hw5, ?hy5⟩) (by assumption) ?_
                  case hw5 => rfl
                  case hy5 => (intro w hSw; (try dsimp only at hSw); go_simp; (first | done | with_reducible rfl))
                  try simp only [Act.put, List.setIfInBounds_toArray, List.set_cons_zero, List.set_cons_succ]
                  refine anyD_take (i := 6) (v := ?v6) rfl (by kernel_rfl) (by kernel_rfl) (by kernel_rfl) (by kernel_rfl) (fun _ _ _ h => h) (Or.inl ⟨?hw6, ?hy6⟩) (by assumption) ?_
                  case hw6 => rfl
                  case hy6 => (intro w hSw; (try dsimp only at hSw); go_simp; (first | done | with_reducible rfl))
                  try simp only [Act.put, List.setIfInBounds_toArray, List.set_cons_zero, List.set_cons_succ]
                  refine anyD_take (i := 7) (v := ?v7) rfl (by kernel_rfl) (by kernel_rfl) (by kernel_rfl) (by kernel_rfl) (fun _ _ _ h => h) (Or.inl ⟨?hw7, ?hy7⟩) (by assumption) ?_
                  case hw7 => rfl
                  case hy7 => (intro w hSw; (try dsimp only at hSw); go_simp; (first | done | with_reducible rfl))
                  try simp only [Act.put, List.setIfInBounds_toArray, List.set_cons_zero, List.set_cons_succ]
                  refine anyD_take (i := 9) (v := ?v8) rfl (by kernel_rfl) (by kernel_rfl) (by kernel_rfl) (by kernel_rfl) (fun _ _ _ h => h) (Or.inl ⟨?hw8, ?hy8⟩) (by assumption) ?_
                  case hw8 => rfl
                  case hy8 => (intro w hSw; (try dsimp only at hSw); go_simp; (first | done | with_reducible rfl))
                  try simp only [Act.put, List.setIfInBounds_toArray, List.set_cons_zero, List.set_cons_succ]
                  refine anyD_take (i := 10) (v := ?v9) rfl (by kernel_rfl) (by kernel_rfl) (by kernel_rfl) (by kernel_rfl) (fun _ _ _ h => h) (Or.inl ⟨?hw9, ?hy9⟩) (by assumption) ?_
                  case hw9 => rfl
                  case hy9 => (intro w hSw; (try dsimp only at hSw); go_simp; (first | done | with_reducible rfl))
                  try simp only [Act.put, List.setIfInBounds_toArray, List.set_cons_zero, List.set_cons_succ]
                  refine anyD_take (i := 13) (v := ?v10) rfl (by kernel_rfl) (by kernel_rfl) (by kernel_rfl) (by kernel_rfl) (fun _ _ _ h => h) (Or.inl ⟨?hw10, ?hy10⟩) (by assumption) ?_
                  case hw10 => rfl
                  case hy10 => (intro w hSw; (try dsimp only at hSw); go_simp; (first | done | with_reducible rfl))
                  try simp only [Act.put, List.setIfInBounds_toArray, List.set_cons_zero, List.set_cons_succ]
                  refine anyD_take (i := 14) (v := ?v11) rfl (by kernel_rfl) (by kernel_rfl) (by kernel_rfl) (by kernel_rfl) (fun _ _ _ h => h) (Or.inl ⟨?hw11, ?hy11⟩) (by assumption) ?_
                  case hw11 => rfl
                  case hy11 => (intro w hSw; (try dsimp only at hSw); go_simp; (first | done | with_reducible rfl))
                  try simp only [Act.put, List.setIfInBounds_toArray, List.set_cons_zero, List.set_cons_succ]
                  refine anyD_take (i := 15) (v := ?v12) rfl (by kernel_rfl) (by kernel_rfl) (by kernel_rfl) (by kernel_rfl) (fun _ _ _ h => h) (Or.inl ⟨?hw12, ?hy12⟩) (by assumption) ?_
                  case hw12 => rfl
                  case hy12 => (intro w hSw; (try dsimp only at hSw); go_simp; (first | done | with_reducible rfl))
                  try simp only [Act.put, List.setIfInBounds_toArray, List.set_cons_zero, List.set_cons_succ]
                  refine anyD_take (i := 16) (v := ?v13) rfl (by kernel_rfl) (by kernel_rfl) (by kernel_rfl) (by kernel_rfl) (fun _ _ _ h => h) (Or.inl ⟨?hw13, ?hy13⟩) (by assumption) ?_
                  case hw13 => rfl
                  case hy13 => (intro w hSw; (try dsimp only at hSw); go_simp; (first | done | with_reducible rfl))
                  try simp only [Act.put, List.setIfInBounds_toArray, List.set_cons_zero, List.set_cons_succ]
                  refine anyD_take (i := 17) (v := ?v14) rfl (by kernel_rfl) (by kernel_rfl) (by kernel_rfl) (by kernel_rfl) (fun _ _ _ h => h) (Or.inl ⟨?hw14, ?hy14⟩) (by assumption) ?_
                  case hw14 => rfl
                  case hy14 => (intro w hSw; (try dsimp only at hSw); go_simp; (first | done | with_reducible rfl))
                  try simp only [Act.put, List.setIfInBounds_toArray, List.set_cons_zero, List.set_cons_succ]
                  refine anyD_take (i := 18) (v := ?v15) rfl (by kernel_rfl) (by kernel_rfl) (by kernel_rfl) (by kernel_rfl) (fun _ _ _ h => h) (Or.inl ⟨?hw15, ?hy15⟩) (by assumption) ?_
                  case hw15 => rfl
                  case hy15 => (intro w hSw; (try dsimp only at hSw); go_simp; (first | done | with_reducible rfl))
                  try simp only [Act.put, List.setIfInBounds_toArray, List.set_cons_zero, List.set_cons_succ]
                  refine anyD_ready (rs := [1, 11]) (by kernel_rfl) (by simp) ?_
                  refine AllD.cons (o := _) rfl (fun K hK => ?step16) ?_
                  case step16 =>
                    go_simp
                    have hb1 : Below W.heap.size W (W.alloc (.cells #[] 86)).drew := ((Below.refl W.heap.size W).alloc (Nat.le_refl _) (.cells #[] 86)).drew
                    have o1 : OwnF (W.alloc (.cells #[] 86)).drew W.heap.size (.slice (some ⟨W.heap.size, 0, none⟩) 0 0) [] := (OwnF.none_new W _ (Nat.le_refl _)).later (Below.refl _ _).drew
                    generalize (W.alloc (.cells #[] 86)).drew = X1 at hb1 o1 ⊢
                    refine hK.out _ _ ?hS16 (fun hHeld => ?_)
                    case hS16 => (intro _; (exact (hb1.cell (p := ⟨r, 0, none⟩) HX.out.2.2).trans r2))
                    replace hHeld := hHeld (by decide)
                    clear hK K
                    try simp only [Act.put, List.setIfInBounds_toArray, List.set_cons_zero, List.set_cons_succ]
                    refine anyD_ready (rs := [8, 11]) (by kernel_rfl) (by simp) ?_
                    refine AllD.cons (o := _) rfl (fun K hK => ?step17) ?_
                    case step17 =>
                      rw [if_pos (by rfl)]
                      refine opwp_append_files _ _ rfl W.heap.size (.slice (some ⟨W.heap.size, 0, none⟩) 0 0) [] rfl o1 none 0 0 [] rfl (IsRFiles.nil _) (by have := HX.out.2.1; simp <;> omega) (hb1).size ?_
                      intro v8 X8 o8 g8
                      have hb8 := Below.grownF (hb1) o1 (hb1).size g8
                      rw [List.nil_append] at o8
                      clear g8
                      refine hK.out _ _ ?hS17 (fun hHeld => ?_)
                      case hS17 => (intro _; (exact (hb8.cell (p := ⟨r, 0, none⟩) HX.out.2.2).trans r2))
                      replace hHeld := hHeld (by decide)
                      clear hK K
                      try simp only [Act.put, List.setIfInBounds_toArray, List.set_cons_zero, List.set_cons_succ]
                      refine anyD_ready (rs := [11]) (by kernel_rfl) (by simp) ?_
                      refine AllD.cons (o := _) rfl (fun K hK => ?step18) ?_
                      case step18 =>
                        go_simp
                        have hb11 : Below W.heap.size W (X8.alloc (.cells #[.string s, .slice none 0 0, .slice none 0 0] 86)) := (hb8).alloc (hb8).size (.cells #[.string s, .slice none 0 0, .slice none 0 0] 86)
                        have i11 : (X8.alloc (.cells #[.string s, .slice none 0 0, .slice none 0 0] 86)).heap[X8.heap.size]? = some (.cells #[.string s, .slice none 0 0, .slice none 0 0] 86 (0, 0)) := heap_alloc_new X8 _
                        have p11 := o8.later ((Below.refl _ X8).alloc (Nat.le_refl _) (.cells #[.string s, .slice none 0 0, .slice none 0 0] 86))
                        generalize (X8.alloc (.cells #[.string s, .slice none 0 0, .slice none 0 0] 86)) = X11 at hb11 i11 p11 ⊢
                        refine hK.out _ _ ?hS18 (fun hHeld => ?_)
                        case hS18 => (intro _; (exact (hb11.cell (p := ⟨r, 0, none⟩) HX.out.2.2).trans r2))
                        replace hHeld := hHeld (by decide)
                        clear hK K
                        try simp only [Act.put, List.setIfInBounds_toArray, List.set_cons_zero, List.set_cons_succ]
                        refine anyD_ready (rs := [12]) (by kernel_rfl) (by simp) ?_
                        refine AllD.cons (o := _) rfl (fun K hK => ?step19) ?_
                        case step19 =>
                          rw [if_pos (by rfl)]
                          refine opwp_append_files _ _ rfl W.heap.size v8 ([] : List FileV) rfl p11 (some ⟨X8.heap.size, 0, none⟩) 1 1 [(s, [], [])] rfl (IsRFiles.new_at i11) (by have := HX.out.2.1; simp <;> omega) (hb11).size ?_
                          intro v12 X12 o12 g12
                          have hb12 := Below.grownF (hb11) p11 (hb11).size g12
                          clear g12
                          refine hK.out _ _ ?hS19 (fun hHeld => ?_)
                          case hS19 => (intro _; (exact (hb12.cell (p := ⟨r, 0, none⟩) HX.out.2.2).trans r2))
                          replace hHeld := hHeld (by decide)
                          clear hK K
                          try simp only [Act.put, List.setIfInBounds_toArray, List.set_cons_zero, List.set_cons_succ]
                          refine anyD_ready (rs := [19]) (by kernel_rfl) (by simp) ?_
                          refine AllD.cons (o := _) rfl (fun K hK => ?step20) ?_
                          case step20 =>
                            rw [if_pos (by rfl)]
                            refine opwp_append_files _ _ rfl W.heap.size v12 ([] ++ [(s, [], [])] : List FileV) rfl o12 none 0 0 [] rfl (IsRFiles.nil _) (by have := HX.out.2.1; simp <;> omega) hb12.size ?_
                            intro v19 X19 o19 g19
                            have hb19 := Below.grownF hb12 o12 hb12.size g19
                            have HO19 := Lib.hid o19
                            obtain ⟨a19, c19, hv19, _⟩ := o19.files
                            obtain ⟨m19, hm19⟩ : ∃ m19, m19 = (([] ++ [(s, [], [])] : List FileV) ++ []).length := ⟨_, rfl⟩
                            rw [← hm19] at hv19
                            subst hv19
                            have q19 : X19.cell? ⟨r, 0, none⟩ = some (.slice none 0 0) := (hb19.cell (p := ⟨r, 0, none⟩) HX.out.2.2).trans r2
                            have f19 : X19.frozen? ⟨r, 0, none⟩ = false := HFZ.out X19 hb19
                            clear g19 o19 hm19
                            refine hK.out _ _ ?hS20 (fun hHeld => ?_)
                            case hS20 => (intro _; (exact (hb19.cell (p := ⟨r, 0, none⟩) HX.out.2.2).trans r2))
                            replace hHeld := hHeld (by decide)
                            clear hK K
                            try simp only [Act.put, List.setIfInBounds_toArray, List.set_cons_zero, List.set_cons_succ]
                            refine anyD_ready (rs := [20]) (by kernel_rfl) (by simp) ?_
                            refine AllD.cons (o := _) rfl (fun K hK => ?step21) ?_
                            case step21 =>
                              go_simp
                              refine hK.out _ _ ?hS21 (fun hHeld => ?_)
                              case hS21 => (intro _; (exact (hb19.cell (p := ⟨r, 0, none⟩) HX.out.2.2).trans r2))
                              replace hHeld := hHeld (by decide)
                              clear hK K
                              try simp only [Act.put, List.setIfInBounds_toArray, List.set_cons_zero, List.set_cons_succ]
                              refine anyD_take (i := 21) (v := ?v22) rfl (by kernel_rfl) (by kernel_rfl) (by kernel_rfl) (by kernel_rfl) (fun _ _ _ h => h) (Or.inl ⟨?hw22, ?hy22⟩) (by assumption) ?_
                              case hw22 => rfl
                              case hy22 => (intro w hSw; (try dsimp only at hSw); go_simp; (first | done | with_reducible rfl))
                              try simp only [Act.put, List.setIfInBounds_toArray, List.set_cons_zero, List.set_cons_succ]
                              refine anyD_ready (rs := [22]) (by kernel_rfl) (by simp) ?_
                              refine AllD.cons (o := _) rfl (fun K hK => ?step23) ?_
                              case step23 =>
                                go_simp
                                refine hK.out _ _ ?hS23 (fun hHeld => ?_)
                                case hS23 => exact fun h => absurd rfl h
                                clear hK K
                                try simp only [Act.put, List.setIfInBounds_toArray, List.set_cons_zero, List.set_cons_succ]
                                refine anyD_done (by kernel_rfl) ?_ _
                                have HE := Lib.hid (HINS.out _ _ hb19 HO19.out)
                                go_wp2_with fail
                                all_goals
                                  go_meet
                                  exact ⟨0, rfl, Nat.le_refl _, HE.out.1, HE.out.2.1, HE.out.2.2⟩
                              exact AllD.nil
                            exact AllD.nil
                          exact AllD.nil
                        exact AllD.nil
                      exact AllD.nil
                    refine AllD.cons (o := _) rfl (fun K hK => ?step24) ?_
                    case step24 =>
                      go_simp
                      have hb11 : Below W.heap.size W (X1.alloc (.cells #[.string s, .slice none 0 0, .slice none 0 0] 86)) := (hb1).alloc (hb1).size (.cells #[.string s, .slice none 0 0, .slice none 0 0] 86)
                      have i11 : (X1.alloc (.cells #[.string s, .slice none 0 0, .slice none 0 0] 86)).heap[X1.heap.size]? = some (.cells #[.string s, .slice none 0 0, .slice none 0 0] 86 (0, 0)) := heap_alloc_new X1 _
                      have p11 := o1.later ((Below.refl _ X1).alloc (Nat.le_refl _) (.cells #[.string s, .slice none 0 0, .slice none 0 0] 86))
                      generalize (X1.alloc (.cells #[.string s, .slice none 0 0, .slice none 0 0] 86)) = X11 at hb11 i11 p11 ⊢
                      refine hK.out _ _ ?hS24 (fun hHeld => ?_)
                      case hS24 => (intro _; (exact (hb11.cell (p := ⟨r, 0, none⟩) HX.out.2.2).trans r2))
                      replace hHeld := hHeld (by decide)
                      clear hK K
                      try simp only [Act.put, List.setIfInBounds_toArray, List.set_cons_zero, List.set_cons_succ]
                      refine anyD_ready (rs := [8]) (by kernel_rfl) (by simp) ?_
                      refine AllD.cons (o := _) rfl (fun K hK => ?step25) ?_
                      case step25 =>
                        have NE := Lib.hid (show W.heap.size < X1.heap.size from (o1.lt rfl).2)
                        rw [if_pos (by rfl)]
                        refine opwp_append_files _ _ rfl W.heap.size (.slice (some ⟨W.heap.size, 0, none⟩) 0 0) [] rfl p11 none 0 0 [] rfl (IsRFiles.nil _) (by have := HX.out.2.1; simp <;> omega) (hb11).size ?_
                        intro v8 X8 o8 g8
                        have hb8 := Below.grownF (hb11) p11 (hb11).size g8
                        rw [List.nil_append] at o8
                        have ne8 : some X1.heap.size ≠ (Value.slice (some ⟨W.heap.size, 0, none⟩) 0 0).ownBlock := by
                          have h1 := heap_lt i11
                          have h2 := NE.out
                          intro e
                          simp only [Value.ownBlock, Option.some.injEq] at e
                          omega
                        have k11 := (g8.block X1.heap.size (heap_lt i11) ne8).trans i11
                        clear g8
                        refine hK.out _ _ ?hS25 (fun hHeld => ?_)
                        case hS25 => (intro _; (exact (hb8.cell (p := ⟨r, 0, none⟩) HX.out.2.2).trans r2))
                        replace hHeld := hHeld (by decide)
                        clear hK K
                        try simp only [Act.put, List.setIfInBounds_toArray, List.set_cons_zero, List.set_cons_succ]
                        refine anyD_ready (rs := [12]) (by kernel_rfl) (by simp) ?_
                        refine AllD.cons (o := _) rfl (fun K hK => ?step26) ?_
                        case step26 =>
                          rw [if_pos (by rfl)]
                          refine opwp_append_files _ _ rfl W.heap.size v8 ([] : List FileV) rfl o8 (some ⟨X1.heap.size, 0, none⟩) 1 1 [(s, [], [])] rfl (IsRFiles.new_at k11) (by have := HX.out.2.1; simp <;> omega) (hb8).size ?_
                          intro v12 X12 o12 g12
                          have hb12 := Below.grownF (hb8) o8 (hb8).size g12
                          clear g12
                          refine hK.out _ _ ?hS26 (fun hHeld => ?_)
                          case hS26 => (intro _; (exact (hb12.cell (p := ⟨r, 0, none⟩) HX.out.2.2).trans r2))
                          replace hHeld := hHeld (by decide)
                          clear hK K
                          try simp only [Act.put, List.setIfInBounds_toArray, List.set_cons_zero, List.set_cons_succ]
                          refine anyD_ready (rs := [19]) (by kernel_rfl) (by simp) ?_
                          refine AllD.cons (o := _) rfl (fun K hK => ?step27) ?_
                          case step27 =>
                            rw [if_pos (by rfl)]
                            refine opwp_append_files _ _ rfl W.heap.size v12 ([] ++ [(s, [], [])] : List FileV) rfl o12 none 0 0 [] rfl (IsRFiles.nil _) (by have := HX.out.2.1; simp <;> omega) hb12.size ?_
                            intro v19 X19 o19 g19
                            have hb19 := Below.grownF hb12 o12 hb12.size g19
                            have HO19 := Lib.hid o19
                            obtain ⟨a19, c19, hv19, _⟩ := o19.files
                            obtain ⟨m19, hm19⟩ : ∃ m19, m19 = (([] ++ [(s, [], [])] : List FileV) ++ []).length := ⟨_, rfl⟩
                            rw [← hm19] at hv19
                            subst hv19
                            have q19 : X19.cell? ⟨r, 0, none⟩ = some (.slice none 0 0) := (hb19.cell (p := ⟨r, 0, none⟩) HX.out.2.2).trans r2
                            have f19 : X19.frozen? ⟨r, 0, none⟩ = false := HFZ.out X19 hb19
                            clear g19 o19 hm19
                            refine hK.out _ _ ?hS27 (fun hHeld => ?_)
                            case hS27 => (intro _; (exact (hb19.cell (p := ⟨r, 0, none⟩) HX.out.2.2).trans r2))
                            replace hHeld := hHeld (by decide)
                            clear hK K
                            try simp only [Act.put, List.setIfInBounds_toArray, List.set_cons_zero, List.set_cons_succ]
                            refine anyD_ready (rs := [20]) (by kernel_rfl) (by simp) ?_
                            refine AllD.cons (o := _) rfl (fun K hK => ?step28) ?_
                            case step28 =>
                              go_simp
                              refine hK.out _ _ ?hS28 (fun hHeld => ?_)
                              case hS28 => (intro _; (exact (hb19.cell (p := ⟨r, 0, none⟩) HX.out.2.2).trans r2))
                              replace hHeld := hHeld (by decide)
                              clear hK K
                              try simp only [Act.put, List.setIfInBounds_toArray, List.set_cons_zero, List.set_cons_succ]
                              refine anyD_take (i := 21) (v := ?v29) rfl (by kernel_rfl) (by kernel_rfl) (by kernel_rfl) (by kernel_rfl) (fun _ _ _ h => h) (Or.inl ⟨?hw29, ?hy29⟩) (by assumption) ?_
                              case hw29 => rfl
                              case hy29 => (intro w hSw; (try dsimp only at hSw); go_simp; (first | done | with_reducible rfl))
                              try simp only [Act.put, List.setIfInBounds_toArray, List.set_cons_zero, List.set_cons_succ]
                              refine anyD_ready (rs := [22]) (by kernel_rfl) (by simp) ?_
                              refine AllD.cons (o := _) rfl (fun K hK => ?step30) ?_
                              case step30 =>
                                go_simp
                                refine hK.out _ _ ?hS30 (fun hHeld => ?_)
                                case hS30 => exact fun h => absurd rfl h
                                clear hK K
                                try simp only [Act.put, List.setIfInBounds_toArray, List.set_cons_zero, List.set_cons_succ]
                                refine anyD_done (by kernel_rfl) ?_ _
                                have HE := Lib.hid (HINS.out _ _ hb19 HO19.out)
                                go_wp2_with fail
                                all_goals
                                  go_meet
                                  exact ⟨0, rfl, Nat.le_refl _, HE.out.1, HE.out.2.1, HE.out.2.2⟩
                              exact AllD.nil
                            exact AllD.nil
                          exact AllD.nil
                        exact AllD.nil
                      exact AllD.nil
                    exact AllD.nil
                  refine AllD.cons (o := _) rfl (fun K hK => ?step31) ?_
                  case step31 =>
                    go_simp
                    have hb11 : Below W.heap.size W (W.alloc (.cells #[.string s, .slice none 0 0, .slice none 0 0] 86)).drew := ((Below.refl W.heap.size W).alloc (Nat.le_refl _) (.cells #[.string s, .slice none 0 0, .slice none 0 0] 86)).drew
                    have i11 : (W.alloc (.cells #[.string s, .slice none 0 0, .slice none 0 0] 86)).drew.heap[W.heap.size]? = some (.cells #[.string s, .slice none 0 0, .slice none 0 0] 86 (0, 0)) := heap_alloc_new W _
                    generalize (W.alloc (.cells #[.string s, .slice none 0 0, .slice none 0 0] 86)).drew = X11 at hb11 i11 ⊢
                    refine hK.out _ _ ?hS31 (fun hHeld => ?_)
                    case hS31 => (intro _; (exact (hb11.cell (p := ⟨r, 0, none⟩) HX.out.2.2).trans r2))
                    replace hHeld := hHeld (by decide)
                    clear hK K
                    try simp only [Act.put, List.setIfInBounds_toArray, List.set_cons_zero, List.set_cons_succ]
                    refine anyD_ready (rs := [1]) (by kernel_rfl) (by simp) ?_
                    refine AllD.cons (o := _) rfl (fun K hK => ?step32) ?_
                    case step32 =>
                      go_simp
                      have hb1 : Below W.heap.size W (X11.alloc (.cells #[] 86)) := (hb11).alloc (hb11).size (.cells #[] 86)
                      have o1 : OwnF (X11.alloc (.cells #[] 86)) W.heap.size (.slice (some ⟨X11.heap.size, 0, none⟩) 0 0) [] := (OwnF.none_new X11 _ (hb11).size).later (Below.refl _ _)
                      have j11 : (X11.alloc (.cells #[] 86)).heap[W.heap.size]? = some (.cells #[.string s, .slice none 0 0, .slice none 0 0] 86 (0, 0)) := (heap_alloc_old' X11 _ (heap_lt i11)).trans i11
                      generalize (X11.alloc (.cells #[] 86)) = X1 at hb1 o1 j11 ⊢
                      refine hK.out _ _ ?hS32 (fun hHeld => ?_)
                      case hS32 => (intro _; (exact (hb1.cell (p := ⟨r, 0, none⟩) HX.out.2.2).trans r2))
                      replace hHeld := hHeld (by decide)
                      clear hK K
                      try simp only [Act.put, List.setIfInBounds_toArray, List.set_cons_zero, List.set_cons_succ]
                      refine anyD_ready (rs := [8]) (by kernel_rfl) (by simp) ?_
                      refine AllD.cons (o := _) rfl (fun K hK => ?step33) ?_
                      case step33 =>
                        have NE := Lib.hid (show W.heap.size < X11.heap.size from heap_lt i11)
                        rw [if_pos (by rfl)]
                        refine opwp_append_files _ _ rfl W.heap.size (.slice (some ⟨X11.heap.size, 0, none⟩) 0 0) [] rfl o1 none 0 0 [] rfl (IsRFiles.nil _) (by have := HX.out.2.1; simp <;> omega) (hb1).size ?_
                        intro v8 X8 o8 g8
                        have hb8 := Below.grownF (hb1) o1 (hb1).size g8
                        rw [List.nil_append] at o8
                        have ne8 : some W.heap.size ≠ (Value.slice (some ⟨X11.heap.size, 0, none⟩) 0 0).ownBlock := by
                          have h1 := heap_lt j11
                          have h2 := NE.out
                          intro e
                          simp only [Value.ownBlock, Option.some.injEq] at e
                          omega
                        have k11 := (g8.block W.heap.size (heap_lt j11) ne8).trans j11
                        clear g8
                        refine hK.out _ _ ?hS33 (fun hHeld => ?_)
                        case hS33 => (intro _; (exact (hb8.cell (p := ⟨r, 0, none⟩) HX.out.2.2).trans r2))
                        replace hHeld := hHeld (by decide)
                        clear hK K
                        try simp only [Act.put, List.setIfInBounds_toArray, List.set_cons_zero, List.set_cons_succ]
                        refine anyD_ready (rs := [12]) (by kernel_rfl) (by simp) ?_
                        refine AllD.cons (o := _) rfl (fun K hK => ?step34) ?_
                        case step34 =>
                          rw [if_pos (by rfl)]
                          refine opwp_append_files _ _ rfl W.heap.size v8 ([] : List FileV) rfl o8 (some ⟨W.heap.size, 0, none⟩) 1 1 [(s, [], [])] rfl (IsRFiles.new_at k11) (by have := HX.out.2.1; simp <;> omega) (hb8).size ?_
                          intro v12 X12 o12 g12
                          have hb12 := Below.grownF (hb8) o8 (hb8).size g12
                          clear g12
                          refine hK.out _ _ ?hS34 (fun hHeld => ?_)
                          case hS34 => (intro _; (exact (hb12.cell (p := ⟨r, 0, none⟩) HX.out.2.2).trans r2))
                          replace hHeld := hHeld (by decide)
                          clear hK K
                          try simp only [Act.put, List.setIfInBounds_toArray, List.set_cons_zero, List.set_cons_succ]
                          refine anyD_ready (rs := [19]) (by kernel_rfl) (by simp) ?_
                          refine AllD.cons (o := _) rfl (fun K hK => ?step35) ?_
                          case step35 =>
                            rw [if_pos (by rfl)]
                            refine opwp_append_files _ _ rfl W.heap.size v12 ([] ++ [(s, [], [])] : List FileV) rfl o12 none 0 0 [] rfl (IsRFiles.nil _) (by have := HX.out.2.1; simp <;> omega) hb12.size ?_
                            intro v19 X19 o19 g19
                            have hb19 := Below.grownF hb12 o12 hb12.size g19
                            have HO19 := Lib.hid o19
                            obtain ⟨a19, c19, hv19, _⟩ := o19.files
                            obtain ⟨m19, hm19⟩ : ∃ m19, m19 = (([] ++ [(s, [], [])] : List FileV) ++ []).length := ⟨_, rfl⟩
                            rw [← hm19] at hv19
                            subst hv19
                            have q19 : X19.cell? ⟨r, 0, none⟩ = some (.slice none 0 0) := (hb19.cell (p := ⟨r, 0, none⟩) HX.out.2.2).trans r2
                            have f19 : X19.frozen? ⟨r, 0, none⟩ = false := HFZ.out X19 hb19
                            clear g19 o19 hm19
                            refine hK.out _ _ ?hS35 (fun hHeld => ?_)
                            case hS35 => (intro _; (exact (hb19.cell (p := ⟨r, 0, none⟩) HX.out.2.2).trans r2))
                            replace hHeld := hHeld (by decide)
                            clear hK K
                            try simp only [Act.put, List.setIfInBounds_toArray, List.set_cons_zero, List.set_cons_succ]
                            refine anyD_ready (rs := [20]) (by kernel_rfl) (by simp) ?_
                            refine AllD.cons (o := _) rfl (fun K hK => ?step36) ?_
                            case step36 =>
                              go_simp
                              refine hK.out _ _ ?hS36 (fun hHeld => ?_)
                              case hS36 => (intro _; (exact (hb19.cell (p := ⟨r, 0, none⟩) HX.out.2.2).trans r2))
                              replace hHeld := hHeld (by decide)
                              clear hK K
                              try simp only [Act.put, List.setIfInBounds_toArray, List.set_cons_zero, List.set_cons_succ]
                              refine anyD_take (i := 21) (v := ?v37) rfl (by kernel_rfl) (by kernel_rfl) (by kernel_rfl) (by kernel_rfl) (fun _ _ _ h => h) (Or.inl ⟨?hw37, ?hy37⟩) (by assumption) ?_
                              case hw37 => rfl
                              case hy37 => (intro w hSw; (try dsimp only at hSw); go_simp; (first | done | with_reducible rfl))
                              try simp only [Act.put, List.setIfInBounds_toArray, List.set_cons_zero, List.set_cons_succ]
                              refine anyD_ready (rs := [22]) (by kernel_rfl) (by simp) ?_
                              refine AllD.cons (o := _) rfl (fun K hK => ?step38) ?_
                              case step38 =>
                                go_simp
                                refine hK.out _ _ ?hS38 (fun hHeld => ?_)
                                case hS38 => exact fun h => absurd rfl h
                                clear hK K
                                try simp only [Act.put, List.setIfInBounds_toArray, List.set_cons_zero, List.set_cons_succ]
                                refine anyD_done (by kernel_rfl) ?_ _
                                have HE := Lib.hid (HINS.out _ _ hb19 HO19.out)
                                go_wp2_with fail
                                all_goals
                                  go_meet
                                  exact ⟨0, rfl, Nat.le_refl _, HE.out.1, HE.out.2.1, HE.out.2.2⟩
                              exact AllD.nil
                            exact AllD.nil
                          exact AllD.nil
                        exact AllD.nil
                      exact AllD.nil
                    exact AllD.nil
                  exact AllD.nil
                · have hk0 : (0 : Int) ≤ (k : Int) := by omega
                  have hk1 : (k : Int) ≤ (cap2 : Int) := by omega
                  have hk2 : (k : Int) ≤ (n : Int) := by omega
                  have HX : Hid ((IsRFiles W (some ⟨g, 0, none⟩) k cap2 (R.take k) ∧ IsRFiles W (if cap2 = k then some ⟨g, 0, none⟩ else some ⟨g, k * 3, none⟩) (n - k) (cap2 - k) (R.drop k)) ∧ R.length ≤ 1000000 ∧ r < W.heap.size) := Lib.hid ⟨⟨HF2.out.take hkn, HF2.out.dropped hkn⟩, HRL0.out, HRL.out⟩
                  have HINS : Hid (∀ (X : World) (v : Value), Below W.heap.size W X → OwnF X W.heap.size v (R.take k ++ [(s, [], [])] ++ R.drop k) → Hid (InsAt s R k) ∧ Hid (RefAt (X.setCell ⟨r, 0, none⟩ v) r base (insF R k (s, [], [])) (N + 1) fz (if fz = true then lf - 1 else lf) false) ∧ Hid (MovedR r base W (X.setCell ⟨r, 0, none⟩ v))) := Lib.hid (fun X v hb ho => ⟨hins, Lib.hid (HW.out.list hb ho).1, Lib.hid (HW.out.list hb ho).2⟩)
                  clear hins
                  go_upto_region 16 with fail
                  refine wp_region_D 22 (S := fun w' => w'.cell? ⟨r, 0, none⟩ = some (.slice (some ⟨g, 0, none⟩) n cap2)) (by kernel_rfl) ?hS0 (fun hHeld => ?_)
                  case hS0 => (exact ((Below.refl W.heap.size W).drew.cell (p := ⟨r, 0, none⟩) HX.out.2.2).trans r2)
                  refine anyD_take (i := 0) (v := ?v1001) rfl (by kernel_rfl) (by kernel_rfl) (by kernel_rfl) (by kernel_rfl) (fun _ _ _ h => h) (Or.inl ⟨?hw1001, ?hy1001⟩) (by assumption) ?_
                  case hw1001 => rfl
                  case hy1001 => (intro w hSw; (try dsimp only at hSw); go_simp; (first | done | with_reducible rfl))
                  try simp only [Act.put, List.setIfInBounds_toArray, List.set_cons_zero, List.set_cons_succ]
                  refine anyD_take (i := 2) (v := ?v1002) rfl (by kernel_rfl) (by kernel_rfl) (by kernel_rfl) (by kernel_rfl) (fun _ _ _ h => h) (Or.inl ⟨?hw1002, ?hy1002⟩) (by assumption) ?_
                  case hw1002 => rfl
                  case hy1002 => (intro w hSw; (try dsimp only at hSw); go_simp; (first | done | with_reducible rfl))
                  try simp only [Act.put, List.setIfInBounds_toArray, List.set_cons_zero, List.set_cons_succ]
                  refine anyD_take (i := 3) (v := ?v1003) rfl (by kernel_rfl) (by kernel_rfl) (by kernel_rfl) (by kernel_rfl) (fun _ _ _ h => h) (Or.inl ⟨?hw1003, ?hy1003⟩) (by assumption) ?_
                  case hw1003 => rfl
                  case hy1003 => (intro w hSw; (try dsimp only at hSw); go_simp; (first | done | with_reducible rfl))
                  try simp only [Act.put, List.setIfInBounds_toArray, List.set_cons_zero, List.set_cons_succ]
                  refine anyD_take (i := 4) (v := ?v1004) rfl (by kernel_rfl) (by kernel_rfl) (by kernel_rfl) (by kernel_rfl) (fun _ _ _ h => h) (Or.inl ⟨?hw1004, ?hy1004⟩) (by assumption) ?_
                  case hw1004 => rfl
                  case hy1004 => (intro w hSw; (try dsimp only at hSw); go_simp; (first | done | with_reducible rfl))
                  try simp only [Act.put, List.setIfInBounds_toArray, List.set_cons_zero, List.set_cons_succ]
                  refine anyD_take (i := 5) (v := ?v1005) rfl (by kernel_rfl) (by kernel_rfl) (by kernel_rfl) (by kernel_rfl) (fun _ _ _ h => h) (Or.inl ⟨?hw1005, ?hy1005⟩) (by assumption) ?_
                  case hw1005 => rfl
                  case hy1005 => (intro w hSw; (try dsimp only at hSw); go_simp; (first | done | with_reducible rfl))
                  try simp only [Act.put, List.setIfInBounds_toArray, List.set_cons_zero, List.set_cons_succ]
                  refine anyD_take (i := 6) (v := ?v1006) rfl (by kernel_rfl) (by kernel_rfl) (by kernel_rfl) (by kernel_rfl) (fun _ _ _ h => h) (Or.inl ⟨?hw1006, ?hy1006⟩) (by assumption) ?_
                  case hw1006 => rfl
                  case hy1006 => (intro w hSw; (try dsimp only at hSw); go_simp; (first | done | with_reducible rfl))
                  try simp only [Act.put, List.setIfInBounds_toArray, List.set_cons_zero, List.set_cons_succ]
                  refine anyD_take (i := 7) (v := ?v1007) rfl (by kernel_rfl) (by kernel_rfl) (by kernel_rfl) (by kernel_rfl) (fun _ _ _ h => h) (Or.inl ⟨?hw1007, ?hy1007⟩) (by assumption) ?_
                  case hw1007 => rfl
                  case hy1007 => (intro w hSw; (try dsimp only at hSw); go_simp; (first | done | with_reducible rfl))
                  try simp only [Act.put, List.setIfInBounds_toArray, List.set_cons_zero, List.set_cons_succ]
                  refine anyD_take (i := 9) (v := ?v1008) rfl (by kernel_rfl) (by kernel_rfl) (by kernel_rfl) (by kernel_rfl) (fun _ _ _ h => h) (Or.inl ⟨?hw1008, ?hy1008⟩) (by assumption) ?_
                  case hw1008 => rfl
                  case hy1008 => (intro w hSw; (try dsimp only at hSw); go_simp; (first | done | with_reducible rfl))
                  try simp only [Act.put, List.setIfInBounds_toArray, List.set_cons_zero, List.set_cons_succ]
                  refine anyD_take (i := 10) (v := ?v1009) rfl (by kernel_rfl) (by kernel_rfl) (by kernel_rfl) (by kernel_rfl) (fun _ _ _ h => h) (Or.inl ⟨?hw1009, ?hy1009⟩) (by assumption) ?_
                  case hw1009 => rfl
                  case hy1009 => (intro w hSw; (try dsimp only at hSw); go_simp; (first | done | with_reducible rfl))
                  try simp only [Act.put, List.setIfInBounds_toArray, List.set_cons_zero, List.set_cons_succ]
                  refine anyD_take (i := 13) (v := ?v1010) rfl (by kernel_rfl) (by kernel_rfl) (by kernel_rfl) (by kernel_rfl) (fun _ _ _ h => h) (Or.inl ⟨?hw1010, ?hy1010⟩) (by assumption) ?_
                  case hw1010 => rfl
                  case hy1010 => (intro w hSw; (try dsimp only at hSw); go_simp; (first | done | with_reducible rfl))
                  try simp only [Act.put, List.setIfInBounds_toArray, List.set_cons_zero, List.set_cons_succ]
                  refine anyD_take (i := 14) (v := ?v1011) rfl (by kernel_rfl) (by kernel_rfl) (by kernel_rfl) (by kernel_rfl) (fun _ _ _ h => h) (Or.inl ⟨?hw1011, ?hy1011⟩) (by assumption) ?_
                  case hw1011 => rfl
                  case hy1011 => (intro w hSw; (try dsimp only at hSw); go_simp; (first | done | with_reducible rfl))
                  try simp only [Act.put, List.setIfInBounds_toArray, List.set_cons_zero, List.set_cons_succ]
                  refine anyD_take (i := 15) (v := ?v1012) rfl (by kernel_rfl) (by kernel_rfl) (by kernel_rfl) (by kernel_rfl) (fun _ _ _ h => h) (Or.inl ⟨?hw1012, ?hy1012⟩) (by assumption) ?_
                  case hw1012 => rfl
                  case hy1012 => (intro w hSw; (try dsimp only at hSw); go_simp; (first | done | with_reducible rfl))
                  try simp only [Act.put, List.setIfInBounds_toArray, List.set_cons_zero, List.set_cons_succ]
                  refine anyD_take (i := 16) (v := ?v1013) rfl (by kernel_rfl) (by kernel_rfl) (by kernel_rfl) (by kernel_rfl) (fun _ _ _ h => h) (Or.inl ⟨?hw1013, ?hy1013⟩) (by assumption) ?_
                  case hw1013 => rfl
                  case hy1013 => (intro w hSw; (try dsimp only at hSw); go_simp; (first | done | with_reducible rfl))
                  try simp only [Act.put, List.setIfInBounds_toArray, List.set_cons_zero, List.set_cons_succ]
                  refine anyD_take (i := 17) (v := ?v1014) rfl (by kernel_rfl) (by kernel_rfl) (by kernel_rfl) (by kernel_rfl) (fun _ _ _ h => h) (Or.inl ⟨?hw1014, ?hy1014⟩) (by assumption) ?_
                  case hw1014 => rfl
                  case hy1014 => (intro w hSw; (try dsimp only at hSw); go_simp; (first | done | with_reducible rfl))
                  try simp only [Act.put, List.setIfInBounds_toArray, List.set_cons_zero, List.set_cons_succ]
                  refine anyD_take (i := 18) (v := ?v1015) rfl (by kernel_rfl) (by kernel_rfl) (by kernel_rfl) (by kernel_rfl) (fun _ _ _ h => h) (Or.inl ⟨?hw1015, ?hy1015⟩) (by assumption) ?_
                  case hw1015 => rfl
                  case hy1015 => (intro w hSw; (try dsimp only at hSw); go_simp; (first | done | with_reducible rfl))
                  try simp only [Act.put, List.setIfInBounds_toArray, List.set_cons_zero, List.set_cons_succ]
                  refine anyD_ready (rs := [1, 11]) (by kernel_rfl) (by simp) ?_
                  refine AllD.cons (o := _) rfl (fun K hK => ?step1016) ?_
                  case step1016 =>
                    go_simp
                    have hb1 : Below W.heap.size W (W.alloc (.cells #[] 86)).drew := ((Below.refl W.heap.size W).alloc (Nat.le_refl _) (.cells #[] 86)).drew
                    have o1 : OwnF (W.alloc (.cells #[] 86)).drew W.heap.size (.slice (some ⟨W.heap.size, 0, none⟩) 0 0) [] := (OwnF.none_new W _ (Nat.le_refl _)).later (Below.refl _ _).drew
                    generalize (W.alloc (.cells #[] 86)).drew = X1 at hb1 o1 ⊢
                    refine hK.out _ _ ?hS1016 (fun hHeld => ?_)
                    case hS1016 => (intro _; (exact (hb1.cell (p := ⟨r, 0, none⟩) HX.out.2.2).trans r2))
                    replace hHeld := hHeld (by decide)
                    clear hK K
                    try simp only [Act.put, List.setIfInBounds_toArray, List.set_cons_zero, List.set_cons_succ]
                    refine anyD_ready (rs := [8, 11]) (by kernel_rfl) (by simp) ?_
                    refine AllD.cons (o := _) rfl (fun K hK => ?step1017) ?_
                    case step1017 =>
                      rw [if_pos (by rfl)]
                      refine opwp_append_files _ _ rfl W.heap.size (.slice (some ⟨W.heap.size, 0, none⟩) 0 0) [] rfl o1 (some ⟨g, 0, none⟩) k cap2 (R.take k) rfl (HX.out.1.1.later (hb1)) (by have := HX.out.2.1; simp <;> omega) (hb1).size ?_
                      intro v8 X8 o8 g8
                      have hb8 := Below.grownF (hb1) o1 (hb1).size g8
                      rw [List.nil_append] at o8
                      clear g8
                      refine hK.out _ _ ?hS1017 (fun hHeld => ?_)
                      case hS1017 => (intro _; (exact (hb8.cell (p := ⟨r, 0, none⟩) HX.out.2.2).trans r2))
                      replace hHeld := hHeld (by decide)
                      clear hK K
                      try simp only [Act.put, List.setIfInBounds_toArray, List.set_cons_zero, List.set_cons_succ]
                      refine anyD_ready (rs := [11]) (by kernel_rfl) (by simp) ?_
                      refine AllD.cons (o := _) rfl (fun K hK => ?step1018) ?_
                      case step1018 =>
                        go_simp
                        have hb11 : Below W.heap.size W (X8.alloc (.cells #[.string s, .slice none 0 0, .slice none 0 0] 86)) := (hb8).alloc (hb8).size (.cells #[.string s, .slice none 0 0, .slice none 0 0] 86)
                        have i11 : (X8.alloc (.cells #[.string s, .slice none 0 0, .slice none 0 0] 86)).heap[X8.heap.size]? = some (.cells #[.string s, .slice none 0 0, .slice none 0 0] 86 (0, 0)) := heap_alloc_new X8 _
                        have p11 := o8.later ((Below.refl _ X8).alloc (Nat.le_refl _) (.cells #[.string s, .slice none 0 0, .slice none 0 0] 86))
                        generalize (X8.alloc (.cells #[.string s, .slice none 0 0, .slice none 0 0] 86)) = X11 at hb11 i11 p11 ⊢
                        refine hK.out _ _ ?hS1018 (fun hHeld => ?_)
                        case hS1018 => (intro _; (exact (hb11.cell (p := ⟨r, 0, none⟩) HX.out.2.2).trans r2))
                        replace hHeld := hHeld (by decide)
                        clear hK K
                        try simp only [Act.put, List.setIfInBounds_toArray, List.set_cons_zero, List.set_cons_succ]
                        refine anyD_ready (rs := [12]) (by kernel_rfl) (by simp) ?_
                        refine AllD.cons (o := _) rfl (fun K hK => ?step1019) ?_
                        case step1019 =>
                          rw [if_pos (by rfl)]
                          refine opwp_append_files _ _ rfl W.heap.size v8 (R.take k) rfl p11 (some ⟨X8.heap.size, 0, none⟩) 1 1 [(s, [], [])] rfl (IsRFiles.new_at i11) (by have := HX.out.2.1; simp <;> omega) (hb11).size ?_
                          intro v12 X12 o12 g12
                          have hb12 := Below.grownF (hb11) p11 (hb11).size g12
                          clear g12
                          refine hK.out _ _ ?hS1019 (fun hHeld => ?_)
                          case hS1019 => (intro _; (exact (hb12.cell (p := ⟨r, 0, none⟩) HX.out.2.2).trans r2))
                          replace hHeld := hHeld (by decide)
                          clear hK K
                          try simp only [Act.put, List.setIfInBounds_toArray, List.set_cons_zero, List.set_cons_succ]
                          refine anyD_ready (rs := [19]) (by kernel_rfl) (by simp) ?_
                          refine AllD.cons (o := _) rfl (fun K hK => ?step1020) ?_
                          case step1020 =>
                            rw [if_pos (by rfl)]
                            refine opwp_append_files _ _ rfl W.heap.size v12 (R.take k ++ [(s, [], [])]) rfl o12 _ _ _ (R.drop k) rfl (HX.out.1.2.later hb12) (by have := HX.out.2.1; simp <;> omega) hb12.size ?_
                            intro v19 X19 o19 g19
                            have hb19 := Below.grownF hb12 o12 hb12.size g19
                            have HO19 := Lib.hid o19
                            obtain ⟨a19, c19, hv19, _⟩ := o19.files
                            obtain ⟨m19, hm19⟩ : ∃ m19, m19 = ((R.take k ++ [(s, [], [])]) ++ (R.drop k)).length := ⟨_, rfl⟩
                            rw [← hm19] at hv19
                            subst hv19
                            have q19 : X19.cell? ⟨r, 0, none⟩ = some (.slice (some ⟨g, 0, none⟩) n cap2) := (hb19.cell (p := ⟨r, 0, none⟩) HX.out.2.2).trans r2
                            have f19 : X19.frozen? ⟨r, 0, none⟩ = false := HFZ.out X19 hb19
                            clear g19 o19 hm19
                            refine hK.out _ _ ?hS1020 (fun hHeld => ?_)
                            case hS1020 => (intro _; (exact (hb19.cell (p := ⟨r, 0, none⟩) HX.out.2.2).trans r2))
                            replace hHeld := hHeld (by decide)
                            clear hK K
                            try simp only [Act.put, List.setIfInBounds_toArray, List.set_cons_zero, List.set_cons_succ]
                            refine anyD_ready (rs := [20]) (by kernel_rfl) (by simp) ?_
                            refine AllD.cons (o := _) rfl (fun K hK => ?step1021) ?_
                            case step1021 =>
                              go_simp
                              refine hK.out _ _ ?hS1021 (fun hHeld => ?_)
                              case hS1021 => (intro _; (exact (hb19.cell (p := ⟨r, 0, none⟩) HX.out.2.2).trans r2))
                              replace hHeld := hHeld (by decide)
                              clear hK K
                              try simp only [Act.put, List.setIfInBounds_toArray, List.set_cons_zero, List.set_cons_succ]
                              refine anyD_take (i := 21) (v := ?v1022) rfl (by kernel_rfl) (by kernel_rfl) (by kernel_rfl) (by kernel_rfl) (fun _ _ _ h => h) (Or.inl ⟨?hw1022, ?hy1022⟩) (by assumption) ?_
                              case hw1022 => rfl
                              case hy1022 => (intro w hSw; (try dsimp only at hSw); go_simp; (first | done | with_reducible rfl))
                              try simp only [Act.put, List.setIfInBounds_toArray, List.set_cons_zero, List.set_cons_succ]
                              refine anyD_ready (rs := [22]) (by kernel_rfl) (by simp) ?_
                              refine AllD.cons (o := _) rfl (fun K hK => ?step1023) ?_
                              case step1023 =>
                                go_simp
                                refine hK.out _ _ ?hS1023 (fun hHeld => ?_)
                                case hS1023 => exact fun h => absurd rfl h
                                clear hK K
                                try simp only [Act.put, List.setIfInBounds_toArray, List.set_cons_zero, List.set_cons_succ]
                                refine anyD_done (by kernel_rfl) ?_ _
                                have HE := Lib.hid (HINS.out _ _ hb19 HO19.out)
                                go_wp2_with fail
                                all_goals
                                  go_meet
                                  exact ⟨k, rfl, hkn, HE.out.1, HE.out.2.1, HE.out.2.2⟩
                              exact AllD.nil
                            exact AllD.nil
                          exact AllD.nil
                        exact AllD.nil
                      exact AllD.nil
                    refine AllD.cons (o := _) rfl (fun K hK => ?step1024) ?_
                    case step1024 =>
                      go_simp
                      have hb11 : Below W.heap.size W (X1.alloc (.cells #[.string s, .slice none 0 0, .slice none 0 0] 86)) := (hb1).alloc (hb1).size (.cells #[.string s, .slice none 0 0, .slice none 0 0] 86)
                      have i11 : (X1.alloc (.cells #[.string s, .slice none 0 0, .slice none 0 0] 86)).heap[X1.heap.size]? = some (.cells #[.string s, .slice none 0 0, .slice none 0 0] 86 (0, 0)) := heap_alloc_new X1 _
                      have p11 := o1.later ((Below.refl _ X1).alloc (Nat.le_refl _) (.cells #[.string s, .slice none 0 0, .slice none 0 0] 86))
                      generalize (X1.alloc (.cells #[.string s, .slice none 0 0, .slice none 0 0] 86)) = X11 at hb11 i11 p11 ⊢
                      refine hK.out _ _ ?hS1024 (fun hHeld => ?_)
                      case hS1024 => (intro _; (exact (hb11.cell (p := ⟨r, 0, none⟩) HX.out.2.2).trans r2))
                      replace hHeld := hHeld (by decide)
                      clear hK K
                      try simp only [Act.put, List.setIfInBounds_toArray, List.set_cons_zero, List.set_cons_succ]
                      refine anyD_ready (rs := [8]) (by kernel_rfl) (by simp) ?_
                      refine AllD.cons (o := _) rfl (fun K hK => ?step1025) ?_
                      case step1025 =>
                        have NE := Lib.hid (show W.heap.size < X1.heap.size from (o1.lt rfl).2)
                        rw [if_pos (by rfl)]
                        refine opwp_append_files _ _ rfl W.heap.size (.slice (some ⟨W.heap.size, 0, none⟩) 0 0) [] rfl p11 (some ⟨g, 0, none⟩) k cap2 (R.take k) rfl (HX.out.1.1.later (hb11)) (by have := HX.out.2.1; simp <;> omega) (hb11).size ?_
                        intro v8 X8 o8 g8
                        have hb8 := Below.grownF (hb11) p11 (hb11).size g8
                        rw [List.nil_append] at o8
                        have ne8 : some X1.heap.size ≠ (Value.slice (some ⟨W.heap.size, 0, none⟩) 0 0).ownBlock := by
                          have h1 := heap_lt i11
                          have h2 := NE.out
                          intro e
                          simp only [Value.ownBlock, Option.some.injEq] at e
                          omega
                        have k11 := (g8.block X1.heap.size (heap_lt i11) ne8).trans i11
                        clear g8
                        refine hK.out _ _ ?hS1025 (fun hHeld => ?_)
                        case hS1025 => (intro _; (exact (hb8.cell (p := ⟨r, 0, none⟩) HX.out.2.2).trans r2))
                        replace hHeld := hHeld (by decide)
                        clear hK K
                        try simp only [Act.put, List.setIfInBounds_toArray, List.set_cons_zero, List.set_cons_succ]
                        refine anyD_ready (rs := [12]) (by kernel_rfl) (by simp) ?_
                        refine AllD.cons (o := _) rfl (fun K hK => ?step1026) ?_
                        case step1026 =>
                          rw [if_pos (by rfl)]
                          refine opwp_append_files _ _ rfl W.heap.size v8 (R.take k) rfl o8 (some ⟨X1.heap.size, 0, none⟩) 1 1 [(s, [], [])] rfl (IsRFiles.new_at k11) (by have := HX.out.2.1; simp <;> omega) (hb8).size ?_
                          intro v12 X12 o12 g12
                          have hb12 := Below.grownF (hb8) o8 (hb8).size g12
                          clear g12
                          refine hK.out _ _ ?hS1026 (fun hHeld => ?_)
                          case hS1026 => (intro _; (exact (hb12.cell (p := ⟨r, 0, none⟩) HX.out.2.2).trans r2))
                          replace hHeld := hHeld (by decide)
                          clear hK K
                          try simp only [Act.put, List.setIfInBounds_toArray, List.set_cons_zero, List.set_cons_succ]
                          refine anyD_ready (rs := [19]) (by kernel_rfl) (by simp) ?_
                          refine AllD.cons (o := _) rfl (fun K hK => ?step1027) ?_
                          case step1027 =>
                            rw [if_pos (by rfl)]
                            refine opwp_append_files _ _ rfl W.heap.size v12 (R.take k ++ [(s, [], [])]) rfl o12 _ _ _ (R.drop k) rfl (HX.out.1.2.later hb12) (by have := HX.out.2.1; simp <;> omega) hb12.size ?_
                            intro v19 X19 o19 g19
                            have hb19 := Below.grownF hb12 o12 hb12.size g19
                            have HO19 := Lib.hid o19
                            obtain ⟨a19, c19, hv19, _⟩ := o19.files
                            obtain ⟨m19, hm19⟩ : ∃ m19, m19 = ((R.take k ++ [(s, [], [])]) ++ (R.drop k)).length := ⟨_, rfl⟩
                            rw [← hm19] at hv19
                            subst hv19
                            have q19 : X19.cell? ⟨r, 0, none⟩ = some (.slice (some ⟨g, 0, none⟩) n cap2) := (hb19.cell (p := ⟨r, 0, none⟩) HX.out.2.2).trans r2
                            have f19 : X19.frozen? ⟨r, 0, none⟩ = false := HFZ.out X19 hb19
                            clear g19 o19 hm19
                            refine hK.out _ _ ?hS1027 (fun hHeld => ?_)
                            case hS1027 => (intro _; (exact (hb19.cell (p := ⟨r, 0, none⟩) HX.out.2.2).trans r2))
                            replace hHeld := hHeld (by decide)
                            clear hK K
                            try simp only [Act.put, List.setIfInBounds_toArray, List.set_cons_zero, List.set_cons_succ]
                            refine anyD_ready (rs := [20]) (by kernel_rfl) (by simp) ?_
                            refine AllD.cons (o := _) rfl (fun K hK => ?step1028) ?_
                            case step1028 =>
                              go_simp
                              refine hK.out _ _ ?hS1028 (fun hHeld => ?_)
                              case hS1028 => (intro _; (exact (hb19.cell (p := ⟨r, 0, none⟩) HX.out.2.2).trans r2))
                              replace hHeld := hHeld (by decide)
                              clear hK K
                              try simp only [Act.put, List.setIfInBounds_toArray, List.set_cons_zero, List.set_cons_succ]
                              refine anyD_take (i := 21) (v := ?v1029) rfl (by kernel_rfl) (by kernel_rfl) (by kernel_rfl) (by kernel_rfl) (fun _ _ _ h => h) (Or.inl ⟨?hw1029, ?hy1029⟩) (by assumption) ?_
                              case hw1029 => rfl
                              case hy1029 => (intro w hSw; (try dsimp only at hSw); go_simp; (first | done | with_reducible rfl))
                              try simp only [Act.put, List.setIfInBounds_toArray, List.set_cons_zero, List.set_cons_succ]
                              refine anyD_ready (rs := [22]) (by kernel_rfl) (by simp) ?_
                              refine AllD.cons (o := _) rfl (fun K hK => ?step1030) ?_
                              case step1030 =>
                                go_simp
                                refine hK.out _ _ ?hS1030 (fun hHeld => ?_)
                                case hS1030 => exact fun h => absurd rfl h
                                clear hK K
                                try simp only [Act.put, List.setIfInBounds_toArray, List.set_cons_zero, List.set_cons_succ]
                                refine anyD_done (by kernel_rfl) ?_ _
                                have HE := Lib.hid (HINS.out _ _ hb19 HO19.out)
                                go_wp2_with fail
                                all_goals
                                  go_meet
                                  exact ⟨k, rfl, hkn, HE.out.1, HE.out.2.1, HE.out.2.2⟩
                              exact AllD.nil
                            exact AllD.nil
                          exact AllD.nil
                        exact AllD.nil
                      exact AllD.nil
                    exact AllD.nil
                  refine AllD.cons (o := _) rfl (fun K hK => ?step1031) ?_
                  case step1031 =>
                    go_simp
                    have hb11 : Below W.heap.size W (W.alloc (.cells #[.string s, .slice none 0 0, .slice none 0 0] 86)).drew := ((Below.refl W.heap.size W).alloc (Nat.le_refl _) (.cells #[.string s, .slice none 0 0, .slice none 0 0] 86)).drew
                    have i11 : (W.alloc (.cells #[.string s, .slice none 0 0, .slice none 0 0] 86)).drew.heap[W.heap.size]? = some (.cells #[.string s, .slice none 0 0, .slice none 0 0] 86 (0, 0)) := heap_alloc_new W _
                    generalize (W.alloc (.cells #[.string s, .slice none 0 0, .slice none 0 0] 86)).drew = X11 at hb11 i11 ⊢
                    refine hK.out _ _ ?hS1031 (fun hHeld => ?_)
                    case hS1031 => (intro _; (exact (hb11.cell (p := ⟨r, 0, none⟩) HX.out.2.2).trans r2))
                    replace hHeld := hHeld (by decide)
                    clear hK K
                    try simp only [Act.put, List.setIfInBounds_toArray, List.set_cons_zero, List.set_cons_succ]
                    refine anyD_ready (rs := [1]) (by kernel_rfl) (by simp) ?_
                    refine AllD.cons (o := _) rfl (fun K hK => ?step1032) ?_
                    case step1032 =>
                      go_simp
                      have hb1 : Below W.heap.size W (X11.alloc (.cells #[] 86)) := (hb11).alloc (hb11).size (.cells #[] 86)
                      have o1 : OwnF (X11.alloc (.cells #[] 86)) W.heap.size (.slice (some ⟨X11.heap.size, 0, none⟩) 0 0) [] := (OwnF.none_new X11 _ (hb11).size).later (Below.refl _ _)
                      have j11 : (X11.alloc (.cells #[] 86)).heap[W.heap.size]? = some (.cells #[.string s, .slice none 0 0, .slice none 0 0] 86 (0, 0)) := (heap_alloc_old' X11 _ (heap_lt i11)).trans i11
                      generalize (X11.alloc (.cells #[] 86)) = X1 at hb1 o1 j11 ⊢
                      refine hK.out _ _ ?hS1032 (fun hHeld => ?_)
                      case hS1032 => (intro _; (exact (hb1.cell (p := ⟨r, 0, none⟩) HX.out.2.2).trans r2))
                      replace hHeld := hHeld (by decide)
                      clear hK K
                      try simp only [Act.put, List.setIfInBounds_toArray, List.set_cons_zero, List.set_cons_succ]
                      refine anyD_ready (rs := [8]) (by kernel_rfl) (by simp) ?_
                      refine AllD.cons (o := _) rfl (fun K hK => ?step1033) ?_
                      case step1033 =>
                        have NE := Lib.hid (show W.heap.size < X11.heap.size from heap_lt i11)
                        rw [if_pos (by rfl)]
                        refine opwp_append_files _ _ rfl W.heap.size (.slice (some ⟨X11.heap.size, 0, none⟩) 0 0) [] rfl o1 (some ⟨g, 0, none⟩) k cap2 (R.take k) rfl (HX.out.1.1.later (hb1)) (by have := HX.out.2.1; simp <;> omega) (hb1).size ?_
                        intro v8 X8 o8 g8
                        have hb8 := Below.grownF (hb1) o1 (hb1).size g8
                        rw [List.nil_append] at o8
                        have ne8 : some W.heap.size ≠ (Value.slice (some ⟨X11.heap.size, 0, none⟩) 0 0).ownBlock := by
                          have h1 := heap_lt j11
                          have h2 := NE.out
                          intro e
                          simp only [Value.ownBlock, Option.some.injEq] at e
                          omega
                        have k11 := (g8.block W.heap.size (heap_lt j11) ne8).trans j11
                        clear g8
                        refine hK.out _ _ ?hS1033 (fun hHeld => ?_)
                        case hS1033 => (intro _; (exact (hb8.cell (p := ⟨r, 0, none⟩) HX.out.2.2).trans r2))
                        replace hHeld := hHeld (by decide)
                        clear hK K
                        try simp only [Act.put, List.setIfInBounds_toArray, List.set_cons_zero, List.set_cons_succ]
                        refine anyD_ready (rs := [12]) (by kernel_rfl) (by simp) ?_
                        refine AllD.cons (o := _) rfl (fun K hK => ?step1034) ?_
                        case step1034 =>
                          rw [if_pos (by rfl)]
                          refine opwp_append_files _ _ rfl W.heap.size v8 (R.take k) rfl o8 (some ⟨W.heap.size, 0, none⟩) 1 1 [(s, [], [])] rfl (IsRFiles.new_at k11) (by have := HX.out.2.1; simp <;> omega) (hb8).size ?_
                          intro v12 X12 o12 g12
                          have hb12 := Below.grownF (hb8) o8 (hb8).size g12
                          clear g12
                          refine hK.out _ _ ?hS1034 (fun hHeld => ?_)
                          case hS1034 => (intro _; (exact (hb12.cell (p := ⟨r, 0, none⟩) HX.out.2.2).trans r2))
                          replace hHeld := hHeld (by decide)
                          clear hK K
                          try simp only [Act.put, List.setIfInBounds_toArray, List.set_cons_zero, List.set_cons_succ]
                          refine anyD_ready (rs := [19]) (by kernel_rfl) (by simp) ?_
                          refine AllD.cons (o := _) rfl (fun K hK => ?step1035) ?_
                          case step1035 =>
                            rw [if_pos (by rfl)]
                            refine opwp_append_files _ _ rfl W.heap.size v12 (R.take k ++ [(s, [], [])]) rfl o12 _ _ _ (R.drop k) rfl (HX.out.1.2.later hb12) (by have := HX.out.2.1; simp <;> omega) hb12.size ?_
                            intro v19 X19 o19 g19
                            have hb19 := Below.grownF hb12 o12 hb12.size g19
                            have HO19 := Lib.hid o19
                            obtain ⟨a19, c19, hv19, _⟩ := o19.files
                            obtain ⟨m19, hm19⟩ : ∃ m19, m19 = ((R.take k ++ [(s, [], [])]) ++ (R.drop k)).length := ⟨_, rfl⟩
                            rw [← hm19] at hv19
                            subst hv19
                            have q19 : X19.cell? ⟨r, 0, none⟩ = some (.slice (some ⟨g, 0, none⟩) n cap2) := (hb19.cell (p := ⟨r, 0, none⟩) HX.out.2.2).trans r2
                            have f19 : X19.frozen? ⟨r, 0, none⟩ = false := HFZ.out X19 hb19
                            clear g19 o19 hm19
                            refine hK.out _ _ ?hS1035 (fun hHeld => ?_)
                            case hS1035 => (intro _; (exact (hb19.cell (p := ⟨r, 0, none⟩) HX.out.2.2).trans r2))
                            replace hHeld := hHeld (by decide)
                            clear hK K
                            try simp only [Act.put, List.setIfInBounds_toArray, List.set_cons_zero, List.set_cons_succ]
                            refine anyD_ready (rs := [20]) (by kernel_rfl) (by simp) ?_
                            refine AllD.cons (o := _) rfl (fun K hK => ?step1036) ?_
                            case step1036 =>
                              go_simp
                              refine hK.out _ _ ?hS1036 (fun hHeld => ?_)
                              case hS1036 => (intro _; (exact (hb19.cell (p := ⟨r, 0, none⟩) HX.out.2.2).trans r2))
                              replace hHeld := hHeld (by decide)
                              clear hK K
                              try simp only [Act.put, List.setIfInBounds_toArray, List.set_cons_zero, List.set_cons_succ]
                              refine anyD_take (i := 21) (v := ?v1037) rfl (by kernel_rfl) (by kernel_rfl) (by kernel_rfl) (by kernel_rfl) (fun _ _ _ h => h) (Or.inl ⟨?hw1037, ?hy1037⟩) (by assumption) ?_
                              case hw1037 => rfl
                              case hy1037 => (intro w hSw; (try dsimp only at hSw); go_simp; (first | done | with_reducible rfl))
                              try simp only [Act.put, List.setIfInBounds_toArray, List.set_cons_zero, List.set_cons_succ]
                              refine anyD_ready (rs := [22]) (by kernel_rfl) (by simp) ?_
                              refine AllD.cons (o := _) rfl (fun K hK => ?step1038) ?_
                              case step1038 =>
                                go_simp
                                refine hK.out _ _ ?hS1038 (fun hHeld => ?_)
                                case hS1038 => exact fun h => absurd rfl h
                                clear hK K
                                try simp only [Act.put, List.setIfInBounds_toArray, List.set_cons_zero, List.set_cons_succ]
                                refine anyD_done (by kernel_rfl) ?_ _
                                have HE := Lib.hid (HINS.out _ _ hb19 HO19.out)
                                go_wp2_with fail
                                all_goals
                                  go_meet
                                  exact ⟨k, rfl, hkn, HE.out.1, HE.out.2.1, HE.out.2.2⟩
                              exact AllD.nil
                            exact AllD.nil
                          exact AllD.nil
                        exact AllD.nil
                      exact AllD.nil
                    exact AllD.nil
                  exact AllD.nil
            case rest =>
              obtain ⟨k, rfl, hkn, hins, hR1, hM1⟩ := hcut
              have HRE := Lib.hid (show k ≤ R.length from by have := HNN.out; omega)
              have HR1 := hR1
              obtain ⟨R', hR'⟩ : ∃ R', R' = insF R k (s, [], []) := ⟨_, rfl⟩
              rw [← hR'] at HR1
              have hRk : k < R'.length := by rw [hR', insF_length _ HRE.out]; have := HRE.out; omega
              have hRx : R'.getD k f0 = (s, [], []) := by rw [hR']; exact insF_at _ HRE.out
              have hRS : ∀ y, R'.set k y = insF R k y := fun y => by rw [hR']; exact insF_set _ _ HRE.out
              have hRl : R'.length = n + 1 := by rw [hR', insF_length _ HRE.out, HNN.out]
              obtain ⟨g, cap, sa, sn, sc, al, m, capl, hr, hg, q0, q1, q2, hb, hd, hat⟩ := HR1.out.at (k := k) hRk
              have hrl := hr.lt
              have hbase : base ≤ wc.heap.size := by have := HR1.out.1; omega
              have r0 : wc.cell? ⟨r, 0, none⟩ = some (.slice (some ⟨g, 0, none⟩) (n + 1) cap) := by rw [← hRl]; exact hr.cells.1
              have hcap := hg.2.2.1
              have hcm := hg.2.2.2
              rw [hRl] at hcap
              unfold maxLen at hcm
              have hk1 : (0 : Int) ≤ (k : Int) := by omega
              have hk2 : (k : Int) < (n : Int) + 1 := by omega
              obtain ⟨x, hx⟩ : ∃ x, x = R'.getD k f0 := ⟨_, rfl⟩
              have hxe : x = (s, [], []) := hx.trans hRx
              rw [← hx] at hd hat
              have hcp := hd.len
              have hc1 := hcp.2.1
              have hc2 := hcp.2.2
              unfold maxLen at hc2
              have HM : Hid (x.2.2.length = m ∧ m ≤ 1000000 ∧ bn ≤ 1048576) := Lib.hid ⟨hcp.1, by rw [← hcp.1, hxe]; simp, by omega⟩
              have HS : Hid (∀ w' : World, Below wc.heap.size wc w' → (w'.cell? ⟨r, 0, none⟩ = some (.slice (some ⟨g, 0, none⟩) (n + 1) cap) ∧ w'.cell? ⟨g, k * 3 + 2, none⟩ = some (.slice al m capl) ∧ w'.frozen? ⟨g, k * 3 + 2, none⟩ = false)) := Lib.hid (fun w' hb' => ⟨(hb'.cell (p := ⟨r, 0, none⟩) hrl).trans r0, (hb'.cell (p := ⟨g, k * 3 + 2, none⟩) hg.1).trans q2, (hat w' hb').1.1 _⟩)
              have hBW : IsBytes wc ba bn bc B := HBK.out w wc (Below.refl _ _) (HQ.out.1.trans hM1.out)
              have HZWC : Hid (ZW wc) := Lib.hid (HZW.out.mono hM1.out.below.size)
              have HX := Lib.hid (And.intro hd (And.intro hBW (And.intro hrl hbase)))
              have HAT := Lib.hid hat
              have HK : Hid (∀ (w' : World), RefAt w' r base (R'.set k (x.1, x.2.1, x.2.2 ++ addB B)) (N + 1) fz (if fz = true then lf - 1 else lf) false → MovedR r base wc w' → RNewR s B r base R N fz lf false w (.returned (.int .i64 0)) w') := Lib.hid (fun w' hR hM => by
                rw [hRS, hxe] at hR
                exact .inr ⟨rfl, .inr ⟨HNB.out.symm, .inr ⟨by have := HNN.out; omega, .inr ⟨by have := HBL.out; omega, k, hins.out, (HQ.out.1.trans hM1.out).trans hM, .inr ⟨HQ.out.2, rfl, hR⟩⟩⟩⟩⟩)
              have HW0 : Hid (bn = 0 → RefAt wc r base (R'.set k (x.1, x.2.1, x.2.2 ++ addB B)) (N + 1) fz (if fz = true then lf - 1 else lf) false) := Lib.hid (fun h0 => by
                have hB0 : B = [] := List.eq_nil_of_length_eq_zero (by rw [HBL.out]; exact h0)
                rw [hRS, hxe, hB0, addB, if_pos rfl]
                exact hR1.out)
              have HAD : Hid (¬ bn = 0 → addB B = [.more B]) := Lib.hid (fun h0 => by
                unfold addB
                rw [if_neg (by rintro rfl; exact h0 HBL.out.symm)])
              clear hr hg hb hd hat hrl hbase hx hcp q0 q1 hBW hxe hRS hRx hRk HR1 hR1 hM1 hins hR' hRl HW HF2 HG2 HFZ r2
              by_cases hb0 : bn = 0
              · have hb1 : ¬ (0 : Int) < (bn : Int) := by omega
                go_wp2_with fail
                go_ret
                exact HK.out _ (HW0.out hb0) (MovedR.refl _ _ _)
              · have hb1 : (0 : Int) < (bn : Int) := by omega
                have HAE := Lib.hid (HAD.out hb0)
                rw [HAE.out] at HK
                clear HAD HW0
                go_wp2_with fail
                refine wp_region_D 23 (S := fun w' => w'.cell? ⟨r, 0, none⟩ = some (.slice (some ⟨g, 0, none⟩) (n + 1) cap) ∧ w'.cell? ⟨g, k * 3 + 2, none⟩ = some (.slice al m capl) ∧ w'.frozen? ⟨g, k * 3 + 2, none⟩ = false) (by kernel_rfl) ?hS0 (fun hHeld => ?_)
                case hS0 => (exact HS.out _ (Below.refl _ _).drew)
                refine anyD_take (i := 0) (v := ?v2001) rfl (by kernel_rfl) (by kernel_rfl) (by kernel_rfl) (by kernel_rfl) (fun _ _ _ h => h) (Or.inl ⟨?hw2001, ?hy2001⟩) (by assumption) ?_
                case hw2001 => rfl
                case hy2001 => (intro w hSw; (try dsimp only at hSw); go_simp; (first | done | with_reducible rfl))
                try simp only [Act.put, List.setIfInBounds_toArray, List.set_cons_zero, List.set_cons_succ]
                refine anyD_take (i := 1) (v := ?v2002) rfl (by kernel_rfl) (by kernel_rfl) (by kernel_rfl) (by kernel_rfl) (fun _ _ _ h => h) (Or.inl ⟨?hw2002, ?hy2002⟩) (by assumption) ?_
                case hw2002 => rfl
                case hy2002 => (intro w hSw; (try dsimp only at hSw); go_simp; (first | done | with_reducible rfl))
                try simp only [Act.put, List.setIfInBounds_toArray, List.set_cons_zero, List.set_cons_succ]
                refine anyD_take (i := 2) (v := ?v2003) rfl (by kernel_rfl) (by kernel_rfl) (by kernel_rfl) (by kernel_rfl) (fun _ _ _ h => h) (Or.inl ⟨?hw2003, ?hy2003⟩) (by assumption) ?_
                case hw2003 => rfl
                case hy2003 => (intro w hSw; (try dsimp only at hSw); go_simp; (first | done | with_reducible rfl))
                try simp only [Act.put, List.setIfInBounds_toArray, List.set_cons_zero, List.set_cons_succ]
                refine anyD_take (i := 3) (v := ?v2004) rfl (by kernel_rfl) (by kernel_rfl) (by kernel_rfl) (by kernel_rfl) (fun _ _ _ h => h) (Or.inl ⟨?hw2004, ?hy2004⟩) (by assumption) ?_
                case hw2004 => rfl
                case hy2004 => (intro w hSw; (try dsimp only at hSw); go_simp; (first | done | with_reducible rfl))
                try simp only [Act.put, List.setIfInBounds_toArray, List.set_cons_zero, List.set_cons_succ]
                refine anyD_take (i := 4) (v := ?v2005) rfl (by kernel_rfl) (by kernel_rfl) (by kernel_rfl) (by kernel_rfl) (fun _ _ _ h => h) (Or.inl ⟨?hw2005, ?hy2005⟩) (by assumption) ?_
                case hw2005 => rfl
                case hy2005 => (intro w hSw; (try dsimp only at hSw); go_simp; (first | done | with_reducible rfl))
                try simp only [Act.put, List.setIfInBounds_toArray, List.set_cons_zero, List.set_cons_succ]
                refine anyD_take (i := 6) (v := ?v2006) rfl (by kernel_rfl) (by kernel_rfl) (by kernel_rfl) (by kernel_rfl) (fun _ _ _ h => h) (Or.inl ⟨?hw2006, ?hy2006⟩) (by assumption) ?_
                case hw2006 => rfl
                case hy2006 => (intro w hSw; (try dsimp only at hSw); go_simp; (first | done | with_reducible rfl))
                try simp only [Act.put, List.setIfInBounds_toArray, List.set_cons_zero, List.set_cons_succ]
                refine anyD_take (i := 7) (v := ?v2007) rfl (by kernel_rfl) (by kernel_rfl) (by kernel_rfl) (by kernel_rfl) (fun _ _ _ h => h) (Or.inl ⟨?hw2007, ?hy2007⟩) (by assumption) ?_
                case hw2007 => rfl
                case hy2007 => (intro w hSw; (try dsimp only at hSw); go_simp; (first | done | with_reducible rfl))
                try simp only [Act.put, List.setIfInBounds_toArray, List.set_cons_zero, List.set_cons_succ]
                refine anyD_take (i := 8) (v := ?v2008) rfl (by kernel_rfl) (by kernel_rfl) (by kernel_rfl) (by kernel_rfl) (fun _ _ _ h => h) (Or.inl ⟨?hw2008, ?hy2008⟩) (by assumption) ?_
                case hw2008 => rfl
                case hy2008 => (intro w hSw; (try dsimp only at hSw); go_simp; (first | done | with_reducible rfl))
                try simp only [Act.put, List.setIfInBounds_toArray, List.set_cons_zero, List.set_cons_succ]
                refine anyD_take (i := 9) (v := ?v2009) rfl (by kernel_rfl) (by kernel_rfl) (by kernel_rfl) (by kernel_rfl) (fun _ _ _ h => h) (Or.inl ⟨?hw2009, ?hy2009⟩) (by assumption) ?_
                case hw2009 => rfl
                case hy2009 => (intro w hSw; (try dsimp only at hSw); go_simp; (first | done | with_reducible rfl))
                try simp only [Act.put, List.setIfInBounds_toArray, List.set_cons_zero, List.set_cons_succ]
                refine anyD_take (i := 10) (v := ?v2010) rfl (by kernel_rfl) (by kernel_rfl) (by kernel_rfl) (by kernel_rfl) (fun _ _ _ h => h) (Or.inl ⟨?hw2010, ?hy2010⟩) (by assumption) ?_
                case hw2010 => rfl
                case hy2010 => (intro w hSw; (try dsimp only at hSw); go_simp; (first | done | with_reducible rfl))
                try simp only [Act.put, List.setIfInBounds_toArray, List.set_cons_zero, List.set_cons_succ]
                refine anyD_take (i := 11) (v := ?v2011) rfl (by kernel_rfl) (by kernel_rfl) (by kernel_rfl) (by kernel_rfl) (fun _ _ _ h => h) (Or.inl ⟨?hw2011, ?hy2011⟩) (by assumption) ?_
                case hw2011 => rfl
                case hy2011 => (intro w hSw; (try dsimp only at hSw); go_simp; (first | done | with_reducible rfl))
                try simp only [Act.put, List.setIfInBounds_toArray, List.set_cons_zero, List.set_cons_succ]
                refine anyD_take (i := 12) (v := ?v2012) rfl (by kernel_rfl) (by kernel_rfl) (by kernel_rfl) (by kernel_rfl) (fun _ _ _ h => h) (Or.inl ⟨?hw2012, ?hy2012⟩) (by assumption) ?_
                case hw2012 => rfl
                case hy2012 => (intro w hSw; (try dsimp only at hSw); go_simp; (first | done | with_reducible rfl))
                try simp only [Act.put, List.setIfInBounds_toArray, List.set_cons_zero, List.set_cons_succ]
                refine anyD_take (i := 13) (v := ?v2013) rfl (by kernel_rfl) (by kernel_rfl) (by kernel_rfl) (by kernel_rfl) (fun _ _ _ h => h) (Or.inl ⟨?hw2013, ?hy2013⟩) (by assumption) ?_
                case hw2013 => rfl
                case hy2013 => (intro w hSw; (try dsimp only at hSw); go_simp; (first | done | with_reducible rfl))
                try simp only [Act.put, List.setIfInBounds_toArray, List.set_cons_zero, List.set_cons_succ]
                refine anyD_take (i := 16) (v := ?v2014) rfl (by kernel_rfl) (by kernel_rfl) (by kernel_rfl) (by kernel_rfl) (fun _ _ _ h => h) (Or.inl ⟨?hw2014, ?hy2014⟩) (by assumption) ?_
                case hw2014 => rfl
                case hy2014 => (intro w hSw; (try dsimp only at hSw); go_simp; (first | done | with_reducible rfl))
                try simp only [Act.put, List.setIfInBounds_toArray, List.set_cons_zero, List.set_cons_succ]
                refine anyD_ready (rs := [5, 15]) (by kernel_rfl) (by simp) ?_
                refine AllD.cons (o := _) rfl (fun K hK => ?step2015) ?_
                case step2015 =>
                  go_simp
                  have hb5 : Below wc.heap.size wc (wc.alloc (.cells #[] 97)).drew := ((Below.refl wc.heap.size wc).alloc (Nat.le_refl _) (.cells #[] 97)).drew
                  have o5 : OwnA (wc.alloc (.cells #[] 97)).drew wc.heap.size (.slice (some ⟨wc.heap.size, 0, none⟩) 0 0) [] := (OwnA.none_new wc _ (Nat.le_refl _)).later (Below.refl _ _).drew
                  generalize (wc.alloc (.cells #[] 97)).drew = X5 at hb5 o5 ⊢
                  refine hK.out _ _ ?hS2015 (fun hHeld => ?_)
                  case hS2015 => (intro _; (exact HS.out _ hb5))
                  replace hHeld := hHeld (by decide)
                  clear hK K
                  try simp only [Act.put, List.setIfInBounds_toArray, List.set_cons_zero, List.set_cons_succ]
                  refine anyD_ready (rs := [14, 15]) (by kernel_rfl) (by simp) ?_
                  refine AllD.cons (o := _) rfl (fun K hK => ?step2016) ?_
                  case step2016 =>
                    rw [if_pos (by rfl)]
                    refine opwp_append_acts _ _ rfl wc.heap.size (.slice (some ⟨wc.heap.size, 0, none⟩) 0 0) [] rfl o5 al m capl x.2.2 rfl (HX.out.1.later (hb5)) (by have := HM.out; simp; omega) (hb5).size ?_
                    intro v14 X14 o14 g14 _
                    have hb14 := Below.grownA (hb5) o5 (hb5).size g14
                    rw [List.nil_append] at o14
                    clear g14
                    refine hK.out _ _ ?hS2016 (fun hHeld => ?_)
                    case hS2016 => (intro _; (exact HS.out _ hb14))
                    replace hHeld := hHeld (by decide)
                    clear hK K
                    try simp only [Act.put, List.setIfInBounds_toArray, List.set_cons_zero, List.set_cons_succ]
                    refine anyD_ready (rs := [15]) (by kernel_rfl) (by simp) ?_
                    refine AllD.cons (o := _) rfl (fun K hK => ?step2017) ?_
                    case step2017 =>
                      go_simp
                      have hb15 : Below wc.heap.size wc (X14.alloc (.cells #[] 5)) := (hb14).alloc (hb14).size (.cells #[] 5)
                      have o15 : OwnB (X14.alloc (.cells #[] 5)) wc.heap.size (.slice (some ⟨X14.heap.size, 0, none⟩) 0 0) [] := OwnB.none_new X14 _ (hb14).size
                      have e15 : (X14.alloc (.cells #[] 5)).heap[X14.heap.size]? = some (.cells #[] 5 (0, 0)) := heap_alloc_new X14 _
                      have p15 := o14.later ((Below.refl _ X14).alloc (Nat.le_refl _) (.cells #[] 5))
                      generalize (X14.alloc (.cells #[] 5)) = X15 at hb15 o15 e15 p15 ⊢
                      refine hK.out _ _ ?hS2017 (fun hHeld => ?_)
                      case hS2017 => (intro _; (exact HS.out _ hb15))
                      replace hHeld := hHeld (by decide)
                      clear hK K
                      try simp only [Act.put, List.setIfInBounds_toArray, List.set_cons_zero, List.set_cons_succ]
                      refine anyD_ready (rs := [17]) (by kernel_rfl) (by simp) ?_
                      refine AllD.cons (o := _) rfl (fun K hK => ?step2018) ?_
                      case step2018 =>
                        rw [if_pos (by rfl)]
                        refine opwp_append_bytes _ _ rfl wc.heap.size (.slice (some ⟨X14.heap.size, 0, none⟩) 0 0) [] rfl o15 ba bn bc B rfl (HX.out.2.1.later (hb15)) (by have := HM.out; simp; omega) (hb15).size ?_
                        intro v17 X17 o17 g17
                        have hb17 := Below.grownB (hb15) o15 (hb15).size g17
                        have p17 := p15.grownE g17 e15
                        rw [List.nil_append] at o17
                        obtain ⟨av17, cv17, hv17, hbs17, _⟩ := o17.bytes
                        have hz17 : ZS av17 _ := ZS.of_own (by rw [← hv17]; exact o17) HZWC.out
                        rw [HBL.out] at hv17 hbs17 hz17
                        subst hv17
                        clear g17 o17
                        have HZ17 := Lib.hid hz17
                        clear hz17
                        refine hK.out _ _ ?hS2018 (fun hHeld => ?_)
                        case hS2018 => (intro _; (exact HS.out _ hb17))
                        replace hHeld := hHeld (by decide)
                        clear hK K
                        try simp only [Act.put, List.setIfInBounds_toArray, List.set_cons_zero, List.set_cons_succ]
                        refine anyD_take (i := 18) (v := ?v2019) rfl (by kernel_rfl) (by kernel_rfl) (by kernel_rfl) (by kernel_rfl) (fun _ _ _ h => h) (Or.inl ⟨?hw2019, ?hy2019⟩) (by assumption) ?_
                        case hw2019 => rfl
                        case hy2019 => (intro w hSw; (try dsimp only at hSw); go_simp; (first | done | with_reducible rfl))
                        try simp only [Act.put, List.setIfInBounds_toArray, List.set_cons_zero, List.set_cons_succ]
                        refine anyD_ready (rs := [19]) (by kernel_rfl) (by simp) ?_
                        refine AllD.cons (o := _) rfl (fun K hK => ?step2020) ?_
                        case step2020 =>
                          go_simp
                          have hb19 : Below wc.heap.size wc (X17.alloc (.cells #[.bool false, .int .i64 0, .slice av17 bn cv17] 97)) := hb17.alloc hb17.size _
                          have i19 : (X17.alloc (.cells #[.bool false, .int .i64 0, .slice av17 bn cv17] 97)).heap[X17.heap.size]? = some (.cells #[.bool false, .int .i64 0, .slice av17 bn cv17] 97 (0, 0)) := heap_alloc_new X17 _
                          have p19 := p17.later ((Below.refl _ X17).alloc (Nat.le_refl _) (.cells #[.bool false, .int .i64 0, .slice av17 bn cv17] 97))
                          have s19 := hbs17.later ((Below.refl _ X17).alloc (Nat.le_refl _) (.cells #[.bool false, .int .i64 0, .slice av17 bn cv17] 97))
                          generalize X17.alloc (.cells #[.bool false, .int .i64 0, .slice av17 bn cv17] 97) = X19 at hb19 i19 p19 s19 ⊢
                          refine hK.out _ _ ?hS2020 (fun hHeld => ?_)
                          case hS2020 => (intro _; (exact HS.out _ hb19))
                          replace hHeld := hHeld (by decide)
                          clear hK K
                          try simp only [Act.put, List.setIfInBounds_toArray, List.set_cons_zero, List.set_cons_succ]
                          refine anyD_ready (rs := [20]) (by kernel_rfl) (by simp) ?_
                          refine AllD.cons (o := _) rfl (fun K hK => ?step2021) ?_
                          case step2021 =>
                            rw [if_pos (by rfl)]
                            refine opwp_append_acts _ _ rfl wc.heap.size v14 x.2.2 rfl p19 (some ⟨X17.heap.size, 0, none⟩) 1 1 [.more B] rfl (IsRActs.more_at i19 ⟨s19, HZ17.out⟩) (by have := HM.out; omega) hb19.size ?_
                            intro v20 X20 o20 g20 _
                            have hb20 := Below.grownA hb19 p19 hb19.size g20
                            obtain ⟨a20, c20, hv20, hd20⟩ := o20.acts
                            obtain ⟨m20, hm20⟩ : ∃ m20, m20 = (x.2.2 ++ [Deed.more B]).length := ⟨_, rfl⟩
                            rw [← hm20] at hv20 hd20
                            have HD20 := Lib.hid hd20
                            have q20 : X20.cell? ⟨g, k * 3 + 2, none⟩ = some (.slice al m capl) := (HS.out _ hb20).2.1
                            have f20 : X20.frozen? ⟨g, k * 3 + 2, none⟩ = false := (HS.out _ hb20).2.2
                            subst hv20
                            clear g20 hd20 o20 hm20
                            refine hK.out _ _ ?hS2021 (fun hHeld => ?_)
                            case hS2021 => (intro _; (exact HS.out _ hb20))
                            replace hHeld := hHeld (by decide)
                            clear hK K
                            try simp only [Act.put, List.setIfInBounds_toArray, List.set_cons_zero, List.set_cons_succ]
                            refine anyD_ready (rs := [21]) (by kernel_rfl) (by simp) ?_
                            refine AllD.cons (o := _) rfl (fun K hK => ?step2022) ?_
                            case step2022 =>
                              go_simp
                              refine hK.out _ _ ?hS2022 (fun hHeld => ?_)
                              case hS2022 => (intro _; (exact HS.out _ hb20))
                              replace hHeld := hHeld (by decide)
                              clear hK K
                              try simp only [Act.put, List.setIfInBounds_toArray, List.set_cons_zero, List.set_cons_succ]
                              refine anyD_take (i := 22) (v := ?v2023) rfl (by kernel_rfl) (by kernel_rfl) (by kernel_rfl) (by kernel_rfl) (fun _ _ _ h => h) (Or.inl ⟨?hw2023, ?hy2023⟩) (by assumption) ?_
                              case hw2023 => rfl
                              case hy2023 => (intro w hSw; (try dsimp only at hSw); go_simp; (first | done | with_reducible rfl))
                              try simp only [Act.put, List.setIfInBounds_toArray, List.set_cons_zero, List.set_cons_succ]
                              refine anyD_ready (rs := [23]) (by kernel_rfl) (by simp) ?_
                              refine AllD.cons (o := _) rfl (fun K hK => ?step2024) ?_
                              case step2024 =>
                                go_simp
                                refine hK.out _ _ ?hS2024 (fun hHeld => ?_)
                                case hS2024 => exact fun h => absurd rfl h
                                clear hK K
                                try simp only [Act.put, List.setIfInBounds_toArray, List.set_cons_zero, List.set_cons_succ]
                                refine anyD_done (by kernel_rfl) ?_ _
                                obtain ⟨hR, hMV⟩ := (HAT.out X20 hb20).2.1 _ _ _ _ HD20.out
                                have HE := Lib.hid (HK.out _ hR ((MovedR.of_below hb20 HX.out.2.2.1 HX.out.2.2.2).trans hMV))
                                clear hR hMV
                                go_wp2_with fail
                                go_ret
                                exact HE.out
                              exact AllD.nil
                            exact AllD.nil
                          exact AllD.nil
                        exact AllD.nil
                      exact AllD.nil
                    exact AllD.nil
                  refine AllD.cons (o := _) rfl (fun K hK => ?step2025) ?_
                  case step2025 =>
                    go_simp
                    have hb15 : Below wc.heap.size wc (X5.alloc (.cells #[] 5)) := (hb5).alloc (hb5).size (.cells #[] 5)
                    have o15 : OwnB (X5.alloc (.cells #[] 5)) wc.heap.size (.slice (some ⟨X5.heap.size, 0, none⟩) 0 0) [] := OwnB.none_new X5 _ (hb5).size
                    have e15 : (X5.alloc (.cells #[] 5)).heap[X5.heap.size]? = some (.cells #[] 5 (0, 0)) := heap_alloc_new X5 _
                    have p15 := o5.later ((Below.refl _ X5).alloc (Nat.le_refl _) (.cells #[] 5))
                    generalize (X5.alloc (.cells #[] 5)) = X15 at hb15 o15 e15 p15 ⊢
                    refine hK.out _ _ ?hS2025 (fun hHeld => ?_)
                    case hS2025 => (intro _; (exact HS.out _ hb15))
                    replace hHeld := hHeld (by decide)
                    clear hK K
                    try simp only [Act.put, List.setIfInBounds_toArray, List.set_cons_zero, List.set_cons_succ]
                    refine anyD_ready (rs := [14]) (by kernel_rfl) (by simp) ?_
                    refine AllD.cons (o := _) rfl (fun K hK => ?step2026) ?_
                    case step2026 =>
                      rw [if_pos (by rfl)]
                      refine opwp_append_acts _ _ rfl wc.heap.size (.slice (some ⟨wc.heap.size, 0, none⟩) 0 0) [] rfl p15 al m capl x.2.2 rfl (HX.out.1.later (hb15)) (by have := HM.out; simp; omega) (hb15).size ?_
                      intro v14 X14 o14 g14 _
                      have hb14 := Below.grownA (hb15) p15 (hb15).size g14
                      have ne14 : some X5.heap.size ≠ (Value.slice (some ⟨wc.heap.size, 0, none⟩) 0 0).ownBlock := by
                        obtain ⟨TT, hTT, _⟩ := p15
                        exact hTT.other e15 (by decide)
                      have e14 := (g14.block X5.heap.size (heap_lt e15) ne14).trans e15
                      have b14 : OwnB X14 wc.heap.size (.slice (some ⟨X5.heap.size, 0, none⟩) 0 0) [] := o15.grown' (g14.block X5.heap.size (heap_lt e15) ne14)
                      rw [List.nil_append] at o14
                      clear g14
                      refine hK.out _ _ ?hS2026 (fun hHeld => ?_)
                      case hS2026 => (intro _; (exact HS.out _ hb14))
                      replace hHeld := hHeld (by decide)
                      clear hK K
                      try simp only [Act.put, List.setIfInBounds_toArray, List.set_cons_zero, List.set_cons_succ]
                      refine anyD_ready (rs := [17]) (by kernel_rfl) (by simp) ?_
                      refine AllD.cons (o := _) rfl (fun K hK => ?step2027) ?_
                      case step2027 =>
                        rw [if_pos (by rfl)]
                        refine opwp_append_bytes _ _ rfl wc.heap.size (.slice (some ⟨X5.heap.size, 0, none⟩) 0 0) [] rfl b14 ba bn bc B rfl (HX.out.2.1.later (hb14)) (by have := HM.out; simp; omega) (hb14).size ?_
                        intro v17 X17 o17 g17
                        have hb17 := Below.grownB (hb14) b14 (hb14).size g17
                        have p17 := o14.grownE g17 e14
                        rw [List.nil_append] at o17
                        obtain ⟨av17, cv17, hv17, hbs17, _⟩ := o17.bytes
                        have hz17 : ZS av17 _ := ZS.of_own (by rw [← hv17]; exact o17) HZWC.out
                        rw [HBL.out] at hv17 hbs17 hz17
                        subst hv17
                        clear g17 o17
                        have HZ17 := Lib.hid hz17
                        clear hz17
                        refine hK.out _ _ ?hS2027 (fun hHeld => ?_)
                        case hS2027 => (intro _; (exact HS.out _ hb17))
                        replace hHeld := hHeld (by decide)
                        clear hK K
                        try simp only [Act.put, List.setIfInBounds_toArray, List.set_cons_zero, List.set_cons_succ]
                        refine anyD_take (i := 18) (v := ?v2028) rfl (by kernel_rfl) (by kernel_rfl) (by kernel_rfl) (by kernel_rfl) (fun _ _ _ h => h) (Or.inl ⟨?hw2028, ?hy2028⟩) (by assumption) ?_
                        case hw2028 => rfl
                        case hy2028 => (intro w hSw; (try dsimp only at hSw); go_simp; (first | done | with_reducible rfl))
                        try simp only [Act.put, List.setIfInBounds_toArray, List.set_cons_zero, List.set_cons_succ]
                        refine anyD_ready (rs := [19]) (by kernel_rfl) (by simp) ?_
                        refine AllD.cons (o := _) rfl (fun K hK => ?step2029) ?_
                        case step2029 =>
                          go_simp
                          have hb19 : Below wc.heap.size wc (X17.alloc (.cells #[.bool false, .int .i64 0, .slice av17 bn cv17] 97)) := hb17.alloc hb17.size _
                          have i19 : (X17.alloc (.cells #[.bool false, .int .i64 0, .slice av17 bn cv17] 97)).heap[X17.heap.size]? = some (.cells #[.bool false, .int .i64 0, .slice av17 bn cv17] 97 (0, 0)) := heap_alloc_new X17 _
                          have p19 := p17.later ((Below.refl _ X17).alloc (Nat.le_refl _) (.cells #[.bool false, .int .i64 0, .slice av17 bn cv17] 97))
                          have s19 := hbs17.later ((Below.refl _ X17).alloc (Nat.le_refl _) (.cells #[.bool false, .int .i64 0, .slice av17 bn cv17] 97))
                          generalize X17.alloc (.cells #[.bool false, .int .i64 0, .slice av17 bn cv17] 97) = X19 at hb19 i19 p19 s19 ⊢
                          refine hK.out _ _ ?hS2029 (fun hHeld => ?_)
                          case hS2029 => (intro _; (exact HS.out _ hb19))
                          replace hHeld := hHeld (by decide)
                          clear hK K
                          try simp only [Act.put, List.setIfInBounds_toArray, List.set_cons_zero, List.set_cons_succ]
                          refine anyD_ready (rs := [20]) (by kernel_rfl) (by simp) ?_
                          refine AllD.cons (o := _) rfl (fun K hK => ?step2030) ?_
                          case step2030 =>
                            rw [if_pos (by rfl)]
                            refine opwp_append_acts _ _ rfl wc.heap.size v14 x.2.2 rfl p19 (some ⟨X17.heap.size, 0, none⟩) 1 1 [.more B] rfl (IsRActs.more_at i19 ⟨s19, HZ17.out⟩) (by have := HM.out; omega) hb19.size ?_
                            intro v20 X20 o20 g20 _
                            have hb20 := Below.grownA hb19 p19 hb19.size g20
                            obtain ⟨a20, c20, hv20, hd20⟩ := o20.acts
                            obtain ⟨m20, hm20⟩ : ∃ m20, m20 = (x.2.2 ++ [Deed.more B]).length := ⟨_, rfl⟩
                            rw [← hm20] at hv20 hd20
                            have HD20 := Lib.hid hd20
                            have q20 : X20.cell? ⟨g, k * 3 + 2, none⟩ = some (.slice al m capl) := (HS.out _ hb20).2.1
                            have f20 : X20.frozen? ⟨g, k * 3 + 2, none⟩ = false := (HS.out _ hb20).2.2
                            subst hv20
                            clear g20 hd20 o20 hm20
                            refine hK.out _ _ ?hS2030 (fun hHeld => ?_)
                            case hS2030 => (intro _; (exact HS.out _ hb20))
                            replace hHeld := hHeld (by decide)
                            clear hK K
                            try simp only [Act.put, List.setIfInBounds_toArray, List.set_cons_zero, List.set_cons_succ]
                            refine anyD_ready (rs := [21]) (by kernel_rfl) (by simp) ?_
                            refine AllD.cons (o := _) rfl (fun K hK => ?step2031) ?_
                            case step2031 =>
                              go_simp
                              refine hK.out _ _ ?hS2031 (fun hHeld => ?_)
                              case hS2031 => (intro _; (exact HS.out _ hb20))
                              replace hHeld := hHeld (by decide)
                              clear hK K
                              try simp only [Act.put, List.setIfInBounds_toArray, List.set_cons_zero, List.set_cons_succ]
                              refine anyD_take (i := 22) (v := ?v2032) rfl (by kernel_rfl) (by kernel_rfl) (by kernel_rfl) (by kernel_rfl) (fun _ _ _ h => h) (Or.inl ⟨?hw2032, ?hy2032⟩) (by assumption) ?_
                              case hw2032 => rfl
                              case hy2032 => (intro w hSw; (try dsimp only at hSw); go_simp; (first | done | with_reducible rfl))
                              try simp only [Act.put, List.setIfInBounds_toArray, List.set_cons_zero, List.set_cons_succ]
                              refine anyD_ready (rs := [23]) (by kernel_rfl) (by simp) ?_
                              refine AllD.cons (o := _) rfl (fun K hK => ?step2033) ?_
                              case step2033 =>
                                go_simp
                                refine hK.out _ _ ?hS2033 (fun hHeld => ?_)
                                case hS2033 => exact fun h => absurd rfl h
                                clear hK K
                                try simp only [Act.put, List.setIfInBounds_toArray, List.set_cons_zero, List.set_cons_succ]
                                refine anyD_done (by kernel_rfl) ?_ _
                                obtain ⟨hR, hMV⟩ := (HAT.out X20 hb20).2.1 _ _ _ _ HD20.out
                                have HE := Lib.hid (HK.out _ hR ((MovedR.of_below hb20 HX.out.2.2.1 HX.out.2.2.2).trans hMV))
                                clear hR hMV
                                go_wp2_with fail
                                go_ret
                                exact HE.out
                              exact AllD.nil
                            exact AllD.nil
                          exact AllD.nil
                        exact AllD.nil
                      exact AllD.nil
                    exact AllD.nil
                  exact AllD.nil
                refine AllD.cons (o := _) rfl (fun K hK => ?step2034) ?_
                case step2034 =>
                  go_simp
                  have hb15 : Below wc.heap.size wc (wc.alloc (.cells #[] 5)).drew := ((Below.refl wc.heap.size wc).alloc (Nat.le_refl _) (.cells #[] 5)).drew
                  have o15 : OwnB (wc.alloc (.cells #[] 5)).drew wc.heap.size (.slice (some ⟨wc.heap.size, 0, none⟩) 0 0) [] := (OwnB.none_new wc _ (Nat.le_refl _)).later (Below.refl _ _).drew
                  have e15 : (wc.alloc (.cells #[] 5)).drew.heap[wc.heap.size]? = some (.cells #[] 5 (0, 0)) := heap_alloc_new wc _
                  generalize (wc.alloc (.cells #[] 5)).drew = X15 at hb15 o15 e15 ⊢
                  refine hK.out _ _ ?hS2034 (fun hHeld => ?_)
                  case hS2034 => (intro _; (exact HS.out _ hb15))
                  replace hHeld := hHeld (by decide)
                  clear hK K
                  try simp only [Act.put, List.setIfInBounds_toArray, List.set_cons_zero, List.set_cons_succ]
                  refine anyD_ready (rs := [5]) (by kernel_rfl) (by simp) ?_
                  refine AllD.cons (o := _) rfl (fun K hK => ?step2035) ?_
                  case step2035 =>
                    go_simp
                    have hb5 : Below wc.heap.size wc (X15.alloc (.cells #[] 97)) := (hb15).alloc (hb15).size (.cells #[] 97)
                    have o5 : OwnA (X15.alloc (.cells #[] 97)) wc.heap.size (.slice (some ⟨X15.heap.size, 0, none⟩) 0 0) [] := OwnA.none_new X15 _ (hb15).size
                    have e5 : (X15.alloc (.cells #[] 97)).heap[wc.heap.size]? = some (.cells #[] 5 (0, 0)) := (heap_alloc_old' X15 _ (heap_lt e15)).trans e15
                    have b5 := o15.later ((Below.refl _ X15).alloc (Nat.le_refl _) (.cells #[] 97))
                    generalize (X15.alloc (.cells #[] 97)) = X5 at hb5 o5 e5 b5 ⊢
                    refine hK.out _ _ ?hS2035 (fun hHeld => ?_)
                    case hS2035 => (intro _; (exact HS.out _ hb5))
                    replace hHeld := hHeld (by decide)
                    clear hK K
                    try simp only [Act.put, List.setIfInBounds_toArray, List.set_cons_zero, List.set_cons_succ]
                    refine anyD_ready (rs := [14]) (by kernel_rfl) (by simp) ?_
                    refine AllD.cons (o := _) rfl (fun K hK => ?step2036) ?_
                    case step2036 =>
                      rw [if_pos (by rfl)]
                      refine opwp_append_acts _ _ rfl wc.heap.size (.slice (some ⟨X15.heap.size, 0, none⟩) 0 0) [] rfl o5 al m capl x.2.2 rfl (HX.out.1.later (hb5)) (by have := HM.out; simp; omega) (hb5).size ?_
                      intro v14 X14 o14 g14 _
                      have hb14 := Below.grownA (hb5) o5 (hb5).size g14
                      have ne14 : some wc.heap.size ≠ (Value.slice (some ⟨X15.heap.size, 0, none⟩) 0 0).ownBlock := by
                        obtain ⟨TT, hTT, _⟩ := o5
                        exact hTT.other e5 (by decide)
                      have e14 := (g14.block wc.heap.size (heap_lt e5) ne14).trans e5
                      have b14 : OwnB X14 wc.heap.size (.slice (some ⟨wc.heap.size, 0, none⟩) 0 0) [] := b5.grown' (g14.block wc.heap.size (heap_lt e5) ne14)
                      rw [List.nil_append] at o14
                      clear g14
                      refine hK.out _ _ ?hS2036 (fun hHeld => ?_)
                      case hS2036 => (intro _; (exact HS.out _ hb14))
                      replace hHeld := hHeld (by decide)
                      clear hK K
                      try simp only [Act.put, List.setIfInBounds_toArray, List.set_cons_zero, List.set_cons_succ]
                      refine anyD_ready (rs := [17]) (by kernel_rfl) (by simp) ?_
                      refine AllD.cons (o := _) rfl (fun K hK => ?step2037) ?_
                      case step2037 =>
                        rw [if_pos (by rfl)]
                        refine opwp_append_bytes _ _ rfl wc.heap.size (.slice (some ⟨wc.heap.size, 0, none⟩) 0 0) [] rfl b14 ba bn bc B rfl (HX.out.2.1.later (hb14)) (by have := HM.out; simp; omega) (hb14).size ?_
                        intro v17 X17 o17 g17
                        have hb17 := Below.grownB (hb14) b14 (hb14).size g17
                        have p17 := o14.grownE g17 e14
                        rw [List.nil_append] at o17
                        obtain ⟨av17, cv17, hv17, hbs17, _⟩ := o17.bytes
                        have hz17 : ZS av17 _ := ZS.of_own (by rw [← hv17]; exact o17) HZWC.out
                        rw [HBL.out] at hv17 hbs17 hz17
                        subst hv17
                        clear g17 o17
                        have HZ17 := Lib.hid hz17
                        clear hz17
                        refine hK.out _ _ ?hS2037 (fun hHeld => ?_)
                        case hS2037 => (intro _; (exact HS.out _ hb17))
                        replace hHeld := hHeld (by decide)
                        clear hK K
                        try simp only [Act.put, List.setIfInBounds_toArray, List.set_cons_zero, List.set_cons_succ]
                        refine anyD_take (i := 18) (v := ?v2038) rfl (by kernel_rfl) (by kernel_rfl) (by kernel_rfl) (by kernel_rfl) (fun _ _ _ h => h) (Or.inl ⟨?hw2038, ?hy2038⟩) (by assumption) ?_
                        case hw2038 => rfl
                        case hy2038 => (intro w hSw; (try dsimp only at hSw); go_simp; (first | done | with_reducible rfl))
                        try simp only [Act.put, List.setIfInBounds_toArray, List.set_cons_zero, List.set_cons_succ]
                        refine anyD_ready (rs := [19]) (by kernel_rfl) (by simp) ?_
                        refine AllD.cons (o := _) rfl (fun K hK => ?step2039) ?_
                        case step2039 =>
                          go_simp
                          have hb19 : Below wc.heap.size wc (X17.alloc (.cells #[.bool false, .int .i64 0, .slice av17 bn cv17] 97)) := hb17.alloc hb17.size _
                          have i19 : (X17.alloc (.cells #[.bool false, .int .i64 0, .slice av17 bn cv17] 97)).heap[X17.heap.size]? = some (.cells #[.bool false, .int .i64 0, .slice av17 bn cv17] 97 (0, 0)) := heap_alloc_new X17 _
                          have p19 := p17.later ((Below.refl _ X17).alloc (Nat.le_refl _) (.cells #[.bool false, .int .i64 0, .slice av17 bn cv17] 97))
                          have s19 := hbs17.later ((Below.refl _ X17).alloc (Nat.le_refl _) (.cells #[.bool false, .int .i64 0, .slice av17 bn cv17] 97))
                          generalize X17.alloc (.cells #[.bool false, .int .i64 0, .slice av17 bn cv17] 97) = X19 at hb19 i19 p19 s19 ⊢
                          refine hK.out _ _ ?hS2039 (fun hHeld => ?_)
                          case hS2039 => (intro _; (exact HS.out _ hb19))
                          replace hHeld := hHeld (by decide)
                          clear hK K
                          try simp only [Act.put, List.setIfInBounds_toArray, List.set_cons_zero, List.set_cons_succ]
                          refine anyD_ready (rs := [20]) (by kernel_rfl) (by simp) ?_
                          refine AllD.cons (o := _) rfl (fun K hK => ?step2040) ?_
                          case step2040 =>
                            rw [if_pos (by rfl)]
                            refine opwp_append_acts _ _ rfl wc.heap.size v14 x.2.2 rfl p19 (some ⟨X17.heap.size, 0, none⟩) 1 1 [.more B] rfl (IsRActs.more_at i19 ⟨s19, HZ17.out⟩) (by have := HM.out; omega) hb19.size ?_
                            intro v20 X20 o20 g20 _
                            have hb20 := Below.grownA hb19 p19 hb19.size g20
                            obtain ⟨a20, c20, hv20, hd20⟩ := o20.acts
                            obtain ⟨m20, hm20⟩ : ∃ m20, m20 = (x.2.2 ++ [Deed.more B]).length := ⟨_, rfl⟩
                            rw [← hm20] at hv20 hd20
                            have HD20 := Lib.hid hd20
                            have q20 : X20.cell? ⟨g, k * 3 + 2, none⟩ = some (.slice al m capl) := (HS.out _ hb20).2.1
                            have f20 : X20.frozen? ⟨g, k * 3 + 2, none⟩ = false := (HS.out _ hb20).2.2
                            subst hv20
                            clear g20 hd20 o20 hm20
                            refine hK.out _ _ ?hS2040 (fun hHeld => ?_)
                            case hS2040 => (intro _; (exact HS.out _ hb20))
                            replace hHeld := hHeld (by decide)
                            clear hK K
                            try simp only [Act.put, List.setIfInBounds_toArray, List.set_cons_zero, List.set_cons_succ]
                            refine anyD_ready (rs := [21]) (by kernel_rfl) (by simp) ?_
                            refine AllD.cons (o := _) rfl (fun K hK => ?step2041) ?_
                            case step2041 =>
                              go_simp
                              refine hK.out _ _ ?hS2041 (fun hHeld => ?_)
                              case hS2041 => (intro _; (exact HS.out _ hb20))
                              replace hHeld := hHeld (by decide)
                              clear hK K
                              try simp only [Act.put, List.setIfInBounds_toArray, List.set_cons_zero, List.set_cons_succ]
                              refine anyD_take (i := 22) (v := ?v2042) rfl (by kernel_rfl) (by kernel_rfl) (by kernel_rfl) (by kernel_rfl) (fun _ _ _ h => h) (Or.inl ⟨?hw2042, ?hy2042⟩) (by assumption) ?_
                              case hw2042 => rfl
                              case hy2042 => (intro w hSw; (try dsimp only at hSw); go_simp; (first | done | with_reducible rfl))
                              try simp only [Act.put, List.setIfInBounds_toArray, List.set_cons_zero, List.set_cons_succ]
                              refine anyD_ready (rs := [23]) (by kernel_rfl) (by simp) ?_
                              refine AllD.cons (o := _) rfl (fun K hK => ?step2043) ?_
                              case step2043 =>
                                go_simp
                                refine hK.out _ _ ?hS2043 (fun hHeld => ?_)
                                case hS2043 => exact fun h => absurd rfl h
                                clear hK K
                                try simp only [Act.put, List.setIfInBounds_toArray, List.set_cons_zero, List.set_cons_succ]
                                refine anyD_done (by kernel_rfl) ?_ _
                                obtain ⟨hR, hMV⟩ := (HAT.out X20 hb20).2.1 _ _ _ _ HD20.out
                                have HE := Lib.hid (HK.out _ hR ((MovedR.of_below hb20 HX.out.2.2.1 HX.out.2.2.2).trans hMV))
                                clear hR hMV
                                go_wp2_with fail
                                go_ret
                                exact HE.out
                              exact AllD.nil
                            exact AllD.nil
                          exact AllD.nil
                        exact AllD.nil
                      exact AllD.nil
                    exact AllD.nil
                  exact AllD.nil
                exact AllD.nil
end Go.Proofs.YtjkkfjmloleedaaGreat
