/- cert: Until -/
import Derived.Test.YtlmimocmllhbkaaCHas
namespace Go.Proofs.Ytlmimocmllhbkaa
open Go.RowKit
theorem Until_none (ao : Option Addr) (n cap : Nat) (L : List Crt) (q : Qst) (w : World) (h : IsCerts w ao n cap L) (hno : (decide ((checkP L).1 = 0) && anyP L q) = false) :
    Calls Try.prog 7 #[.slice ao n cap, .int .i64 q.cu, .int .i64 q.ju, .int .i64 q.ca, .int .i64 q.da] w fun e w' => e = .returned (.tuple #[.int .i64 0, .bool false]) ∧ Below w.heap.size w w' := by
  have hcall := Holds_any ao n cap L q w h
  rw [hno] at hcall
  have HX := Lib.hid hcall
  clear hcall h hno
  go_enter Try.func7, Try.ntmps7
  go_wp2_with fail
  refine HX.out.mono ?_
  rintro e w1 ⟨rfl, hb1⟩
  go_wp2_with fail
  go_ret2
  exact ⟨rfl, hb1⟩
/-- up to which day behind day d, the first i certificates looked at. -/
def nx (L : List Crt) (q : Qst) (d : Int) : Nat → Int
  | 0 => d
  | i + 1 => if fitsP q (L.getD i c0) = true ∧ (L.getD i c0).fr ≤ d + 1 then max (nx L q d i) (L.getD i c0).to else nx L q d i
def untilF (L : List Crt) (q : Qst) (n : Nat) : Nat → Int → Int
  | 0, d => d
  | f + 1, d => if nx L q d n = d then d else untilF L q n f (nx L q d n)
theorem nx_le {L : List Crt} {q : Qst} {d : Int} {n : Nat} (hb : ∀ i, i < n → 0 ≤ (L.getD i c0).to ∧ (L.getD i c0).to ≤ 3652058) (hd : 0 ≤ d ∧ d ≤ 3652058) : ∀ i, i ≤ n → d ≤ nx L q d i ∧ nx L q d i ≤ 3652058
  | 0, _ => ⟨Int.le_refl _, hd.2⟩
  | i + 1, h => by
    have := nx_le (q := q) hb hd i (by omega)
    have h2 := hb i (by omega)
    unfold nx
    split
    · omega
    · exact this
set_option maxRecDepth 100000 in
set_option maxHeartbeats 1000000 in
theorem Until_any (ao : Option Addr) (n cap : Nat) (L : List Crt) (q : Qst) (w : World) (h : IsCerts w ao n cap L) (hyes : (decide ((checkP L).1 = 0) && anyP L q) = true)
    (hb : ∀ i, i < n → 0 ≤ (L.getD i c0).to ∧ (L.getD i c0).to ≤ 3652058) (hd : 0 ≤ q.da ∧ q.da ≤ 3652058) :
    Calls Try.prog 7 #[.slice ao n cap, .int .i64 q.cu, .int .i64 q.ju, .int .i64 q.ca, .int .i64 q.da] w fun e w' => e = .returned (.tuple #[.int .i64 (untilF L q n 3652060 q.da), .bool true]) ∧ Below w.heap.size w w' := by
  have hcall := Holds_any ao n cap L q w h
  rw [hyes] at hcall
  obtain ⟨hl, hnc, hcm, hc, h0⟩ := h
  unfold maxLen at hcm
  have HL := Lib.hid hl
  have HC := Lib.hid hc
  have HX := Lib.hid hcall
  have HB := Lib.hid hb
  have HD := Lib.hid hd
  clear hcall hl hc hyes hb hd
  obtain ⟨R, hR⟩ : ∃ R, R = untilF L q n 3652060 q.da := ⟨_, rfl⟩
  rw [← hR]
  have HR := Lib.hid hR
  clear hR
  go_enter Try.func7, Try.ntmps7
  go_wp2_with fail
  refine HX.out.mono ?_
  rintro e w1 ⟨rfl, hb1⟩
  go_wp2_with fail
  obtain ⟨B, hB⟩ : ∃ B, B = w1.heap.size := ⟨_, rfl⟩
  have hsz : w.heap.size ≤ B := by rw [hB]; exact hb1.size
  generalize hw2 : w1.alloc (Obj.cells #[Value.int IntKind.i64 q.cu, Value.int IntKind.i64 q.ju, Value.int IntKind.i64 q.ca, Value.int IntKind.i64 q.da] 39) = w2
  have hh : w2.heap[B]? = some (.cells #[Value.int IntKind.i64 q.cu, Value.int IntKind.i64 q.ju, Value.int IntKind.i64 q.ca, Value.int IntKind.i64 q.da] 39 (0, 0)) := by rw [← hw2, hB]; exact alloc_new _ _
  have hb2 : Below w.heap.size w w2 := by rw [← hw2]; exact hb1.alloc hb1.size _
  rw [← hB]
  have HH := Lib.hid hh
  have HB2 := Lib.hid hb2
  have HSZ := Lib.hid hsz
  clear hb1 hB hw2 hh hb2 hsz
  go_loopw [13] (fun _ wr => ∃ d f, Hid (0 ≤ d ∧ d ≤ 3652058) ∧ Hid ((3652058 - d).toNat < f) ∧ Hid (R = untilF L q n f d) ∧ Hid (wr.heap[B]? = some (.cells #[Value.int IntKind.i64 q.cu, Value.int IntKind.i64 q.ju, Value.int IntKind.i64 q.ca, Value.int IntKind.i64 d] 39 (0, 0))) ∧ Hid (Below w.heap.size w wr))
    (fun _ wr => (3652058 - intOf ((wr.cell? ⟨B, 3, none⟩).getD undef)).toNat)
  case atStart => exact ⟨q.da, 3652060, HD, (by have := HD.out; exact Lib.hid (by omega)), HR, HH, HB2⟩
  case round =>
    obtain ⟨d, f, hd, hf, hr, hrow, hbl⟩ := hrel
    have f3 : wr.cell? ⟨B, 3, none⟩ = some (.int .i64 d) := cell_of_row _ _ _ _ _ _ hrow.out
    go_wp2_with fail
    have F3 := Lib.hid f3
    clear f3
    go_loopw [13, 32] (fun v i wr2 => ∃ k l, k ≤ n ∧ i = .int .i64 ((k : Nat) : Int) ∧ v = .int .i64 l ∧ Hid (l = nx L q d k) ∧ Hid (wr2.heap[B]? = some (.cells #[Value.int IntKind.i64 q.cu, Value.int IntKind.i64 q.ju, Value.int IntKind.i64 q.ca, Value.int IntKind.i64 d] 39 (0, 0))) ∧ Hid (Below w.heap.size w wr2))
      (fun _ i _ => n - (intOf i).toNat)
    case atStart => exact ⟨0, d, by omega, rfl, rfl, rfl, hrow, hbl⟩
    case round =>
      obtain ⟨k, l, hk, rfl, rfl, hl, hrow2, hbl2⟩ := hrel
      by_cases hlt : k < n
      · have hi0 : (0 : Int) ≤ (k : Int) := by omega
        have hi5 : (k : Int) < (n : Int) := by omega
        obtain ⟨b, off, rfl, hcs⟩ := HC.out (by omega)
        have hcs2 := hcs.later hbl2.out (hcs.lt (by omega))
        obtain ⟨c, hc⟩ : ∃ c, c = L.getD k c0 := ⟨_, rfl⟩
        have hk0 := hcs2 k hlt
        rw [← hc] at hk0
        have e0 : wr.cell? ⟨b, off + k * 5, none⟩ = some (.int .i64 c.cu) := hk0 0 (by omega)
        have e1 : wr.cell? ⟨b, off + k * 5 + 1, none⟩ = some (.int .i64 c.ju) := hk0 1 (by omega)
        have e2 : wr.cell? ⟨b, off + k * 5 + 2, none⟩ = some (.int .i64 c.ca) := hk0 2 (by omega)
        have e3 : wr.cell? ⟨b, off + k * 5 + 3, none⟩ = some (.int .i64 c.fr) := hk0 3 (by omega)
        have e4 : wr.cell? ⟨b, off + k * 5 + 4, none⟩ = some (.int .i64 c.to) := hk0 4 (by omega)
        have HCE := Lib.hid hc
        have HBR : Hid (B < wr.heap.size) := Lib.hid (block_lt_of_cell (cell_of_row _ _ _ _ _ _ hrow2.out : wr.cell? ⟨B, 3, none⟩ = some (.int .i64 d)))
        clear hcs hcs2 hk0 hc
        have hal : Below wr.heap.size wr (wr.alloc (Obj.cells #[Value.int IntKind.i64 c.cu, Value.int IntKind.i64 c.ju, Value.int IntKind.i64 c.ca, Value.int IntKind.i64 c.fr, Value.int IntKind.i64 c.to] 30)) := (Below.refl _ _).alloc (Nat.le_refl _) _
        have a0 : (wr.alloc (Obj.cells #[Value.int IntKind.i64 c.cu, Value.int IntKind.i64 c.ju, Value.int IntKind.i64 c.ca, Value.int IntKind.i64 c.fr, Value.int IntKind.i64 c.to] 30)).cell? ⟨B, 0, none⟩ = some (.int .i64 q.cu) := (hal.cell (by dsimp only; exact HBR.out)).trans (cell_of_row _ _ _ _ _ _ hrow2.out)
        have a1 : (wr.alloc (Obj.cells #[Value.int IntKind.i64 c.cu, Value.int IntKind.i64 c.ju, Value.int IntKind.i64 c.ca, Value.int IntKind.i64 c.fr, Value.int IntKind.i64 c.to] 30)).cell? ⟨B, 1, none⟩ = some (.int .i64 q.ju) := (hal.cell (by dsimp only; exact HBR.out)).trans (cell_of_row _ _ _ _ _ _ hrow2.out)
        have a2 : (wr.alloc (Obj.cells #[Value.int IntKind.i64 c.cu, Value.int IntKind.i64 c.ju, Value.int IntKind.i64 c.ca, Value.int IntKind.i64 c.fr, Value.int IntKind.i64 c.to] 30)).cell? ⟨B, 2, none⟩ = some (.int .i64 q.ca) := (hal.cell (by dsimp only; exact HBR.out)).trans (cell_of_row _ _ _ _ _ _ hrow2.out)
        have a3 : (wr.alloc (Obj.cells #[Value.int IntKind.i64 c.cu, Value.int IntKind.i64 c.ju, Value.int IntKind.i64 c.ca, Value.int IntKind.i64 c.fr, Value.int IntKind.i64 c.to] 30)).cell? ⟨B, 3, none⟩ = some (.int .i64 d) := (hal.cell (by dsimp only; exact HBR.out)).trans (cell_of_row _ _ _ _ _ _ hrow2.out)
        have HAL := Lib.hid hal
        clear hal
        have hcall : ∀ w', Calls Try.prog 17 #[.agg #[.int .i64 q.cu, .int .i64 q.ju, .int .i64 q.ca, .int .i64 d], .agg #[.int .i64 c.cu, .int .i64 c.ju, .int .i64 c.ca, .int .i64 c.fr, .int .i64 c.to]] w' fun e w2 => e = .returned (.bool (fitsP q c)) ∧ Below w'.heap.size w' w2 := fun w' => fits_any ⟨q.cu, q.ju, q.ca, d⟩ c w'
        have hnx : nx L q d (k + 1) = if fitsP q c = true ∧ c.fr ≤ d + 1 then max l c.to else l := by rw [HCE.out, hl.out]; rfl
        obtain ⟨p, hp⟩ : ∃ p, p = fitsP q c := ⟨_, rfl⟩
        rw [← hp] at hcall hnx
        have HP := Lib.hid hp
        have HNX := Lib.hid hnx
        have HXC := Lib.hid hcall
        have hwd : IntKind.i64.wrap (d + 1) = d + 1 := IntWalk.i64_in _ (by have := hd.out; omega)
        clear hp hnx hcall
        cases p with
        | false =>
          go_wp2_with fail
          refine (HXC.out _).mono ?_
          rintro e w3 ⟨rfl, hb3⟩
          have h3 : w3.cell? ⟨wr.heap.size, 3, none⟩ = some (.int .i64 c.fr) := (hb3.cell (p := ⟨wr.heap.size, 3, none⟩) (by simp)).trans ((cell_of_row _ _ _ _ _ _ (alloc_new wr _)).trans rfl)
          have h4 : w3.cell? ⟨wr.heap.size, 4, none⟩ = some (.int .i64 c.to) := (hb3.cell (p := ⟨wr.heap.size, 4, none⟩) (by simp)).trans ((cell_of_row _ _ _ _ _ _ (alloc_new wr _)).trans rfl)
          have h5 : w3.cell? ⟨B, 3, none⟩ = some (.int .i64 d) := (hb3.cell (p := ⟨B, 3, none⟩) (by have := HBR.out; simp; omega)).trans a3
          have h6 : w3.heap[B]? = some (.cells #[Value.int IntKind.i64 q.cu, Value.int IntKind.i64 q.ju, Value.int IntKind.i64 q.ca, Value.int IntKind.i64 d] 39 (0, 0)) := (hb3.block B (by have := HBR.out; simp; omega)).trans ((HAL.out.block B HBR.out).trans hrow2.out)
          have hb4 : Below w.heap.size w w3 := hbl2.out.trans ((HAL.out.trans (hb3.mono (by simp))).mono hbl2.out.size)
          have H6 := Lib.hid h6
          have HB4 := Lib.hid hb4
          clear h6 hb3 hb4
          go_wp2_with fail
          go_roundw
          case rel =>
            refine ⟨k + 1, _, by omega, by go_num, rfl, ?_, H6.out, HB4.out⟩
            have h1 := HNX.out
            rw [if_neg (by rintro ⟨h, _⟩; cases h)] at h1
            exact h1.symm
          case measure => simp [intOf]; omega
        | true =>
          by_cases hfr : c.fr ≤ d + 1
          · have hN : nx L q d (k + 1) = max l c.to := by rw [HNX.out, if_pos ⟨rfl, hfr⟩]
            have HN := Lib.hid hN
            clear HNX hN
            have HFR := Lib.hid hfr
            go_wp2_with fail
            refine (HXC.out _).mono ?_
            rintro e w3 ⟨rfl, hb3⟩
            have h3 : w3.cell? ⟨wr.heap.size, 3, none⟩ = some (.int .i64 c.fr) := (hb3.cell (p := ⟨wr.heap.size, 3, none⟩) (by simp)).trans ((cell_of_row _ _ _ _ _ _ (alloc_new wr _)).trans rfl)
            have h4 : w3.cell? ⟨wr.heap.size, 4, none⟩ = some (.int .i64 c.to) := (hb3.cell (p := ⟨wr.heap.size, 4, none⟩) (by simp)).trans ((cell_of_row _ _ _ _ _ _ (alloc_new wr _)).trans rfl)
            have h5 : w3.cell? ⟨B, 3, none⟩ = some (.int .i64 d) := (hb3.cell (p := ⟨B, 3, none⟩) (by have := HBR.out; simp; omega)).trans a3
            have h6 : w3.heap[B]? = some (.cells #[Value.int IntKind.i64 q.cu, Value.int IntKind.i64 q.ju, Value.int IntKind.i64 q.ca, Value.int IntKind.i64 d] 39 (0, 0)) := (hb3.block B (by have := HBR.out; simp; omega)).trans ((HAL.out.block B HBR.out).trans hrow2.out)
            have hb4 : Below w.heap.size w w3 := hbl2.out.trans ((HAL.out.trans (hb3.mono (by simp))).mono hbl2.out.size)
            have H6 := Lib.hid h6
            have HB4 := Lib.hid hb4
            clear h6 hb3 hb4
            go_wp2_with fail
            go_roundw
            case rel =>
              refine ⟨k + 1, _, by omega, by go_num, rfl, ?_, H6.out, HB4.out⟩
              have h1 := HN.out
              refine Lib.hid ?_
              rw [h1]
              split <;> omega
            case measure => simp [intOf]; omega
          · have HFR := Lib.hid hfr
            go_wp2_with fail
            refine (HXC.out _).mono ?_
            rintro e w3 ⟨rfl, hb3⟩
            have h3 : w3.cell? ⟨wr.heap.size, 3, none⟩ = some (.int .i64 c.fr) := (hb3.cell (p := ⟨wr.heap.size, 3, none⟩) (by simp)).trans ((cell_of_row _ _ _ _ _ _ (alloc_new wr _)).trans rfl)
            have h4 : w3.cell? ⟨wr.heap.size, 4, none⟩ = some (.int .i64 c.to) := (hb3.cell (p := ⟨wr.heap.size, 4, none⟩) (by simp)).trans ((cell_of_row _ _ _ _ _ _ (alloc_new wr _)).trans rfl)
            have h5 : w3.cell? ⟨B, 3, none⟩ = some (.int .i64 d) := (hb3.cell (p := ⟨B, 3, none⟩) (by have := HBR.out; simp; omega)).trans a3
            have h6 : w3.heap[B]? = some (.cells #[Value.int IntKind.i64 q.cu, Value.int IntKind.i64 q.ju, Value.int IntKind.i64 q.ca, Value.int IntKind.i64 d] 39 (0, 0)) := (hb3.block B (by have := HBR.out; simp; omega)).trans ((HAL.out.block B HBR.out).trans hrow2.out)
            have hb4 : Below w.heap.size w w3 := hbl2.out.trans ((HAL.out.trans (hb3.mono (by simp))).mono hbl2.out.size)
            have H6 := Lib.hid h6
            have HB4 := Lib.hid hb4
            clear h6 hb3 hb4
            go_wp2_with fail
            go_roundw
            case rel =>
              refine ⟨k + 1, _, by omega, by go_num, rfl, ?_, H6.out, HB4.out⟩
              have h1 := HNX.out
              rw [if_neg (by rintro ⟨_, h⟩; have := HFR.out; omega)] at h1
              exact h1.symm
            case measure => simp [intOf]; omega
      · obtain rfl : k = n := by omega
        have f3 : wr.cell? ⟨B, 3, none⟩ = some (.int .i64 d) := cell_of_row _ _ _ _ _ _ hrow2.out
        have f3f : wr.frozen? ⟨B, 3, none⟩ = false := frozen_of_row _ _ _ _ _ hrow2.out
        by_cases hld : l = d
        · have hld1 : ((l : Int) == d) = true := by simpa using hld
          have HLD := Lib.hid hld
          clear hld
          go_wp2_with fail
          go_ret2
          refine ⟨?_, hbl2.out⟩
          have h1 := hr.out
          have h2 := hf.out
          obtain ⟨g, rfl⟩ : ∃ g, f = g + 1 := ⟨f - 1, by omega⟩
          rw [untilF, ← hl.out, if_pos HLD.out, ← HLD.out] at h1
          rw [h1]
          rfl
        · have hld1 : ((l : Int) == d) = false := by simpa using hld
          have HLD := Lib.hid hld
          clear hld
          have hnl := nx_le (q := q) HB.out hd.out k (Nat.le_refl _)
          rw [← hl.out] at hnl
          have HNL := Lib.hid hnl
          clear hnl
          have hset : (wr.setCell ⟨B, 3, none⟩ (.int .i64 l)).heap[B]? = some (.cells #[Value.int IntKind.i64 q.cu, Value.int IntKind.i64 q.ju, Value.int IntKind.i64 q.ca, Value.int IntKind.i64 l] 39 (0, 0)) :=
            heap_setCell_same wr B 3 _ _ (.int .i64 l) hrow2.out
          have HSET := Lib.hid hset
          clear hset
          go_wp2_with fail
          go_roundw
          case rel =>
            have h1 := hr.out
            have h2 := hf.out
            have h3 := HNL.out
            have h4 : ¬ l = d := HLD.out
            obtain ⟨g, rfl⟩ : ∃ g, f = g + 1 := ⟨f - 1, by omega⟩
            rw [untilF, ← hl.out, if_neg h4] at h1
            have h5 := hd.out
            exact ⟨l, g, ⟨by omega, h3.2⟩, Lib.hid (by omega), h1, HSET, hbl2.out.setCell HSZ.out _⟩
          case measure =>
            rw [F3.out, cell_of_row _ _ _ _ _ _ HSET.out]
            have h3 := HNL.out
            have h4 : ¬ l = d := HLD.out
            have h5 := hd.out
            simp [intOf]
            omega
end Go.Proofs.Ytlmimocmllhbkaa
