/- layer 28's statements: calls that came in; long -/
import Derived.Test.YtjkkfjmloleedaaGreatPSame
import Derived.Deep.Matrix
import Derived.Deep.Slices
import Derived.WideShapes
import Derived.ChangeSlices
import Derived.SizedLaws
import Derived.Test.YtjkkfjmloleedaaGreatLOne
import Derived.Test.YtjkkfjmloleedaaGreatRow3
set_option linter.unusedSimpArgs false
set_option linter.unusedVariables false
namespace Go.Proofs.YtjkkfjmloleedaaGreat
open Go.RowKit
theorem bytes_of_cells {w : World} {x : Addr} {len cap : Nat} {zs : List Int} (h1 : len ≤ cap) (h2 : cap ≤ maxLen) (h3 : zs.length = cap)
    (h4 : ∀ i, i < zs.length → w.cell? (x.add i) = some (.int .u8 (zs.getD i 0))) (h5 : ∀ n ∈ zs, (Lit.int .u8 n).wf = true) : ∃ l, IsBytes w (some x) len cap l := by
  refine ⟨(zs.take len).map fun n => UInt8.ofNat n.toNat, by simp; omega, h1, h2, fun hne => ?_, fun h => by cases h⟩
  have hpos : 0 < len := by
    rcases Nat.eq_zero_or_pos len with h | h
    · subst h; simp at hne
    · exact h
  obtain ⟨b, off, spot⟩ := x
  have h0 := h4 0 (by omega)
  have hs : spot = none := by
    cases spot with
    | none => rfl
    | some s =>
      simp only [Addr.add, if_true, World.cell?] at h0
      split at h0 <;> simp at h0
  subst hs
  refine ⟨b, off, rfl, fun i hi => ?_⟩
  have hi2 : i < len := by simp at hi; omega
  have hc := h4 i (by omega)
  have e : (⟨b, off, none⟩ : Addr).add i = ⟨b, off + i, none⟩ := by unfold Addr.add; split <;> simp_all
  rw [e] at hc
  rw [hc]
  have hz : zs.getD i 0 ∈ zs := by
    rw [List.getD_eq_getElem?_getD, List.getElem?_eq_getElem (by omega : i < zs.length)]
    exact List.getElem_mem _
  have hw := h5 _ hz
  simp only [Lit.wf, decide_eq_true_eq, Bool.and_eq_true] at hw
  have hg : ((zs.take len).map fun n => UInt8.ofNat n.toNat).getD i 0 = UInt8.ofNat (zs.getD i 0).toNat := by
    simp [List.getD, hi2, List.getElem?_eq_getElem (by omega : i < zs.length)]
  rw [hg]
  have hb : 0 ≤ zs.getD i 0 ∧ zs.getD i 0 ≤ 255 := by
    exact hw
  congr 1
  rw [UInt8.toNat_ofNat']
  congr 1
  omega
theorem wf_i64 {a : Int} (h : (Lit.int .i64 a).wf = true) : -9223372036854775808 ≤ a ∧ a ≤ 9223372036854775807 := by
  simp only [Lit.wf, decide_eq_true_eq, Bool.and_eq_true] at h
  exact h
section
variable {H : Type} {enc : TypeId × Value → H} {w : World} {base : Nat} {held : Bool}
theorem bytes_in {fuel : Nat} {ao : Option Addr} {len cap : Nat} {x : DataW H × List MemPlace} (h : DataW.trod enc Tryz.prog w base (fun _ => true) held fuel 36 [.slice ao len cap] = some x) : ∃ L, IsBytes w ao len cap L := by
  rcases Go.ChangeShapes.open_ints Tryz.underlying36 Tryz.underlying5 (by kernel_rfl) h with ⟨hcs, _⟩ | ⟨a, l, c, zs, hcs, _, hl, hm, hz, _, hcell, hwz⟩
  · simp at hcs
    obtain ⟨rfl, rfl, rfl⟩ := hcs
    exact ⟨[], IsBytes.nil w⟩
  · simp at hcs
    obtain ⟨rfl, rfl, rfl⟩ := hcs
    exact bytes_of_cells hl hm (by simpa using hz) hcell hwz
theorem Tryz.bytesByte : Tryz.prog.bytesOf 5 = 1 := by kernel_rfl
theorem bytes_in_sized {fuel : Nat} {ao : Option Addr} {len cap : Nat} {d : DataW H} {pl : List MemPlace} (h : DataW.trod enc Tryz.prog w base (fun _ => true) held fuel 36 [.slice ao len cap] = some (d, pl))
    (hz : ∀ n ∈ d.weights Tryz.prog 36, n ≤ reachBytes) : ∃ L, IsBytes w ao len cap L ∧ len ≤ 140737488355328 := by
  obtain ⟨L, hL⟩ := bytes_in h
  refine ⟨L, hL, ?_⟩
  rcases Go.ChangeShapes.open_ints Tryz.underlying36 Tryz.underlying5 (by kernel_rfl) h with ⟨hcs, _⟩ | ⟨a, l, c, zs, hcs, _, hl, hm, hzl, hx, hcell, hwz⟩
  · simp at hcs
    omega
  · simp at hcs
    obtain ⟨rfl, rfl, rfl⟩ := hcs
    injection hx with hx _
    subst hx
    have hw := hz zs.length (by
      simp only [DataW.weights, Tryz.underlying36, Tryz.bytesByte, Nat.mul_one]
      rw [show ((Go.ChangeShapes.lits (H := H) .u8 (zs.take len)).length + (Go.ChangeShapes.lits (H := H) .u8 (zs.drop len)).length) = zs.length by simp [Go.ChangeShapes.lits]; omega]
      exact List.mem_cons_self)
    have h47 : reachBytes < 2 ^ 47 := reachBytes_lt
    have : zs.length = cap := by simpa using hzl
    omega
end
theorem Tryz.cellsB : Tryz.prog.cellsOf 36 = 1 := by kernel_rfl
/-- an address that bears a cell has no spot. -/
theorem spot_of_cell {w : World} {a : Addr} {v : Value} (h : w.cell? (a.add 0) = some v) : a.spot = none := by
  obtain ⟨b, off, spot⟩ := a
  cases spot with
  | none => rfl
  | some s =>
    exfalso
    simp only [Addr.add, World.cell?] at h
    split at h
    · simp at h
    · cases h
theorem add_add (b off i j : Nat) : ((⟨b, off, none⟩ : Addr).add i).add j = ⟨b, off + i + j, none⟩ := by
  have e1 : (⟨b, off, none⟩ : Addr).add i = ⟨b, off + i, none⟩ := by unfold Addr.add; split <;> simp_all
  rw [e1]; unfold Addr.add; split <;> simp_all
theorem Tryz.cellsAct : Tryz.prog.cellsOf 38 = 5 := by kernel_rfl
theorem Tryz.cellsInt : Tryz.prog.cellsOf 3 = 1 := by kernel_rfl
theorem Tryz.cellsStr : Tryz.prog.cellsOf 9 = 1 := by kernel_rfl
/-- what a call holds. -/
structure ActOk (w : World) (x : ActL) : Prop where
  kind : I64 x.kind
  size : I64 x.size
  keep : I64 x.keep
  nm : x.nm.size ≤ maxLen
  B : IsBytes w x.ba x.bn x.bc x.B
theorem ActOk.later {w w' : World} {x : ActL} (h : ActOk w x) (hb : Below w.heap.size w w') : ActOk w' x := ⟨h.kind, h.size, h.keep, h.nm, h.B.later hb⟩
def act0 : ActL := ⟨0, 0, 0, ByteArray.empty, none, 0, 0, []⟩
/-- a slice of calls. -/
def IsActs (w : World) (ao : Option Addr) (n cap : Nat) (X : List ActL) : Prop :=
  X.length = n ∧ n ≤ cap ∧ cap ≤ maxLen ∧ (0 < n → ∃ b off, ao = some ⟨b, off, none⟩ ∧ ∀ i, i < n → (∀ j, j < 5 → w.cell? ⟨b, off + i * 5 + j, none⟩ = (X.getD i act0).row[j]?) ∧ ActOk w (X.getD i act0))
/-- calls that came in: each list of bytes within the form's reach. -/
def IsActsZ (w : World) (ao : Option Addr) (n cap : Nat) (X : List ActL) : Prop := IsActs w ao n cap X ∧ ∀ i, i < n → (X.getD i act0).bn ≤ 140737488355328
theorem IsActs.later {w w' : World} {ao : Option Addr} {n cap : Nat} {X : List ActL} (h : IsActs w ao n cap X) (hb : Below w.heap.size w w') : IsActs w' ao n cap X := by
  obtain ⟨h1, h2, h3, h4⟩ := h
  refine ⟨h1, h2, h3, fun hn => ?_⟩
  obtain ⟨b, off, e, hc⟩ := h4 hn
  refine ⟨b, off, e, fun i hi => ?_⟩
  obtain ⟨q1, q2⟩ := hc i hi
  refine ⟨fun j hj => ?_, q2.later hb⟩
  have h0 := q1 j hj
  have hs : (X.getD i act0).row[j]? = some ((X.getD i act0).row[j]'(by show j < 5; exact hj)) := Array.getElem?_eq_getElem _
  rw [hs] at h0 ⊢
  exact (hb.cell (block_lt_of_cell h0)).trans h0
section
variable {H : Type} {enc : TypeId × Value → H} {w : World} {base : Nat} {held : Bool}
/-- a row's elements, one by one: a slice whose elements are of k cells. -/
theorem rows_of {k len m : Nat} {a : Addr} {α : Type} (d : α) (Q : List Value → α → Prop) (hk : 0 < k) (hl : len ≤ m) (h : ∀ i, i < m → ∃ cs', w.cells? base (a.add (i * k)) k = some cs' ∧ ∃ x, Q cs' x) :
    ∃ X : List α, X.length = len ∧ (0 < len → ∃ b off, a = ⟨b, off, none⟩ ∧ ∀ i, i < len → ∃ cs : List Value, cs.length = k ∧ (∀ j, j < k → w.cell? ⟨b, off + i * k + j, none⟩ = cs[j]?) ∧ Q cs (X.getD i d)) := by
  have each : ∀ i, ∃ x : α, i < len → ∃ cs, w.cells? base (a.add (i * k)) k = some cs ∧ Q cs x := by
    intro i
    by_cases hi : i < len
    · obtain ⟨cs, h1, x, h2⟩ := h i (by omega)
      exact ⟨x, fun _ => ⟨cs, h1, h2⟩⟩
    · exact ⟨d, fun h => absurd h hi⟩
  obtain ⟨R, hR⟩ := Classical.axiomOfChoice each
  refine ⟨(List.range len).map R, by simp, fun hpos => ?_⟩
  obtain ⟨b, off, spot⟩ := a
  have hs : spot = none := by
    obtain ⟨cs, h1, _⟩ := hR 0 hpos
    obtain ⟨_, hl0, hc⟩ := World.cells?_some h1
    have h0 := hc 0 hk
    rw [List.getElem?_eq_getElem (by omega)] at h0
    rw [Nat.zero_mul] at h0
    have hz : (⟨b, off, spot⟩ : Addr).add 0 = ⟨b, off, spot⟩ := rfl
    rw [hz] at h0
    exact spot_of_cell h0
  subst hs
  refine ⟨b, off, rfl, fun i hi => ?_⟩
  obtain ⟨cs, h1, h2⟩ := hR i hi
  obtain ⟨_, hl0, hc⟩ := World.cells?_some h1
  refine ⟨cs, hl0, fun j hj => by rw [← hc j hj, add_add], ?_⟩
  have : ((List.range len).map R).getD i d = R i := by simp [List.getD, hi]
  rw [this]
  exact h2
set_option maxRecDepth 100000 in
theorem act_cells {fuel : Nat} {cs : List Value} {d : DataW H} {pl : List MemPlace} (h : DataW.trod enc Tryz.prog w base (fun _ => true) held fuel 38 cs = some (d, pl)) :
    ∃ x : ActL, cs = x.row.toList ∧ ActOk w x ∧ ((∀ n ∈ d.weights Tryz.prog 38, n ≤ reachBytes) → x.bn ≤ 140737488355328) := by
  obtain ⟨xs, n, _, hx, hl, hxs, hf⟩ := DataW.trod_struct Tryz.underlying38 h
  rw [Tryz.cellsAct] at hl
  have hx6 : xs.length = 5 := hxs
  obtain ⟨v0, v1, v2, v3, v4, rfl⟩ : ∃ v0 v1 v2 v3 v4, cs = [v0, v1, v2, v3, v4] := by
    match cs, hl with
    | [a, b, c, d, e], _ => exact ⟨a, b, c, d, e, rfl⟩
  obtain ⟨x0, x1, x2, x3, x4, rfl⟩ : ∃ x0 x1 x2 x3 x4, xs = [x0, x1, x2, x3, x4] := by
    match xs, hx6 with
    | [a, b, c, d, e], _ => exact ⟨a, b, c, d, e, rfl⟩
  have f0 : DataW.trod enc Tryz.prog w base (fun _ => true) held n 3 (([v0, v1, v2, v3, v4].drop 0).take (Tryz.prog.cellsOf 3)) = some x0 := hf 0 _ rfl
  have f1 : DataW.trod enc Tryz.prog w base (fun _ => true) held n 3 (([v0, v1, v2, v3, v4].drop 1).take (Tryz.prog.cellsOf 3)) = some x1 := hf 1 _ rfl
  have f2 : DataW.trod enc Tryz.prog w base (fun _ => true) held n 3 (([v0, v1, v2, v3, v4].drop 2).take (Tryz.prog.cellsOf 3)) = some x2 := hf 2 _ rfl
  have f3 : DataW.trod enc Tryz.prog w base (fun _ => true) held n 9 (([v0, v1, v2, v3, v4].drop 3).take (Tryz.prog.cellsOf 9)) = some x3 := hf 3 _ rfl
  have f4 : DataW.trod enc Tryz.prog w base (fun _ => true) held n 36 (([v0, v1, v2, v3, v4].drop 4).take (Tryz.prog.cellsOf 36)) = some x4 := hf 4 _ rfl
  rw [Tryz.cellsInt] at f0 f1 f2
  rw [Tryz.cellsStr] at f3
  rw [Tryz.cellsB] at f4
  obtain ⟨z0, e0, _, q0⟩ := DataW.trod_int Tryz.underlying3 f0
  obtain ⟨z1, e1, _, q1⟩ := DataW.trod_int Tryz.underlying3 f1
  obtain ⟨z2, e2, _, q2⟩ := DataW.trod_int Tryz.underlying3 f2
  obtain ⟨s3, e3, _, q3⟩ := DataW.trod_string Tryz.underlying9 f3
  have g0 : [v0] = [Value.int .i64 z0] := e0
  have g1 : [v1] = [Value.int .i64 z1] := e1
  have g2 : [v2] = [Value.int .i64 z2] := e2
  have g3 : [v3] = [Value.string s3] := e3
  cases g0; cases g1; cases g2; cases g3
  have h4 : DataW.trod enc Tryz.prog w base (fun _ => true) held n 36 [v4] = some x4 := f4
  have hs4 : ∃ a n c, v4 = .slice a n c := by
    rcases Go.Deep.open_slice Tryz.underlying36 h4 with ⟨hcs, _⟩ | ⟨a, l, c, m, n, D, Pl, hcs, _⟩
    · cases hcs; exact ⟨_, _, _, rfl⟩
    · cases hcs; exact ⟨_, _, _, rfl⟩
  obtain ⟨ba, bn, bc, rfl⟩ := hs4
  obtain ⟨B, hB⟩ := bytes_in h4
  refine ⟨⟨z0, z1, z2, s3, ba, bn, bc, B⟩, rfl, ⟨wf_i64 q0, wf_i64 q1, wf_i64 q2, q3, hB⟩, fun hz => ?_⟩
  obtain ⟨d4, p4⟩ := x4
  injection hx with hx _
  subst hx
  obtain ⟨_, _, hb⟩ := bytes_in_sized h4 (fun k hk => hz k (by
    simp only [DataW.weights, Tryz.underlying38, List.map_cons]
    exact DataW.weights_mem_each (j := 4) rfl rfl k hk))
  exact hb
/-- n is among a call's weights. -/
def weightsAct (d : DataW H) (n : Nat) : Prop := n ∈ d.weights Tryz.prog 38
theorem weightsAll_act {d : DataW H} {n : Nat} : ∀ {l : List (DataW H)}, d ∈ l → weightsAct d n → n ∈ DataW.weightsAll Tryz.prog 38 l
  | x :: l, h, hm => by
    simp only [DataW.weightsAll, List.mem_append]
    rcases List.mem_cons.1 h with rfl | h
    · exact .inl hm
    · exact .inr (weightsAll_act h hm)
set_option maxRecDepth 100000 in
theorem acts_in_sized {fuel : Nat} {ao : Option Addr} {len cap : Nat} {d : DataW H} {pl : List MemPlace} (h : DataW.trod enc Tryz.prog w base (fun _ => true) held fuel 22 [.slice ao len cap] = some (d, pl))
    (hz : ∀ n ∈ d.weights Tryz.prog 22, n ≤ reachBytes) : ∃ X, IsActsZ w ao len cap X := by
  rcases Go.Deep.open_slice Tryz.underlying22 h with ⟨hcs, _⟩ | ⟨a, l, c, m, n, D, Pl, hcs, _, hl, hm, hmm, hx0, hx⟩
  · simp at hcs
    obtain ⟨rfl, rfl, rfl⟩ := hcs
    exact ⟨[], ⟨rfl, Nat.le_refl _, by unfold maxLen; omega, fun h => absurd h (by omega)⟩, fun i hi => absurd hi (by omega)⟩
  · simp at hcs
    obtain ⟨rfl, rfl, rfl⟩ := hcs
    rw [Tryz.cellsAct] at hx
    have hlm : len ≤ m := by rw [hmm]; split <;> omega
    injection hx0 with hx0 _
    subst hx0
    obtain ⟨P, hP, hc⟩ := rows_of (k := 5) (m := len) (len := len) act0 (fun cs x => cs = x.row.toList ∧ ActOk w x ∧ x.bn ≤ 140737488355328) (by omega) (Nat.le_refl _) (fun i hi => by
      obtain ⟨cs', h1, h2⟩ := hx i (by omega)
      obtain ⟨x, e1, hok, hbn⟩ := act_cells h2
      refine ⟨cs', h1, x, e1, hok, hbn (fun k hk => hz k (by
        simp only [DataW.weights, Tryz.underlying22]
        refine List.mem_cons_of_mem _ (List.mem_append_left _ ?_)
        exact weightsAll_act (List.mem_map.2 ⟨i, List.mem_range.2 hi, rfl⟩) hk))⟩)
    refine ⟨P, ⟨hP, hl, hm, fun hpos => ?_⟩, fun i hi => ?_⟩
    · obtain ⟨b, off, rfl, hcc⟩ := hc hpos
      refine ⟨b, off, rfl, fun i hi => ?_⟩
      obtain ⟨cs, _, hj, rfl, q, _⟩ := hcc i hi
      exact ⟨fun j hj5 => by rw [hj j hj5, Array.getElem?_toList], q⟩
    · obtain ⟨b, off, _, hcc⟩ := hc (by omega)
      obtain ⟨cs, _, hj, _, _, q⟩ := hcc i hi
      exact q
end
/-- how many bytes the first calls have. -/
def sumA (X : List ActL) (k : Nat) : Nat := ((X.take k).map (·.bn)).sum
theorem sumA_succ {X : List ActL} {k : Nat} (h : k < X.length) : sumA X (k + 1) = sumA X k + (X.getD k act0).bn := by
  unfold sumA
  rw [List.take_succ_eq_append_getElem h, List.map_append, List.sum_append, List.getD_eq_getElem?_getD, List.getElem?_eq_getElem h]
  simp
/-- a call's names and numbers are not too long. -/
def ActL.fits (x : ActL) : Prop := x.nm.size ≤ 100
/-- what 'long' tells: 'no' says that nothing is too long. -/
def LongR (X : List ActL) (n : Nat) (w : World) (e : Ending) (w' : World) : Prop := ∃ r, e = .returned (.bool r) ∧ (r = false → n ≤ 60 ∧ sumA X n ≤ 3000 ∧ ∀ i, i < n → (X.getD i act0).fits) ∧ w = w'
theorem LongR.yes {X : List ActL} {n : Nat} {w : World} : LongR X n w (.returned (.bool true)) w := ⟨true, rfl, (fun h => by cases h), rfl⟩
theorem LongR.no {X : List ActL} {n : Nat} {w : World} (h : n ≤ 60 ∧ sumA X n ≤ 3000 ∧ ∀ i, i < n → (X.getD i act0).fits) : LongR X n w (.returned (.bool false)) w := ⟨false, rfl, (fun _ => h), rfl⟩
set_option maxRecDepth 100000 in
set_option maxHeartbeats 1000000 in
theorem long_any (ao : Option Addr) (n cap : Nat) (X : List ActL) (w : World) (hX : IsActs w ao n cap X) (hs : ∀ k, k ≤ n → k ≤ 61 → sumA X k ≤ 9223372036854775807) :
    Calls Tryz.prog 6 #[.slice ao n cap] w fun e w' => LongR X n w e w' := by
  have hn1 := hX.2.1
  have hc1 := hX.2.2.1
  unfold maxLen at hc1
  have HX := Lib.hid hX
  have HS := Lib.hid hs
  clear hX hs
  go_enter Tryz.func6, Tryz.ntmps6
  go_wp2_with fail
  go_loopw [3, 4] (fun s i wr => ∃ k : Nat, k ≤ n ∧ k ≤ 61 ∧ i = .int .i64 k ∧ s = .int .i64 ((sumA X k : Nat) : Int) ∧ Hid (∀ i, i < k → (X.getD i act0).fits) ∧ w = wr) (fun _ i _ => 61 - (intOf i).toNat)
  case atStart => exact ⟨0, by omega, by omega, rfl, rfl, Lib.hid (fun i hi => absurd hi (by omega)), rfl⟩
  case round =>
    obtain ⟨k, hk, hk1, rfl, rfl, hfit, rfl⟩ := hrel
    by_cases hlt : k < n
    · have hi0 : (0 : Int) ≤ (k : Int) := by omega
      have hi1 : (k : Int) < (n : Int) := by omega
      by_cases h61 : (k : Int) < 61
      · obtain ⟨b, off, rfl, hcs⟩ := HX.out.2.2.2 (by omega)
        obtain ⟨hcell, hok⟩ := hcs k hlt
        have hstep := sumA_succ (X := X) (k := k) (by rw [HX.out.1]; exact hlt)
        have hle := HS.out (k + 1) (by omega) (by omega)
        have HFT : Hid ((X.getD k act0).nm.size ≤ 100 → ∀ i, i < k + 1 → (X.getD i act0).fits) := Lib.hid (fun q1 i hi => by
          by_cases h : i < k
          · exact hfit.out i h
          · obtain rfl : i = k := by omega
            exact q1)
        have hBn := hok.B.2.1
        have hBc := hok.B.2.2.1
        have hnm := hok.nm
        obtain ⟨x, hx⟩ : ∃ x, x = X.getD k act0 := ⟨_, rfl⟩
        rw [← hx] at hcell hstep HFT hBn hBc hnm
        clear hok hcs hx
        obtain ⟨xk, xs, xe, nm, ba, bn, bc, B⟩ := x
        unfold maxLen at hBc hnm
        dsimp only at hBn hBc hnm hstep HFT
        have g3 : w.cell? ⟨b, off + k * 5 + 3, none⟩ = some (.string nm) := hcell 3 (by omega)
        have g4 : w.cell? ⟨b, off + k * 5 + 4, none⟩ = some (.slice ba bn bc) := hcell 4 (by omega)
        have hw : IntKind.i64.wrap (((sumA X k : Nat) : Int) + (bn : Int)) = ((sumA X k : Nat) : Int) + (bn : Int) := IntWalk.i64_in _ (by omega)
        have HST := Lib.hid hstep
        clear hcell hstep hle
        by_cases q1 : (100 : Int) < (nm.size : Int)
        · go_wp2_with fail
          go_ret
          exact LongR.yes
        go_wp2_with fail
        go_roundw
        case rel => exact ⟨k + 1, by omega, by omega, by go_num, by rw [HST.out]; push_cast; rfl, Lib.hid (HFT.out (by omega)), trivial⟩
        case measure => simp [intOf]; omega
      · have hn : (60 : Int) < (n : Int) := by omega
        go_wp2_with fail
        go_ret
        exact LongR.yes
    · obtain rfl : k = n := by omega
      by_cases hn : (60 : Int) < (k : Int)
      · go_wp2_with fail
        go_ret
        exact LongR.yes
      · obtain ⟨sm, hsm⟩ : ∃ sm, sm = sumA X k := ⟨_, rfl⟩
        rw [← hsm]
        have HSM := Lib.hid hsm
        clear hsm
        by_cases h3 : (3000 : Int) < (sm : Int)
        · go_wp2_with fail
          go_ret
          exact LongR.yes
        · go_wp2_with fail
          go_ret
          exact LongR.no ⟨by omega, by rw [← HSM.out]; omega, hfit.out⟩
end Go.Proofs.YtjkkfjmloleedaaGreat

/- law 28: opened, awake -/
set_option linter.unusedSimpArgs false
set_option linter.unusedVariables false
namespace Go.Proofs.YtjkkfjmloleedaaGreat
open Go.RowKit
set_option linter.unusedSectionVars false
def logN : ByteArray := ⟨#[108, 111, 103]⟩
theorem logN_name : nameP logN.data.toList = true := by decide
theorem New_zero (w : World) : Calls Tryz.prog 5 #[] w fun e w' => ∃ d mb, e = .returned (.pointer (some ⟨d, 0, none⟩)) ∧ @DSig Z0 w' d mb w.heap.size (zeroG 0 0) ∧ Below w.heap.size w w' := by
  refine (@New_G Z0 w (fun _ => ([], [])) (fun k hk => hk.elim)).mono ?_
  rintro e w' ⟨d, mb, rfl, h1, h2, h3, h4⟩
  exact ⟨d, mb, rfl, ⟨[], _, -1, h3, ⟨List.Pairwise.nil, (fun x hx => by cases hx), (fun x hx => by cases hx)⟩, .inl ⟨rfl, rfl⟩⟩, h4⟩
theorem zeroG_lim : Lim 0 0 (zeroG 0 0) := ⟨(fun x hx => by cases hx), by decide, by decide, by decide, by decide⟩
theorem DSig.z0 {Z : Zone} {w : World} {d mb base : Nat} {g : Sig} (h : @DSig Z w d mb base g) : @DSig Z0 w d mb base g :=
  DSig.rezone (Z1 := Z) (Z2 := Z0) h (Nat.le_refl _) (fun _ _ _ => rfl) (fun _ _ _ _ _ _ => rfl) (fun _ _ _ _ => rfl) (fun k hk => hk.elim)
/-- what opened tells of a ledger that stands. -/
def OpenedR (recs : List (List UInt8)) (L : LSig) (g' : Sig) (d mb base : Nat) (w : World) (e : Ending) (w' : World) : Prop :=
  ∃ l v, e = .returned (.tuple #[.pointer (some ⟨l, 0, none⟩), v, .bool true]) ∧ w.heap.size ≤ l ∧ LedRow w' l d L.nm L.n L.size L.br ∧ @DSig Z0 w' d mb base g' ∧ Lists w' w.heap.size v recs ∧ FD base none w w'
set_option maxRecDepth 100000 in
theorem opened_S (base d mb q k : Nat) (g g' : Sig) (recs : List (List UInt8)) (L : LSig) (n : Int) (w : World) (hbs : base ≤ w.heap.size) (hd : @DSig Z0 w d mb base g) (hl : Lim q k g) (hq : q + 1 ≤ 4294967296) (hk : k + 2 ≤ 1000000) (ho : openG logN g = (0, some L, recs, g')) (hL : L.n = (recs.length : Nat)) (hn : n < 0 ∨ n = (recs.length : Nat)) :
    Calls Tryz.prog 41 #[.pointer (some ⟨d, 0, none⟩), .int .i64 n] w fun e w' => OpenedR recs L g' d mb base w e w' := by
  have H := Open_S logN (by decide) base d mb q k g w hbs hd hl hq hk
  rw [ho] at H
  obtain ⟨m, hm⟩ : ∃ m : Nat, m = recs.length := ⟨_, rfl⟩
  have HM := Lib.hid hm
  have H := Lib.hid H
  have HL := Lib.hid hL
  have HN : Hid (n < 0 ∨ n = (m : Nat)) := Lib.hid (by rw [hm]; exact hn)
  have hmm : ((m : Int) == (m : Int)) = true := by simp
  clear hd hbs hl hq hk ho hL hn hm
  unfold logN at H
  go_enter Tryz.func41, Tryz.ntmps41
  go_wp2_with fail
  refine H.out.mono ?_
  rintro e w2 ⟨hi, hi1, hi2, ⟨lv, v, rfl, h1, h2, h3, h4⟩, h5⟩
  have h4 : (some L = none ∧ lv = .pointer none) ∨ ∃ L' l, some L = some L' ∧ lv = .pointer (some ⟨l, 0, none⟩) ∧ w.heap.size ≤ l ∧ LedRow w2 l d L'.nm L'.n L'.size L'.br := h4
  obtain ⟨L', l, hLL, rfl, hl6, hl7⟩ : ∃ L' l, some L = some L' ∧ lv = .pointer (some ⟨l, 0, none⟩) ∧ w.heap.size ≤ l ∧ LedRow w2 l d L'.nm L'.n L'.size L'.br := h4.resolve_left (fun h => by cases h.1)
  injection hLL with hLL
  subst hLL
  have h2 : Lists w2 w.heap.size v recs := h2
  obtain ⟨la, lc, hv, _⟩ := h2.reads
  rw [← HM.out] at hv
  subst hv
  have hl8 := hl7
  rw [HL.out, ← HM.out] at hl8
  have HLN := Lib.hid (Len_any l d L.nm (m : Nat) L.size L.br w2 hl8)
  have HX := Lib.hid (And.intro hl6 (And.intro hl7 (And.intro (DSig.z0 h1) (And.intro h2 h3))))
  clear hi1 hi2 h1 h2 h3 h4 h5 hl6 hl7 hl8
  by_cases hneg : n < 0
  · clear HN
    go_wp2_with fail
    refine HLN.out.mono ?_
    rintro e w3 ⟨rfl, rfl⟩
    go_wp2_with fail
    go_ret3
    exact ⟨l, _, rfl, HX.out⟩
  · obtain rfl : n = (m : Nat) := HN.out.resolve_left hneg
    go_wp2_with fail
    refine HLN.out.mono ?_
    rintro e w3 ⟨rfl, rfl⟩
    go_wp2_with fail
    go_ret3
    exact ⟨l, _, rfl, HX.out⟩
theorem lit12 (w : World) : IsBytes (w.alloc (.cells #[.int .u8 1, .int .u8 2] 5)) (some ⟨w.heap.size, 0, none⟩) 2 2 [1, 2] := by
  refine ⟨rfl, Nat.le_refl _, by unfold maxLen; omega, fun _ => ⟨w.heap.size, 0, rfl, fun i hi => ?_⟩, fun h => by cases h⟩
  have h := heap_alloc_new w (.cells #[.int .u8 1, .int .u8 2] 5)
  match i, hi with
  | 0, _ => exact cell_of_row _ _ _ _ _ _ h
  | 1, _ => exact cell_of_row _ _ _ _ _ _ h
theorem lit_lists (w : World) : IsLists (((w.alloc (.cells #[.int .u8 1, .int .u8 2] 5)).alloc (.cells #[] 5)).alloc (.cells #[.slice (some ⟨w.heap.size, 0, none⟩) 2 2, .slice (some ⟨w.heap.size + 1, 0, none⟩) 0 0] 36)) (some ⟨w.heap.size + 1 + 1, 0, none⟩) 2 2 [[1, 2], []] := by
  have h := heap_alloc_new ((w.alloc (.cells #[.int .u8 1, .int .u8 2] 5)).alloc (.cells #[] 5)) (.cells #[.slice (some ⟨w.heap.size, 0, none⟩) 2 2, .slice (some ⟨w.heap.size + 1, 0, none⟩) 0 0] 36)
  rw [show ((w.alloc (.cells #[.int .u8 1, .int .u8 2] 5)).alloc (.cells #[] 5)).heap.size = w.heap.size + 1 + 1 by simp] at h
  have h12 := (lit12 w).later ((((Below.refl _ _).alloc (Nat.le_refl _) (.cells #[] 5))).alloc (by simp) (.cells #[.slice (some ⟨w.heap.size, 0, none⟩) 2 2, .slice (some ⟨w.heap.size + 1, 0, none⟩) 0 0] 36))
  refine ⟨rfl, Nat.le_refl _, by unfold maxLen; omega, (fun e => by cases e), fun i hi => ?_⟩
  match i, hi with
  | 0, _ => exact ⟨_, 0, _, _, _, rfl, cell_of_row _ _ _ _ _ _ h, h12⟩
  | 1, _ => exact ⟨_, 0, _, _, _, rfl, cell_of_row _ _ _ _ _ _ h, ⟨rfl, Nat.le_refl _, by unfold maxLen; omega, fun h => absurd rfl h, fun e => by cases e⟩⟩
theorem LedRow.below {w w' : World} {l d : Nat} {nm : ByteArray} {n sz : Int} {br : Bool} (h : LedRow w l d nm n sz br) (hb : Below w.heap.size w w') : LedRow w' l d nm n sz br := (hb.block l (heap_lt h)).trans h
set_option maxRecDepth 100000 in
set_option maxHeartbeats 2000000 in
theorem awake_any (w : World) : Calls Tryz.prog 9 #[] w fun e w' => e = .returned (.bool true) ∧ Below w.heap.size w w' := by
  obtain ⟨base, hbase⟩ : ∃ b, b = w.heap.size := ⟨_, rfl⟩
  have HBASE := Lib.hid hbase
  go_enter Tryz.func9, Tryz.ntmps9
  go_wp2_with fail
  refine (New_zero w).mono ?_
  rintro e w1 ⟨d, mb, rfl, hd, hb1⟩
  rw [← hbase] at hd hb1
  have hs1 : base ≤ w1.heap.size := by have := hb1.size; omega
  have HX1 := Lib.hid (And.intro hs1 (And.intro hd hb1))
  clear hs1 hd hb1 hbase
  go_wp2_with fail
  refine (opened_S base d mb 0 0 _ _ [] ⟨logN, 0, 0, false⟩ 0 w1 HX1.out.1 HX1.out.2.1 zeroG_lim (by omega) (by omega) (open_zero logN_name) rfl (.inr rfl)).mono ?_
  rintro e w2 ⟨l, v, rfl, hl, hlr, hd2, hls, hf2⟩
  obtain ⟨va, vc, rfl, _⟩ := hls.reads
  have hlb : base ≤ l := Nat.le_trans HX1.out.1 hl
  have hs2 : base ≤ w2.heap.size := Nat.le_trans HX1.out.1 hf2.below.size
  have HX2 := Lib.hid (And.intro hlb (And.intro hs2 (And.intro hlr (And.intro hd2 hf2.below))))
  clear hl hlr hd2 hls hf2 hlb hs2
  have hb3 : Below w2.heap.size w2 (w2.alloc (.cells #[.int .u8 1, .int .u8 2] 5)) := (Below.refl _ _).alloc (Nat.le_refl _) _
  have HB3 := Lib.hid (And.intro hb3 (lit12 w2))
  clear hb3
  go_wp2_with fail
  have ha := @Add_S Z0 base d mb l 30 10 ⟨logN, 0, 0, false⟩ (oneG logN [] 2 0) _ 2 2 [1, 2] _ (by decide) (Nat.le_trans HX2.out.2.1 HB3.out.1.size) HX2.out.1 (HX2.out.2.2.1.below HB3.out.1) (@DSig.later Z0 _ _ _ _ _ _ HX2.out.2.2.2.1 HB3.out.1) HB3.out.2 (oneG_lim (by decide) (by decide) (by decide) (by decide)) ⟨by decide, by decide, by decide, by decide⟩ (by decide) (by decide)
  rw [add_one logN_name [1, 2] (by decide) (by decide)] at ha
  refine ha.mono ?_
  clear ha
  rintro e w3 ⟨rfl, hd3, hl3, hf3⟩
  have hl3' : LedRow w3 l d logN 1 14 false := hl3
  have hd3' : @DSig Z0 w3 d mb base (oneG logN ([] ++ Fr.putF [1, 2]) 4 0) := hd3
  have HX3 := Lib.hid (And.intro (Nat.le_trans (Nat.le_trans HX2.out.2.1 HB3.out.1.size) hf3.below.size) (And.intro hl3' (And.intro hd3' (HX2.out.2.2.2.2.trans ((HB3.out.1.mono HX2.out.2.1).trans hf3.below)))))
  clear hd3 hl3 hf3 hl3' hd3'
  go_wp2_with fail
  have ha := @Add_S Z0 base d mb l 30 10 ⟨logN, 1, 14, false⟩ (oneG logN ([] ++ Fr.putF [1, 2]) 4 0) none 0 0 [] _ (by decide) HX3.out.1 HX2.out.1 HX3.out.2.1 HX3.out.2.2.1 (IsBytes.nil _) (oneG_lim (by rw [List.nil_append, putF_len]; decide) (by decide) (by decide) (by decide)) ⟨by decide, by decide, by decide, by decide⟩ (by decide) (by decide)
  rw [add_one logN_name [] (by decide) (by rw [List.nil_append, putF_len]; decide)] at ha
  refine ha.mono ?_
  clear ha
  rintro e w4 ⟨rfl, hd4, hl4, hf4⟩
  have hl4' : LedRow w4 l d logN 2 26 false := hl4
  have hd4' : @DSig Z0 w4 d mb base (oneG logN ([] ++ Fr.putF [1, 2] ++ Fr.putF []) 6 0) := hd4
  have HX4 := Lib.hid (And.intro (Nat.le_trans HX3.out.1 hf4.below.size) (And.intro hl4' (And.intro hd4' (HX3.out.2.2.2.trans hf4.below))))
  clear hd4 hl4 hf4 hl4' hd4'
  go_wp2_with fail
  refine (Len_any l d logN 2 26 false w4 HX4.out.2.1).mono ?_
  rintro e w5 ⟨rfl, rfl⟩
  go_wp2_with fail
  refine (Size_any l d logN 2 26 false w4 HX4.out.2.1).mono ?_
  rintro e w5 ⟨rfl, rfl⟩
  go_wp2_with fail
  refine (opened_S base d mb 30 10 _ _ [[1, 2], []] ⟨logN, 2, 26, false⟩ 2 w4 HX4.out.1 HX4.out.2.2.1 (oneG_lim (by simp [putF_len]) (by decide) (by decide) (by decide)) (by decide) (by decide) (open_one scan_two) rfl (.inr rfl)).mono ?_
  rintro e w6 ⟨l2, v, rfl, _, _, _, hls6, hf6⟩
  obtain ⟨la, lc, rfl, hll⟩ := hls6.reads
  have HX6 := Lib.hid (And.intro hll (And.intro (HX4.out.2.2.2.trans hf6.below) (Nat.le_trans HX4.out.1 hf6.below.size)))
  clear hls6 hf6 hll
  go_wp2_with fail
  have hB7 : Below w6.heap.size w6 (((w6.alloc (.cells #[.int .u8 1, .int .u8 2] 5)).alloc (.cells #[] 5)).alloc (.cells #[.slice (some ⟨w6.heap.size, 0, none⟩) 2 2, .slice (some ⟨w6.heap.size + 1, 0, none⟩) 0 0] 36)) := (((Below.refl _ _).alloc (Nat.le_refl _) _).alloc (by simp) _).alloc (by simp; omega) _
  refine (SameLists_any la (some ⟨w6.heap.size + 1 + 1, 0, none⟩) 2 2 lc 2 [[1, 2], []] [[1, 2], []] _ (HX6.out.1.later hB7) (lit_lists w6)).mono ?_
  have HB7 := Lib.hid hB7
  clear hB7
  generalize (World.alloc (World.alloc (World.alloc w6 _) _) _) = w7 at HB7 ⊢
  rintro e w8 ⟨rfl, q, rfl⟩
  rw [show (([[1, 2], []] : List (List UInt8)) == [[1, 2], []]) = true from rfl]
  go_wp2_with fail
  go_ret
  refine ⟨rfl, ?_⟩
  rw [← HBASE.out]
  exact below_drewN (HX1.out.2.2.trans (HX6.out.2.1.trans (HB7.out.mono HX6.out.2.2))) q
end Go.Proofs.YtjkkfjmloleedaaGreat

/- layer 28's statements: LedgerScript -/
set_option linter.unusedSimpArgs false
set_option linter.unusedVariables false
namespace Go.Proofs.YtjkkfjmloleedaaGreat
open Go.RowKit
set_option linter.unusedSectionVars false
/-- what long says of calls. -/
def Few (X : List ActL) (n : Nat) : Prop := n ≤ 60 ∧ sumA X n ≤ 3000 ∧ ∀ i, i < n → (X.getD i act0).fits
theorem sumA_le {X : List ActL} {k n : Nat} (h : k ≤ n) : sumA X k ≤ sumA X n := by
  unfold sumA
  have e : X.take k = (X.take n).take k := by rw [List.take_take, Nat.min_eq_left h]
  rw [e, List.map_take]
  obtain ⟨l, hl⟩ : ∃ l, l = (X.take n).map (·.bn) := ⟨_, rfl⟩
  rw [← hl]
  have := List.take_append_drop k l
  conv => rhs; rw [← this]
  rw [List.sum_append]
  omega
/-- both disks are new, and no ledger is there. -/
theorem new_pair {w w1 w2 w3 : World} {d mb r p : Nat} (hd : @DSig Z0 w1 d mb w.heap.size (zeroG 0 0)) (hb1 : w.heap.size ≤ w1.heap.size) (hr : w2.heap[r]? = some (.cells #[.slice none 0 0, .int .i64 0, .bool false, .int .i64 0, .bool false] 29 (0, 0))) (hr2 : w1.heap.size ≤ r) (hb2 : Below w1.heap.size w1 w2)
    (hp : w3.heap[p]? = some (.cells #[.pointer (some ⟨d, 0, none⟩), .pointer (some ⟨r, 0, none⟩), .pointer none, .pointer none] 33 (0, 0))) (hp2 : w2.heap.size ≤ p) (hb3 : Below w2.heap.size w2 w3) : PairAt w3 p d mb r w.heap.size 0 0 (zeroG 0 0) none (.pointer none) (.pointer none) := by
  have hs2 := hb2.size
  have hs3 := hb3.size
  have hr3 : @RSig Z0 w2 r w.heap.size (zeroG 0 0) := ⟨by omega, .slice none 0 0, [], hr, Own3.nil _ _ _, rfl, fun i hi => absurd hi (by simp [zeroG])⟩
  exact ⟨hp, by omega, @DSig.later Z0 _ _ _ _ _ _ hd (hb2.trans (hb3.mono hs2)), @RSig.later Z0 _ _ _ _ _ hr3 hb3, zeroG_lim, by omega, .inl ⟨rfl, rfl, rfl⟩⟩
set_option maxRecDepth 100000 in
set_option maxHeartbeats 1000000 in
theorem LedgerScript_any (ao : Option Addr) (n cap : Nat) (X : List ActL) (w : World) (hX : IsActsZ w ao n cap X) :
    Calls Tryz.prog 3 #[.slice ao n cap] w fun e w' => e = .returned (.bool true) ∧ Below w.heap.size w w' := by
  have hc1 := hX.1.2.2.1
  have hn1 := hX.1.2.1
  unfold maxLen at hc1
  have HX := Lib.hid hX
  have HLONG : Hid (∀ w', Below w.heap.size w w' → Calls Tryz.prog 6 #[.slice ao n cap] w' fun e w2 => LongR X n w' e w2) := Lib.hid (fun w' hb => long_any ao n cap X w' (hX.1.later hb) (fun k hk hk1 => by
    have h1 : sumA X k ≤ k * 140737488355328 := by
      clear hn1 hc1
      induction k with
      | zero => simp [sumA]
      | succ k ih =>
        rw [sumA_succ (by rw [hX.1.1]; omega)]
        have := ih (by omega) (by omega)
        have := hX.2 k (by omega)
        omega
    omega))
  clear hX
  go_enter Tryz.func3, Tryz.ntmps3
  go_wp2_with fail
  refine (New_zero w).mono ?_
  rintro e w1 ⟨d, mb, rfl, hd, hb1⟩
  have H1 := Lib.hid (And.intro hd hb1)
  clear hd hb1
  go_wp2_with fail
  have hr := heap_alloc_new w1 (.cells #[.slice none 0 0, .int .i64 0, .bool false, .int .i64 0, .bool false] 29)
  have hb2 : Below w1.heap.size w1 (w1.alloc (.cells #[.slice none 0 0, .int .i64 0, .bool false, .int .i64 0, .bool false] 29)) := (Below.refl _ _).alloc (Nat.le_refl _) _
  generalize hw2 : w1.alloc (.cells #[.slice none 0 0, .int .i64 0, .bool false, .int .i64 0, .bool false] 29) = w2 at hr hb2 ⊢
  have hs2 : w2.heap.size = w1.heap.size + 1 := by rw [← hw2]; simp
  rw [← hs2]
  have hp := heap_alloc_new w2 (.cells #[.pointer (some ⟨d, 0, none⟩), .pointer (some ⟨w1.heap.size, 0, none⟩), .pointer none, .pointer none] 33)
  have hb3 : Below w2.heap.size w2 (w2.alloc (.cells #[.pointer (some ⟨d, 0, none⟩), .pointer (some ⟨w1.heap.size, 0, none⟩), .pointer none, .pointer none] 33)) := (Below.refl _ _).alloc (Nat.le_refl _) _
  generalize w2.alloc (.cells #[.pointer (some ⟨d, 0, none⟩), .pointer (some ⟨w1.heap.size, 0, none⟩), .pointer none, .pointer none] 33) = w3 at hp hb3 ⊢
  obtain ⟨r, hre⟩ : ∃ r, r = w1.heap.size := ⟨_, rfl⟩
  obtain ⟨p, hpe⟩ : ∃ p, p = w2.heap.size := ⟨_, rfl⟩
  have H2 := Lib.hid (And.intro (new_pair H1.out.1 H1.out.2.size hr (Nat.le_refl _) hb2 hp (Nat.le_refl _) hb3) (H1.out.2.trans ((hb2.mono H1.out.2.size).trans (hb3.mono (Nat.le_trans H1.out.2.size hb2.size)))))
  rw [← hre, ← hpe] at H2
  rw [← hre, ← hpe]
  clear hr hb2 hp hb3 hw2 hs2 hre hpe
  refine (HLONG.out w3 H2.out.2).mono ?_
  rintro e w' ⟨rr, rfl, hrr, rfl⟩
  have c0 := H2.out.1.cells.1
  cases rr with
  | true =>
    go_wp2_with fail
    go_ret
    exact ⟨rfl, H2.out.2⟩
  | false =>
    have HF : Hid (Few X n) := Lib.hid (hrr rfl)
    clear hrr HLONG
    go_wp2_with fail
    clear c0
    go_loopw [4] (fun i wr => ∃ k : Nat, k ≤ n ∧ i = .int .i64 k ∧ Hid ((∃ g Lo lv mv, PairAt wr p d mb r w.heap.size (sumA X k + 13 * k) (2 * k) g Lo lv mv) ∧ Below w.heap.size w wr)) (fun i _ => n - (intOf i).toNat)
    case atStart => exact ⟨0, by omega, rfl, Lib.hid ⟨⟨_, _, _, _, H2.out.1⟩, H2.out.2⟩⟩
    case round =>
      obtain ⟨k, hk, rfl, hI⟩ := hrel
      by_cases hlt : k < n
      · have hi0 : (0 : Int) ≤ (k : Int) := by omega
        have hi1 : (k : Int) < (n : Int) := by omega
        obtain ⟨b, off, rfl, hcs⟩ := (HX.out.1.later hI.out.2).2.2.2 (by omega)
        obtain ⟨hcell, hok⟩ := hcs k hlt
        have hok0 : ∀ w', Below w.heap.size wr w' → ActOk w' (X.getD k act0) := fun w' hb => by
          obtain ⟨_, _, _, hcs'⟩ := (HX.out.1.later (hI.out.2.trans hb)).2.2.2 (by omega)
          exact (hcs' k hlt).2
        have hstep := sumA_succ (X := X) (k := k) (by rw [HX.out.1.1]; exact hlt)
        have hsle := sumA_le (X := X) (k := k + 1) (n := n) (by omega)
        obtain ⟨x, hxe⟩ : ∃ x, x = X.getD k act0 := ⟨_, rfl⟩
        have hfx := HF.out.2.2 k hlt
        rw [← hxe] at hcell hok hok0 hstep hfx
        have h0 := hcell 0 (by omega)
        have h1 := hcell 1 (by omega)
        have h2 := hcell 2 (by omega)
        have h3 := hcell 3 (by omega)
        have h4 := hcell 4 (by omega)
        have HK := Lib.hid (And.intro hstep (And.intro hsle (And.intro hfx (And.intro hok hok0))))
        clear hcell hcs hok hok0 hstep hsle hfx hxe
        change wr.cell? ⟨b, off + k * 5 + 0, none⟩ = some (.int .i64 x.kind) at h0
        change wr.cell? ⟨b, off + k * 5 + 1, none⟩ = some (.int .i64 x.size) at h1
        change wr.cell? ⟨b, off + k * 5 + 2, none⟩ = some (.int .i64 x.keep) at h2
        change wr.cell? ⟨b, off + k * 5 + 3, none⟩ = some (.string x.nm) at h3
        change wr.cell? ⟨b, off + k * 5 + 4, none⟩ = some (.slice x.ba x.bn x.bc) at h4
        rw [Nat.add_zero] at h0
        go_wp2_with fail
        obtain ⟨g, Lo, lv, mv, hA⟩ := hI.out.1
        have HA := Lib.hid hA
        clear hA h0 h1 h2 h3 h4
        refine (pact_any (x := x) HA.out (by have := HK.out.1; have := HK.out.2.1; have := HF.out.2.1; have := HF.out.1; omega) (by have := HF.out.1; omega) (by have h9 : x.nm.size ≤ 100 := HK.out.2.2.1; omega) HK.out.2.2.2.1.size HK.out.2.2.2.1.keep (fun w' hb => (HK.out.2.2.2.2 w' hb).B)).mono ?_
        rintro e w4 ⟨rfl, ⟨g2, Lo2, lv2, mv2, hA2⟩, hb3⟩
        have hA3 := hA2.mono (q' := sumA X (k + 1) + 13 * (k + 1)) (k' := 2 * (k + 1)) (by have := HK.out.1; omega) (by omega)
        have H3 := Lib.hid (And.intro hA3 (hI.out.2.trans hb3))
        clear hA2 hA3 hb3
        go_wp2_with fail
        refine (psame_any H3.out.1 (by have := HK.out.2.1; have := HF.out.2.1; have := HF.out.1; omega) (by have := HF.out.1; omega)).mono ?_
        rintro e w5 ⟨rfl, hb4⟩
        have H4 := Lib.hid (And.intro (H3.out.1.later hb4) (H3.out.2.trans (hb4.mono H3.out.1.hb)))
        clear hb4
        go_wp2_with fail
        go_roundw
        case rel => exact ⟨k + 1, by omega, by go_num, Lib.hid ⟨⟨_, _, _, _, H4.out.1⟩, H4.out.2⟩⟩
        case measure => simp [intOf]; omega
      · obtain rfl : k = n := by omega
        have HW := Lib.hid hI.out.2
        clear hI
        go_wp2_with fail
        refine (awake_any _).mono ?_
        rintro e w8 ⟨rfl, hb8⟩
        have H8 := Lib.hid (HW.out.trans (hb8.mono HW.out.size))
        clear hb8
        go_wp2_with fail
        go_ret
        exact ⟨rfl, H8.out⟩
end Go.Proofs.YtjkkfjmloleedaaGreat
