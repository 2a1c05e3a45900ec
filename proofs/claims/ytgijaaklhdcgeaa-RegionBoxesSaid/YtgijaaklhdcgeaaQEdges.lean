/- ring.edges: each point's place, and its segment -/
import Derived.Test.YtgijaaklhdcgeaaQRange
import Derived.Test.YtgijaaklhdcgeaaGeo4
import Derived.IntWalk
set_option linter.unusedSimpArgs false
set_option linter.unusedVariables false
namespace Go.Proofs.Ytgijaaklhdcgeaa
open Go.RowKit Go.Shelf Go.Geo
attribute [local go_sem] Oper.semAt_some
/-- the edges, each by its place. -/
def edgesL (P : List Pt) : List (Fin P.length) := List.finRange P.length
theorem edgesL_length (P : List Pt) : (edgesL P).length = P.length := by simp [edgesL]
theorem edgesL_take {P : List Pt} {k : Nat} (h : k < P.length) : (edgesL P).take (k + 1) = (edgesL P).take k ++ [⟨k, h⟩] := by
  rw [List.take_succ_eq_append_getElem (by rw [edgesL_length]; exact h)]
  simp [edgesL]
def encE (P : List Pt) (x : Fin P.length) : Array Value := #[.int .i64 x.1, .agg #[.int .i64 (P.getD x.1 p0).x, .int .i64 (P.getD x.1 p0).y, .int .i64 (atP P (x.1 + 1)).x, .int .i64 (atP P (x.1 + 1)).y]]
theorem edges_any (ao : Option Addr) (n cap : Nat) (w : World) :
    Calls Try.prog 85 #[.slice ao n cap] w fun e w' => e = .returned (.func (.func 104) #[] #[.pointer (some ⟨w.heap.size, 0, none⟩)]) ∧ w.alloc (.cells #[.slice ao n cap] 28) = w' := by
  go_enter Try.func85, Try.ntmps85
  go_wp2
  go_ret
  exact ⟨rfl, rfl⟩
set_option maxRecDepth 100000 in
set_option maxHeartbeats 2000000 in
theorem edges_stops (m Bn n0 : Nat) (ao : Option Addr) (n cap : Nat) (P : List Pt) (w : World) (hm : 1 ≤ m) (hBn : Bn < n0) (hn0 : n0 ≤ w.heap.size) (hc : w.cell? ⟨Bn, 0, none⟩ = some (.slice ao n cap)) (hP : ∀ A, Below n0 w A → IsPts A ao n cap P) (hs : n ≤ 1048576) :
    SeqStopsK Fence.wide m Try.prog 104 #[.pointer (some ⟨Bn, 0, none⟩)] (encE P) (Below n0) (fun ys => ys = edgesL P) (fun pre => pre <+: edgesL P) (edgesL P).length w := by
  intro l J Jx W hW hJ hJx hY h0
  have hP0 := hP w (Below.refl _ _)
  have HL : Hid (P.length = n) := hP0.1
  have hcm := hP0.2.2.1
  have hnc := hP0.2.1
  unfold maxLen at hcm
  have HC : Hid (∀ A, Below n0 W A → A.cell? ⟨Bn, 0, none⟩ = some (.slice ao n cap)) := Lib.hid (fun A hA => (hA.cell (p := ⟨Bn, 0, none⟩) hBn).trans ((hW.cell (p := ⟨Bn, 0, none⟩) (Nat.lt_of_lt_of_le hBn hn0)).trans hc))
  have HP : Hid (∀ A, Below n0 W A → IsPts A ao n cap P) := Lib.hid (fun A hA => hP A ((hW.mono hn0).trans hA))
  have HN0 : Hid (n0 ≤ W.heap.size) := Lib.hid (Nat.le_trans hn0 hW.size)
  have HJ := Lib.hid hJ
  have HY := Lib.hid hY
  have H0 := Lib.hid h0
  have hcW := HC.out W (Below.refl _ _)
  clear hP0 hP hW hc hBn hn0 hJ hJx hY h0
  refine callsIn_of_wp Try.func104 rfl trivial ?_ rfl
  simp only [Try.ntmps104, List.size_toArray, List.length_cons, List.length_nil, Nat.reduceAdd, Nat.reduceSub, Array.replicate_succ, Array.replicate_zero, List.push_toArray, List.append_toArray, List.nil_append, List.cons_append]
  gi_wp2_with fail
  clear hcW
  gi_loopw [7] (fun i wr => ∃ k : Nat, k ≤ n ∧ i = .int .i64 k ∧ Hid (J ((edgesL P).take k) wr) ∧ Hid (Below n0 W wr)) (fun i _ => n - (intOf i).toNat)
  case atStart =>
    refine ⟨0, by omega, rfl, ?_, Below.refl _ _⟩
    rw [List.take_zero]; exact H0
  case round =>
    obtain ⟨k, hk, rfl, hj, hbl⟩ := hrel
    by_cases hlt : k < n
    · have hk0 : (0 : Int) ≤ (k : Int) := by omega
      have hk5 : (k : Int) < (n : Int) := by omega
      obtain ⟨b2, off2, rfl, e0, e1⟩ := (HP.out wr hbl.out).at hlt
      obtain ⟨c, hc⟩ : ∃ c, c = P.getD k p0 := ⟨_, rfl⟩
      rw [← hc] at e0 e1
      have hal : Below n0 W (wr.alloc (.cells #[.int .i64 c.x, .int .i64 c.y] 27)) := hbl.out.alloc (Nat.le_trans HN0.out hbl.out.size) _
      have hcc := HC.out _ hal
      have hmod : (k + 1) % n < n := Nat.mod_lt _ (by omega)
      obtain ⟨b3, off3, hbo, g0, g1⟩ := (HP.out _ hal).at hmod
      cases hbo
      obtain ⟨d, hd⟩ : ∃ d, d = atP P (k + 1) := ⟨_, rfl⟩
      have hde : P.getD ((k + 1) % n) p0 = d := by rw [hd]; unfold atP; rw [HL.out]
      rw [hde] at g0 g1
      obtain ⟨q, hq⟩ : ∃ q, q = (k + 1) % n := ⟨_, rfl⟩
      rw [← hq] at g0 g1 hmod
      have hq0 : (0 : Int) ≤ (q : Int) := by omega
      have hq1 : (q : Int) < (n : Int) := by omega
      have hrem : Int.tmod ((k : Int) + 1) (n : Int) = (q : Int) := by
        rw [Int.tmod_eq_emod_of_nonneg (by omega), hq, Int.natCast_emod]; rfl
      obtain ⟨x, hx⟩ : ∃ x : Fin P.length, x = ⟨k, by rw [HL.out]; exact hlt⟩ := ⟨_, rfl⟩
      have HT : Hid ((edgesL P).take (k + 1) = (edgesL P).take k ++ [x]) := Lib.hid (by rw [hx]; exact edgesL_take _)
      have q0 : (wr.alloc (.cells #[.int .i64 c.x, .int .i64 c.y] 27)).cell? ⟨wr.heap.size, 0, none⟩ = some (.int .i64 c.x) := cell_of_row _ _ _ _ _ _ (alloc_new _ _)
      have q1 : (wr.alloc (.cells #[.int .i64 c.x, .int .i64 c.y] 27)).cell? ⟨wr.heap.size, 1, none⟩ = some (.int .i64 c.y) := cell_of_row _ _ _ _ _ _ (alloc_new _ _)
      have HBL := Lib.hid hal
      have HK := Lib.hid hk
      obtain ⟨fn, tmps, assign, body, hy, hR⟩ := HY.out ((edgesL P).take k) x (wr.alloc (.cells #[.int .i64 c.x, .int .i64 c.y] 27)).drew
        (HJ.out _ _ _ none hj.out ⟨rfl, rfl, rfl, by simp, fun j hj _ => Below.heap_alloc _ _ _ hj⟩ (fun r e => by cases e)) (by rw [List.length_take, edgesL_length, HL.out]; omega)
      have hR2 := hR.mono (R' := fun e W' => ∃ r, e = .returned (.bool r) ∧ Hid ((r = true ∧ J ((edgesL P).take k ++ [x]) W' ∧ Below n0 (wr.alloc (.cells #[.int .i64 c.x, .int .i64 c.y] 27)).drew W') ∨ (r = false ∧ Jx ((edgesL P).take k ++ [x]) W'))) (fun e W' h => by
        rcases h with ⟨rfl, h1, h2⟩ | ⟨rfl, h1⟩
        · exact ⟨true, rfl, Lib.hid (.inl ⟨rfl, h1, h2⟩)⟩
        · exact ⟨false, rfl, Lib.hid (.inr ⟨rfl, h1⟩)⟩)
      have HR := Lib.hid hR2
      have henc : encE P x = #[.int .i64 k, .agg #[.int .i64 c.x, .int .i64 c.y, .int .i64 d.x, .int .i64 d.y]] := by rw [hx, hc, hd]; rfl
      rw [henc] at hy
      clear hc hd hde hq hal hR hR2 henc hx
      have hz : ((n : Int) == 0) = false := by simp; omega
      have hwr : IntKind.i64.wrap ((k : Int) + 1) = (k : Int) + 1 := IntWalk.i64_in _ (by omega)
      have hkp : (0 : Int) ≤ (k : Int) + 1 := by omega
      have HPK := Lib.hid (And.intro HJ.out (And.intro HY.out (And.intro H0.out (And.intro HP.out (And.intro HC.out (And.intro HN0.out hj.out))))))
      clear HJ HY H0 HP HC HN0 hj hk hlt hmod hbl hs hcm hnc
      gi_wp2_with fail
      gi_region_with (refine HR.out.mono ?_; rintro e W3 ⟨r, rfl, hr3⟩)
      all_goals (clear q0 q1 hcc e0 e1 g0 g1)
      all_goals (have HR3 := Lib.hid hr3)
      all_goals (clear hr3)
      all_goals (cases r)
      all_goals (gi_wp2_with fail)
      all_goals first
        | (refine bodyPost_ret (results_none rfl _ _ _) rfl ?_
           rcases HR3.out.out with ⟨h, _⟩ | ⟨_, h1⟩
           · cases h
           · refine ⟨⟨_, rfl⟩, .inr ⟨(edgesL P).take (k + 1), List.take_prefix _ _, ?_⟩⟩
             rw [HT.out]; exact h1)
        | (go_roundw
           case rel =>
             rcases HR3.out.out with ⟨_, h1, h2⟩ | ⟨h, _⟩
             · refine ⟨k + 1, by have := HK.out; omega, by go_num, ?_, ?_⟩
               · rw [HT.out]; exact h1
               · exact Lib.hid (HBL.out.trans ⟨h2.os, h2.tape, h2.output, h2.size, h2.block⟩)
             · cases h
           case measure => simp [intOf]; omega)
    · obtain rfl : n = k := by omega
      gi_wp2_with fail
      go_end0
      refine ⟨⟨_, rfl⟩, .inl ⟨_, rfl, ?_⟩⟩
      have := hj.out
      rw [List.take_of_length_le (by rw [edgesL_length, HL.out]; exact Nat.le_refl _)] at this
      exact this
end Go.Proofs.Ytgijaaklhdcgeaa
