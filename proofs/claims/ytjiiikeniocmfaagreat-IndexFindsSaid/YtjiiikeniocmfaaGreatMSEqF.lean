/- the document's ring: Check, back's contract given -/
import Derived.Test.YtjiiikeniocmfaaGreatMR11b
import Derived.Test.YtjiiikeniocmfaaGreatMQBnd
import Derived.Test.YtjiiikeniocmfaaGreatMR7b
import Derived.Test.YtjiiikeniocmfaaGreatMRegS
import Derived.Test.YtjiiikeniocmfaaGreatMQRCheck
import Derived.Test.YtjiiikeniocmfaaGreatMSInts
import Derived.Test.YtjiiikeniocmfaaGreatMQRegIn
set_option linter.unusedSimpArgs false
set_option linter.unusedVariables false
namespace Go.Proofs.YtjiiikeniocmfaaGreat
open Go.RowKit Go.Shelf Go.Geo
attribute [local go_sem] Oper.semAt_some
theorem ringC_0 {P : List Pt} {n k : Nat} (hl : P.length = n) (hl2 : 3 ≤ n ∧ n ≤ 200)  (hk : k < n) (hq : (fun i => !validP (P.getD i p0)) k = true) (hno : ∀ t, t < k → (fun i => !validP (P.getD i p0)) t = false) : ringCheckP P = (2, (k : Int)) := by
  unfold ringCheckP
  rw [hl, if_neg (by omega), if_neg (by omega), firstP_some hk hq hno]
theorem ringC_1 {P : List Pt} {n k : Nat} (hl : P.length = n) (hl2 : 3 ≤ n ∧ n ≤ 200) (h0 : ∀ t, t < n → (fun i => !validP (P.getD i p0)) t = false) (hk : k < n) (hq : (twiceP P) k = true) (hno : ∀ t, t < k → (twiceP P) t = false) : ringCheckP P = (191, (k : Int)) := by
  unfold ringCheckP
  rw [hl, if_neg (by omega), if_neg (by omega), firstP_none h0, firstP_some hk hq hno]
theorem ringC_2 {P : List Pt} {n k : Nat} (hl : P.length = n) (hl2 : 3 ≤ n ∧ n ≤ 200) (h0 : ∀ t, t < n → (fun i => !validP (P.getD i p0)) t = false) (h1 : ∀ t, t < n → (twiceP P) t = false) (hk : k < n) (hq : (backP P) k = true) (hno : ∀ t, t < k → (backP P) t = false) : ringCheckP P = (192, (k : Int)) := by
  unfold ringCheckP
  rw [hl, if_neg (by omega), if_neg (by omega), firstP_none h0, firstP_none h1, firstP_some hk hq hno]
theorem ringC_3 {P : List Pt} {n k : Nat} (hl : P.length = n) (hl2 : 3 ≤ n ∧ n ≤ 200) (h0 : ∀ t, t < n → (fun i => !validP (P.getD i p0)) t = false) (h1 : ∀ t, t < n → (twiceP P) t = false) (h2 : ∀ t, t < n → (backP P) t = false) (hk : k < n) (hq : (meetsP P) k = true) (hno : ∀ t, t < k → (meetsP P) t = false) : ringCheckP P = (193, (k : Int)) := by
  unfold ringCheckP
  rw [hl, if_neg (by omega), if_neg (by omega), firstP_none h0, firstP_none h1, firstP_none h2, firstP_some hk hq hno]
theorem ringC_4 {P : List Pt} {n : Nat} (hl : P.length = n) (hl2 : 3 ≤ n ∧ n ≤ 200) (h0 : ∀ t, t < n → (fun i => !validP (P.getD i p0)) t = false) (h1 : ∀ t, t < n → (twiceP P) t = false) (h2 : ∀ t, t < n → (backP P) t = false) (h3 : ∀ t, t < n → (meetsP P) t = false) : ringCheckP P = (0, 0) := by
  unfold ringCheckP
  rw [hl, if_neg (by omega), if_neg (by omega), firstP_none h0, firstP_none h1, firstP_none h2, firstP_none h3]
set_option maxRecDepth 100000 in
set_option maxHeartbeats 8000000 in
theorem rCheck_of (ao : Option Addr) (n cap : Nat) (P : List Pt) (w : World) (h : IsPts w ao n cap P)
    (hback : ∀ k, k < n → ∀ wX, IsPts wX ao n cap P → 3 ≤ n → n ≤ 1000 → Calls Tryz.prog 93 #[.slice ao n cap, .int .i64 k] wX fun e w' => e = .returned (.bool (backP P k)) ∧ Below wX.heap.size wX w') :
    Calls Tryz.prog 57 #[.slice ao n cap] w fun e w' => e = .returned (faultV (ringCheckP P)) ∧ Below w.heap.size w w' := by
  have HL : Hid (P.length = n) := h.1
  have hcm := h.2.2.1
  have hnc := h.2.1
  unfold maxLen at hcm
  have hga : Below w.heap.size w (w.alloc (.cells #[.int .i64 0, .int .i64 0] 35)) := (Below.refl _ _).alloc (Nat.le_refl _) _
  have HIW : Hid (∀ wr, Below (w.heap.size + 1) (w.alloc (.cells #[.int .i64 0, .int .i64 0] 35)) wr → IsPts wr ao n cap P) := Lib.hid (fun wr hb => h.later (hga.trans (hb.mono (by omega))) (Nat.le_refl _))
  obtain ⟨k0, k1, f0, f1, HG0⟩ := fault_cellsB (w := w) (w2 := w.alloc (.cells #[.int .i64 0, .int .i64 0] 35)) (Below.refl _ _)
  have HBK0 := Lib.hid hback
  clear h hga hback
  by_cases hlong : 200 < n
  · have hl1 : (200 : Int) < (n : Int) := by omega
    have hres : ringCheckP P = (3, 0) := by unfold ringCheckP; rw [HL.out, if_pos hlong]
    rw [hres]
    go_enter Tryz.func57, Tryz.ntmps57
    go_wp2_with fail
    first
    | exact fault_end rfl rfl rfl HG0 rfl rfl
    | exact bodyPost_ret (results_cell_row rfl _ _ _ _ _ _ _ rfl (alloc_new _ _) Tryz.underlying35 rfl (by kernel_rfl)) rfl ⟨rfl, (Below.refl _ _).alloc (Nat.le_refl _) _⟩
  · have hl1 : ¬ (200 : Int) < (n : Int) := by omega
    by_cases hfew : n < 3
    · have hl2 : (n : Int) < 3 := by omega
      have hres : ringCheckP P = (190, 0) := by unfold ringCheckP; rw [HL.out, if_neg hlong, if_pos hfew]
      rw [hres]
      go_enter Tryz.func57, Tryz.ntmps57
      go_wp2_with fail
      first
      | exact fault_end rfl rfl rfl HG0 rfl rfl
      | exact bodyPost_ret (results_cell_row rfl _ _ _ _ _ _ _ rfl (alloc_new _ _) Tryz.underlying35 rfl (by kernel_rfl)) rfl ⟨rfl, (Below.refl _ _).alloc (Nat.le_refl _) _⟩
    · have hl2 : ¬ (n : Int) < 3 := by omega
      have hlen2 : 3 ≤ n ∧ n ≤ 200 := by omega
      have hlen1 : P.length = n := HL.out
      have hn1 : n ≤ 1000 := by omega
      have HBK : Hid (∀ k, k < n → ∀ wX, IsPts wX ao n cap P → Calls Tryz.prog 93 #[.slice ao n cap, .int .i64 k] wX fun e w' => e = .returned (.bool (backP P k)) ∧ Below wX.heap.size wX w') := Lib.hid (fun k hk wX hX => HBK0.out k hk wX hX hlen2.1 hn1)
      clear hlong hfew
      go_enter Tryz.func57, Tryz.ntmps57
      go_wp2_with fail
      obtain ⟨FF0, hFF0⟩ : ∃ f : Nat → Bool, f = (fun i => !validP (P.getD i p0)) := ⟨_, rfl⟩
      have HFF0 := Lib.hid hFF0
      clear hFF0
      go_loopw [3] (fun i wr => ∃ k : Nat, k ≤ n ∧ i = .int .i64 k ∧ Hid (∀ t, t < k → FF0 t = false) ∧ Hid (Below (w.heap.size + 1) (w.alloc (.cells #[.int .i64 0, .int .i64 0] 35)) wr)) (fun i _ => n - (intOf i).toNat)
      case atStart => exact ⟨0, by omega, rfl, Lib.hid (fun t ht => absurd ht (by omega)), Below.refl _ _⟩
      case round =>
        obtain ⟨k, hk, rfl, hno, hg⟩ := hrel
        by_cases hlt : k < n
        · have i0 : (0 : Int) ≤ (k : Int) := by omega
          have i1 : (k : Int) < (n : Int) := by omega
          have hpw := HIW.out wr hg.out
          obtain ⟨b2, off2, rfl, e0, e1⟩ := hpw.at hlt
          obtain ⟨x, hx⟩ : ∃ x, x = P.getD k p0 := ⟨_, rfl⟩
          rw [← hx] at e0 e1
          have HC := Lib.hid (rValid_any x)
          obtain ⟨v, hv⟩ : ∃ v, v = validP x := ⟨_, rfl⟩
          rw [← hv] at HC
          have HQ : Hid (FF0 k = !v) := Lib.hid (by rw [HFF0.out, hv, hx])
          unfold ptV at HC
          clear hx hv hpw
          cases v with
          | false =>
            go_wp2_with fail
            refine (HC.out wr).mono ?_
            rintro e w2 ⟨rfl, hg2⟩
            have hgg : Below (w.heap.size + 1) (w.alloc (.cells #[.int .i64 0, .int .i64 0] 35)) w2 := hg.out.trans (Below.mono hg2.1 (Nat.le_trans (by simp) hg.out.size))
            obtain ⟨k0, k1, f0, f1, HG⟩ := fault_cellsB hgg
            clear hg2 hgg
            go_wp2_with fail
            refine fault_end rfl rfl rfl HG rfl ?_
            exact ringC_0 hlen1 hlen2  hlt (by rw [← HFF0.out]; exact HQ.out) (by rw [← HFF0.out]; exact hno.out)
          | true =>
            go_wp2_with fail
            refine (HC.out wr).mono ?_
            rintro e w2 ⟨rfl, hg2⟩
            have hgg : Below (w.heap.size + 1) (w.alloc (.cells #[.int .i64 0, .int .i64 0] 35)) w2 := hg.out.trans (Below.mono hg2.1 (Nat.le_trans (by simp) hg.out.size))
            have HGG := Lib.hid hgg
            clear hg2 hgg
            go_wp2_with fail
            go_roundw
            case rel =>
              refine ⟨k + 1, by omega, by go_num, Lib.hid (fun t ht => ?_), HGG⟩
              by_cases htk : t < k
              · exact hno.out t htk
              · obtain rfl : t = k := by omega
                exact HQ.out
            case measure => simp [intOf]; omega
        · have hkn : n = k := by omega
          subst hkn
          have h0 : Hid (∀ t, t < n → (fun i => !validP (P.getD i p0)) t = false) := Lib.hid (by have := hno.out; rw [HFF0.out] at this; exact this)
          clear hno
          go_wp2_with fail
          obtain ⟨FF1, hFF1⟩ : ∃ f : Nat → Bool, f = (twiceP P) := ⟨_, rfl⟩
          have HFF1 := Lib.hid hFF1
          clear hFF1
          go_loopw [4] (fun i wr => ∃ k : Nat, k ≤ n ∧ i = .int .i64 k ∧ Hid (∀ t, t < k → FF1 t = false) ∧ Hid (Below (w.heap.size + 1) (w.alloc (.cells #[.int .i64 0, .int .i64 0] 35)) wr)) (fun i _ => n - (intOf i).toNat)
          case atStart => exact ⟨0, by omega, rfl, Lib.hid (fun t ht => absurd ht (by omega)), hg⟩
          case round =>
            obtain ⟨k, hk, rfl, hno, hg⟩ := hrel
            by_cases hlt : k < n
            · have i0 : (0 : Int) ≤ (k : Int) := by omega
              have i1 : (k : Int) < (n : Int) := by omega
              have hpw := HIW.out wr hg.out
              have HC := Lib.hid (rtwice_any ao n cap P k wr hpw hlt)
              obtain ⟨v, hv⟩ : ∃ v, v = (twiceP P) k := ⟨_, rfl⟩
              rw [← hv] at HC
              have HQ : Hid (FF1 k = v) := Lib.hid (by rw [HFF1.out, hv])
              clear hv hpw
              cases v with
              | true =>
                go_wp2_with fail
                refine HC.out.mono ?_
                rintro e w2 ⟨rfl, hg2⟩
                have hgg : Below (w.heap.size + 1) (w.alloc (.cells #[.int .i64 0, .int .i64 0] 35)) w2 := hg.out.trans (Below.mono hg2.1 (Nat.le_trans (by simp) hg.out.size))
                obtain ⟨k0, k1, f0, f1, HG⟩ := fault_cellsB hgg
                clear hg2 hgg
                go_wp2_with fail
                refine fault_end rfl rfl rfl HG rfl ?_
                exact ringC_1 hlen1 hlen2 h0.out hlt (by rw [← HFF1.out]; exact HQ.out) (by rw [← HFF1.out]; exact hno.out)
              | false =>
                go_wp2_with fail
                refine HC.out.mono ?_
                rintro e w2 ⟨rfl, hg2⟩
                have hgg : Below (w.heap.size + 1) (w.alloc (.cells #[.int .i64 0, .int .i64 0] 35)) w2 := hg.out.trans (Below.mono hg2.1 (Nat.le_trans (by simp) hg.out.size))
                have HGG := Lib.hid hgg
                clear hg2 hgg
                go_wp2_with fail
                go_roundw
                case rel =>
                  refine ⟨k + 1, by omega, by go_num, Lib.hid (fun t ht => ?_), HGG⟩
                  by_cases htk : t < k
                  · exact hno.out t htk
                  · obtain rfl : t = k := by omega
                    exact HQ.out
                case measure => simp [intOf]; omega
            · have hkn : n = k := by omega
              subst hkn
              have h1 : Hid (∀ t, t < n → (twiceP P) t = false) := Lib.hid (by have := hno.out; rw [HFF1.out] at this; exact this)
              clear hno
              go_wp2_with fail
              obtain ⟨FF2, hFF2⟩ : ∃ f : Nat → Bool, f = (backP P) := ⟨_, rfl⟩
              have HFF2 := Lib.hid hFF2
              clear hFF2
              go_loopw [5] (fun i wr => ∃ k : Nat, k ≤ n ∧ i = .int .i64 k ∧ Hid (∀ t, t < k → FF2 t = false) ∧ Hid (Below (w.heap.size + 1) (w.alloc (.cells #[.int .i64 0, .int .i64 0] 35)) wr)) (fun i _ => n - (intOf i).toNat)
              case atStart => exact ⟨0, by omega, rfl, Lib.hid (fun t ht => absurd ht (by omega)), hg⟩
              case round =>
                obtain ⟨k, hk, rfl, hno, hg⟩ := hrel
                by_cases hlt : k < n
                · have i0 : (0 : Int) ≤ (k : Int) := by omega
                  have i1 : (k : Int) < (n : Int) := by omega
                  have hpw := HIW.out wr hg.out
                  have HC := Lib.hid (HBK.out k hlt wr hpw)
                  obtain ⟨v, hv⟩ : ∃ v, v = (backP P) k := ⟨_, rfl⟩
                  rw [← hv] at HC
                  have HQ : Hid (FF2 k = v) := Lib.hid (by rw [HFF2.out, hv])
                  clear hv hpw
                  cases v with
                  | true =>
                    go_wp2_with fail
                    refine HC.out.mono ?_
                    rintro e w2 ⟨rfl, hg2⟩
                    have hgg : Below (w.heap.size + 1) (w.alloc (.cells #[.int .i64 0, .int .i64 0] 35)) w2 := hg.out.trans (Below.mono hg2 (Nat.le_trans (by simp) hg.out.size))
                    obtain ⟨k0, k1, f0, f1, HG⟩ := fault_cellsB hgg
                    clear hg2 hgg
                    go_wp2_with fail
                    refine fault_end rfl rfl rfl HG rfl ?_
                    exact ringC_2 hlen1 hlen2 h0.out h1.out hlt (by rw [← HFF2.out]; exact HQ.out) (by rw [← HFF2.out]; exact hno.out)
                  | false =>
                    go_wp2_with fail
                    refine HC.out.mono ?_
                    rintro e w2 ⟨rfl, hg2⟩
                    have hgg : Below (w.heap.size + 1) (w.alloc (.cells #[.int .i64 0, .int .i64 0] 35)) w2 := hg.out.trans (Below.mono hg2 (Nat.le_trans (by simp) hg.out.size))
                    have HGG := Lib.hid hgg
                    clear hg2 hgg
                    go_wp2_with fail
                    go_roundw
                    case rel =>
                      refine ⟨k + 1, by omega, by go_num, Lib.hid (fun t ht => ?_), HGG⟩
                      by_cases htk : t < k
                      · exact hno.out t htk
                      · obtain rfl : t = k := by omega
                        exact HQ.out
                    case measure => simp [intOf]; omega
                · have hkn : n = k := by omega
                  subst hkn
                  have h2 : Hid (∀ t, t < n → (backP P) t = false) := Lib.hid (by have := hno.out; rw [HFF2.out] at this; exact this)
                  clear hno
                  go_wp2_with fail
                  obtain ⟨FF3, hFF3⟩ : ∃ f : Nat → Bool, f = (meetsP P) := ⟨_, rfl⟩
                  have HFF3 := Lib.hid hFF3
                  clear hFF3
                  go_loopw [6] (fun i wr => ∃ k : Nat, k ≤ n ∧ i = .int .i64 k ∧ Hid (∀ t, t < k → FF3 t = false) ∧ Hid (Below (w.heap.size + 1) (w.alloc (.cells #[.int .i64 0, .int .i64 0] 35)) wr)) (fun i _ => n - (intOf i).toNat)
                  case atStart => exact ⟨0, by omega, rfl, Lib.hid (fun t ht => absurd ht (by omega)), hg⟩
                  case round =>
                    obtain ⟨k, hk, rfl, hno, hg⟩ := hrel
                    by_cases hlt : k < n
                    · have i0 : (0 : Int) ≤ (k : Int) := by omega
                      have i1 : (k : Int) < (n : Int) := by omega
                      have hpw := HIW.out wr hg.out
                      have HC := Lib.hid (rmeets_any ao n cap P k wr hpw hlt hn1)
                      obtain ⟨v, hv⟩ : ∃ v, v = (meetsP P) k := ⟨_, rfl⟩
                      rw [← hv] at HC
                      have HQ : Hid (FF3 k = v) := Lib.hid (by rw [HFF3.out, hv])
                      clear hv hpw
                      cases v with
                      | true =>
                        go_wp2_with fail
                        refine HC.out.mono ?_
                        rintro e w2 ⟨rfl, hg2⟩
                        have hgg : Below (w.heap.size + 1) (w.alloc (.cells #[.int .i64 0, .int .i64 0] 35)) w2 := hg.out.trans (Below.mono hg2 (Nat.le_trans (by simp) hg.out.size))
                        obtain ⟨k0, k1, f0, f1, HG⟩ := fault_cellsB hgg
                        clear hg2 hgg
                        go_wp2_with fail
                        refine fault_end rfl rfl rfl HG rfl ?_
                        exact ringC_3 hlen1 hlen2 h0.out h1.out h2.out hlt (by rw [← HFF3.out]; exact HQ.out) (by rw [← HFF3.out]; exact hno.out)
                      | false =>
                        go_wp2_with fail
                        refine HC.out.mono ?_
                        rintro e w2 ⟨rfl, hg2⟩
                        have hgg : Below (w.heap.size + 1) (w.alloc (.cells #[.int .i64 0, .int .i64 0] 35)) w2 := hg.out.trans (Below.mono hg2 (Nat.le_trans (by simp) hg.out.size))
                        have HGG := Lib.hid hgg
                        clear hg2 hgg
                        go_wp2_with fail
                        go_roundw
                        case rel =>
                          refine ⟨k + 1, by omega, by go_num, Lib.hid (fun t ht => ?_), HGG⟩
                          by_cases htk : t < k
                          · exact hno.out t htk
                          · obtain rfl : t = k := by omega
                            exact HQ.out
                        case measure => simp [intOf]; omega
                    · have hkn : n = k := by omega
                      subst hkn
                      have h3 : Hid (∀ t, t < n → (meetsP P) t = false) := Lib.hid (by have := hno.out; rw [HFF3.out] at this; exact this)
                      clear hno
                      obtain ⟨k0, k1, f0, f1, HG⟩ := fault_cellsB hg.out
                      go_wp2_with fail
                      exact fault_end rfl rfl rfl HG rfl (ringC_4 hlen1 hlen2 h0.out h1.out h2.out h3.out)
end Go.Proofs.YtjiiikeniocmfaaGreat

/- the document's ring: at, exact; five blocks in a row -/
set_option linter.unusedSimpArgs false
set_option linter.unusedVariables false
namespace Go.Proofs.YtjiiikeniocmfaaGreat
open Go.RowKit Go.Shelf Go.Geo
attribute [local go_sem] Oper.semAt_some
set_option maxRecDepth 100000 in
set_option maxHeartbeats 2000000 in
theorem rat_ex (ao : Option Addr) (n cap : Nat) (P : List Pt) (i m : Int) (q : Nat) (w : World) (h : IsPts w ao n cap P) (hq : q < n) (hm : Int.tmod i n = m) (hm1 : -(n : Int) ≤ m) (hm2 : m ≤ n) (hq2 : Int.tmod (m + n) n = q) (hnb : n ≤ 1000000000000) :
    Calls Tryz.prog 122 #[.slice ao n cap, .int .i64 i] w fun e w' => e = .returned (.agg #[.int .i64 (P.getD q p0).x, .int .i64 (P.getD q p0).y]) ∧ w' = w.alloc (.cells #[.int .i64 (P.getD q p0).x, .int .i64 (P.getD q p0).y] 24) := by
  have hga : Grew w (w.alloc (.cells #[.int .i64 0, .int .i64 0] 24)) := (Grew.refl w).alloc _
  obtain ⟨b2, off2, rfl, e0, e1⟩ := (h.later hga.1 (Nat.le_refl _)).at hq
  obtain ⟨x, hx⟩ : ∃ x, x = P.getD q p0 := ⟨_, rfl⟩
  rw [← hx] at e0 e1 ⊢
  clear hga h hx
  have hq0 : (0 : Int) ≤ (q : Int) := by omega
  have hq1 : (q : Int) < (n : Int) := by omega
  have hz : ((n : Int) == 0) = false := by simp; omega
  have hz2 : ¬ (n : Int) = 0 := by omega
  have hwr : IntKind.i64.wrap (m + (n : Int)) = m + (n : Int) := IntWalk.i64_in _ (by omega)
  have hwm : IntKind.i64.wrap m = m := IntWalk.i64_in _ (by omega)
  have hwq : IntKind.i64.wrap (q : Int) = (q : Int) := IntWalk.i64_in _ (by omega)
  go_enter Tryz.func122, Tryz.ntmps122
  go_wp2_with fail
  exact bodyPost_ret (results_point rfl rfl (alloc_new _ _)) rfl ⟨rfl, rfl⟩
end Go.Proofs.YtjiiikeniocmfaaGreat

/- the document's ring: back -/
set_option linter.unusedSimpArgs false
set_option linter.unusedVariables false
namespace Go.Proofs.YtjiiikeniocmfaaGreat
open Go.RowKit Go.Shelf Go.Geo
attribute [local go_sem] Oper.semAt_some
theorem of_below {w w' : World} {b o1 o2 : Nat} {v1 v2 : Value} (hb : Below w.heap.size w w') (e0 : w.cell? ⟨b, o1, none⟩ = some v1) (e1 : w.cell? ⟨b, o2, none⟩ = some v2) : w'.cell? ⟨b, o1, none⟩ = some v1 ∧ w'.cell? ⟨b, o2, none⟩ = some v2 ∧ Below w.heap.size w w' :=
  ⟨(hb.cell (p := ⟨b, o1, none⟩) (block_lt_of_cell e0)).trans e0, (hb.cell (p := ⟨b, o2, none⟩) (block_lt_of_cell e1)).trans e1, hb⟩
set_option maxRecDepth 100000 in
set_option maxHeartbeats 8000000 in
theorem rback_any (ao : Option Addr) (n cap : Nat) (P : List Pt) (k : Nat) (w : World) (h : IsPts w ao n cap P) (hk : k < n) (h3 : 3 ≤ n) (hnb : n ≤ 1000) :
    Calls Tryz.prog 93 #[.slice ao n cap, .int .i64 k] w fun e w' => e = .returned (.bool (backP P k)) ∧ Below w.heap.size w w' := by
  have HI := Lib.hid h
  have HL : Hid (P.length = n) := h.1
  have hn : 0 < n := by omega
  have q1 := Nat.mod_lt (k + n - 1) hn
  have q2 := Nat.mod_lt (k + 1) hn
  have HA : Hid (∀ wX, Below w.heap.size w wX → Calls Tryz.prog 122 #[.slice ao n cap, .int .i64 ((k : Int) - 1)] wX fun e w' => e = .returned (.agg #[.int .i64 (atP P (k + n - 1)).x, .int .i64 (atP P (k + n - 1)).y]) ∧ w' = wX.alloc (.cells #[.int .i64 (atP P (k + n - 1)).x, .int .i64 (atP P (k + n - 1)).y] 24)) := Lib.hid (fun wX hX => by
    unfold atP
    rw [HL.out]
    by_cases h0 : k = 0
    · subst h0
      refine rat_ex ao n cap P _ (-1) _ wX (h.later hX (Nat.le_refl _)) q1 ?_ (by omega) (by omega) ?_ (by omega)
      · rw [show ((0 : Nat) : Int) - 1 = -1 from rfl, Int.neg_tmod, Int.tmod_eq_emod_of_nonneg (by omega), Int.emod_eq_of_lt (by omega) (by omega)]
      · rw [Int.tmod_eq_emod_of_nonneg (by omega), Int.emod_eq_of_lt (by omega) (by omega), Nat.mod_eq_of_lt (by omega)]; omega
    · refine rat_ex ao n cap P _ ((k : Int) - 1) _ wX (h.later hX (Nat.le_refl _)) q1 ?_ (by omega) (by omega) ?_ (by omega)
      · rw [Int.tmod_eq_emod_of_nonneg (by omega), Int.emod_eq_of_lt (by omega) (by omega)]
      · rw [Int.tmod_eq_emod_of_nonneg (by omega), show ((k : Int) - 1 + n) = ((k + n - 1 : Nat) : Int) by omega, Int.natCast_emod])
  have HC : Hid (∀ wX, Below w.heap.size w wX → Calls Tryz.prog 122 #[.slice ao n cap, .int .i64 ((k : Int) + 1)] wX fun e w' => e = .returned (.agg #[.int .i64 (atP P (k + 1)).x, .int .i64 (atP P (k + 1)).y]) ∧ w' = wX.alloc (.cells #[.int .i64 (atP P (k + 1)).x, .int .i64 (atP P (k + 1)).y] 24)) := Lib.hid (fun wX hX => by
    unfold atP
    rw [HL.out]
    refine rat_ex ao n cap P _ (((k + 1) % n : Nat) : Int) _ wX (h.later hX (Nat.le_refl _)) q2 ?_ (by omega) (by omega) ?_ (by omega)
    · rw [Int.tmod_eq_emod_of_nonneg (by omega), Int.natCast_emod]; rfl
    · rw [Int.tmod_eq_emod_of_nonneg (by omega), Int.add_emod_right, Int.emod_eq_of_lt (by omega) (by omega)])
  obtain ⟨b2, off2, rfl, e0, e1⟩ := h.at hk
  obtain ⟨r, hr⟩ : ∃ r, r = backP P k := ⟨_, rfl⟩
  rw [← hr]
  unfold backP at hr
  rw [HL.out] at hr
  obtain ⟨a, ha⟩ : ∃ x, x = atP P (k + n - 1) := ⟨_, rfl⟩
  obtain ⟨b, hb⟩ : ∃ x, x = P.getD k p0 := ⟨_, rfl⟩
  obtain ⟨c, hc⟩ : ∃ x, x = atP P (k + 1) := ⟨_, rfl⟩
  rw [← ha] at HA hr
  rw [← hb] at e0 e1 hr
  rw [← hc] at HC hr
  have HR := Lib.hid hr
  have k0 : (0 : Int) ≤ (k : Int) := by omega
  have k1 : (k : Int) < (n : Int) := by omega
  have w1 : IntKind.i64.wrap ((k : Int) - 1) = (k : Int) - 1 := IntWalk.i64_in _ (by omega)
  have w2 : IntKind.i64.wrap ((k : Int) + 1) = (k : Int) + 1 := IntWalk.i64_in _ (by omega)
  have HE := Lib.hid (And.intro e0 e1)
  clear h hr ha hb hc q1 q2
  go_enter Tryz.func93, Tryz.ntmps93
  go_upto_region 2 with fail
  go_cut [5, 6, 7] (fun s5 s6 s7 wc => ∃ g5 g6 g7, s5 = .pointer (some ⟨g5, 0, none⟩) ∧ s6 = .pointer (some ⟨g6, 0, none⟩) ∧ s7 = .pointer (some ⟨g7, 0, none⟩) ∧ Hid (wc.heap[g5]? = some (.cells #[.int .i64 a.x, .int .i64 a.y] 24 (0, 0)) ∧ wc.heap[g6]? = some (.cells #[.int .i64 b.x, .int .i64 b.y] 24 (0, 0)) ∧ wc.heap[g7]? = some (.cells #[.int .i64 c.x, .int .i64 c.y] 24 (0, 0)) ∧ Below w.heap.size w wc))
  case first =>
    go_wp2_with fail
    refine wp_region_J (s := [(8, 0), (9, 1), (10, 2), (11, 3), (12, 4), (13, 5), (14, 6), (15, 7), (16, 8), (17, 9), (18, 10), (19, 11), (5, 12), (6, 13), (7, 14)]) (by kernel_rfl) (StdJ w (fun iX => match iX with | 0 => some (.slice (some ⟨b2, off2, none⟩) n cap) | 1 => some (.int .i64 (k : Int)) | 2 => some (.int .i64 ((k : Int) - 1)) | 3 => some (.agg #[.int .i64 a.x, .int .i64 a.y]) | 4 => some (.slice (some ⟨b2, off2, none⟩) n cap) | 5 => some (.int .i64 (k : Int)) | 6 => some (.pointer (some ⟨b2, off2 + k * 2, none⟩)) | 7 => some (.agg #[.int .i64 b.x, .int .i64 b.y]) | 8 => some (.slice (some ⟨b2, off2, none⟩) n cap) | 9 => some (.int .i64 (k : Int)) | 10 => some (.int .i64 ((k : Int) + 1)) | 11 => some (.agg #[.int .i64 c.x, .int .i64 c.y]) | _ => none) [⟨12, 15, 24, #[.int .i64 0, .int .i64 0], #[.int .i64 a.x, .int .i64 a.y]⟩, ⟨13, 16, 24, #[.int .i64 0, .int .i64 0], #[.int .i64 b.x, .int .i64 b.y]⟩, ⟨14, 17, 24, #[.int .i64 0, .int .i64 0], #[.int .i64 c.x, .int .i64 c.y]⟩]) (by kernel_rfl) (by kernel_rfl) (by kernel_rfl) (by kernel_rfl) (fun _ => undef) ?start ?step ?done
    case start => exact StdJ.start ((Below.refl _ _).drew)
    case step =>
      refine ⟨?o0, ?o1, ?o2, ?o3, ?o4, ?o5, ?o6, ?o7, ?o8, ?o9, ?o10, ?o11, ?o12, ?o13, ?o14, ?o15, ?o16, ?o17, trivial⟩
      case o0 =>
        intro L V aX wX K hl hp hcl hf hJ hK
        have t0 : aX.tmps[0]? = some (.slice (some ⟨b2, off2, none⟩) n cap) := hf.old (by kernel_rfl) rfl
        rw [if_pos (by rfl)]
        go_simp
        exact hK _ _ (hJ.val (Below.refl _ _) 0 _ (by kernel_rfl) rfl)
      case o1 =>
        intro L V aX wX K hl hp hcl hf hJ hK
        have t1 : aX.tmps[1]? = some (.int .i64 (k : Int)) := hf.old (by kernel_rfl) rfl
        rw [if_pos (by rfl)]
        go_simp
        exact hK _ _ (hJ.val (Below.refl _ _) 1 _ (by kernel_rfl) rfl)
      case o2 =>
        intro L V aX wX K hl hp hcl hf hJ hK
        have t9 := hf.in (i := 1) (d := 9) (by kernel_rfl) (hp 1 (by kernel_rfl)) (hJ.vals 1 _ rfl (hp 1 (by kernel_rfl)))
        rw [if_pos (by rfl)]
        go_simp
        exact hK _ _ (hJ.val (Below.refl _ _) 2 _ (by kernel_rfl) rfl)
      case o3 =>
        intro L V aX wX K hl hp hcl hf hJ hK
        have t8 := hf.in (i := 0) (d := 8) (by kernel_rfl) (hp 0 (by kernel_rfl)) (hJ.vals 0 _ rfl (hp 0 (by kernel_rfl)))
        have t10 := hf.in (i := 2) (d := 10) (by kernel_rfl) (hp 2 (by kernel_rfl)) (hJ.vals 2 _ rfl (hp 2 (by kernel_rfl)))
        rw [if_pos (by rfl)]
        go_simp
        refine (HA.out _ hJ.below).mono ?_
        rintro e wA ⟨rfl, rfl⟩
        exact hK _ _ (hJ.val ((Below.refl _ _).alloc (Nat.le_refl _) _) 3 _ (by kernel_rfl) rfl)
      case o4 =>
        intro L V aX wX K hl hp hcl hf hJ hK
        have t0 : aX.tmps[0]? = some (.slice (some ⟨b2, off2, none⟩) n cap) := hf.old (by kernel_rfl) rfl
        rw [if_pos (by rfl)]
        go_simp
        exact hK _ _ (hJ.val (Below.refl _ _) 4 _ (by kernel_rfl) rfl)
      case o5 =>
        intro L V aX wX K hl hp hcl hf hJ hK
        have t1 : aX.tmps[1]? = some (.int .i64 (k : Int)) := hf.old (by kernel_rfl) rfl
        rw [if_pos (by rfl)]
        go_simp
        exact hK _ _ (hJ.val (Below.refl _ _) 5 _ (by kernel_rfl) rfl)
      case o6 =>
        intro L V aX wX K hl hp hcl hf hJ hK
        have t12 := hf.in (i := 4) (d := 12) (by kernel_rfl) (hp 4 (by kernel_rfl)) (hJ.vals 4 _ rfl (hp 4 (by kernel_rfl)))
        have t13 := hf.in (i := 5) (d := 13) (by kernel_rfl) (hp 5 (by kernel_rfl)) (hJ.vals 5 _ rfl (hp 5 (by kernel_rfl)))
        rw [if_pos (by rfl)]
        go_simp
        exact hK _ _ (hJ.val (Below.refl _ _) 6 _ (by kernel_rfl) rfl)
      case o7 =>
        intro L V aX wX K hl hp hcl hf hJ hK
        have t14 := hf.in (i := 6) (d := 14) (by kernel_rfl) (hp 6 (by kernel_rfl)) (hJ.vals 6 _ rfl (hp 6 (by kernel_rfl)))
        obtain ⟨c0, c1, _⟩ := of_below hJ.below HE.out.1 HE.out.2
        rw [if_pos (by rfl)]
        go_simp
        exact hK _ _ (hJ.val (Below.refl _ _) 7 _ (by kernel_rfl) rfl)
      case o8 =>
        intro L V aX wX K hl hp hcl hf hJ hK
        have t0 : aX.tmps[0]? = some (.slice (some ⟨b2, off2, none⟩) n cap) := hf.old (by kernel_rfl) rfl
        rw [if_pos (by rfl)]
        go_simp
        exact hK _ _ (hJ.val (Below.refl _ _) 8 _ (by kernel_rfl) rfl)
      case o9 =>
        intro L V aX wX K hl hp hcl hf hJ hK
        have t1 : aX.tmps[1]? = some (.int .i64 (k : Int)) := hf.old (by kernel_rfl) rfl
        rw [if_pos (by rfl)]
        go_simp
        exact hK _ _ (hJ.val (Below.refl _ _) 9 _ (by kernel_rfl) rfl)
      case o10 =>
        intro L V aX wX K hl hp hcl hf hJ hK
        have t17 := hf.in (i := 9) (d := 17) (by kernel_rfl) (hp 9 (by kernel_rfl)) (hJ.vals 9 _ rfl (hp 9 (by kernel_rfl)))
        rw [if_pos (by rfl)]
        go_simp
        exact hK _ _ (hJ.val (Below.refl _ _) 10 _ (by kernel_rfl) rfl)
      case o11 =>
        intro L V aX wX K hl hp hcl hf hJ hK
        have t16 := hf.in (i := 8) (d := 16) (by kernel_rfl) (hp 8 (by kernel_rfl)) (hJ.vals 8 _ rfl (hp 8 (by kernel_rfl)))
        have t18 := hf.in (i := 10) (d := 18) (by kernel_rfl) (hp 10 (by kernel_rfl)) (hJ.vals 10 _ rfl (hp 10 (by kernel_rfl)))
        rw [if_pos (by rfl)]
        go_simp
        refine (HC.out _ hJ.below).mono ?_
        rintro e wA ⟨rfl, rfl⟩
        exact hK _ _ (hJ.val ((Below.refl _ _).alloc (Nat.le_refl _) _) 11 _ (by kernel_rfl) rfl)
      case o12 =>
        intro L V aX wX K hl hp hcl hf hJ hK
        rw [if_pos (by rfl)]
        go_simp
        exact hK _ _ (hJ.alloc (by kernel_rfl) ⟨12, 15, 24, #[.int .i64 0, .int .i64 0], #[.int .i64 a.x, .int .i64 a.y]⟩ (by simp) hl rfl)
      case o13 =>
        intro L V aX wX K hl hp hcl hf hJ hK
        rw [if_pos (by rfl)]
        go_simp
        exact hK _ _ (hJ.alloc (by kernel_rfl) ⟨13, 16, 24, #[.int .i64 0, .int .i64 0], #[.int .i64 b.x, .int .i64 b.y]⟩ (by simp) hl rfl)
      case o14 =>
        intro L V aX wX K hl hp hcl hf hJ hK
        rw [if_pos (by rfl)]
        go_simp
        exact hK _ _ (hJ.alloc (by kernel_rfl) ⟨14, 17, 24, #[.int .i64 0, .int .i64 0], #[.int .i64 c.x, .int .i64 c.y]⟩ (by simp) hl rfl)
      case o15 =>
        intro L V aX wX K hl hp hcl hf hJ hK
        have t11 := hf.in (i := 3) (d := 11) (by kernel_rfl) (hp 3 (by kernel_rfl)) (hJ.vals 3 _ rfl (hp 3 (by kernel_rfl)))
        rw [if_pos (by rfl)]
        obtain ⟨g, hg, hg2⟩ := hJ.ptr ⟨12, 15, 24, #[.int .i64 0, .int .i64 0], #[.int .i64 a.x, .int .i64 a.y]⟩ (by simp) (hp 12 (by kernel_rfl)) hl
        have tp := hf.in (i := 12) (d := 5) (by kernel_rfl) (hp 12 (by kernel_rfl)) hg
        refine wp_store_row _ _ _ rfl g #[.int .i64 a.x, .int .i64 a.y] (by simp [Act.eval, tp]) (by simp [Act.eval, t11]) _ _ hg2 (by kernel_rfl) rfl (by kernel_rfl) ?_
        exact hK _ _ (hJ.fill (by kernel_rfl) ⟨12, 15, 24, #[.int .i64 0, .int .i64 0], #[.int .i64 a.x, .int .i64 a.y]⟩ (by simp) (hp 12 (by kernel_rfl)) hl rfl g hg _)
      case o16 =>
        intro L V aX wX K hl hp hcl hf hJ hK
        have t15 := hf.in (i := 7) (d := 15) (by kernel_rfl) (hp 7 (by kernel_rfl)) (hJ.vals 7 _ rfl (hp 7 (by kernel_rfl)))
        rw [if_pos (by rfl)]
        obtain ⟨g, hg, hg2⟩ := hJ.ptr ⟨13, 16, 24, #[.int .i64 0, .int .i64 0], #[.int .i64 b.x, .int .i64 b.y]⟩ (by simp) (hp 13 (by kernel_rfl)) hl
        have tp := hf.in (i := 13) (d := 6) (by kernel_rfl) (hp 13 (by kernel_rfl)) hg
        refine wp_store_row _ _ _ rfl g #[.int .i64 b.x, .int .i64 b.y] (by simp [Act.eval, tp]) (by simp [Act.eval, t15]) _ _ hg2 (by kernel_rfl) rfl (by kernel_rfl) ?_
        exact hK _ _ (hJ.fill (by kernel_rfl) ⟨13, 16, 24, #[.int .i64 0, .int .i64 0], #[.int .i64 b.x, .int .i64 b.y]⟩ (by simp) (hp 13 (by kernel_rfl)) hl rfl g hg _)
      case o17 =>
        intro L V aX wX K hl hp hcl hf hJ hK
        have t19 := hf.in (i := 11) (d := 19) (by kernel_rfl) (hp 11 (by kernel_rfl)) (hJ.vals 11 _ rfl (hp 11 (by kernel_rfl)))
        rw [if_pos (by rfl)]
        obtain ⟨g, hg, hg2⟩ := hJ.ptr ⟨14, 17, 24, #[.int .i64 0, .int .i64 0], #[.int .i64 c.x, .int .i64 c.y]⟩ (by simp) (hp 14 (by kernel_rfl)) hl
        have tp := hf.in (i := 14) (d := 7) (by kernel_rfl) (hp 14 (by kernel_rfl)) hg
        refine wp_store_row _ _ _ rfl g #[.int .i64 c.x, .int .i64 c.y] (by simp [Act.eval, tp]) (by simp [Act.eval, t19]) _ _ hg2 (by kernel_rfl) rfl (by kernel_rfl) ?_
        exact hK _ _ (hJ.fill (by kernel_rfl) ⟨14, 17, 24, #[.int .i64 0, .int .i64 0], #[.int .i64 c.x, .int .i64 c.y]⟩ (by simp) (hp 14 (by kernel_rfl)) hl rfl g hg _)
    intro V wZ hJ
    obtain ⟨g5, hv5, _, hg5⟩ := hJ.got ⟨12, 15, 24, #[.int .i64 0, .int .i64 0], #[.int .i64 a.x, .int .i64 a.y]⟩ (by simp) (by kernel_rfl) (by kernel_rfl)
    obtain ⟨g6, hv6, _, hg6⟩ := hJ.got ⟨13, 16, 24, #[.int .i64 0, .int .i64 0], #[.int .i64 b.x, .int .i64 b.y]⟩ (by simp) (by kernel_rfl) (by kernel_rfl)
    obtain ⟨g7, hv7, _, hg7⟩ := hJ.got ⟨14, 17, 24, #[.int .i64 0, .int .i64 0], #[.int .i64 c.x, .int .i64 c.y]⟩ (by simp) (by kernel_rfl) (by kernel_rfl)
    have HZ : Hid (wZ.heap[g5]? = some (.cells #[.int .i64 a.x, .int .i64 a.y] 24 (0, 0)) ∧ wZ.heap[g6]? = some (.cells #[.int .i64 b.x, .int .i64 b.y] 24 (0, 0)) ∧ wZ.heap[g7]? = some (.cells #[.int .i64 c.x, .int .i64 c.y] 24 (0, 0)) ∧ Below w.heap.size w wZ) := Lib.hid ⟨hg5, hg6, hg7, hJ.below⟩
    simp only [puts, Act.put, List.setIfInBounds_toArray, List.set_cons_zero, List.set_cons_succ]
    rw [hv5, hv6, hv7]
    clear hJ hv5 hv6 hv7 hg5 hg6 hg7
    go_wp2_with fail
    go_meet
    exact ⟨g5, g6, g7, rfl, rfl, rfl, HZ⟩
  case rest =>
    obtain ⟨g5, g6, g7, rfl, rfl, rfl, HZ⟩ := hcut
    obtain ⟨a0, a1, _, _⟩ := pt_cells HZ.out.1
    obtain ⟨b0, b1, _, _⟩ := pt_cells HZ.out.2.1
    obtain ⟨c0, c1, _, _⟩ := pt_cells HZ.out.2.2.1
    have HT := Lib.hid (rTurn_any a b c)
    have HO := Lib.hid (rOn_any b a c)
    obtain ⟨t, ht⟩ : ∃ t, t = turnP a b c := ⟨_, rfl⟩
    obtain ⟨o, ho⟩ : ∃ t, t = onP b a c := ⟨_, rfl⟩
    rw [← ht] at HT
    rw [← ho] at HO
    have HRR : Hid (r = (decide (t = 0) && !o)) := Lib.hid (by rw [HR.out, ht, ho])
    unfold ptV at HT HO
    clear ht ho e0 e1
    by_cases ht : t = 0
    · subst ht
      go_wp2_with fail
      refine (HT.out _).mono ?_
      rintro e w2 ⟨rfl, hg2⟩
      have e2 := cell_of_row
      have HZ2 : Hid (w2.heap[g5]? = some (.cells #[.int .i64 a.x, .int .i64 a.y] 24 (0, 0)) ∧ w2.heap[g6]? = some (.cells #[.int .i64 b.x, .int .i64 b.y] 24 (0, 0)) ∧ w2.heap[g7]? = some (.cells #[.int .i64 c.x, .int .i64 c.y] 24 (0, 0)) ∧ Below w.heap.size w w2) := Lib.hid ⟨(hg2.1.block _ (heap_lt' HZ.out.1)).trans HZ.out.1, (hg2.1.block _ (heap_lt' HZ.out.2.1)).trans HZ.out.2.1, (hg2.1.block _ (heap_lt' HZ.out.2.2.1)).trans HZ.out.2.2.1, HZ.out.2.2.2.trans (hg2.1.mono HZ.out.2.2.2.size)⟩
      clear a0 a1 b0 b1 c0 c1 hg2 e2
      obtain ⟨a0, a1, _, _⟩ := pt_cells HZ2.out.1
      obtain ⟨b0, b1, _, _⟩ := pt_cells HZ2.out.2.1
      obtain ⟨c0, c1, _, _⟩ := pt_cells HZ2.out.2.2.1
      go_wp2_with fail
      refine (HO.out _).mono ?_
      rintro e w3 ⟨rfl, hg3⟩
      have HB : Hid (Below w.heap.size w w3) := Lib.hid (HZ2.out.2.2.2.trans (hg3.1.mono HZ2.out.2.2.2.size))
      clear hg3 a0 a1 b0 b1 c0 c1
      go_wp2_with fail
      go_ret
      exact ⟨by rw [HRR.out]; rfl, HB.out⟩
    · have hz1 : (t == 0) = false := by simp [ht]
      have HT0 := Lib.hid ht
      clear ht
      go_wp2_with fail
      refine (HT.out _).mono ?_
      rintro e w2 ⟨rfl, hg2⟩
      have HB : Hid (Below w.heap.size w w2) := Lib.hid (HZ.out.2.2.2.trans (hg2.1.mono HZ.out.2.2.2.size))
      clear hg2 a0 a1 b0 b1 c0 c1
      go_wp2_with fail
      go_ret
      exact ⟨by rw [HRR.out, decide_eq_false HT0.out]; rfl, HB.out⟩
end Go.Proofs.YtjiiikeniocmfaaGreat

/- two faults, one by one; a copy of a region; the document's Check in full -/
set_option linter.unusedSimpArgs false
set_option linter.unusedVariables false
namespace Go.Proofs.YtjiiikeniocmfaaGreat
open Go.RowKit Go.Geo
attribute [local go_sem] Oper.semAt_some
theorem rCheck_ring (ao : Option Addr) (n cap : Nat) (P : List Pt) (w : World) (h : IsPts w ao n cap P) :
    Calls Tryz.prog 57 #[.slice ao n cap] w fun e w' => e = .returned (faultV (ringCheckP P)) ∧ Below w.heap.size w w' :=
  rCheck_of ao n cap P w h (fun k hk wX hX h3 hb => rback_any ao n cap P k wX hX hk h3 hb)
theorem rCheck_region (ao : Option Addr) (n cap : Nat) (R : List (List Pt)) (w : World) (h : IsRings w ao n cap R) (hs : sumLen R ≤ 1000000000000) :
    Calls Tryz.prog 36 #[.agg #[.slice ao n cap]] w fun e w' => e = .returned (faultV (regionCheckP R)) ∧ Below w.heap.size w w' :=
  rRegionCheck_of rCheck_ring ao n cap R w h hs
set_option maxRecDepth 100000 in
theorem CopyRegion_any (ao : Option Addr) (n cap : Nat) (R : List (List Pt)) (w : World) (h : IsRings w ao n cap R) (hs : Small R) :
    Calls Tryz.prog 19 #[.agg #[.slice ao n cap]] w fun e w' => ∃ v, e = .returned (.agg #[v]) ∧ OwnR w' w.heap.size v R ∧ Below w.heap.size w w' := by
  obtain ⟨W0, hW0⟩ : ∃ W, W = (w.alloc (.cells #[.slice ao n cap] 30)).alloc (.cells #[.slice none 0 0] 30) := ⟨_, rfl⟩
  have a0 : W0.heap[w.heap.size]? = some (.cells #[.slice ao n cap] 30 (0, 0)) := by rw [hW0]; exact (Below.heap_alloc _ _ _ (by simp)).trans (alloc_new _ _)
  have a1 : W0.heap[w.heap.size + 1]? = some (.cells #[.slice none 0 0] 30 (0, 0)) := by rw [hW0]; exact alloc_new2 _ _ _
  have hs0 : W0.heap.size = w.heap.size + 2 := by rw [hW0]; simp
  have hg0 : Below w.heap.size w W0 := by rw [hW0]; exact ((Below.refl _ _).alloc (Nat.le_refl _) _).alloc (by simp) _
  have c0 : W0.cell? ⟨w.heap.size, 0, none⟩ = some (.slice ao n cap) := cell_of_row _ _ _ _ _ _ a0
  have HC := Lib.hid (CopyRings_any ao n cap R W0 (h.later hg0 (Nat.le_refl _)) hs)
  have H0 := Lib.hid (And.intro a1 (And.intro hs0 hg0))
  rw [hW0] at c0
  clear h hs a0 a1 hs0 hg0
  go_enter Tryz.func19, Tryz.ntmps19
  go_wp2_with fail
  rw [← hW0]
  clear hW0 c0
  refine HC.out.mono ?_
  rintro e w1 ⟨v, rfl, ho, hb⟩
  have hr := (hb.block (w.heap.size + 1) (by rw [H0.out.2.1]; omega)).trans H0.out.1
  have k0 : w1.cell? ⟨w.heap.size + 1, 0, none⟩ = some (.slice none 0 0) := cell_of_row _ _ _ _ _ _ hr
  have f0 : w1.frozen? ⟨w.heap.size + 1, 0, none⟩ = false := frozen_of_row _ _ _ _ _ hr
  have HR := Lib.hid hr
  have H1 := Lib.hid (And.intro ho hb)
  obtain ⟨ax, cx, hv, _⟩ := ho.rings
  subst hv
  clear hr ho hb
  go_wp2_with fail
  have hput := heap_setCell_same _ _ 0 _ _ (.slice ax R.length cx) HR.out
  refine bodyPost_ret (results_cell_row rfl _ _ _ _ _ _ _ rfl hput Tryz.underlying30 rfl (by kernel_rfl)) rfl ⟨_, rfl, ?_, ?_⟩
  · exact (H1.out.1.base (by rw [H0.out.2.1]; omega)).setCell HR.out (by decide) (by decide)
  · exact (H0.out.2.2.trans (H1.out.2.mono H0.out.2.2.size)).setCell (p := ⟨w.heap.size + 1, 0, none⟩) (by simp) _
end Go.Proofs.YtjiiikeniocmfaaGreat
