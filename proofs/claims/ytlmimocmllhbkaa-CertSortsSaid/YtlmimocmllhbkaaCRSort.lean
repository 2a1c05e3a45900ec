/- apportionref22.Sort -/
import Derived.Test.YtlmimocmllhbkaaCIns
namespace Go.Proofs.Ytlmimocmllhbkaa
open Go.RowKit
theorem oneS_step {b : Nat} {p0 p1 p2 p3 p4 : Nat} {c0 c1 c2 c3 c4 : Int} {W w' : World} (hB : b < W.heap.size) (hb : Below W.heap.size W w') (h0 : W.cell? ⟨b, p0, none⟩ = some (.int .i64 c0)) (h1 : W.cell? ⟨b, p1, none⟩ = some (.int .i64 c1)) (h2 : W.cell? ⟨b, p2, none⟩ = some (.int .i64 c2)) (h3 : W.cell? ⟨b, p3, none⟩ = some (.int .i64 c3)) (h4 : W.cell? ⟨b, p4, none⟩ = some (.int .i64 c4)) :
    w'.cell? ⟨b, p0, none⟩ = some (.int .i64 c0) ∧ w'.cell? ⟨b, p1, none⟩ = some (.int .i64 c1) ∧ w'.cell? ⟨b, p2, none⟩ = some (.int .i64 c2) ∧ w'.cell? ⟨b, p3, none⟩ = some (.int .i64 c3) ∧ w'.cell? ⟨b, p4, none⟩ = some (.int .i64 c4) ∧ Below W.heap.size W w' := by
  refine ⟨?_, ?_, ?_, ?_, ?_, hb⟩
  all_goals exact (hb.cell (by dsimp only; exact hB)).trans (by assumption)
theorem twoS_step {b1 b2 : Nat} {o0 o1 o2 o3 o4 p0 p1 p2 p3 p4 : Nat} {a0 a1 a2 a3 a4 c0 c1 c2 c3 c4 : Int} {w0 w1 w2 : World} (hB : b1 < w0.heap.size) (hb : b2 < w0.heap.size) (hbc : Below w1.heap.size w1 w2) (h0 : w1.cell? ⟨b1, o0, none⟩ = some (.int .i64 a0)) (h1 : w1.cell? ⟨b1, o1, none⟩ = some (.int .i64 a1)) (h2 : w1.cell? ⟨b1, o2, none⟩ = some (.int .i64 a2)) (h3 : w1.cell? ⟨b1, o3, none⟩ = some (.int .i64 a3)) (h4 : w1.cell? ⟨b1, o4, none⟩ = some (.int .i64 a4)) (h5 : w1.cell? ⟨b2, p0, none⟩ = some (.int .i64 c0)) (h6 : w1.cell? ⟨b2, p1, none⟩ = some (.int .i64 c1)) (h7 : w1.cell? ⟨b2, p2, none⟩ = some (.int .i64 c2)) (h8 : w1.cell? ⟨b2, p3, none⟩ = some (.int .i64 c3)) (h9 : w1.cell? ⟨b2, p4, none⟩ = some (.int .i64 c4)) (hbw : Below w0.heap.size w0 w1) :
    w2.cell? ⟨b1, o0, none⟩ = some (.int .i64 a0) ∧ w2.cell? ⟨b1, o1, none⟩ = some (.int .i64 a1) ∧ w2.cell? ⟨b1, o2, none⟩ = some (.int .i64 a2) ∧ w2.cell? ⟨b1, o3, none⟩ = some (.int .i64 a3) ∧ w2.cell? ⟨b1, o4, none⟩ = some (.int .i64 a4) ∧ w2.cell? ⟨b2, p0, none⟩ = some (.int .i64 c0) ∧ w2.cell? ⟨b2, p1, none⟩ = some (.int .i64 c1) ∧ w2.cell? ⟨b2, p2, none⟩ = some (.int .i64 c2) ∧ w2.cell? ⟨b2, p3, none⟩ = some (.int .i64 c3) ∧ w2.cell? ⟨b2, p4, none⟩ = some (.int .i64 c4) ∧ Below w0.heap.size w0 w2 := by
  have hs := hbw.size
  have hbc2 : Below w0.heap.size w1 w2 := hbc.mono hs
  refine ⟨?_, ?_, ?_, ?_, ?_, ?_, ?_, ?_, ?_, ?_, hbw.trans hbc2⟩
  all_goals exact (hbc2.cell (by dsimp only; omega)).trans (by assumption)
set_option maxRecDepth 100000 in
set_option maxHeartbeats 4000000 in
theorem refSort_any (ao : Option Addr) (n cap : Nat) (L : List Crt) (w : World) (h : IsCerts w ao n cap L) (hn : n ≤ 100000) :
    Calls Try.prog 15 #[.slice ao n cap] w fun e w' => ∃ v M, e = .returned v ∧ OwnC w' w.heap.size v M ∧ Rising M ∧ (∀ x, x ∈ M ↔ x ∈ L) ∧ Below w.heap.size w w' := by
  have HI := Lib.hid h
  have HL : Hid (L.length = n) := Lib.hid h.1
  have hnc := h.2.1
  have hcm := h.2.2.1
  clear h
  unfold maxLen at hcm
  have har := fun x0 x1 x2 x3 x4 y0 y1 y2 y3 y4 => Ahead_any ⟨x0, x1, x2, x3, x4⟩ ⟨y0, y1, y2, y3, y4⟩
  have HA := Lib.hid har
  clear har
  go_enter Try.func15, Try.ntmps15
  go_wp2
  go_loopw [3, 4] (fun v i wr => ∃ k M, k ≤ n ∧ i = .int .i64 ((k : Nat) : Int) ∧ Hid (OwnC wr w.heap.size v M) ∧ Hid (Rising M) ∧ Hid (∀ x, x ∈ M ↔ x ∈ L.take k) ∧ Hid (M.length ≤ k) ∧ Hid (Below w.heap.size w wr)) (fun _ i _ => n - (intOf i).toNat)
  case atStart => exact ⟨0, [], by omega, rfl, OwnC.nil _ _, List.Pairwise.nil, Lib.hid (fun x => by simp), Lib.hid (by simp), Below.refl _ _⟩
  case round =>
    obtain ⟨k, M, hk, rfl, hown, hris, hmem, hlen, hbl⟩ := hrel
    by_cases hlt : k < n
    · have hi0 : (0 : Int) ≤ (k : Int) := by omega
      have hi5 : (k : Int) < (n : Int) := by omega
      have HIr := Lib.hid (HI.out.later hbl.out (Nat.le_refl _))
      obtain ⟨c, hc⟩ : ∃ c, L.getD k c0 = c := ⟨_, rfl⟩
      have htk : L.take (k + 1) = L.take k ++ [c] := by rw [← hc]; exact take_more (by rw [HL.out]; exact hlt)
      have HT := Lib.hid htk
      have HC := Lib.hid hc
      obtain ⟨ao2, cap2, hv, hcs2⟩ := hown.out.certs
      subst hv
      obtain ⟨m, hm⟩ : ∃ m, M.length = m := ⟨_, rfl⟩
      rw [hm] at hown hcs2 ⊢
      have HM := Lib.hid hm
      have hmk : m ≤ k := by have := hlen.out; omega
      have HCS2 := Lib.hid hcs2
      have hm2 := hcs2.2.1
      have hmm2 := hcs2.2.2.1
      unfold maxLen at hmm2
      clear hc htk hcs2 hm
      obtain ⟨b, off, hao, hat⟩ := HIr.out.2.2.2.1 (by omega)
      subst hao
      have hkc := hat k hlt
      rw [HC.out] at hkc
      have HKC := Lib.hid hkc
      have hbz := hat.lt (by omega)
      have HBZ := Lib.hid hbz
      clear hat hkc hbz
      go_wp2_with fail
      obtain ⟨V, rfl⟩ : ∃ V, V = wr := ⟨_, rfl⟩
      go_loopw [5] (fun i5 wc => ∃ t, t ≤ m ∧ i5 = .int .i64 ((t : Nat) : Int) ∧ Hid (∀ j, j < t → cmpC (M.getD j c0) c < 0) ∧ Hid (Below V.heap.size V wc)) (fun i _ => m - (intOf i).toNat)
      case atStart => exact ⟨0, by omega, rfl, Lib.hid (fun j hj => absurd hj (by omega)), Below.refl _ _⟩
      case round =>
        obtain ⟨t, ht, rfl, H1, hbc⟩ := hrel
        obtain ⟨wa, rfl⟩ : ∃ wa, wa = wr := ⟨_, rfl⟩
        by_cases htm : t < m
        · have hti0 : (0 : Int) ≤ (t : Int) := by omega
          have hti5 : (t : Int) < (m : Int) := by omega
          have hcs := HCS2.out.later hbc.out (Nat.le_refl _)
          obtain ⟨b2, off2, e, hat2⟩ := hcs.2.2.2.1 (by omega)
          subst e
          obtain ⟨d, hd⟩ : ∃ d, M.getD t c0 = d := ⟨_, rfl⟩
          have hkd := hat2 t htm
          rw [hd] at hkd
          have hkc : ∀ j, j < 5 → wa.cell? ⟨b, off + k * 5 + j, none⟩ = some (.int .i64 (c.get j)) := fun j hj => (hbc.out.cell (by dsimp only; exact HBZ.out)).trans (HKC.out j hj)
          have f0 : wa.cell? ⟨b2, off2 + t * 5, none⟩ = some (.int .i64 d.cu) := hkd 0 (by omega)
          have f1 : wa.cell? ⟨b2, off2 + t * 5 + 1, none⟩ = some (.int .i64 d.ju) := hkd 1 (by omega)
          have f2 : wa.cell? ⟨b2, off2 + t * 5 + 2, none⟩ = some (.int .i64 d.ca) := hkd 2 (by omega)
          have f3 : wa.cell? ⟨b2, off2 + t * 5 + 3, none⟩ = some (.int .i64 d.fr) := hkd 3 (by omega)
          have f4 : wa.cell? ⟨b2, off2 + t * 5 + 4, none⟩ = some (.int .i64 d.to) := hkd 4 (by omega)
          have e0 : wa.cell? ⟨b, off + k * 5, none⟩ = some (.int .i64 c.cu) := hkc 0 (by omega)
          have e1 : wa.cell? ⟨b, off + k * 5 + 1, none⟩ = some (.int .i64 c.ju) := hkc 1 (by omega)
          have e2 : wa.cell? ⟨b, off + k * 5 + 2, none⟩ = some (.int .i64 c.ca) := hkc 2 (by omega)
          have e3 : wa.cell? ⟨b, off + k * 5 + 3, none⟩ = some (.int .i64 c.fr) := hkc 3 (by omega)
          have e4 : wa.cell? ⟨b, off + k * 5 + 4, none⟩ = some (.int .i64 c.to) := hkc 4 (by omega)
          have HDE := Lib.hid hd
          have HB2Z : Hid (b2 < wa.heap.size) := Lib.hid (hat2.lt (by omega))
          have HBZa : Hid (b < wa.heap.size) := Lib.hid (Nat.lt_of_lt_of_le HBZ.out hbc.out.size)
          clear hcs hat2 hkd hkc hd
          go_wp2_with fail
          go_region_held3 (fun w' => w'.cell? ⟨b2, off2 + t * 5, none⟩ = some (.int .i64 d.cu) ∧ w'.cell? ⟨b2, off2 + t * 5 + 1, none⟩ = some (.int .i64 d.ju) ∧ w'.cell? ⟨b2, off2 + t * 5 + 2, none⟩ = some (.int .i64 d.ca) ∧ w'.cell? ⟨b2, off2 + t * 5 + 3, none⟩ = some (.int .i64 d.fr) ∧ w'.cell? ⟨b2, off2 + t * 5 + 4, none⟩ = some (.int .i64 d.to) ∧ w'.cell? ⟨b, off + k * 5, none⟩ = some (.int .i64 c.cu) ∧ w'.cell? ⟨b, off + k * 5 + 1, none⟩ = some (.int .i64 c.ju) ∧ w'.cell? ⟨b, off + k * 5 + 2, none⟩ = some (.int .i64 c.ca) ∧ w'.cell? ⟨b, off + k * 5 + 3, none⟩ = some (.int .i64 c.fr) ∧ w'.cell? ⟨b, off + k * 5 + 4, none⟩ = some (.int .i64 c.to) ∧ Below wa.heap.size wa w')
            (first
              | (exact ⟨f0, f1, f2, f3, f4, e0, e1, e2, e3, e4, (Below.refl _ _).drew⟩)
              | (go_split_ands; refine twoS_step HB2Z.out HBZa.out hbq ?_ ?_ ?_ ?_ ?_ ?_ ?_ ?_ ?_ ?_ ?_; all_goals assumption))
            (first
              | (go_at_call 25; go_split_ands; refine (HA.out _ _ _ _ _ _ _ _ _ _ _).mono ?_; rintro e w1 ⟨rfl, hbq⟩)
              | fail)
          obtain ⟨p, hp⟩ : ∃ p, p = decide (cmpC ⟨d.cu, d.ju, d.ca, d.fr, d.to⟩ ⟨c.cu, c.ju, c.ca, c.fr, c.to⟩ < 0) := ⟨_, rfl⟩
          rw [← hp]
          have HP : Hid (p = decide (cmpC d c < 0)) := Lib.hid hp
          clear hp
          clear f0 f1 f2 f3 f4 e0 e1 e2 e3 e4
          go_split_ands
          have hba : Below wa.heap.size wa w1 := by assumption
          have HBA := Lib.hid (hbc.out.trans (hba.mono hbc.out.size))
          clear hba
          cases p with
          | true =>
            go_wp2_with fail
            go_roundw
            case rel =>
              refine ⟨t + 1, by omega, by go_num, Lib.hid (fun j hj => ?_), HBA.out⟩
              by_cases e : j = t
              · rw [e, HDE.out]; exact of_decide_eq_true HP.out.symm
              · exact H1.out j (by omega)
            case measure => simp [intOf]; omega
          | false =>
            have hnlt : ¬ cmpC d c < 0 := of_decide_eq_false HP.out.symm
            have HNL := Lib.hid hnlt
            clear hnlt
            obtain ⟨p2, hp2⟩ : ∃ p2, p2 = eqC d c := ⟨_, rfl⟩
            have hql : ∀ w', (binOp .eql 30 (.agg #[.int .i64 d.cu, .int .i64 d.ju, .int .i64 d.ca, .int .i64 d.fr, .int .i64 d.to]) (.agg #[.int .i64 c.cu, .int .i64 c.ju, .int .i64 c.ca, .int .i64 c.fr, .int .i64 c.to])).run Try.prog w' = .ok (.bool p2) w' := by
              rw [hp2]; exact run_eql_cert d c
            have HP2 := Lib.hid hp2
            clear hp2
            cases p2 with
            | true =>
              go_wp2_with fail
              go_quiet (fail)
              go_wp2_with fail
              go_roundw
              case rel =>
                refine ⟨k + 1, M, by omega, by go_num, hown.out.later (below_drewN HBA.out _), hris.out, Lib.hid (fun x => ?_), Lib.hid (by have := hlen.out; omega), hbl.out.trans ((below_drewN HBA.out _).mono hbl.out.size)⟩
                have hdc : d = c := (eqC_iff d c).1 HP2.out.symm
                rw [HT.out, List.mem_append, List.mem_singleton, ← hmem.out x]
                constructor
                · exact .inl
                · rintro (h | h)
                  · exact h
                  · rw [h, ← hdc, ← HDE.out]; exact mem_getD (by rw [HM.out]; exact htm)
              case measure => simp [intOf]; omega
            | false =>
              go_wp2_with fail
              go_quiet (fail)
              go_wp2_with fail
              have HBW : Hid (Below V.heap.size V (w1.drewN nq)) := Lib.hid (below_drewN HBA.out _)
              have H2 : Hid (t < M.length → cmpC c (M.getD t c0) < 0) := Lib.hid (fun _ => by
                rw [HDE.out]
                by_cases h : cmpC c d < 0
                · exact h
                · exact absurd (cmpC_total (by have := HNL.out; omega) h) (eqC_false.1 HP2.out.symm))
              obtain ⟨W, hW⟩ : ∃ W, W = w1.drewN nq := ⟨_, rfl⟩
              change Code.wp _ _ _ _ (w1.drewN nq)
              rw [← hW]
              have hbW : Below V.heap.size V W := by rw [hW]; exact HBW.out
              have HBW2 := Lib.hid hbW
              have HCSW := Lib.hid (HCS2.out.later hbW (Nat.le_refl _))
              clear hW hbW
              have hct := cut_to HCSW.out t (by omega)
              obtain ⟨ao3, hcf1, hcf2⟩ := cut_from HCSW.out t (by omega)
              obtain ⟨m3, hm3⟩ : ∃ m3, m - t = m3 := ⟨_, rfl⟩
              obtain ⟨cap3, hcap3⟩ : ∃ cap3, cap2 - t = cap3 := ⟨_, rfl⟩
              rw [hm3, hcap3] at hcf1 hcf2
              have hsl1 := hct.1
              have HCT := Lib.hid hct.2
              have HCF := Lib.hid hcf2
              have hm3t : t + m3 = m := by omega
              have HM3 := Lib.hid hm3t
              clear hct hcf2 hm3 hcap3 hm3t
              have hz0 : (0 : Int) ≤ (t : Int) := by omega
              have hz5 : (t : Int) ≤ (m : Int) := by omega
              have hkcW : ∀ j, j < 5 → W.cell? ⟨b, off + k * 5 + j, none⟩ = some (.int .i64 (c.get j)) := fun j hj => (HBW2.out.cell (by dsimp only; exact HBZ.out)).trans (HKC.out j hj)
              have x0 : W.cell? ⟨b, off + k * 5, none⟩ = some (.int .i64 c.cu) := hkcW 0 (by omega)
              have x1 : W.cell? ⟨b, off + k * 5 + 1, none⟩ = some (.int .i64 c.ju) := hkcW 1 (by omega)
              have x2 : W.cell? ⟨b, off + k * 5 + 2, none⟩ = some (.int .i64 c.ca) := hkcW 2 (by omega)
              have x3 : W.cell? ⟨b, off + k * 5 + 3, none⟩ = some (.int .i64 c.fr) := hkcW 3 (by omega)
              have x4 : W.cell? ⟨b, off + k * 5 + 4, none⟩ = some (.int .i64 c.to) := hkcW 4 (by omega)
              clear hkcW
              have HBZW : Hid (b < W.heap.size) := Lib.hid (Nat.lt_of_lt_of_le HBZ.out HBW2.out.size)
              have hwr : w.heap.size ≤ V.heap.size := hbl.out.size
              have HWR := Lib.hid hwr
              clear hwr
              go_region_held3 (fun w' => w'.cell? ⟨b, off + k * 5, none⟩ = some (.int .i64 c.cu) ∧ w'.cell? ⟨b, off + k * 5 + 1, none⟩ = some (.int .i64 c.ju) ∧ w'.cell? ⟨b, off + k * 5 + 2, none⟩ = some (.int .i64 c.ca) ∧ w'.cell? ⟨b, off + k * 5 + 3, none⟩ = some (.int .i64 c.fr) ∧ w'.cell? ⟨b, off + k * 5 + 4, none⟩ = some (.int .i64 c.to) ∧ Below W.heap.size W w')
                (first
                  | (exact ⟨x0, x1, x2, x3, x4, (Below.refl _ _).drew⟩)
                  | (go_split_ands; exact oneS_step HBZW.out hbn x0 x1 x2 x3 x4)
                  | (go_split_ands; exact oneS_step HBZW.out (Below.alloc (by assumption) (Below.size (by assumption)) _) x0 x1 x2 x3 x4))
                (first
                  | (rw [if_pos (by rfl)]
                     go_split_ands
                     refine opwp_append_certs _ _ rfl W.heap.size _ [] rfl (by first | exact OwnC.none_new _ _ (by first | exact Nat.le_refl _ | (simp; done) | (simp; omega)) | exact (OwnC.none_new W _ (Nat.le_refl _)).later (((Below.refl _ _).alloc (Nat.le_refl _) _).drew) | exact (OwnC.none_at (W.alloc _) W.heap.size (W.heap.size + 1) (by simp) (by simp)).later (Below.refl _ _).drew) _ t cap2 (M.take t) rfl (HCT.out.later (by assumption) (Nat.le_refl _)) (by simp; omega) W (by assumption) (Below.size (by assumption)) ?_
                     intro v1 w4 hown1 hgr1 hbn)
                  | (rw [if_pos (by rfl)]
                     go_split_ands
                     refine opwp_append_certs _ _ rfl W.heap.size _ (M.take t) rfl (by first | exact hown1 | exact hown1.later ((Below.refl _ _).alloc (Nat.le_refl _) _)) _ 1 1 [c] rfl (by first | exact one_at _ c _ (by first | rfl | simp) | exact IsCerts.grown ((one_at (W.alloc _) c (W.heap.size + 1) (by simp)).later (Below.refl _ _).drew (Nat.le_refl _)) hgr1 (by show some (W.heap.size + 1) ≠ some W.heap.size; simp) | exact IsCerts.grown ((one_at W c W.heap.size rfl).later (((Below.refl _ _).alloc (Nat.le_refl _) _).drew) (Nat.le_refl _)) hgr1 (by show some W.heap.size ≠ some (W.heap.size + 1); simp)) (by rw [List.length_take]; omega) W (by assumption) (Below.size (by assumption)) ?_
                     intro v2 w5 hown2 hgr2 hbn)
                  | (rw [if_pos (by rfl)]
                     go_split_ands
                     refine opwp_append_certs _ _ rfl W.heap.size _ (M.take t ++ [c]) rfl hown2 ao3 m3 cap3 (M.drop t) rfl (HCF.out.later (by assumption) (Nat.le_refl _)) (by have := HM3.out; rw [List.length_append, List.length_take]; simp; omega) W (by assumption) (Below.size (by assumption)) ?_
                     intro v3 w6 hown3 hgr3 hbn)
                  | fail)
              all_goals
                go_wp2_with fail
                go_roundw
                case rel =>
                  refine ⟨k + 1, M.take t ++ [c] ++ M.drop t, by omega, by go_num, Lib.hid (hown3.base (Nat.le_trans HWR.out HBW2.out.size)), Lib.hid (insert_rising hris.out H1.out H2.out), Lib.hid (fun x => ?_), Lib.hid ?_, Lib.hid (hbl.out.trans (Below.mono (HBW2.out.trans (Below.mono hbn HBW2.out.size)) HWR.out))⟩
                  · rw [insert_mem, hmem.out x, HT.out]; simp
                  · simp only [List.length_append, List.length_take, List.length_drop, List.length_singleton]; have := hlen.out; have := HM.out; omega
                case measure => simp [intOf]; omega
        · have hti : ¬ (t : Int) < (m : Int) := by omega
          go_wp2_with fail
          refine wp_region_still_lit (by kernel_rfl) (by kernel_rfl) ?_
          iterate 4 still_step
          refine Box.out ?_
          refine still_val (v := .bool false) rfl (by first | rfl | (go_simp; done)) ?_
          simp only [Act.put, List.setIfInBounds_toArray, List.set_cons_zero, List.set_cons_succ]
          refine still_skip rfl ?_
          simp only [Act.put, List.setIfInBounds_toArray, List.set_cons_zero, List.set_cons_succ]
          refine still_skip rfl ?_
          simp only [Act.put, List.setIfInBounds_toArray, List.set_cons_zero, List.set_cons_succ]
          refine still_skip rfl ?_
          simp only [Act.put, List.setIfInBounds_toArray, List.set_cons_zero, List.set_cons_succ]
          refine still_skip rfl ?_
          simp only [Act.put, List.setIfInBounds_toArray, List.set_cons_zero, List.set_cons_succ]
          refine still_skip rfl ?_
          simp only [Act.put, List.setIfInBounds_toArray, List.set_cons_zero, List.set_cons_succ]
          refine still_skip rfl ?_
          simp only [Act.put, List.setIfInBounds_toArray, List.set_cons_zero, List.set_cons_succ]
          refine still_skip rfl ?_
          simp only [Act.put, List.setIfInBounds_toArray, List.set_cons_zero, List.set_cons_succ]
          refine still_skip rfl ?_
          simp only [Act.put, List.setIfInBounds_toArray, List.set_cons_zero, List.set_cons_succ]
          refine still_skip rfl ?_
          simp only [Act.put, List.setIfInBounds_toArray, List.set_cons_zero, List.set_cons_succ]
          refine still_val (v := .bool false) rfl (by first | rfl | (go_simp; done)) ?_
          simp only [Act.put, List.setIfInBounds_toArray, List.set_cons_zero, List.set_cons_succ]
          refine Box.mk (wpStill_nil ?_)
          go_wp2_with fail
          refine wp_region_still_lit (by kernel_rfl) (by kernel_rfl) ?_
          iterate 4 still_step
          refine Box.out ?_
          refine still_val (v := .bool false) rfl (by first | rfl | (go_simp; done)) ?_
          simp only [Act.put, List.setIfInBounds_toArray, List.set_cons_zero, List.set_cons_succ]
          refine still_skip rfl ?_
          simp only [Act.put, List.setIfInBounds_toArray, List.set_cons_zero, List.set_cons_succ]
          refine still_skip rfl ?_
          simp only [Act.put, List.setIfInBounds_toArray, List.set_cons_zero, List.set_cons_succ]
          refine still_skip rfl ?_
          simp only [Act.put, List.setIfInBounds_toArray, List.set_cons_zero, List.set_cons_succ]
          refine still_skip rfl ?_
          simp only [Act.put, List.setIfInBounds_toArray, List.set_cons_zero, List.set_cons_succ]
          refine still_skip rfl ?_
          simp only [Act.put, List.setIfInBounds_toArray, List.set_cons_zero, List.set_cons_succ]
          refine still_skip rfl ?_
          simp only [Act.put, List.setIfInBounds_toArray, List.set_cons_zero, List.set_cons_succ]
          refine still_skip rfl ?_
          simp only [Act.put, List.setIfInBounds_toArray, List.set_cons_zero, List.set_cons_succ]
          refine still_skip rfl ?_
          simp only [Act.put, List.setIfInBounds_toArray, List.set_cons_zero, List.set_cons_succ]
          refine still_skip rfl ?_
          simp only [Act.put, List.setIfInBounds_toArray, List.set_cons_zero, List.set_cons_succ]
          refine still_val (v := .bool false) rfl (by first | rfl | (go_simp; done)) ?_
          simp only [Act.put, List.setIfInBounds_toArray, List.set_cons_zero, List.set_cons_succ]
          refine Box.mk (wpStill_nil ?_)
          go_wp2_with fail
          have HBW : Hid (Below V.heap.size V wa.drew.drew) := Lib.hid hbc.out.drew.drew
          have H2 : Hid (t < M.length → cmpC c (M.getD t c0) < 0) := Lib.hid (fun h => absurd h (by rw [HM.out]; exact htm))
          obtain ⟨W, hW⟩ : ∃ W, W = wa.drew.drew := ⟨_, rfl⟩
          change Code.wp _ _ _ _ (wa.drew.drew)
          rw [← hW]
          have hbW : Below V.heap.size V W := by rw [hW]; exact HBW.out
          have HBW2 := Lib.hid hbW
          have HCSW := Lib.hid (HCS2.out.later hbW (Nat.le_refl _))
          clear hW hbW
          have hct := cut_to HCSW.out t (by omega)
          obtain ⟨ao3, hcf1, hcf2⟩ := cut_from HCSW.out t (by omega)
          obtain ⟨m3, hm3⟩ : ∃ m3, m - t = m3 := ⟨_, rfl⟩
          obtain ⟨cap3, hcap3⟩ : ∃ cap3, cap2 - t = cap3 := ⟨_, rfl⟩
          rw [hm3, hcap3] at hcf1 hcf2
          have hsl1 := hct.1
          have HCT := Lib.hid hct.2
          have HCF := Lib.hid hcf2
          have hm3t : t + m3 = m := by omega
          have HM3 := Lib.hid hm3t
          clear hct hcf2 hm3 hcap3 hm3t
          have hz0 : (0 : Int) ≤ (t : Int) := by omega
          have hz5 : (t : Int) ≤ (m : Int) := by omega
          have hkcW : ∀ j, j < 5 → W.cell? ⟨b, off + k * 5 + j, none⟩ = some (.int .i64 (c.get j)) := fun j hj => (HBW2.out.cell (by dsimp only; exact HBZ.out)).trans (HKC.out j hj)
          have x0 : W.cell? ⟨b, off + k * 5, none⟩ = some (.int .i64 c.cu) := hkcW 0 (by omega)
          have x1 : W.cell? ⟨b, off + k * 5 + 1, none⟩ = some (.int .i64 c.ju) := hkcW 1 (by omega)
          have x2 : W.cell? ⟨b, off + k * 5 + 2, none⟩ = some (.int .i64 c.ca) := hkcW 2 (by omega)
          have x3 : W.cell? ⟨b, off + k * 5 + 3, none⟩ = some (.int .i64 c.fr) := hkcW 3 (by omega)
          have x4 : W.cell? ⟨b, off + k * 5 + 4, none⟩ = some (.int .i64 c.to) := hkcW 4 (by omega)
          clear hkcW
          have HBZW : Hid (b < W.heap.size) := Lib.hid (Nat.lt_of_lt_of_le HBZ.out HBW2.out.size)
          have hwr : w.heap.size ≤ V.heap.size := hbl.out.size
          have HWR := Lib.hid hwr
          clear hwr
          go_region_held3 (fun w' => w'.cell? ⟨b, off + k * 5, none⟩ = some (.int .i64 c.cu) ∧ w'.cell? ⟨b, off + k * 5 + 1, none⟩ = some (.int .i64 c.ju) ∧ w'.cell? ⟨b, off + k * 5 + 2, none⟩ = some (.int .i64 c.ca) ∧ w'.cell? ⟨b, off + k * 5 + 3, none⟩ = some (.int .i64 c.fr) ∧ w'.cell? ⟨b, off + k * 5 + 4, none⟩ = some (.int .i64 c.to) ∧ Below W.heap.size W w')
            (first
              | (exact ⟨x0, x1, x2, x3, x4, (Below.refl _ _).drew⟩)
              | (go_split_ands; exact oneS_step HBZW.out hbn x0 x1 x2 x3 x4)
              | (go_split_ands; exact oneS_step HBZW.out (Below.alloc (by assumption) (Below.size (by assumption)) _) x0 x1 x2 x3 x4))
            (first
              | (rw [if_pos (by rfl)]
                 go_split_ands
                 refine opwp_append_certs _ _ rfl W.heap.size _ [] rfl (by first | exact OwnC.none_new _ _ (by first | exact Nat.le_refl _ | (simp; done) | (simp; omega)) | exact (OwnC.none_new W _ (Nat.le_refl _)).later (((Below.refl _ _).alloc (Nat.le_refl _) _).drew) | exact (OwnC.none_at (W.alloc _) W.heap.size (W.heap.size + 1) (by simp) (by simp)).later (Below.refl _ _).drew) _ t cap2 (M.take t) rfl (HCT.out.later (by assumption) (Nat.le_refl _)) (by simp; omega) W (by assumption) (Below.size (by assumption)) ?_
                 intro v1 w4 hown1 hgr1 hbn)
              | (rw [if_pos (by rfl)]
                 go_split_ands
                 refine opwp_append_certs _ _ rfl W.heap.size _ (M.take t) rfl (by first | exact hown1 | exact hown1.later ((Below.refl _ _).alloc (Nat.le_refl _) _)) _ 1 1 [c] rfl (by first | exact one_at _ c _ (by first | rfl | simp) | exact IsCerts.grown ((one_at (W.alloc _) c (W.heap.size + 1) (by simp)).later (Below.refl _ _).drew (Nat.le_refl _)) hgr1 (by show some (W.heap.size + 1) ≠ some W.heap.size; simp) | exact IsCerts.grown ((one_at W c W.heap.size rfl).later (((Below.refl _ _).alloc (Nat.le_refl _) _).drew) (Nat.le_refl _)) hgr1 (by show some W.heap.size ≠ some (W.heap.size + 1); simp)) (by rw [List.length_take]; omega) W (by assumption) (Below.size (by assumption)) ?_
                 intro v2 w5 hown2 hgr2 hbn)
              | (rw [if_pos (by rfl)]
                 go_split_ands
                 refine opwp_append_certs _ _ rfl W.heap.size _ (M.take t ++ [c]) rfl hown2 ao3 m3 cap3 (M.drop t) rfl (HCF.out.later (by assumption) (Nat.le_refl _)) (by have := HM3.out; rw [List.length_append, List.length_take]; simp; omega) W (by assumption) (Below.size (by assumption)) ?_
                 intro v3 w6 hown3 hgr3 hbn)
              | fail)
          all_goals
            go_wp2_with fail
            go_roundw
            case rel =>
              refine ⟨k + 1, M.take t ++ [c] ++ M.drop t, by omega, by go_num, Lib.hid (hown3.base (Nat.le_trans HWR.out HBW2.out.size)), Lib.hid (insert_rising hris.out H1.out H2.out), Lib.hid (fun x => ?_), Lib.hid ?_, Lib.hid (hbl.out.trans (Below.mono (HBW2.out.trans (Below.mono hbn HBW2.out.size)) HWR.out))⟩
              · rw [insert_mem, hmem.out x, HT.out]; simp
              · simp only [List.length_append, List.length_take, List.length_drop, List.length_singleton]; have := hlen.out; have := HM.out; omega
            case measure => simp [intOf]; omega
    · obtain rfl : k = n := by omega
      go_wp2
      go_ret
      refine ⟨_, M, rfl, hown.out, hris.out, fun x => ?_, hbl.out⟩
      rw [hmem.out x, List.take_of_length_le (by rw [HL.out]; exact Nat.le_refl _)]
end Go.Proofs.Ytlmimocmllhbkaa
