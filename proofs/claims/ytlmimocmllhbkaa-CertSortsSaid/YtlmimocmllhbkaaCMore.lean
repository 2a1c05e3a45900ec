/- CertMore's walk -/
import Derived.Test.YtlmimocmllhbkaaCIn
import Derived.Deep.CutRange
import Derived.Deep.RegionHeld3
namespace Go.Proofs.Ytlmimocmllhbkaa
open Go.RowKit
theorem cells_box {w : World} {B : Nat} {c : Crt} (h : w.heap[B]? = some (.cells #[Value.int .i64 c.cu, Value.int .i64 c.ju, Value.int .i64 c.ca, Value.int .i64 c.fr, Value.int .i64 c.to] 30 (0, 0))) :
    w.cell? ⟨B, 0, none⟩ = some (.int .i64 c.cu) ∧ w.cell? ⟨B, 1, none⟩ = some (.int .i64 c.ju) ∧ w.cell? ⟨B, 2, none⟩ = some (.int .i64 c.ca) ∧ w.cell? ⟨B, 3, none⟩ = some (.int .i64 c.fr) ∧ w.cell? ⟨B, 4, none⟩ = some (.int .i64 c.to) :=
  ⟨cell_of_row _ _ _ _ _ _ h, cell_of_row _ _ _ _ _ _ h, cell_of_row _ _ _ _ _ _ h, cell_of_row _ _ _ _ _ _ h, cell_of_row _ _ _ _ _ _ h⟩
theorem opwp_append_certs {w : World} {o : Oper} {a : Act} {K : Act → World → Prop} {Q : Exit → Act → World → Prop} (s x : Operand)
    (ho : o.op = .call { callee := .builtin .append, args := #[s, x], argTypes := #[24, 24] })
    (base : Nat) (v : Value) (L : List Crt) (hs : a.eval s = v) (hown : OwnC w base v L)
    (ao : Option Addr) (m c : Nat) (L2 : List Crt) (hx : a.eval x = .slice ao m c) (hsrc : IsCerts w ao m c L2) (hnm : L.length + m ≤ 1000000000) (W : World) (hW : Below base W w) (hbase : base ≤ w.heap.size)
    (h : ∀ v' w', OwnC w' base v' (L ++ L2) → w.grownBy w' v.ownBlock → Below base W w' → K (a.put o.dst v') w') : o.wp Try.prog a w K Q := by
  obtain ⟨v', w', hr, h2, h3⟩ := run_append_certs o.type base v L hown ao m c L2 hsrc hnm hbase
  unfold Oper.wp execOp
  simp only [ho, resolve, invoke, builtin, Sem.run_bind, Sem.run_pure, Result.andThen_ok, List.map_toArray, List.map_cons, List.map_nil, hs, hx, hr]
  exact h v' w' h2 h3 (below_of_grownBy hW hown h3 hbase)
theorem OwnC.none_at (w : World) (base g : Nat) (hg : g = w.heap.size) (hb : base ≤ w.heap.size) : OwnC (w.alloc (Obj.cells #[] 30)) base (.slice (some ⟨g, 0, none⟩) 0 0) [] := by
  subst hg; exact OwnC.none_new w base hb
theorem Sort_own (base : Nat) (v : Value) (L : List Crt) (w : World) (h : OwnC w base v L) (hn : L.length ≤ 100000) :
    Calls Try.prog 13 #[v] w fun e w' => ∃ v M, e = .returned v ∧ OwnC w' w.heap.size v M ∧ Rising M ∧ (∀ c, c ∈ M ↔ c ∈ L) ∧ M.length ≤ L.length ∧ Below w.heap.size w w' := by
  obtain ⟨ao, cap, rfl, hcs⟩ := h.certs
  exact Sort_any ao _ cap L w hcs hn
theorem moreS {w3 w' : World} {B : Nat} {c : Crt} (hB : B < w3.heap.size) (hbox : w3.heap[B]? = some (.cells #[Value.int .i64 c.cu, Value.int .i64 c.ju, Value.int .i64 c.ca, Value.int .i64 c.fr, Value.int .i64 c.to] 30 (0, 0))) (hb : Below w3.heap.size w3 w') :
    w'.cell? ⟨B, 0, none⟩ = some (.int .i64 c.cu) ∧ w'.cell? ⟨B, 1, none⟩ = some (.int .i64 c.ju) ∧ w'.cell? ⟨B, 2, none⟩ = some (.int .i64 c.ca) ∧ w'.cell? ⟨B, 3, none⟩ = some (.int .i64 c.fr) ∧ w'.cell? ⟨B, 4, none⟩ = some (.int .i64 c.to) ∧ Below w3.heap.size w3 w' := by
  obtain ⟨h0, h1, h2, h3, h4⟩ := cells_box ((hb.block B hB).trans hbox)
  exact ⟨h0, h1, h2, h3, h4, hb⟩
theorem IsCerts.grown {w w' : World} {g n cap : Nat} {L : List Crt} {row : Option Nat} (h : IsCerts w (some ⟨g, 0, none⟩) n cap L) (hg : w.grownBy w' row) (hne : some g ≠ row) : IsCerts w' (some ⟨g, 0, none⟩) n cap L := by
  obtain ⟨h1, h2, h3, h4, h5⟩ := h
  refine ⟨h1, h2, h3, fun hn => ?_, h5⟩
  obtain ⟨b, off, e, hc⟩ := h4 hn
  cases e
  exact ⟨g, 0, rfl, fun i hi j hj => (World.cell?_of_block (w := w) (hg.block g (hc.lt hn) hne)).trans (hc i hi j hj)⟩
set_option maxRecDepth 100000 in
set_option maxHeartbeats 2000000 in
theorem CertMore_any (ao : Option Addr) (n cap : Nat) (L : List Crt) (c : Crt) (q : Qst) (w : World) (h : IsCerts w ao n cap L) :
    Calls Try.prog 5 #[.slice ao n cap, c.val, .int .i64 q.cu, .int .i64 q.ju, .int .i64 q.ca, .int .i64 q.da] w fun e w' => e = .returned (.bool true) ∧ Below w.heap.size w w' := by
  have HI := Lib.hid h
  have hnc := h.2.1
  have hcm := h.2.2.1
  have HL : Hid (L.length = n) := Lib.hid h.1
  clear h
  unfold maxLen at hcm
  obtain ⟨e0, he0⟩ : ∃ e, e = (checkP L).1 := ⟨_, rfl⟩
  obtain ⟨e1, he1⟩ : ∃ e, e = (checkP L).2 := ⟨_, rfl⟩
  obtain ⟨f0, hf0⟩ : ∃ e, e = (checkP [c]).1 := ⟨_, rfl⟩
  obtain ⟨f1, hf1⟩ : ∃ e, e = (checkP [c]).2 := ⟨_, rfl⟩
  have HE0 := Lib.hid he0
  have HE1 := Lib.hid he1
  have HF0 := Lib.hid hf0
  have HF1 := Lib.hid hf1
  clear he0 he1 hf0 hf1
  unfold Crt.val
  obtain ⟨B, hB⟩ : ∃ B, w.heap.size = B := ⟨_, rfl⟩
  have HBE := Lib.hid hB
  go_enter Try.func5, Try.ntmps5
  go_wp2_with fail
  generalize hw0 : w.alloc (Obj.cells #[Value.int .i64 c.cu, Value.int .i64 c.ju, Value.int .i64 c.ca, Value.int .i64 c.fr, Value.int .i64 c.to] 30) = w0
  have hbox : w0.heap[B]? = some (.cells #[Value.int .i64 c.cu, Value.int .i64 c.ju, Value.int .i64 c.ca, Value.int .i64 c.fr, Value.int .i64 c.to] 30 (0, 0)) := by rw [← hw0, ← hB]; exact alloc_new _ _
  have hb0 : Below B w w0 := by rw [← hw0, ← hB]; exact (Below.refl _ _).alloc (Nat.le_refl _) _
  have hs0 : B + 1 ≤ w0.heap.size := by rw [← hw0, ← hB]; simp
  have HBX := Lib.hid hbox
  have HB0 := Lib.hid hb0
  have HS0 := Lib.hid hs0
  have HI0 : Hid (IsCerts w0 ao n cap L) := Lib.hid (HI.out.later hb0 (by rw [hB]; exact Nat.le_refl _))
  clear hw0 hbox hb0 hs0 hB
  refine (CertKnown_any _).mono ?_
  rintro e w1 ⟨rfl, hb1⟩
  have HB1 := Lib.hid hb1
  clear hb1
  go_wp2_with fail
  refine (Check_any _ _ _ L _ (HI0.out.later HB1.out (Nat.le_refl _))).mono ?_
  rintro e w2 ⟨rfl, hb2⟩
  rw [← HE0.out, ← HE1.out]
  have HB2 := Lib.hid (HB1.out.trans (hb2.mono HB1.out.size))
  clear hb2
  have hbox2 := (HB2.out.block B (by have := HS0.out; omega)).trans HBX.out
  obtain ⟨g0, g1, g2, g3, g4⟩ := cells_box hbox2
  have HBX2 := Lib.hid hbox2
  clear hbox2
  go_wp2_with fail
  have hal : Below w2.heap.size w2 _ := (Below.refl _ _).alloc (Nat.le_refl _) (Obj.cells #[Value.int .i64 c.cu, Value.int .i64 c.ju, Value.int .i64 c.ca, Value.int .i64 c.fr, Value.int .i64 c.to] 30)
  refine (Check_any _ _ _ [c] _ (one_certs w2 c)).mono ?_
  rintro e w3 ⟨rfl, hb3⟩
  rw [← HF0.out, ← HF1.out]
  have HB3 := Lib.hid (HB2.out.trans ((hal.trans (hb3.mono hal.size)).mono HB2.out.size))
  clear hb3 hal g0 g1 g2 g3 g4
  have hend : Below B w w3 := HB0.out.trans (HB3.out.mono (by have := HS0.out; omega))
  have HEND := Lib.hid hend
  clear hend
  have hend2 : Below w.heap.size w w3 := by rw [HBE.out]; exact HEND.out
  have HEND2 := Lib.hid hend2
  clear hend2
  by_cases hbig : 60 < n
  · have hbi : (60 : Int) < (n : Int) := by omega
    go_wp2_with fail
    go_ret
    exact ⟨rfl, by first | exact HEND2.out | exact HEND.out⟩
  · have hbi : ¬ (60 : Int) < (n : Int) := by omega
    by_cases he : e0 = 0
    · subst he
      by_cases hf : f0 = 0
      · subst hf
        go_wp2_with fail
        have hB3 : B < w3.heap.size := by have := HS0.out; have := HB3.out.size; omega
        have hbox3 : w3.heap[B]? = some (.cells #[Value.int .i64 c.cu, Value.int .i64 c.ju, Value.int .i64 c.ca, Value.int .i64 c.fr, Value.int .i64 c.to] 30 (0, 0)) := (HB3.out.block B (by have := HS0.out; omega)).trans HBX.out
        have HBB := Lib.hid hB3
        have HBX3 := Lib.hid hbox3
        have HI3 : Hid (IsCerts w3 ao n cap L) := Lib.hid (HI0.out.later HB3.out (Nat.le_refl _))
        clear hB3 hbox3
        go_cut [18] from 48 to 54 (fun v wc => ∃ M, Hid (OwnC wc w3.heap.size v M) ∧ Hid (Rising M) ∧ Hid (∀ x, x ∈ M ↔ x ∈ L ++ [c]) ∧ Hid (M.length ≤ L.length + 1) ∧ Hid (Below w3.heap.size w3 wc))
        case first =>
          go_region_held3 (fun w' => w'.cell? ⟨B, 0, none⟩ = some (.int .i64 c.cu) ∧ w'.cell? ⟨B, 1, none⟩ = some (.int .i64 c.ju) ∧ w'.cell? ⟨B, 2, none⟩ = some (.int .i64 c.ca) ∧ w'.cell? ⟨B, 3, none⟩ = some (.int .i64 c.fr) ∧ w'.cell? ⟨B, 4, none⟩ = some (.int .i64 c.to) ∧ Below w3.heap.size w3 w')
            (first
              | (exact moreS HBB.out HBX3.out (Below.refl _ _).drew)
              | (go_split_ands; exact moreS HBB.out HBX3.out hbn)
              | (go_split_ands; exact moreS HBB.out HBX3.out (Below.alloc (by assumption) (Below.size (by assumption)) _)))
            (first
              | (
                 rw [if_pos (by rfl)]
                 go_split_ands
                 refine opwp_append_certs _ _ rfl w3.heap.size _ [] rfl (by first | exact OwnC.none_new _ _ (by first | exact Nat.le_refl _ | (simp; done) | (simp; omega)) | exact (OwnC.none_new w3 _ (Nat.le_refl _)).later (((Below.refl _ _).alloc (Nat.le_refl _) _).drew) | exact (OwnC.none_at (w3.alloc _) w3.heap.size (w3.heap.size + 1) (by simp) (by simp)).later (Below.refl _ _).drew) ao n cap L rfl (HI3.out.later (by assumption) (Nat.le_refl _)) (by simp; omega) w3 (by assumption) (Below.size (by assumption)) ?_
                 intro v1 w4 hown1 hgr1 hbn)
              | (
                 rw [if_pos (by rfl)]
                 go_split_ands
                 refine opwp_append_certs _ _ rfl w3.heap.size _ L rfl (by first | exact hown1 | exact hown1.later ((Below.refl _ _).alloc (Nat.le_refl _) _)) _ 1 1 [c] rfl (by first | exact one_at _ c _ (by first | rfl | simp) | exact IsCerts.grown ((one_at (w3.alloc _) c (w3.heap.size + 1) (by simp)).later (Below.refl _ _).drew (Nat.le_refl _)) hgr1 (by show some (w3.heap.size + 1) ≠ some w3.heap.size; simp) | exact IsCerts.grown ((one_at w3 c w3.heap.size rfl).later (((Below.refl _ _).alloc (Nat.le_refl _) _).drew) (Nat.le_refl _)) hgr1 (by show some w3.heap.size ≠ some (w3.heap.size + 1); simp)) (by rw [HL.out]; omega) w3 (by assumption) (Below.size (by assumption)) ?_
                 intro v2 w5 hown2 hgr2 hbn)
              | (go_at_call 13
                 go_split_ands
                 refine (Sort_own _ _ _ _ hown2 (by have := HL.out; simp; omega)).mono ?_
                 rintro e w6 ⟨v, M, rfl, hown3, hris, hmem, hlen, hb3⟩
                 have hbn : Below w3.heap.size w3 w6 := Below.trans (by assumption) (hb3.mono (Below.size (by assumption)))))
          all_goals
            go_wp2_with fail
            go_meet
            case rel =>
              have hb5 : Below w3.heap.size w3 w5 := by assumption
              exact ⟨M, Lib.hid (hown3.base hb5.size), Lib.hid hris, Lib.hid (fun x => by simpa using hmem x), Lib.hid (by simpa using hlen), Lib.hid hbn⟩
        case rest =>
          obtain ⟨M, hownM, hris, hmem, hlen, hbel⟩ := hcut
          have hokL := ok_of_check HE0.out.symm
          have hokc := (check_one c).1 HF0.out.symm
          have hchk : (checkP M).1 = 0 := check_rising hris.out (fun x hx => by
            have h1 := (hmem.out x).1 hx
            simp only [List.mem_append, List.mem_singleton] at h1
            rcases h1 with h1 | h1
            · exact hokL x h1
            · rw [h1]; exact hokc) (by have := hlen.out; have := HL.out; omega)
          have hany : anyP M q = (anyP L q || holdsP q c) := by
            rw [anyP_congr (L := L ++ [c]) hmem.out q]
            unfold anyP
            rw [List.any_append]
            simp
          obtain ⟨b, hb⟩ : ∃ b, b = anyP L q := ⟨_, rfl⟩
          obtain ⟨b2, hb2⟩ : ∃ b, b = anyP M q := ⟨_, rfl⟩
          obtain ⟨m1, hm1⟩ : ∃ b, b = (checkP M).2 := ⟨_, rfl⟩
          obtain ⟨ao2, cap2, rfl, hcs⟩ := hownM.out.certs
          obtain ⟨mm, hmm⟩ : ∃ mm, mm = M.length := ⟨_, rfl⟩
          rw [← hmm] at hcs ⊢
          have HCS := Lib.hid hcs
          have HK := Lib.hid hchk
          have HAN := Lib.hid hany
          have HBL := Lib.hid hb
          have HBM := Lib.hid hb2
          have HM1 := Lib.hid hm1
          clear hokL hokc hchk hany hb hb2 hm1 hcs hmm
          go_wp2_with fail
          refine (Check_any _ _ _ M _ HCS.out).mono ?_
          rintro e w4 ⟨rfl, hb4⟩
          rw [HK.out, ← HM1.out]
          have HB4 := Lib.hid (hbel.out.trans (hb4.mono hbel.out.size))
          have HCS4 := Lib.hid (HCS.out.later hb4 (Nat.le_refl _))
          clear hb4
          go_wp2_with fail
          refine (Holds_any _ _ _ L q _ (HI3.out.later HB4.out (Nat.le_refl _))).mono ?_
          rintro e w5 ⟨rfl, hb5⟩
          rw [show (decide ((checkP L).1 = 0) && anyP L q) = b by rw [← HE0.out, ← HBL.out]; rfl]
          have HB5 := Lib.hid (HB4.out.trans (hb5.mono HB4.out.size))
          have HCS5 := Lib.hid (HCS4.out.later hb5 (Nat.le_refl _))
          clear hb5
          go_wp2_with fail
          refine (Holds_any _ _ _ M q _ HCS5.out).mono ?_
          rintro e w6 ⟨rfl, hb6⟩
          rw [show (decide ((checkP M).1 = 0) && anyP M q) = b2 by rw [HK.out, ← HBM.out]; rfl]
          have HB6 := Lib.hid (HB5.out.trans (hb6.mono HB5.out.size))
          clear hb6
          obtain ⟨g0, g1, g2, g3, g4⟩ := cells_box ((HB6.out.block B HBB.out).trans HBX3.out)
          have hfin := HAN.out
          rw [← HBL.out, ← HBM.out] at hfin
          unfold holdsP fitsP at hfin
          have HFIN := Lib.hid hfin
          have hbf : Below w.heap.size w w6 := HEND2.out.trans (HB6.out.mono HEND2.out.size)
          have HBF := Lib.hid hbf
          clear hfin hbf
          go_wp2_with fail
          all_goals
            go_ret
            refine ⟨?_, HBF.out⟩
            have hfin := HFIN.out
            show Ending.returned (Value.bool _) = Ending.returned (Value.bool true)
            congr 2
            simp_all
      · have hf1 : (f0 == 0) = false := by simpa using hf
        have hf2 : (f0 != 0) = true := by simpa using hf
        go_wp2_with fail
        go_ret
        exact ⟨rfl, by first | exact HEND2.out | exact HEND.out⟩
    · have he1 : (e0 == 0) = false := by simpa using he
      have he2 : (e0 != 0) = true := by simpa using he
      go_wp2_with fail
      go_ret
      exact ⟨rfl, by first | exact HEND2.out | exact HEND.out⟩
end Go.Proofs.Ytlmimocmllhbkaa
