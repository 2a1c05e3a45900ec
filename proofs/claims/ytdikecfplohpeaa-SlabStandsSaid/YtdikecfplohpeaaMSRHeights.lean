/- the document's Heights (printed by mkrheights.py) -/
import Derived.Test.YtdikecfplohpeaaMQRCheck
import Derived.Test.YtdikecfplohpeaaMQCont
import Derived.Test.YtdikecfplohpeaaMQLay
import Derived.Test.YtdikecfplohpeaaMSlab2
set_option linter.unusedSimpArgs false
set_option linter.unusedVariables false
namespace Go.Proofs.Ytdikecfplohpeaa
open Go.RowKit Go.Geo
attribute [local go_sem] Oper.semAt_some
theorem OwnI.any {w : World} {base : Nat} {v : Value} {L : List Int} (h : OwnI w base v L) : ownAny v = v.ownBlock := by
  rcases h.2 with ⟨rfl, _⟩ | ⟨g', cap, cur, rfl, _⟩ <;> rfl
theorem OwnI.lit (w : World) (base : Nat) (hb : base ≤ w.heap.size) (P : List Int) (hp : P.length ≤ 1000000) : OwnI (w.alloc (.cells (flatI P).toArray 3)) base (.slice (some ⟨w.heap.size, 0, none⟩) P.length P.length) P :=
  ⟨by rw [flatI_length, Nat.mul_one], .inr ⟨_, _, (flatI P).toArray, rfl, hb, alloc_new w _, Nat.le_refl _, by unfold maxLen; omega, by simp [flatI_length], by rw [Nat.mul_one, ← flatI_length, List.take_of_length_le (by simp)]⟩⟩
theorem resInts_ok {W : World} {k i p : Nat} {c : Option Nat} {ds : List Nat} (L : List Int) : ResOk W ⟨k, i, p, c, ds, fun V w => OwnI w W.heap.size (V i) L⟩ := resRow_ok _ _ _ _
theorem IsInts.front {w : World} {b off n cap : Nat} {L : List Int} (h : IsInts w (some ⟨b, off, none⟩) n cap L) {a : Nat} (ha : a ≤ n) : IsInts w (some ⟨b, off, none⟩) a cap (L.take a) := by
  obtain ⟨h1, h2, h3, h4, h5⟩ := h
  refine ⟨by rw [List.length_take]; omega, by omega, h3, fun hn => ?_, fun h => by cases h⟩
  obtain ⟨b', o', e, hc⟩ := h4 (by omega)
  cases e
  refine ⟨_, _, rfl, fun i hi => ?_⟩
  rw [show (L.take a).getD i 0 = L.getD i 0 by rw [List.getD_eq_getElem?_getD, List.getD_eq_getElem?_getD, List.getElem?_take, if_pos hi]]
  exact hc i (by omega)
theorem IsInts.back {w : World} {b off n cap : Nat} {L : List Int} (h : IsInts w (some ⟨b, off, none⟩) n cap L) {a : Nat} (ha : a ≤ n) : IsInts w (if cap = a then some ⟨b, off, none⟩ else some ⟨b, off + a, none⟩) (n - a) (cap - a) (L.drop a) := by
  obtain ⟨h1, h2, h3, h4, h5⟩ := h
  refine ⟨by rw [List.length_drop]; omega, by omega, by omega, fun hn => ?_, fun h => by split at h <;> cases h⟩
  obtain ⟨b', o', e, hc⟩ := h4 (by omega)
  cases e
  rw [if_neg (by omega)]
  refine ⟨_, _, rfl, fun i hi => ?_⟩
  rw [show (L.drop a).getD i 0 = L.getD (a + i) 0 by rw [List.getD_eq_getElem?_getD, List.getD_eq_getElem?_getD, List.getElem?_drop]]
  have := hc (a + i) (by omega)
  rwa [← Nat.add_assoc] at this
theorem insH_at (y : Int) : ∀ (H : List Int) (a : Nat), a ≤ H.length → (∀ j, j < a → H.getD j 0 < y) → (a < H.length → ¬ H.getD a 0 < y) → insH y H = if a < H.length ∧ H.getD a 0 = y then H else H.take a ++ [y] ++ H.drop a
  | [], a, h1, _, _ => by
    have : a = 0 := by simpa using h1
    subst this
    rfl
  | h :: t, 0, _, _, h3 => by
    have h4 : ¬ h < y := h3 (by simp)
    unfold insH
    rw [if_neg h4]
    by_cases e : h = y
    · rw [if_pos e, if_pos ⟨by simp, e⟩]
    · rw [if_neg e, if_neg (fun hh => e hh.2)]; rfl
  | h :: t, a + 1, h1, h2, h3 => by
    have h4 : h < y := h2 0 (by omega)
    unfold insH
    rw [if_pos h4, insH_at y t a (by simpa using h1) (fun j hj => h2 (j + 1) (by omega)) (fun hl => h3 (by simpa using hl))]
    have e1 : (a + 1 < (h :: t).length ∧ (h :: t).getD (a + 1) 0 = y) ↔ (a < t.length ∧ t.getD a 0 = y) := by simp
    by_cases e : a < t.length ∧ t.getD a 0 = y
    · rw [if_pos e, if_pos (e1.2 e)]
    · rw [if_neg e, if_neg (fun hh => e (e1.1 hh))]; simp
def hK (L : List Pt) : List Int := L.foldl (fun H p => insH p.y H) []
theorem hK_snoc (L : List Pt) (p : Pt) : hK (L ++ [p]) = insH p.y (hK L) := by unfold hK; rw [List.foldl_append]; rfl
theorem insH_len (y : Int) : ∀ H : List Int, (insH y H).length ≤ H.length + 1
  | [] => by simp [insH]
  | h :: t => by
    have := insH_len y t
    unfold insH
    split
    · simp; omega
    · split <;> simp
theorem hK_len (L : List Pt) : (hK L).length ≤ L.length := by
  have key : ∀ (L : List Pt) (H : List Int), (L.foldl (fun H p => insH p.y H) H).length ≤ H.length + L.length := by
    intro L
    induction L with
    | nil => intro H; simp
    | cons p L ih =>
      intro H
      have h1 := ih (insH p.y H)
      have h2 := insH_len p.y H
      simp only [List.foldl_cons, List.length_cons]
      omega
  have := key L []
  unfold hK
  simpa using this
theorem insH_ne (y : Int) (H : List Int) : insH y H ≠ [] := by
  cases H with
  | nil => simp [insH]
  | cons h t => unfold insH; split <;> (try split) <;> simp
set_option maxRecDepth 100000 in
set_option maxHeartbeats 8000000 in
theorem rHeights_any (ao : Option Addr) (n cap : Nat) (R : List (List Pt)) (w : World) (h : IsRings w ao n cap R) (hs : sumLen R ≤ 1000) (hn : n ≤ 1000) :
    Calls Try.prog 11 #[.agg #[.slice ao n cap]] w fun e w' => ∃ v, e = .returned v ∧ OwnI w' w.heap.size v (heightsP R) ∧ Below w.heap.size w w' := by
  have HL := Lib.hid h.1
  have HS := Lib.hid hs
  have hcm := h.2.2.1
  have hnc := h.2.1
  unfold maxLen at hcm
  obtain ⟨W0, hW0⟩ : ∃ W, W = w.alloc (.cells #[.slice ao n cap] 24) := ⟨_, rfl⟩
  have hg0 : Below w.heap.size w W0 := by rw [hW0]; exact (Below.refl _ _).alloc (Nat.le_refl _) _
  have k0 : W0.heap[w.heap.size]? = some (.cells #[.slice ao n cap] 24 (0, 0)) := by rw [hW0]; exact alloc_new _ _
  have HI := Lib.hid (h.later hg0 (Nat.le_refl _))
  have H0 := Lib.hid hg0
  have HC : Hid (∀ wr, Below W0.heap.size W0 wr → wr.cell? ⟨w.heap.size, 0, none⟩ = some (.slice ao n cap)) := Lib.hid (fun wr hb => cell_of_row _ _ _ _ _ _ ((hb.block _ (heap_lt' k0)).trans k0))
  clear h hs hg0 k0
  go_enter Try.func11, Try.ntmps11
  go_wp2_with fail
  rw [← hW0]
  clear hW0
  go_loopw [3, 4] (fun v i wr => ∃ k : Nat, k ≤ n ∧ i = .int .i64 k ∧ Hid (OwnI wr W0.heap.size v (hK (R.take k).flatten) ∧ (hK (R.take k).flatten = [] → v = .slice none 0 0)) ∧ Hid (Below W0.heap.size W0 wr)) (fun _ i _ => n - (intOf i).toNat)
  case atStart => exact ⟨0, by omega, rfl, Lib.hid ⟨OwnI.nil _ _, fun _ => rfl⟩, Below.refl _ _⟩
  case round =>
    obtain ⟨k, hk, rfl, hown, hbl⟩ := hrel
    have c0 := HC.out wr hbl.out
    by_cases hlt : k < n
    · have hi0 : (0 : Int) ≤ (k : Int) := by omega
      have hi5 : (k : Int) < (n : Int) := by omega
      obtain ⟨b, off, x, y, z, rfl, e00, hp⟩ := HI.out.2.2.2.2 k hlt
      have HE : Hid (∀ wr, Below W0.heap.size W0 wr → wr.cell? ⟨b, off + k, none⟩ = some (.slice x y z) ∧ IsPts wr x y z (R.getD k [])) := Lib.hid (fun wr hb => ⟨(hb.cell (p := ⟨b, _, none⟩) (block_lt_of_cell e00)).trans e00, hp.later hb (Nat.le_refl _)⟩)
      have HY : Hid ((R.getD k []).length = y) := Lib.hid hp.1
      have hyc := hp.2.1
      have hzm := hp.2.2.1
      unfold maxLen at hzm
      have HT : Hid ((R.take (k + 1)).flatten = (R.take k).flatten ++ R.getD k []) := Lib.hid (by rw [take_more (d := []) (by rw [HL.out]; exact hlt)]; simp)
      have HLY : Hid ((R.take k).flatten.length + y ≤ 1000) := Lib.hid (by
        have h2 := sumLen_take (g := R) (k := k) (by rw [HL.out]; exact hlt)
        have h3 := sumLen_take_le R (k + 1)
        have h4 := HS.out
        have h5 := HY.out
        rw [sumLen_flatten]; omega)
      obtain ⟨l, hl⟩ : ∃ l, l = R.getD k [] := ⟨_, rfl⟩
      rw [← hl] at HE HY HT
      obtain ⟨L1, hL1⟩ : ∃ L, L = (R.take k).flatten := ⟨_, rfl⟩
      rw [← hL1] at hown HT HLY
      clear hp hl hL1 e00
      go_wp2_with fail
      clear c0
      go_loopw [3, 5] (fun v i wr => ∃ j : Nat, j ≤ y ∧ i = .int .i64 j ∧ Hid (OwnI wr W0.heap.size v (hK (L1 ++ l.take j)) ∧ (hK (L1 ++ l.take j) = [] → v = .slice none 0 0)) ∧ Hid (Below W0.heap.size W0 wr)) (fun _ i _ => y - (intOf i).toNat)
      case atStart => exact ⟨0, by omega, rfl, Lib.hid (by rw [show l.take 0 = [] from rfl, List.append_nil]; exact hown.out), hbl⟩
      case round =>
        obtain ⟨j, hj, rfl, hown2, hbl2⟩ := hrel
        have c0 := HC.out wr hbl2.out
        obtain ⟨c1, hpw⟩ := HE.out wr hbl2.out
        by_cases hlt2 : j < y
        · have hj0 : (0 : Int) ≤ (j : Int) := by omega
          have hj5 : (j : Int) < (y : Int) := by omega
          obtain ⟨bp2, op2, hxe, e1, e2⟩ := hpw.at hlt2
          subst hxe
          obtain ⟨x, hx⟩ : ∃ x, x = l.getD j p0 := ⟨_, rfl⟩
          rw [← hx] at e1 e2
          have HHT : Hid (hK (L1 ++ l.take (j + 1)) = insH x.y (hK (L1 ++ l.take j))) := Lib.hid (by
            rw [take_more (d := p0) (by rw [HY.out]; exact hlt2), ← hx, ← List.append_assoc, hK_snoc])
          have HHL : Hid ((hK (L1 ++ l.take j)).length + 1 ≤ 1001) := Lib.hid (by
            have h1 := hK_len (L1 ++ l.take j)
            have h2 := HLY.out
            rw [List.length_append, List.length_take] at h1
            omega)
          obtain ⟨H, hH⟩ : ∃ H, H = hK (L1 ++ l.take j) := ⟨_, rfl⟩
          rw [← hH] at hown2 HHT HHL
          have HNN : Hid (∀ v : Value, hK (L1 ++ l.take (j + 1)) = [] → v = .slice none 0 0) := Lib.hid (fun v h => by rw [HHT.out] at h; exact absurd h (insH_ne _ _))
          clear hx hH hpw
          by_cases hnil : H = []
          · have hv := hown2.out.2 hnil
            subst hv
            obtain ⟨a, ha⟩ : ∃ a : Nat, a = 0 := ⟨_, rfl⟩
            have HRES : Hid (hK (L1 ++ l.take (j + 1)) = [] ++ H.take a ++ [x.y] ++ H.drop a) := Lib.hid (by rw [HHT.out, hnil]; simp [insH])
            have HTK : Hid (∀ wX, Below wr.heap.size wr wX → IsInts wX none 0 0 (H.take a)) := Lib.hid (fun wX _ => by rw [hnil, List.take_nil]; exact ⟨rfl, Nat.le_refl _, by unfold maxLen; omega, (fun h => absurd h (by omega)), fun _ => ⟨rfl, rfl⟩⟩)
            have HDR : Hid (∀ wX, Below wr.heap.size wr wX → IsInts wX none 0 0 (H.drop a)) := Lib.hid (fun wX _ => by rw [hnil, List.drop_nil]; exact ⟨rfl, Nat.le_refl _, by unfold maxLen; omega, (fun h => absurd h (by omega)), fun _ => ⟨rfl, rfl⟩⟩)
            have HLN1 : Hid (([] : List Int).length + 0 ≤ 1000000000) := Lib.hid (by simp)
            have HLN2 : Hid (([] ++ H.take a : List Int).length + [x.y].length ≤ 1000000000) := Lib.hid (by rw [hnil]; simp)
            have HLN3 : Hid (([] ++ H.take a ++ [x.y] : List Int).length + 0 ≤ 1000000000) := Lib.hid (by rw [hnil]; simp)
            clear hnil hown2
            go_wp2_with fail
            go_loopw [7] (fun i wr2 => i = .int .i64 0 ∧ wr2 = wr) (fun i _ => 0)
            case atStart => exact ⟨rfl, rfl⟩
            case round =>
              obtain ⟨rfl, rfl⟩ := hrel
              go_wp2_with fail
              have HOK : ∀ r ∈ ([⟨0, 0, 0, some 4, [], fun V w => OwnI w wr.heap.size (V 0) ([])⟩, ⟨1, 4, 4, some 7, [], fun V w => OwnI w wr.heap.size (V 4) ([] ++ H.take a)⟩, ⟨2, 6, 6, none, [], fun V w => OwnI w wr.heap.size (V 6) ([x.y])⟩, ⟨3, 7, 7, some 11, [], fun V w => OwnI w wr.heap.size (V 7) ([] ++ H.take a ++ [x.y])⟩, ⟨4, 11, 11, some 12, [], fun V w => OwnI w wr.heap.size (V 11) ([] ++ H.take a ++ [x.y] ++ H.drop a)⟩, ⟨5, 12, 12, none, [], fun V w => OwnI w wr.heap.size (V 12) ([] ++ H.take a ++ [x.y] ++ H.drop a)⟩] : List Resr), ResOk wr r := by
                intro r hr
                simp only [List.mem_cons, List.not_mem_nil, or_false] at hr
                rcases hr with rfl | rfl | rfl | rfl | rfl | rfl
                · exact resInts_ok _
                · exact resInts_ok _
                · exact resInts_ok _
                · exact resInts_ok _
                · exact resInts_ok _
                · exact resInts_ok _
              refine wp_region_J (s := [(60, 0), (61, 1), (62, 2), (63, 3), (64, 4), (65, 5), (66, 6), (67, 7), (68, 8), (69, 9), (70, 10), (71, 11), (3, 12)]) (by kernel_rfl) (ResJ wr (fun iX => match iX with | 1 => some (.slice none 0 0) | 2 => some (.int .i64 0) | 3 => some (.slice none 0 0) | 5 => some (.int .i64 (x.y)) | 8 => some (.slice none 0 0) | 9 => some (.int .i64 0) | 10 => some (.slice none 0 0) | _ => none) [⟨0, 0, 0, some 4, [], fun V w => OwnI w wr.heap.size (V 0) ([])⟩, ⟨1, 4, 4, some 7, [], fun V w => OwnI w wr.heap.size (V 4) ([] ++ H.take a)⟩, ⟨2, 6, 6, none, [], fun V w => OwnI w wr.heap.size (V 6) ([x.y])⟩, ⟨3, 7, 7, some 11, [], fun V w => OwnI w wr.heap.size (V 7) ([] ++ H.take a ++ [x.y])⟩, ⟨4, 11, 11, some 12, [], fun V w => OwnI w wr.heap.size (V 11) ([] ++ H.take a ++ [x.y] ++ H.drop a)⟩, ⟨5, 12, 12, none, [], fun V w => OwnI w wr.heap.size (V 12) ([] ++ H.take a ++ [x.y] ++ H.drop a)⟩]) (by kernel_rfl) (by kernel_rfl) (by kernel_rfl) (by kernel_rfl) (fun _ => undef) ?start13 ?step13 ?done13
              case start13 => exact ResJ.start ((Below.refl _ _).drew) (by kernel_rfl)
              case step13 =>
                refine ⟨?o13_0, ?o13_1, ?o13_2, ?o13_3, ?o13_4, ?o13_5, ?o13_6, ?o13_7, ?o13_8, ?o13_9, ?o13_10, ?o13_11, ?o13_12, trivial⟩
                case o13_0 =>
                  intro LX V aX wX K hl hp hcl hf hJ hK
                  rw [if_pos (by rfl)]
                  go_simp
                  exact hK _ _ (hJ.step HOK 0 _ hl (by kernel_rfl) trivial none (World.grownBy_alloc _ _ _) (.inl rfl) (new_one (by kernel_rfl) ⟨0, 0, 0, some 4, [], fun V w => OwnI w wr.heap.size (V 0) ([])⟩ (List.mem_of_getElem? (i := 0) rfl) rfl ⟨(fun j hj => by rcases hj with rfl | hj; exact .inl rfl; cases hj), by (try simp only); rw [upd_at]; exact OwnI.lit wX _ hJ.below.size [] (by simp), fun g hg => .inl (by rw [upd_at] at hg; cases hg; exact Nat.le_refl _)⟩))
                case o13_1 =>
                  intro LX V aX wX K hl hp hcl hf hJ hK
                  have t3 := hf.still (t := 3) (v := .slice none 0 0) 12 (by kernel_rfl) (hcl.no 12 (by kernel_rfl) hl) rfl
                  rw [if_pos (by rfl)]
                  go_simp
                  exact hK _ _ (hJ.val HOK 1 _ hl (by kernel_rfl) (by kernel_rfl) rfl (Below.refl _ _))
                case o13_2 =>
                  intro LX V aX wX K hl hp hcl hf hJ hK
                  have t7 : aX.tmps[7]? = some (.int .i64 0) := hf.old (by kernel_rfl) rfl
                  rw [if_pos (by rfl)]
                  go_simp
                  exact hK _ _ (hJ.val HOK 2 _ hl (by kernel_rfl) (by kernel_rfl) rfl (Below.refl _ _))
                case o13_3 =>
                  intro LX V aX wX K hl hp hcl hf hJ hK
                  have t61 := hf.in (i := 1) (d := 61) (by kernel_rfl) (hp 1 (by kernel_rfl)) (hJ.vals 1 _ rfl (hp 1 (by kernel_rfl)))
                  have t62 := hf.in (i := 2) (d := 62) (by kernel_rfl) (hp 2 (by kernel_rfl)) (hJ.vals 2 _ rfl (hp 2 (by kernel_rfl)))
                  rw [if_pos (by rfl)]
                  go_simp
                  exact hK _ _ (hJ.val HOK 3 _ hl (by kernel_rfl) (by kernel_rfl) rfl (Below.refl _ _))
                case o13_4 =>
                  intro LX V aX wX K hl hp hcl hf hJ hK
                  have t60 := hf.in (i := 0) (d := 60) (by kernel_rfl) (hp 0 (by kernel_rfl)) rfl
                  have t63 := hf.in (i := 3) (d := 63) (by kernel_rfl) (hp 3 (by kernel_rfl)) (hJ.vals 3 _ rfl (hp 3 (by kernel_rfl)))
                  rw [if_pos (by rfl)]
                  have hq0 := hJ.at ⟨0, 0, 0, some 4, [], fun V w => OwnI w wr.heap.size (V 0) ([])⟩ (List.mem_of_getElem? (i := 0) rfl) (lor (hp 0 (by kernel_rfl))) hl
                  refine opwp_append_intsF _ _ rfl wr.heap.size (V 0) ([]) (eval_tmp t60) hq0 _ _ _ (H.take a) (eval_tmp t63) (HTK.out _ hJ.below) (HLN1.out) hJ.below.size ?_
                  intro v' w' hown2 hgr hfr
                  exact hK _ _ (hJ.step HOK 4 v' hl (by kernel_rfl) trivial (V 0).ownBlock hgr (.inr ⟨⟨0, 0, 0, some 4, [], fun V w => OwnI w wr.heap.size (V 0) ([])⟩, List.mem_of_getElem? (i := 0) rfl, rfl, lor (hp 0 (by kernel_rfl)), by (try simp only); exact OwnI.any hq0⟩) (new_one (by kernel_rfl) ⟨1, 4, 4, some 7, [], fun V w => OwnI w wr.heap.size (V 4) ([] ++ H.take a)⟩ (List.mem_of_getElem? (i := 1) rfl) rfl ⟨(fun j hj => by rcases hj with rfl | hj; exact .inl rfl; cases hj), by (try simp only); rw [upd_at]; exact hown2, fun g hg => by rw [upd_at, OwnI.any hown2] at hg; exact hfr g hg⟩))
                case o13_5 =>
                  intro LX V aX wX K hl hp hcl hf hJ hK
                  have t6 : aX.tmps[6]? = some (.int .i64 (x.y)) := hf.old (by kernel_rfl) rfl
                  rw [if_pos (by rfl)]
                  go_simp
                  exact hK _ _ (hJ.val HOK 5 _ hl (by kernel_rfl) (by kernel_rfl) rfl (Below.refl _ _))
                case o13_6 =>
                  intro LX V aX wX K hl hp hcl hf hJ hK
                  have t65 := hf.in (i := 5) (d := 65) (by kernel_rfl) (hp 5 (by kernel_rfl)) (hJ.vals 5 _ rfl (hp 5 (by kernel_rfl)))
                  rw [if_pos (by rfl)]
                  go_simp
                  exact hK _ _ (hJ.step HOK 6 _ hl (by kernel_rfl) trivial none (World.grownBy_alloc _ _ _) (.inl rfl) (new_one (by kernel_rfl) ⟨2, 6, 6, none, [], fun V w => OwnI w wr.heap.size (V 6) ([x.y])⟩ (List.mem_of_getElem? (i := 2) rfl) rfl ⟨(fun j hj => by rcases hj with rfl | hj; exact .inl rfl; cases hj), by (try simp only); rw [upd_at]; exact OwnI.lit wX _ hJ.below.size [x.y] (by simp), fun g hg => .inl (by rw [upd_at] at hg; cases hg; exact Nat.le_refl _)⟩))
                case o13_7 =>
                  intro LX V aX wX K hl hp hcl hf hJ hK
                  have t64 := hf.in (i := 4) (d := 64) (by kernel_rfl) (hp 4 (by kernel_rfl)) rfl
                  have t66 := hf.in (i := 6) (d := 66) (by kernel_rfl) (hp 6 (by kernel_rfl)) rfl
                  rw [if_pos (by rfl)]
                  have hq9 := hJ.at ⟨2, 6, 6, none, [], fun V w => OwnI w wr.heap.size (V 6) ([x.y])⟩ (List.mem_of_getElem? (i := 2) rfl) (lor (hp 6 (by kernel_rfl))) trivial
                  obtain ⟨a66, c66, hv66, hpts⟩ := OwnI.ints hq9
                  have hq0 := hJ.at ⟨1, 4, 4, some 7, [], fun V w => OwnI w wr.heap.size (V 4) ([] ++ H.take a)⟩ (List.mem_of_getElem? (i := 1) rfl) (lor (hp 4 (by kernel_rfl))) hl
                  refine opwp_append_intsF _ _ rfl wr.heap.size (V 4) ([] ++ H.take a) (eval_tmp t64) hq0 _ _ _ ([x.y]) (by rw [eval_tmp t66]; exact hv66) (hpts) (HLN2.out) hJ.below.size ?_
                  intro v' w' hown2 hgr hfr
                  exact hK _ _ (hJ.step HOK 7 v' hl (by kernel_rfl) trivial (V 4).ownBlock hgr (.inr ⟨⟨1, 4, 4, some 7, [], fun V w => OwnI w wr.heap.size (V 4) ([] ++ H.take a)⟩, List.mem_of_getElem? (i := 1) rfl, rfl, lor (hp 4 (by kernel_rfl)), by (try simp only); exact OwnI.any hq0⟩) (new_one (by kernel_rfl) ⟨3, 7, 7, some 11, [], fun V w => OwnI w wr.heap.size (V 7) ([] ++ H.take a ++ [x.y])⟩ (List.mem_of_getElem? (i := 3) rfl) rfl ⟨(fun j hj => by rcases hj with rfl | hj; exact .inl rfl; cases hj), by (try simp only); rw [upd_at]; exact hown2, fun g hg => by rw [upd_at, OwnI.any hown2] at hg; exact hfr g hg⟩))
                case o13_8 =>
                  intro LX V aX wX K hl hp hcl hf hJ hK
                  have t3 := hf.still (t := 3) (v := .slice none 0 0) 12 (by kernel_rfl) (hcl.no 12 (by kernel_rfl) hl) rfl
                  rw [if_pos (by rfl)]
                  go_simp
                  exact hK _ _ (hJ.val HOK 8 _ hl (by kernel_rfl) (by kernel_rfl) rfl (Below.refl _ _))
                case o13_9 =>
                  intro LX V aX wX K hl hp hcl hf hJ hK
                  have t7 : aX.tmps[7]? = some (.int .i64 0) := hf.old (by kernel_rfl) rfl
                  rw [if_pos (by rfl)]
                  go_simp
                  exact hK _ _ (hJ.val HOK 9 _ hl (by kernel_rfl) (by kernel_rfl) rfl (Below.refl _ _))
                case o13_10 =>
                  intro LX V aX wX K hl hp hcl hf hJ hK
                  have t68 := hf.in (i := 8) (d := 68) (by kernel_rfl) (hp 8 (by kernel_rfl)) (hJ.vals 8 _ rfl (hp 8 (by kernel_rfl)))
                  have t69 := hf.in (i := 9) (d := 69) (by kernel_rfl) (hp 9 (by kernel_rfl)) (hJ.vals 9 _ rfl (hp 9 (by kernel_rfl)))
                  rw [if_pos (by rfl)]
                  go_simp
                  exact hK _ _ (hJ.val HOK 10 _ hl (by kernel_rfl) (by kernel_rfl) rfl (Below.refl _ _))
                case o13_11 =>
                  intro LX V aX wX K hl hp hcl hf hJ hK
                  have t67 := hf.in (i := 7) (d := 67) (by kernel_rfl) (hp 7 (by kernel_rfl)) rfl
                  have t70 := hf.in (i := 10) (d := 70) (by kernel_rfl) (hp 10 (by kernel_rfl)) (hJ.vals 10 _ rfl (hp 10 (by kernel_rfl)))
                  rw [if_pos (by rfl)]
                  have hq0 := hJ.at ⟨3, 7, 7, some 11, [], fun V w => OwnI w wr.heap.size (V 7) ([] ++ H.take a ++ [x.y])⟩ (List.mem_of_getElem? (i := 3) rfl) (lor (hp 7 (by kernel_rfl))) hl
                  refine opwp_append_intsF _ _ rfl wr.heap.size (V 7) ([] ++ H.take a ++ [x.y]) (eval_tmp t67) hq0 _ _ _ (H.drop a) (eval_tmp t70) (HDR.out _ hJ.below) (HLN3.out) hJ.below.size ?_
                  intro v' w' hown2 hgr hfr
                  exact hK _ _ (hJ.step HOK 11 v' hl (by kernel_rfl) trivial (V 7).ownBlock hgr (.inr ⟨⟨3, 7, 7, some 11, [], fun V w => OwnI w wr.heap.size (V 7) ([] ++ H.take a ++ [x.y])⟩, List.mem_of_getElem? (i := 3) rfl, rfl, lor (hp 7 (by kernel_rfl)), by (try simp only); exact OwnI.any hq0⟩) (new_one (by kernel_rfl) ⟨4, 11, 11, some 12, [], fun V w => OwnI w wr.heap.size (V 11) ([] ++ H.take a ++ [x.y] ++ H.drop a)⟩ (List.mem_of_getElem? (i := 4) rfl) rfl ⟨(fun j hj => by rcases hj with rfl | hj; exact .inl rfl; cases hj), by (try simp only); rw [upd_at]; exact hown2, fun g hg => by rw [upd_at, OwnI.any hown2] at hg; exact hfr g hg⟩))
                case o13_12 =>
                  intro LX V aX wX K hl hp hcl hf hJ hK
                  have t71 := hf.in (i := 11) (d := 71) (by kernel_rfl) (hp 11 (by kernel_rfl)) rfl
                  rw [if_pos (by rfl)]
                  have hq0 := hJ.at ⟨4, 11, 11, some 12, [], fun V w => OwnI w wr.heap.size (V 11) ([] ++ H.take a ++ [x.y] ++ H.drop a)⟩ (List.mem_of_getElem? (i := 4) rfl) (lor (hp 11 (by kernel_rfl))) hl
                  go_simp
                  exact hK _ _ (hJ.step HOK 12 _ hl (by kernel_rfl) trivial (ownAny (V 11)) ⟨rfl, rfl, rfl, Nat.le_refl _, fun _ _ _ => rfl⟩ (.inr ⟨⟨4, 11, 11, some 12, [], fun V w => OwnI w wr.heap.size (V 11) ([] ++ H.take a ++ [x.y] ++ H.drop a)⟩, List.mem_of_getElem? (i := 4) rfl, rfl, lor (hp 11 (by kernel_rfl)), rfl⟩) (new_one (by kernel_rfl) ⟨5, 12, 12, none, [], fun V w => OwnI w wr.heap.size (V 12) ([] ++ H.take a ++ [x.y] ++ H.drop a)⟩ (List.mem_of_getElem? (i := 5) rfl) rfl ⟨(fun j hj => by rcases hj with rfl | hj; exact .inl rfl; cases hj), by (try simp only); rw [upd_at]; exact hq0, fun g hg => .inr (by rw [upd_at] at hg; exact hg.symm ▸ rfl)⟩))
              intro V wZ hJ
              have hq := hJ.at ⟨5, 12, 12, none, [], fun V w => OwnI w wr.heap.size (V 12) ([] ++ H.take a ++ [x.y] ++ H.drop a)⟩ (List.mem_of_getElem? (i := 5) rfl) (by kernel_rfl) trivial
              have HZ := Lib.hid (And.intro hq hJ.below)
              simp only [puts, Act.put, List.setIfInBounds_toArray, List.set_cons_zero, List.set_cons_succ]
              clear hJ hq HOK
              go_wp2_with fail
              go_roundw
              case rel => exact ⟨j + 1, by omega, by go_num, Lib.hid ⟨by rw [HRES.out]; exact HZ.out.1.base hbl2.out.size, HNN.out _⟩, Lib.hid (hbl2.out.trans (HZ.out.2.mono hbl2.out.size))⟩
              case measure => simp [intOf]; omega
          · obtain ⟨ax, co, hvx, hix⟩ := hown2.out.1.ints
            obtain ⟨no, hno⟩ : ∃ n, n = H.length := ⟨_, rfl⟩
            rw [← hno] at hvx hix
            have hn1 : 1 ≤ no := by rw [hno]; cases H with | nil => exact absurd rfl hnil | cons _ _ => simp
            have hn2 : no ≤ 1000 := by have := HHL.out; omega
            obtain ⟨bo, oo, hax, _⟩ := hix.at (i := 0) (by omega)
            subst hax
            subst hvx
            have hnco := hix.2.1
            have hcom := hix.2.2.1
            unfold maxLen at hcom
            have HIX := Lib.hid hix
            have HOWN2 := Lib.hid hown2.out.1
            have HNO := Lib.hid hno
            have HOC : Hid (∀ a, a < no → wr.cell? ⟨bo, oo + a, none⟩ = some (.int .i64 (H.getD a 0))) := Lib.hid (fun a ha => by
              obtain ⟨b', o', e', hc⟩ := hix.at ha
              cases e'
              exact hc)
            clear hnil hown2 hix hno
            go_wp2_with fail
            go_loopw [7] (fun i wr2 => ∃ a : Nat, a ≤ no ∧ i = .int .i64 a ∧ Hid (∀ t, t < a → H.getD t 0 < x.y) ∧ wr2 = wr) (fun i _ => no - (intOf i).toNat)
            case atStart => exact ⟨0, by omega, rfl, Lib.hid (fun t ht => absurd ht (by omega)), rfl⟩
            case round =>
              obtain ⟨a, ha, rfl, hlo, rfl⟩ := hrel
              have ha0 : (0 : Int) ≤ (a : Int) := by omega
              have hac : (a : Int) ≤ (co : Int) := by omega
              have hac2 : a ≤ co := by omega
              have haw : IntKind.i64.wrap (a : Int) = (a : Int) := IntWalk.i64_in _ (by omega)
              have HTK : Hid (∀ wX, Below wr.heap.size wr wX → IsInts wX (some ⟨bo, oo, none⟩) a co (H.take a)) := Lib.hid (fun wX hX => (HIX.out.front ha).later hX (Nat.le_refl _))
              have HDR : Hid (∀ wX, Below wr.heap.size wr wX → IsInts wX (if co = a then some ⟨bo, oo, none⟩ else some ⟨bo, oo + a, none⟩) (no - a) (co - a) (H.drop a)) := Lib.hid (fun wX hX => (HIX.out.back ha).later hX (Nat.le_refl _))
              have HLN1 : Hid (([] : List Int).length + a ≤ 1000000000) := Lib.hid (by simp; omega)
              have HLN2 : Hid (([] ++ H.take a : List Int).length + [x.y].length ≤ 1000000000) := Lib.hid (by have := HHL.out; simp; omega)
              have HLN3 : Hid (([] ++ H.take a ++ [x.y] : List Int).length + (no - a) ≤ 1000000000) := Lib.hid (by have := HHL.out; simp; omega)
              by_cases hlt3 : a < no
              · have ha5 : (a : Int) < (no : Int) := by omega
                have cy := HOC.out a hlt3
                obtain ⟨u, hu⟩ : ∃ u, u = H.getD a 0 := ⟨_, rfl⟩
                rw [← hu] at cy
                have HU := Lib.hid hu
                clear hu
                by_cases huy : u < x.y
                · go_wp2_with fail
                  go_roundw
                  case rel =>
                    refine ⟨a + 1, by omega, by go_num, Lib.hid fun t ht => ?_, by first | trivial | rfl⟩
                    by_cases hta : t < a
                    · exact hlo.out t hta
                    · obtain rfl : t = a := by omega
                      rw [← HU.out]; exact huy
                  case measure => simp [intOf]; omega
                · have HRES : Hid (hK (L1 ++ l.take (j + 1)) = if a < H.length ∧ H.getD a 0 = x.y then H else H.take a ++ [x.y] ++ H.drop a) := Lib.hid (by rw [HHT.out]; exact insH_at _ H a (by rw [← HNO.out]; omega) hlo.out (fun _ => by rw [← HU.out]; exact huy))
                  by_cases hueq : u = x.y
                  · have HRES2 : Hid (hK (L1 ++ l.take (j + 1)) = H) := Lib.hid (by rw [HRES.out, if_pos ⟨by rw [← HNO.out]; exact hlt3, by rw [← HU.out]; exact hueq⟩])
                    have hub : (u == x.y) = true := by simp [hueq]
                    have HUE := Lib.hid hueq
                    have HOWN : Hid (OwnI wr W0.heap.size (.slice (some ⟨bo, oo, none⟩) no co) H) := HOWN2
                    clear hueq
                    go_wp2_with fail
                    go_roundw
                    case rel => exact ⟨j + 1, by omega, by go_num, Lib.hid ⟨by rw [HRES2.out]; exact HOWN.out, HNN.out _⟩, hbl2⟩
                    case measure => simp [intOf]; omega
                  · have HRES2 : Hid (hK (L1 ++ l.take (j + 1)) = [] ++ H.take a ++ [x.y] ++ H.drop a) := Lib.hid (by rw [HRES.out, if_neg (fun h => hueq (by rw [HU.out]; exact h.2))]; rfl)
                    have hub : (u == x.y) = false := by simp [hueq]
                    clear hueq
                    go_wp2_with fail
                    clear cy
                    have HOK : ∀ r ∈ ([⟨0, 0, 0, some 4, [], fun V w => OwnI w wr.heap.size (V 0) ([])⟩, ⟨1, 4, 4, some 7, [], fun V w => OwnI w wr.heap.size (V 4) ([] ++ H.take a)⟩, ⟨2, 6, 6, none, [], fun V w => OwnI w wr.heap.size (V 6) ([x.y])⟩, ⟨3, 7, 7, some 11, [], fun V w => OwnI w wr.heap.size (V 7) ([] ++ H.take a ++ [x.y])⟩, ⟨4, 11, 11, some 12, [], fun V w => OwnI w wr.heap.size (V 11) ([] ++ H.take a ++ [x.y] ++ H.drop a)⟩, ⟨5, 12, 12, none, [], fun V w => OwnI w wr.heap.size (V 12) ([] ++ H.take a ++ [x.y] ++ H.drop a)⟩] : List Resr), ResOk wr r := by
                      intro r hr
                      simp only [List.mem_cons, List.not_mem_nil, or_false] at hr
                      rcases hr with rfl | rfl | rfl | rfl | rfl | rfl
                      · exact resInts_ok _
                      · exact resInts_ok _
                      · exact resInts_ok _
                      · exact resInts_ok _
                      · exact resInts_ok _
                      · exact resInts_ok _
                    refine wp_region_J (s := [(60, 0), (61, 1), (62, 2), (63, 3), (64, 4), (65, 5), (66, 6), (67, 7), (68, 8), (69, 9), (70, 10), (71, 11), (3, 12)]) (by kernel_rfl) (ResJ wr (fun iX => match iX with | 1 => some (.slice (some ⟨bo, oo, none⟩) no co) | 2 => some (.int .i64 (a : Int)) | 3 => some (.slice (some ⟨bo, oo, none⟩) a co) | 5 => some (.int .i64 (x.y)) | 8 => some (.slice (some ⟨bo, oo, none⟩) no co) | 9 => some (.int .i64 (a : Int)) | 10 => some (.slice (if co = a then some ⟨bo, oo, none⟩ else some ⟨bo, oo + a, none⟩) (no - a) (co - a)) | _ => none) [⟨0, 0, 0, some 4, [], fun V w => OwnI w wr.heap.size (V 0) ([])⟩, ⟨1, 4, 4, some 7, [], fun V w => OwnI w wr.heap.size (V 4) ([] ++ H.take a)⟩, ⟨2, 6, 6, none, [], fun V w => OwnI w wr.heap.size (V 6) ([x.y])⟩, ⟨3, 7, 7, some 11, [], fun V w => OwnI w wr.heap.size (V 7) ([] ++ H.take a ++ [x.y])⟩, ⟨4, 11, 11, some 12, [], fun V w => OwnI w wr.heap.size (V 11) ([] ++ H.take a ++ [x.y] ++ H.drop a)⟩, ⟨5, 12, 12, none, [], fun V w => OwnI w wr.heap.size (V 12) ([] ++ H.take a ++ [x.y] ++ H.drop a)⟩]) (by kernel_rfl) (by kernel_rfl) (by kernel_rfl) (by kernel_rfl) (fun _ => undef) ?start13b ?step13b ?done13b
                    case start13b => exact ResJ.start ((Below.refl _ _).drew) (by kernel_rfl)
                    case step13b =>
                      refine ⟨?o13b_0, ?o13b_1, ?o13b_2, ?o13b_3, ?o13b_4, ?o13b_5, ?o13b_6, ?o13b_7, ?o13b_8, ?o13b_9, ?o13b_10, ?o13b_11, ?o13b_12, trivial⟩
                      case o13b_0 =>
                        intro LX V aX wX K hl hp hcl hf hJ hK
                        rw [if_pos (by rfl)]
                        go_simp
                        exact hK _ _ (hJ.step HOK 0 _ hl (by kernel_rfl) trivial none (World.grownBy_alloc _ _ _) (.inl rfl) (new_one (by kernel_rfl) ⟨0, 0, 0, some 4, [], fun V w => OwnI w wr.heap.size (V 0) ([])⟩ (List.mem_of_getElem? (i := 0) rfl) rfl ⟨(fun j hj => by rcases hj with rfl | hj; exact .inl rfl; cases hj), by (try simp only); rw [upd_at]; exact OwnI.lit wX _ hJ.below.size [] (by simp), fun g hg => .inl (by rw [upd_at] at hg; cases hg; exact Nat.le_refl _)⟩))
                      case o13b_1 =>
                        intro LX V aX wX K hl hp hcl hf hJ hK
                        have t3 := hf.still (t := 3) (v := .slice (some ⟨bo, oo, none⟩) no co) 12 (by kernel_rfl) (hcl.no 12 (by kernel_rfl) hl) rfl
                        rw [if_pos (by rfl)]
                        go_simp
                        exact hK _ _ (hJ.val HOK 1 _ hl (by kernel_rfl) (by kernel_rfl) rfl (Below.refl _ _))
                      case o13b_2 =>
                        intro LX V aX wX K hl hp hcl hf hJ hK
                        have t7 : aX.tmps[7]? = some (.int .i64 (a : Int)) := hf.old (by kernel_rfl) rfl
                        rw [if_pos (by rfl)]
                        go_simp
                        exact hK _ _ (hJ.val HOK 2 _ hl (by kernel_rfl) (by kernel_rfl) rfl (Below.refl _ _))
                      case o13b_3 =>
                        intro LX V aX wX K hl hp hcl hf hJ hK
                        have t61 := hf.in (i := 1) (d := 61) (by kernel_rfl) (hp 1 (by kernel_rfl)) (hJ.vals 1 _ rfl (hp 1 (by kernel_rfl)))
                        have t62 := hf.in (i := 2) (d := 62) (by kernel_rfl) (hp 2 (by kernel_rfl)) (hJ.vals 2 _ rfl (hp 2 (by kernel_rfl)))
                        rw [if_pos (by rfl)]
                        go_simp
                        exact hK _ _ (hJ.val HOK 3 _ hl (by kernel_rfl) (by kernel_rfl) rfl (Below.refl _ _))
                      case o13b_4 =>
                        intro LX V aX wX K hl hp hcl hf hJ hK
                        have t60 := hf.in (i := 0) (d := 60) (by kernel_rfl) (hp 0 (by kernel_rfl)) rfl
                        have t63 := hf.in (i := 3) (d := 63) (by kernel_rfl) (hp 3 (by kernel_rfl)) (hJ.vals 3 _ rfl (hp 3 (by kernel_rfl)))
                        rw [if_pos (by rfl)]
                        have hq0 := hJ.at ⟨0, 0, 0, some 4, [], fun V w => OwnI w wr.heap.size (V 0) ([])⟩ (List.mem_of_getElem? (i := 0) rfl) (lor (hp 0 (by kernel_rfl))) hl
                        refine opwp_append_intsF _ _ rfl wr.heap.size (V 0) ([]) (eval_tmp t60) hq0 _ _ _ (H.take a) (eval_tmp t63) (HTK.out _ hJ.below) (HLN1.out) hJ.below.size ?_
                        intro v' w' hown2 hgr hfr
                        exact hK _ _ (hJ.step HOK 4 v' hl (by kernel_rfl) trivial (V 0).ownBlock hgr (.inr ⟨⟨0, 0, 0, some 4, [], fun V w => OwnI w wr.heap.size (V 0) ([])⟩, List.mem_of_getElem? (i := 0) rfl, rfl, lor (hp 0 (by kernel_rfl)), by (try simp only); exact OwnI.any hq0⟩) (new_one (by kernel_rfl) ⟨1, 4, 4, some 7, [], fun V w => OwnI w wr.heap.size (V 4) ([] ++ H.take a)⟩ (List.mem_of_getElem? (i := 1) rfl) rfl ⟨(fun j hj => by rcases hj with rfl | hj; exact .inl rfl; cases hj), by (try simp only); rw [upd_at]; exact hown2, fun g hg => by rw [upd_at, OwnI.any hown2] at hg; exact hfr g hg⟩))
                      case o13b_5 =>
                        intro LX V aX wX K hl hp hcl hf hJ hK
                        have t6 : aX.tmps[6]? = some (.int .i64 (x.y)) := hf.old (by kernel_rfl) rfl
                        rw [if_pos (by rfl)]
                        go_simp
                        exact hK _ _ (hJ.val HOK 5 _ hl (by kernel_rfl) (by kernel_rfl) rfl (Below.refl _ _))
                      case o13b_6 =>
                        intro LX V aX wX K hl hp hcl hf hJ hK
                        have t65 := hf.in (i := 5) (d := 65) (by kernel_rfl) (hp 5 (by kernel_rfl)) (hJ.vals 5 _ rfl (hp 5 (by kernel_rfl)))
                        rw [if_pos (by rfl)]
                        go_simp
                        exact hK _ _ (hJ.step HOK 6 _ hl (by kernel_rfl) trivial none (World.grownBy_alloc _ _ _) (.inl rfl) (new_one (by kernel_rfl) ⟨2, 6, 6, none, [], fun V w => OwnI w wr.heap.size (V 6) ([x.y])⟩ (List.mem_of_getElem? (i := 2) rfl) rfl ⟨(fun j hj => by rcases hj with rfl | hj; exact .inl rfl; cases hj), by (try simp only); rw [upd_at]; exact OwnI.lit wX _ hJ.below.size [x.y] (by simp), fun g hg => .inl (by rw [upd_at] at hg; cases hg; exact Nat.le_refl _)⟩))
                      case o13b_7 =>
                        intro LX V aX wX K hl hp hcl hf hJ hK
                        have t64 := hf.in (i := 4) (d := 64) (by kernel_rfl) (hp 4 (by kernel_rfl)) rfl
                        have t66 := hf.in (i := 6) (d := 66) (by kernel_rfl) (hp 6 (by kernel_rfl)) rfl
                        rw [if_pos (by rfl)]
                        have hq9 := hJ.at ⟨2, 6, 6, none, [], fun V w => OwnI w wr.heap.size (V 6) ([x.y])⟩ (List.mem_of_getElem? (i := 2) rfl) (lor (hp 6 (by kernel_rfl))) trivial
                        obtain ⟨a66, c66, hv66, hpts⟩ := OwnI.ints hq9
                        have hq0 := hJ.at ⟨1, 4, 4, some 7, [], fun V w => OwnI w wr.heap.size (V 4) ([] ++ H.take a)⟩ (List.mem_of_getElem? (i := 1) rfl) (lor (hp 4 (by kernel_rfl))) hl
                        refine opwp_append_intsF _ _ rfl wr.heap.size (V 4) ([] ++ H.take a) (eval_tmp t64) hq0 _ _ _ ([x.y]) (by rw [eval_tmp t66]; exact hv66) (hpts) (HLN2.out) hJ.below.size ?_
                        intro v' w' hown2 hgr hfr
                        exact hK _ _ (hJ.step HOK 7 v' hl (by kernel_rfl) trivial (V 4).ownBlock hgr (.inr ⟨⟨1, 4, 4, some 7, [], fun V w => OwnI w wr.heap.size (V 4) ([] ++ H.take a)⟩, List.mem_of_getElem? (i := 1) rfl, rfl, lor (hp 4 (by kernel_rfl)), by (try simp only); exact OwnI.any hq0⟩) (new_one (by kernel_rfl) ⟨3, 7, 7, some 11, [], fun V w => OwnI w wr.heap.size (V 7) ([] ++ H.take a ++ [x.y])⟩ (List.mem_of_getElem? (i := 3) rfl) rfl ⟨(fun j hj => by rcases hj with rfl | hj; exact .inl rfl; cases hj), by (try simp only); rw [upd_at]; exact hown2, fun g hg => by rw [upd_at, OwnI.any hown2] at hg; exact hfr g hg⟩))
                      case o13b_8 =>
                        intro LX V aX wX K hl hp hcl hf hJ hK
                        have t3 := hf.still (t := 3) (v := .slice (some ⟨bo, oo, none⟩) no co) 12 (by kernel_rfl) (hcl.no 12 (by kernel_rfl) hl) rfl
                        rw [if_pos (by rfl)]
                        go_simp
                        exact hK _ _ (hJ.val HOK 8 _ hl (by kernel_rfl) (by kernel_rfl) rfl (Below.refl _ _))
                      case o13b_9 =>
                        intro LX V aX wX K hl hp hcl hf hJ hK
                        have t7 : aX.tmps[7]? = some (.int .i64 (a : Int)) := hf.old (by kernel_rfl) rfl
                        rw [if_pos (by rfl)]
                        go_simp
                        exact hK _ _ (hJ.val HOK 9 _ hl (by kernel_rfl) (by kernel_rfl) rfl (Below.refl _ _))
                      case o13b_10 =>
                        intro LX V aX wX K hl hp hcl hf hJ hK
                        have t68 := hf.in (i := 8) (d := 68) (by kernel_rfl) (hp 8 (by kernel_rfl)) (hJ.vals 8 _ rfl (hp 8 (by kernel_rfl)))
                        have t69 := hf.in (i := 9) (d := 69) (by kernel_rfl) (hp 9 (by kernel_rfl)) (hJ.vals 9 _ rfl (hp 9 (by kernel_rfl)))
                        rw [if_pos (by rfl)]
                        go_simp
                        exact hK _ _ (hJ.val HOK 10 _ hl (by kernel_rfl) (by kernel_rfl) rfl (Below.refl _ _))
                      case o13b_11 =>
                        intro LX V aX wX K hl hp hcl hf hJ hK
                        have t67 := hf.in (i := 7) (d := 67) (by kernel_rfl) (hp 7 (by kernel_rfl)) rfl
                        have t70 := hf.in (i := 10) (d := 70) (by kernel_rfl) (hp 10 (by kernel_rfl)) (hJ.vals 10 _ rfl (hp 10 (by kernel_rfl)))
                        rw [if_pos (by rfl)]
                        have hq0 := hJ.at ⟨3, 7, 7, some 11, [], fun V w => OwnI w wr.heap.size (V 7) ([] ++ H.take a ++ [x.y])⟩ (List.mem_of_getElem? (i := 3) rfl) (lor (hp 7 (by kernel_rfl))) hl
                        refine opwp_append_intsF _ _ rfl wr.heap.size (V 7) ([] ++ H.take a ++ [x.y]) (eval_tmp t67) hq0 _ _ _ (H.drop a) (eval_tmp t70) (HDR.out _ hJ.below) (HLN3.out) hJ.below.size ?_
                        intro v' w' hown2 hgr hfr
                        exact hK _ _ (hJ.step HOK 11 v' hl (by kernel_rfl) trivial (V 7).ownBlock hgr (.inr ⟨⟨3, 7, 7, some 11, [], fun V w => OwnI w wr.heap.size (V 7) ([] ++ H.take a ++ [x.y])⟩, List.mem_of_getElem? (i := 3) rfl, rfl, lor (hp 7 (by kernel_rfl)), by (try simp only); exact OwnI.any hq0⟩) (new_one (by kernel_rfl) ⟨4, 11, 11, some 12, [], fun V w => OwnI w wr.heap.size (V 11) ([] ++ H.take a ++ [x.y] ++ H.drop a)⟩ (List.mem_of_getElem? (i := 4) rfl) rfl ⟨(fun j hj => by rcases hj with rfl | hj; exact .inl rfl; cases hj), by (try simp only); rw [upd_at]; exact hown2, fun g hg => by rw [upd_at, OwnI.any hown2] at hg; exact hfr g hg⟩))
                      case o13b_12 =>
                        intro LX V aX wX K hl hp hcl hf hJ hK
                        have t71 := hf.in (i := 11) (d := 71) (by kernel_rfl) (hp 11 (by kernel_rfl)) rfl
                        rw [if_pos (by rfl)]
                        have hq0 := hJ.at ⟨4, 11, 11, some 12, [], fun V w => OwnI w wr.heap.size (V 11) ([] ++ H.take a ++ [x.y] ++ H.drop a)⟩ (List.mem_of_getElem? (i := 4) rfl) (lor (hp 11 (by kernel_rfl))) hl
                        go_simp
                        exact hK _ _ (hJ.step HOK 12 _ hl (by kernel_rfl) trivial (ownAny (V 11)) ⟨rfl, rfl, rfl, Nat.le_refl _, fun _ _ _ => rfl⟩ (.inr ⟨⟨4, 11, 11, some 12, [], fun V w => OwnI w wr.heap.size (V 11) ([] ++ H.take a ++ [x.y] ++ H.drop a)⟩, List.mem_of_getElem? (i := 4) rfl, rfl, lor (hp 11 (by kernel_rfl)), rfl⟩) (new_one (by kernel_rfl) ⟨5, 12, 12, none, [], fun V w => OwnI w wr.heap.size (V 12) ([] ++ H.take a ++ [x.y] ++ H.drop a)⟩ (List.mem_of_getElem? (i := 5) rfl) rfl ⟨(fun j hj => by rcases hj with rfl | hj; exact .inl rfl; cases hj), by (try simp only); rw [upd_at]; exact hq0, fun g hg => .inr (by rw [upd_at] at hg; exact hg.symm ▸ rfl)⟩))
                    intro V wZ hJ
                    have hq := hJ.at ⟨5, 12, 12, none, [], fun V w => OwnI w wr.heap.size (V 12) ([] ++ H.take a ++ [x.y] ++ H.drop a)⟩ (List.mem_of_getElem? (i := 5) rfl) (by kernel_rfl) trivial
                    have HZ := Lib.hid (And.intro hq hJ.below)
                    simp only [puts, Act.put, List.setIfInBounds_toArray, List.set_cons_zero, List.set_cons_succ]
                    clear hJ hq HOK
                    go_wp2_with fail
                    go_roundw
                    case rel => exact ⟨j + 1, by omega, by go_num, Lib.hid ⟨by rw [HRES2.out]; exact HZ.out.1.base hbl2.out.size, HNN.out _⟩, Lib.hid (hbl2.out.trans (HZ.out.2.mono hbl2.out.size))⟩
                    case measure => simp [intOf]; omega
              · have ha5 : ¬ (a : Int) < (no : Int) := by omega
                have HRES2 : Hid (hK (L1 ++ l.take (j + 1)) = [] ++ H.take a ++ [x.y] ++ H.drop a) := Lib.hid (by
                  rw [HHT.out, insH_at _ H a (by rw [← HNO.out]; omega) hlo.out (fun hh => absurd hh (by rw [← HNO.out]; omega)), if_neg (fun hh => absurd hh.1 (by rw [← HNO.out]; omega))]; rfl)
                go_wp2_with fail
                have HOK : ∀ r ∈ ([⟨0, 0, 0, some 4, [], fun V w => OwnI w wr.heap.size (V 0) ([])⟩, ⟨1, 4, 4, some 7, [], fun V w => OwnI w wr.heap.size (V 4) ([] ++ H.take a)⟩, ⟨2, 6, 6, none, [], fun V w => OwnI w wr.heap.size (V 6) ([x.y])⟩, ⟨3, 7, 7, some 11, [], fun V w => OwnI w wr.heap.size (V 7) ([] ++ H.take a ++ [x.y])⟩, ⟨4, 11, 11, some 12, [], fun V w => OwnI w wr.heap.size (V 11) ([] ++ H.take a ++ [x.y] ++ H.drop a)⟩, ⟨5, 12, 12, none, [], fun V w => OwnI w wr.heap.size (V 12) ([] ++ H.take a ++ [x.y] ++ H.drop a)⟩] : List Resr), ResOk wr r := by
                  intro r hr
                  simp only [List.mem_cons, List.not_mem_nil, or_false] at hr
                  rcases hr with rfl | rfl | rfl | rfl | rfl | rfl
                  · exact resInts_ok _
                  · exact resInts_ok _
                  · exact resInts_ok _
                  · exact resInts_ok _
                  · exact resInts_ok _
                  · exact resInts_ok _
                refine wp_region_J (s := [(60, 0), (61, 1), (62, 2), (63, 3), (64, 4), (65, 5), (66, 6), (67, 7), (68, 8), (69, 9), (70, 10), (71, 11), (3, 12)]) (by kernel_rfl) (ResJ wr (fun iX => match iX with | 1 => some (.slice (some ⟨bo, oo, none⟩) no co) | 2 => some (.int .i64 (a : Int)) | 3 => some (.slice (some ⟨bo, oo, none⟩) a co) | 5 => some (.int .i64 (x.y)) | 8 => some (.slice (some ⟨bo, oo, none⟩) no co) | 9 => some (.int .i64 (a : Int)) | 10 => some (.slice (if co = a then some ⟨bo, oo, none⟩ else some ⟨bo, oo + a, none⟩) (no - a) (co - a)) | _ => none) [⟨0, 0, 0, some 4, [], fun V w => OwnI w wr.heap.size (V 0) ([])⟩, ⟨1, 4, 4, some 7, [], fun V w => OwnI w wr.heap.size (V 4) ([] ++ H.take a)⟩, ⟨2, 6, 6, none, [], fun V w => OwnI w wr.heap.size (V 6) ([x.y])⟩, ⟨3, 7, 7, some 11, [], fun V w => OwnI w wr.heap.size (V 7) ([] ++ H.take a ++ [x.y])⟩, ⟨4, 11, 11, some 12, [], fun V w => OwnI w wr.heap.size (V 11) ([] ++ H.take a ++ [x.y] ++ H.drop a)⟩, ⟨5, 12, 12, none, [], fun V w => OwnI w wr.heap.size (V 12) ([] ++ H.take a ++ [x.y] ++ H.drop a)⟩]) (by kernel_rfl) (by kernel_rfl) (by kernel_rfl) (by kernel_rfl) (fun _ => undef) ?start13c ?step13c ?done13c
                case start13c => exact ResJ.start ((Below.refl _ _).drew) (by kernel_rfl)
                case step13c =>
                  refine ⟨?o13c_0, ?o13c_1, ?o13c_2, ?o13c_3, ?o13c_4, ?o13c_5, ?o13c_6, ?o13c_7, ?o13c_8, ?o13c_9, ?o13c_10, ?o13c_11, ?o13c_12, trivial⟩
                  case o13c_0 =>
                    intro LX V aX wX K hl hp hcl hf hJ hK
                    rw [if_pos (by rfl)]
                    go_simp
                    exact hK _ _ (hJ.step HOK 0 _ hl (by kernel_rfl) trivial none (World.grownBy_alloc _ _ _) (.inl rfl) (new_one (by kernel_rfl) ⟨0, 0, 0, some 4, [], fun V w => OwnI w wr.heap.size (V 0) ([])⟩ (List.mem_of_getElem? (i := 0) rfl) rfl ⟨(fun j hj => by rcases hj with rfl | hj; exact .inl rfl; cases hj), by (try simp only); rw [upd_at]; exact OwnI.lit wX _ hJ.below.size [] (by simp), fun g hg => .inl (by rw [upd_at] at hg; cases hg; exact Nat.le_refl _)⟩))
                  case o13c_1 =>
                    intro LX V aX wX K hl hp hcl hf hJ hK
                    have t3 := hf.still (t := 3) (v := .slice (some ⟨bo, oo, none⟩) no co) 12 (by kernel_rfl) (hcl.no 12 (by kernel_rfl) hl) rfl
                    rw [if_pos (by rfl)]
                    go_simp
                    exact hK _ _ (hJ.val HOK 1 _ hl (by kernel_rfl) (by kernel_rfl) rfl (Below.refl _ _))
                  case o13c_2 =>
                    intro LX V aX wX K hl hp hcl hf hJ hK
                    have t7 : aX.tmps[7]? = some (.int .i64 (a : Int)) := hf.old (by kernel_rfl) rfl
                    rw [if_pos (by rfl)]
                    go_simp
                    exact hK _ _ (hJ.val HOK 2 _ hl (by kernel_rfl) (by kernel_rfl) rfl (Below.refl _ _))
                  case o13c_3 =>
                    intro LX V aX wX K hl hp hcl hf hJ hK
                    have t61 := hf.in (i := 1) (d := 61) (by kernel_rfl) (hp 1 (by kernel_rfl)) (hJ.vals 1 _ rfl (hp 1 (by kernel_rfl)))
                    have t62 := hf.in (i := 2) (d := 62) (by kernel_rfl) (hp 2 (by kernel_rfl)) (hJ.vals 2 _ rfl (hp 2 (by kernel_rfl)))
                    rw [if_pos (by rfl)]
                    go_simp
                    exact hK _ _ (hJ.val HOK 3 _ hl (by kernel_rfl) (by kernel_rfl) rfl (Below.refl _ _))
                  case o13c_4 =>
                    intro LX V aX wX K hl hp hcl hf hJ hK
                    have t60 := hf.in (i := 0) (d := 60) (by kernel_rfl) (hp 0 (by kernel_rfl)) rfl
                    have t63 := hf.in (i := 3) (d := 63) (by kernel_rfl) (hp 3 (by kernel_rfl)) (hJ.vals 3 _ rfl (hp 3 (by kernel_rfl)))
                    rw [if_pos (by rfl)]
                    have hq0 := hJ.at ⟨0, 0, 0, some 4, [], fun V w => OwnI w wr.heap.size (V 0) ([])⟩ (List.mem_of_getElem? (i := 0) rfl) (lor (hp 0 (by kernel_rfl))) hl
                    refine opwp_append_intsF _ _ rfl wr.heap.size (V 0) ([]) (eval_tmp t60) hq0 _ _ _ (H.take a) (eval_tmp t63) (HTK.out _ hJ.below) (HLN1.out) hJ.below.size ?_
                    intro v' w' hown2 hgr hfr
                    exact hK _ _ (hJ.step HOK 4 v' hl (by kernel_rfl) trivial (V 0).ownBlock hgr (.inr ⟨⟨0, 0, 0, some 4, [], fun V w => OwnI w wr.heap.size (V 0) ([])⟩, List.mem_of_getElem? (i := 0) rfl, rfl, lor (hp 0 (by kernel_rfl)), by (try simp only); exact OwnI.any hq0⟩) (new_one (by kernel_rfl) ⟨1, 4, 4, some 7, [], fun V w => OwnI w wr.heap.size (V 4) ([] ++ H.take a)⟩ (List.mem_of_getElem? (i := 1) rfl) rfl ⟨(fun j hj => by rcases hj with rfl | hj; exact .inl rfl; cases hj), by (try simp only); rw [upd_at]; exact hown2, fun g hg => by rw [upd_at, OwnI.any hown2] at hg; exact hfr g hg⟩))
                  case o13c_5 =>
                    intro LX V aX wX K hl hp hcl hf hJ hK
                    have t6 : aX.tmps[6]? = some (.int .i64 (x.y)) := hf.old (by kernel_rfl) rfl
                    rw [if_pos (by rfl)]
                    go_simp
                    exact hK _ _ (hJ.val HOK 5 _ hl (by kernel_rfl) (by kernel_rfl) rfl (Below.refl _ _))
                  case o13c_6 =>
                    intro LX V aX wX K hl hp hcl hf hJ hK
                    have t65 := hf.in (i := 5) (d := 65) (by kernel_rfl) (hp 5 (by kernel_rfl)) (hJ.vals 5 _ rfl (hp 5 (by kernel_rfl)))
                    rw [if_pos (by rfl)]
                    go_simp
                    exact hK _ _ (hJ.step HOK 6 _ hl (by kernel_rfl) trivial none (World.grownBy_alloc _ _ _) (.inl rfl) (new_one (by kernel_rfl) ⟨2, 6, 6, none, [], fun V w => OwnI w wr.heap.size (V 6) ([x.y])⟩ (List.mem_of_getElem? (i := 2) rfl) rfl ⟨(fun j hj => by rcases hj with rfl | hj; exact .inl rfl; cases hj), by (try simp only); rw [upd_at]; exact OwnI.lit wX _ hJ.below.size [x.y] (by simp), fun g hg => .inl (by rw [upd_at] at hg; cases hg; exact Nat.le_refl _)⟩))
                  case o13c_7 =>
                    intro LX V aX wX K hl hp hcl hf hJ hK
                    have t64 := hf.in (i := 4) (d := 64) (by kernel_rfl) (hp 4 (by kernel_rfl)) rfl
                    have t66 := hf.in (i := 6) (d := 66) (by kernel_rfl) (hp 6 (by kernel_rfl)) rfl
                    rw [if_pos (by rfl)]
                    have hq9 := hJ.at ⟨2, 6, 6, none, [], fun V w => OwnI w wr.heap.size (V 6) ([x.y])⟩ (List.mem_of_getElem? (i := 2) rfl) (lor (hp 6 (by kernel_rfl))) trivial
                    obtain ⟨a66, c66, hv66, hpts⟩ := OwnI.ints hq9
                    have hq0 := hJ.at ⟨1, 4, 4, some 7, [], fun V w => OwnI w wr.heap.size (V 4) ([] ++ H.take a)⟩ (List.mem_of_getElem? (i := 1) rfl) (lor (hp 4 (by kernel_rfl))) hl
                    refine opwp_append_intsF _ _ rfl wr.heap.size (V 4) ([] ++ H.take a) (eval_tmp t64) hq0 _ _ _ ([x.y]) (by rw [eval_tmp t66]; exact hv66) (hpts) (HLN2.out) hJ.below.size ?_
                    intro v' w' hown2 hgr hfr
                    exact hK _ _ (hJ.step HOK 7 v' hl (by kernel_rfl) trivial (V 4).ownBlock hgr (.inr ⟨⟨1, 4, 4, some 7, [], fun V w => OwnI w wr.heap.size (V 4) ([] ++ H.take a)⟩, List.mem_of_getElem? (i := 1) rfl, rfl, lor (hp 4 (by kernel_rfl)), by (try simp only); exact OwnI.any hq0⟩) (new_one (by kernel_rfl) ⟨3, 7, 7, some 11, [], fun V w => OwnI w wr.heap.size (V 7) ([] ++ H.take a ++ [x.y])⟩ (List.mem_of_getElem? (i := 3) rfl) rfl ⟨(fun j hj => by rcases hj with rfl | hj; exact .inl rfl; cases hj), by (try simp only); rw [upd_at]; exact hown2, fun g hg => by rw [upd_at, OwnI.any hown2] at hg; exact hfr g hg⟩))
                  case o13c_8 =>
                    intro LX V aX wX K hl hp hcl hf hJ hK
                    have t3 := hf.still (t := 3) (v := .slice (some ⟨bo, oo, none⟩) no co) 12 (by kernel_rfl) (hcl.no 12 (by kernel_rfl) hl) rfl
                    rw [if_pos (by rfl)]
                    go_simp
                    exact hK _ _ (hJ.val HOK 8 _ hl (by kernel_rfl) (by kernel_rfl) rfl (Below.refl _ _))
                  case o13c_9 =>
                    intro LX V aX wX K hl hp hcl hf hJ hK
                    have t7 : aX.tmps[7]? = some (.int .i64 (a : Int)) := hf.old (by kernel_rfl) rfl
                    rw [if_pos (by rfl)]
                    go_simp
                    exact hK _ _ (hJ.val HOK 9 _ hl (by kernel_rfl) (by kernel_rfl) rfl (Below.refl _ _))
                  case o13c_10 =>
                    intro LX V aX wX K hl hp hcl hf hJ hK
                    have t68 := hf.in (i := 8) (d := 68) (by kernel_rfl) (hp 8 (by kernel_rfl)) (hJ.vals 8 _ rfl (hp 8 (by kernel_rfl)))
                    have t69 := hf.in (i := 9) (d := 69) (by kernel_rfl) (hp 9 (by kernel_rfl)) (hJ.vals 9 _ rfl (hp 9 (by kernel_rfl)))
                    rw [if_pos (by rfl)]
                    go_simp
                    exact hK _ _ (hJ.val HOK 10 _ hl (by kernel_rfl) (by kernel_rfl) rfl (Below.refl _ _))
                  case o13c_11 =>
                    intro LX V aX wX K hl hp hcl hf hJ hK
                    have t67 := hf.in (i := 7) (d := 67) (by kernel_rfl) (hp 7 (by kernel_rfl)) rfl
                    have t70 := hf.in (i := 10) (d := 70) (by kernel_rfl) (hp 10 (by kernel_rfl)) (hJ.vals 10 _ rfl (hp 10 (by kernel_rfl)))
                    rw [if_pos (by rfl)]
                    have hq0 := hJ.at ⟨3, 7, 7, some 11, [], fun V w => OwnI w wr.heap.size (V 7) ([] ++ H.take a ++ [x.y])⟩ (List.mem_of_getElem? (i := 3) rfl) (lor (hp 7 (by kernel_rfl))) hl
                    refine opwp_append_intsF _ _ rfl wr.heap.size (V 7) ([] ++ H.take a ++ [x.y]) (eval_tmp t67) hq0 _ _ _ (H.drop a) (eval_tmp t70) (HDR.out _ hJ.below) (HLN3.out) hJ.below.size ?_
                    intro v' w' hown2 hgr hfr
                    exact hK _ _ (hJ.step HOK 11 v' hl (by kernel_rfl) trivial (V 7).ownBlock hgr (.inr ⟨⟨3, 7, 7, some 11, [], fun V w => OwnI w wr.heap.size (V 7) ([] ++ H.take a ++ [x.y])⟩, List.mem_of_getElem? (i := 3) rfl, rfl, lor (hp 7 (by kernel_rfl)), by (try simp only); exact OwnI.any hq0⟩) (new_one (by kernel_rfl) ⟨4, 11, 11, some 12, [], fun V w => OwnI w wr.heap.size (V 11) ([] ++ H.take a ++ [x.y] ++ H.drop a)⟩ (List.mem_of_getElem? (i := 4) rfl) rfl ⟨(fun j hj => by rcases hj with rfl | hj; exact .inl rfl; cases hj), by (try simp only); rw [upd_at]; exact hown2, fun g hg => by rw [upd_at, OwnI.any hown2] at hg; exact hfr g hg⟩))
                  case o13c_12 =>
                    intro LX V aX wX K hl hp hcl hf hJ hK
                    have t71 := hf.in (i := 11) (d := 71) (by kernel_rfl) (hp 11 (by kernel_rfl)) rfl
                    rw [if_pos (by rfl)]
                    have hq0 := hJ.at ⟨4, 11, 11, some 12, [], fun V w => OwnI w wr.heap.size (V 11) ([] ++ H.take a ++ [x.y] ++ H.drop a)⟩ (List.mem_of_getElem? (i := 4) rfl) (lor (hp 11 (by kernel_rfl))) hl
                    go_simp
                    exact hK _ _ (hJ.step HOK 12 _ hl (by kernel_rfl) trivial (ownAny (V 11)) ⟨rfl, rfl, rfl, Nat.le_refl _, fun _ _ _ => rfl⟩ (.inr ⟨⟨4, 11, 11, some 12, [], fun V w => OwnI w wr.heap.size (V 11) ([] ++ H.take a ++ [x.y] ++ H.drop a)⟩, List.mem_of_getElem? (i := 4) rfl, rfl, lor (hp 11 (by kernel_rfl)), rfl⟩) (new_one (by kernel_rfl) ⟨5, 12, 12, none, [], fun V w => OwnI w wr.heap.size (V 12) ([] ++ H.take a ++ [x.y] ++ H.drop a)⟩ (List.mem_of_getElem? (i := 5) rfl) rfl ⟨(fun j hj => by rcases hj with rfl | hj; exact .inl rfl; cases hj), by (try simp only); rw [upd_at]; exact hq0, fun g hg => .inr (by rw [upd_at] at hg; exact hg.symm ▸ rfl)⟩))
                intro V wZ hJ
                have hq := hJ.at ⟨5, 12, 12, none, [], fun V w => OwnI w wr.heap.size (V 12) ([] ++ H.take a ++ [x.y] ++ H.drop a)⟩ (List.mem_of_getElem? (i := 5) rfl) (by kernel_rfl) trivial
                have HZ := Lib.hid (And.intro hq hJ.below)
                simp only [puts, Act.put, List.setIfInBounds_toArray, List.set_cons_zero, List.set_cons_succ]
                clear hJ hq HOK
                go_wp2_with fail
                go_roundw
                case rel => exact ⟨j + 1, by omega, by go_num, Lib.hid ⟨by rw [HRES2.out]; exact HZ.out.1.base hbl2.out.size, HNN.out _⟩, Lib.hid (hbl2.out.trans (HZ.out.2.mono hbl2.out.size))⟩
                case measure => simp [intOf]; omega
        · have hjy : y = j := by omega
          subst hjy
          have hj5 : ¬ (y : Int) < (y : Int) := by omega
          have HF : Hid ((R.take (k + 1)).flatten = L1 ++ l.take y) := Lib.hid (by rw [HT.out, List.take_of_length_le (by rw [HY.out]; exact Nat.le_refl _)])
          clear hpw
          go_wp2_with fail
          go_roundw
          case rel => exact ⟨k + 1, by omega, by go_num, Lib.hid (by rw [HF.out]; exact hown2.out), hbl2⟩
          case measure => simp [intOf]; omega
    · have hkn : n = k := by omega
      subst hkn
      have hi5 : ¬ (n : Int) < (n : Int) := by omega
      have hown3 := hown.out.1
      rw [List.take_of_length_le (by rw [HL.out]; exact Nat.le_refl _)] at hown3
      have H3 := Lib.hid hown3
      clear hown3
      go_wp2_with fail
      go_ret
      exact ⟨_, rfl, H3.out.base H0.out.size, H0.out.trans (hbl.out.mono H0.out.size)⟩
end Go.Proofs.Ytdikecfplohpeaa
