/- plain law of the tiles: the two regions of a box cut by a line -/
import Derived.Test.YtgijaaklhdcgeaaMQPick
import Derived.Test.YtgijaaklhdcgeaaMQCont
import Derived.Test.YtgijaaklhdcgeaaMQDef
set_option linter.unusedSimpArgs false
set_option linter.unusedVariables false
namespace Go.Proofs.Ytgijaaklhdcgeaa
open Go.RowKit Go.Geo
def tileP (low : Pt) (wide tall : Int) (c : Pt) : Pt := ⟨low.x + pickP c.x wide, low.y + pickP c.y tall⟩
def lineP (low : Pt) (wide tall : Int) (a : Pt) (C : List Pt) (k : Nat) : List Pt := a :: (C.take k).map (tileP low wide tall)
theorem lineP_succ {low : Pt} {wide tall : Int} {a : Pt} {C : List Pt} {k : Nat} (h : k < C.length) : lineP low wide tall a C (k + 1) = lineP low wide tall a C k ++ [tileP low wide tall (C.getD k p0)] := by
  unfold lineP
  rw [take_more (d := p0) h, List.map_append]
  rfl
theorem lineP_len {low : Pt} {wide tall : Int} {a : Pt} {C : List Pt} {k : Nat} (h : k ≤ C.length) : (lineP low wide tall a C k).length = k + 1 := by
  unfold lineP
  simp [Nat.min_eq_left h]
theorem pick_range' {x n : Int} (hn : 1 ≤ n) : 0 ≤ pickP x n ∧ pickP x n < n := by
  unfold pickP
  rw [if_neg (by omega)]
  exact ⟨Int.emod_nonneg _ (by omega), Int.emod_lt_of_pos _ (by omega)⟩
def underP (low high : Pt) (L : List Pt) : List Pt := [low, ⟨high.x, low.y⟩] ++ L.reverse
def overP (low high : Pt) (L : List Pt) : List Pt := [high, ⟨low.x, high.y⟩] ++ L
theorem tiles_law {p low high a b : Pt} {C : List Pt} {wide tall : Int} (hlv : validP low = true) (hhv : validP high = true) (hx : low.x < high.x) (hy : low.y < high.y) (hw : wide = high.x - low.x + 1) (ht : tall = high.y - low.y + 1)
    (ha : a.x = low.x ∧ low.y ≤ a.y ∧ a.y ≤ high.y) (hb : b.x = high.x ∧ low.y ≤ b.y ∧ b.y ≤ high.y) (k : Nat) :
    (inP p (underP low high (lineP low wide tall a C k ++ [b])) ^^ inP p (overP low high (lineP low wide tall a C k ++ [b]))) = boxIn p low high ∧
    (boxIn p low high = false → inP p (underP low high (lineP low wide tall a C k ++ [b])) = false ∧ inP p (overP low high (lineP low wide tall a C k ++ [b])) = false) := by
  obtain ⟨mid, hmid⟩ : ∃ mid, mid = (C.take k).map (tileP low wide tall) := ⟨_, rfl⟩
  have hline : lineP low wide tall a C k ++ [b] = a :: (mid ++ [b]) := by unfold lineP; rw [← hmid]; rfl
  have hmb : ∀ v ∈ mid, low.x ≤ v.x ∧ v.x ≤ high.x ∧ low.y ≤ v.y ∧ v.y ≤ high.y := fun v hv => by
    rw [hmid] at hv
    obtain ⟨c, _, rfl⟩ := List.mem_map.1 hv
    unfold tileP
    have h1 := pick_range' (x := c.x) (n := wide) (by omega)
    have h2 := pick_range' (x := c.y) (n := tall) (by omega)
    simp only
    omega
  have hlb : ∀ v ∈ a :: (mid ++ [b]), low.x ≤ v.x ∧ v.x ≤ high.x ∧ low.y ≤ v.y ∧ v.y ≤ high.y := fun v hv => by
    rcases List.mem_cons.1 hv with rfl | hv
    · omega
    · rcases List.mem_append.1 hv with hv | hv
      · exact hmb v hv
      · rw [List.mem_singleton] at hv; subst hv; omega
  have hub : ∀ v ∈ underP low high (a :: (mid ++ [b])), low.x ≤ v.x ∧ v.x ≤ high.x ∧ low.y ≤ v.y ∧ v.y ≤ high.y := fun v hv => by
    unfold underP at hv
    rcases List.mem_append.1 hv with hv | hv
    · simp only [List.mem_cons, List.not_mem_nil, or_false] at hv
      rcases hv with rfl | rfl
      · omega
      · simp only; omega
    · exact hlb v (List.mem_reverse.1 hv)
  have hob : ∀ v ∈ overP low high (a :: (mid ++ [b])), low.x ≤ v.x ∧ v.x ≤ high.x ∧ low.y ≤ v.y ∧ v.y ≤ high.y := fun v hv => by
    unfold overP at hv
    rcases List.mem_append.1 hv with hv | hv
    · simp only [List.mem_cons, List.not_mem_nil, or_false] at hv
      rcases hv with rfl | rfl
      · omega
      · simp only; omega
    · exact hlb v hv
  rw [validP_iff] at hlv hhv
  have hval : ∀ v : Pt, (low.x ≤ v.x ∧ v.x ≤ high.x ∧ low.y ≤ v.y ∧ v.y ≤ high.y) → validP v = true := fun v h => by rw [validP_iff]; omega
  rw [hline]
  constructor
  · have := tiles (p := p) (low := low) (high := high) (a := a) (b := b) (line := mid ++ [b]) ((validP_iff _).2 hlv) ((validP_iff _).2 hhv) hx hy ha hb (lastP_append _ _ _)
    exact this
  · intro hbx
    have key : ∀ l : List Pt, (∀ v ∈ l, low.x ≤ v.x ∧ v.x ≤ high.x ∧ low.y ≤ v.y ∧ v.y ≤ high.y) → inP p l = false := fun l hl => by
      cases hq : inP p l with
      | false => rfl
      | true =>
        have h := in_box hq (fun v hv => hval v (hl v hv)) hl
        have : boxIn p low high = true := by
          unfold boxIn
          simp only [Bool.and_eq_true, decide_eq_true_eq]
          omega
        rw [this] at hbx
        cases hbx
    exact ⟨key _ hub, key _ hob⟩
end Go.Proofs.Ytgijaaklhdcgeaa
