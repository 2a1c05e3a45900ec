/- layer 16: the short forms of each kind, rising (printed by mkw3.py) -/
import Derived.Test.YtbgihfjagfbfgaaDoorMWLaw0
set_option linter.unusedSimpArgs false
set_option linter.unusedVariables false
namespace Go.Proofs.YtbgihfjagfbfgaaDoor
open Go.Words
def sufS : List Wd := [[65, 76, 89], [65, 86, 69], [66, 76, 86, 68], [67, 73, 82], [67, 84], [68, 82], [69, 88, 80, 89], [72, 87, 89], [76, 78], [76, 79, 79, 80], [80, 75, 87, 89], [80, 76], [80, 76, 90], [82, 68], [82, 79, 87], [83, 81], [83, 84], [84, 69, 82], [84, 82, 76], [87, 65, 89]]
theorem suf_rise : sufS.Pairwise (· < ·) := by decide +kernel
theorem suf_sort : sortW sufP = sufS := sort_of (by decide +kernel) suf_rise
def dirS : List Wd := [[69], [78], [78, 69], [78, 87], [83], [83, 69], [83, 87], [87]]
theorem dir_rise : dirS.Pairwise (· < ·) := by decide +kernel
theorem dir_sort : sortW dirP = dirS := sort_of (by decide +kernel) dir_rise
def staS : List Wd := [[65, 75], [65, 76], [65, 82], [65, 90], [67, 65], [67, 79], [67, 84], [68, 67], [68, 69], [70, 76], [71, 65], [72, 73], [73, 65], [73, 68], [73, 76], [73, 78], [75, 83], [75, 89], [76, 65], [77, 65], [77, 68], [77, 69], [77, 73], [77, 78], [77, 79], [77, 83], [77, 84], [78, 67], [78, 68], [78, 69], [78, 72], [78, 74], [78, 77], [78, 86], [78, 89], [79, 72], [79, 75], [79, 82], [80, 65], [82, 73], [83, 67], [83, 68], [84, 78], [84, 88], [85, 84], [86, 65], [86, 84], [87, 65], [87, 73], [87, 86], [87, 89]]
theorem sta_rise : staS.Pairwise (· < ·) := by decide +kernel
theorem sta_sort : sortW staP = staS := sort_of (by decide +kernel) sta_rise
def uniS : List Wd := [[65, 80, 84], [66, 76, 68, 71], [70, 76], [82, 77], [83, 84, 69], [85, 78, 73, 84]]
theorem uni_rise : uniS.Pairwise (· < ·) := by decide +kernel
theorem uni_sort : sortW uniP = uniS := sort_of (by decide +kernel) uni_rise
def kindS (k : Int) : List Wd := if k = 1 then sufS else if k = 2 then dirS else if k = 3 then staS else if k = 4 then uniS else []
theorem kindS_is (k : Int) : sortW (kindP k) = kindS k := by
  unfold kindP kindS
  by_cases h1 : k = 1
  · rw [if_pos h1, if_pos h1]; exact suf_sort
  rw [if_neg h1, if_neg h1]
  by_cases h2 : k = 2
  · rw [if_pos h2, if_pos h2]; exact dir_sort
  rw [if_neg h2, if_neg h2]
  by_cases h3 : k = 3
  · rw [if_pos h3, if_pos h3]; exact sta_sort
  rw [if_neg h3, if_neg h3]
  by_cases h4 : k = 4
  · rw [if_pos h4, if_pos h4]; exact uni_sort
  rw [if_neg h4, if_neg h4]
  simp [sortW]
theorem kindS_len (k : Int) : (kindS k).length ≤ 51 := by
  unfold kindS
  split
  · decide +kernel
  split
  · decide +kernel
  split
  · decide +kernel
  split
  · decide +kernel
  · decide
theorem kindS_rise (k : Int) : (kindS k).Pairwise (· < ·) := by
  unfold kindS
  split
  · exact suf_rise
  split
  · exact dir_rise
  split
  · exact sta_rise
  split
  · exact uni_rise
  · exact List.Pairwise.nil
theorem kindS_mem {k : Int} {s : Wd} : s ∈ kindS k ↔ ∃ p ∈ kindP k, p.2 = s := by
  rw [← kindS_is]
  unfold sortW
  rw [List.mem_mergeSort, List.mem_map]
end Go.Proofs.YtbgihfjagfbfgaaDoor
