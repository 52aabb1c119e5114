/- The houses of the document's examples, and what is computed of them. -/
import Derived.Test.YtiajiahfmfckjaaE2
namespace Go.Proofs.Ytiajiahfmfckjaa
open Go.RowKit
set_option maxRecDepth 100000

def sWolf : ByteArray := ⟨#[119, 111, 108, 102]⟩
def sBerta : ByteArray := ⟨#[98, 101, 114, 116, 97]⟩
def sCarl : ByteArray := ⟨#[99, 97, 114, 108]⟩
def hH (more : List (List Int)) : House := ⟨[⟨sWolf, 100, 100, 0⟩, ⟨sBerta, 110, 116, 1⟩, ⟨sCarl, 94, 100, 1⟩], [[60, 53, -1], [-1, 90, 104]] ++ more⟩
theorem aw1 : facR (hH []) 2 = (95, 100) := by kernel_rfl
theorem aw1e : facE (hH []) 2 = 0 := by kernel_rfl
theorem aw2 : numR (hH []) 1 = (9968, 10465) := by kernel_rfl
theorem aw2e : numE (hH []) 1 = 0 := by kernel_rfl
theorem aw3 : wouA (hH []) 0 2 = ((59, 64), 0) := by kernel_rfl
theorem aw4 : bwA (hH []) 1 2 = ((57, 50), (112, 95)) := by kernel_rfl
theorem aw4e : bwE (hH []) 1 2 = 0 := by kernel_rfl
theorem aw5 : nextA (hH []) = (0, 2, 0) := by kernel_rfl
theorem aw6 : wrongA (hH [[50, -1, 60]]) = ([6], 0) := by kernel_rfl
theorem aw7 : facE (hH [[50, -1, 60]]) 0 = 8 := by kernel_rfl
theorem aw8 : (wouA (hH []) 0 0).2 = 5 := by kernel_rfl
end Go.Proofs.Ytiajiahfmfckjaa
