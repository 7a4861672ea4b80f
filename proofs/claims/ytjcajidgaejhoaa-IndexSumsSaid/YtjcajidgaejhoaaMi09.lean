/- slices.Delete, one element: a graph's edges, and its nodes. -/
import Derived.Test.YtjcajidgaejhoaaMi04
import Derived.Test.YtjcajidgaejhoaaMi07
import Derived.Deep.RegionLaw
namespace Go.Proofs.Ytjcajidgaejhoaa
open Go.RowKit
set_option linter.unusedSimpArgs false
set_option linter.unusedVariables false

theorem zero_del_edge (w : World) : (zeroValue 43).run Try.prog w = .ok (.agg #[.int .i64 0, .int .i64 0, .string ⟨#[]⟩, .int .i64 0]) w := by
  obtain ⟨i0, h2, h3, h4, h5⟩ := info_parts infoEdge
  simp [zeroValue, typeInfo, h2, h3]

theorem zero_del_node (w : World) : (zeroValue 41).run Try.prog w = .ok (.agg #[.int .i64 0, .slice none 0 0, .slice none 0 0]) w := by
  obtain ⟨i0, h2, h3, h4, h5⟩ := info_parts infoNode
  simp [zeroValue, typeInfo, h2, h3]

end Go.Proofs.Ytjcajidgaejhoaa

