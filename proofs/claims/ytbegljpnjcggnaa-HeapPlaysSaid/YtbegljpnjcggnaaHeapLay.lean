/- heappifo: the library's Clone and SortFunc at entries of int. -/
import Derived.Test.YtbegljpnjcggnaaHeapCmp
import Derived.Shelf.SlSortCmp.WholeK
import Derived.Shelf.SlicesE.Clone
import Derived.Shelf.Lay
import Derived.Ground.SlsfProg
import Derived.Ground.SlgnProg
namespace Go.Proofs.Ytbegljpnjcggnaa
open Go.Shelf Go.RowKit Go.Lib Go.Sort
shelf_lay_g SlLaysE0.n41 Slgn 41 at Try 24 as Try.cloneE
shelf_lay_g SlLaysF0.n6 Slsf 6 at Try 25 as Try.sortE
end Go.Proofs.Ytbegljpnjcggnaa
