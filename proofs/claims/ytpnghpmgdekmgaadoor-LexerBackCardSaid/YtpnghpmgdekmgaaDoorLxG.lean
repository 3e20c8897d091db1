import Derived.Test.YtpnghpmgdekmgaaDoorQ0
import Derived.Test.YtpnghpmgdekmgaaDoorShelf
import Derived.Shelf.Unicode.DecodeSlow
namespace Go.Proofs.YtpnghpmgdekmgaaDoor.Q
open Go.RowKit Go.Proofs.YtpnghpmgdekmgaaDoorW.PrintWords Go.Proofs.YtpnghpmgdekmgaaDoorW.PrintLast Go.Proofs.YtpnghpmgdekmgaaDoorW.PrintMore
/-- Go's two UTF-8 tables lie where the program has them. -/
structure Gl (w : World) : Prop where
  tabs : Lib.Utf8Tabs 0 1 w
theorem Gl.below {w w' : World} (h : Gl w) (hb : Below w.heap.size w w') : Gl w' :=
  ⟨⟨fun n hn => pw_cell_below hb (h.tabs.1 n hn), fun j hj => ⟨pw_cell_below hb (h.tabs.2 j hj).1, pw_cell_below hb (h.tabs.2 j hj).2⟩⟩⟩
end Go.Proofs.YtpnghpmgdekmgaaDoor.Q
