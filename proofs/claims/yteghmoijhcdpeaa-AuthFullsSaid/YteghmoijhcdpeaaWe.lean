/- The walk's step. -/
import Derived.Test.YteghmoijhcdpeaaWc
import Derived.Test.YteghmoijhcdpeaaWf
namespace Go.Proofs.Yteghmoijhcdpeaa

/-- One step of the walk. -/
theorem Wst {p q : Prop} (h : q → p := by first
    | exact fun k => W.cons k
    | exact fun k => W.pure k
    | exact fun k => W.nil k
    | exact fun k => W.seq k
    | exact fun k => W.region k
    | exact fun k => W.block k
    | exact fun k => W.blk k
    | exact fun k => W.skip k
    | exact fun k => W.condT k
    | exact fun k => W.condF k
    | exact fun k => W.exit k rfl
    | exact fun k => W.pass k
    | exact fun k => W.load k
    | exact fun k => W.fieldAddr k
    | exact fun k => W.lenS k
    | exact fun k => W.lenT k
    | exact fun k => W.indexT k
    | exact fun k => W.store k
    | exact fun k => W.loadA k
    | exact fun k => W.boxA k
    | exact fun k => W.box k
    | exact fun k => W.alloc1 k
    | exact fun k => W.allocA k
    | exact fun k => W.arith k
    | exact fun k => W.indexAddr k
    | exact fun k => W.indexAddrN k
    | exact fun k => W.ptrNil k
    | exact fun k => W.build k
    | exact fun k => W.buildSlice k
    | exact fun k => W.fieldS k
    | exact fun k => W.fieldA k
    | exact fun k => W.conv k
    | exact fun k => W.storeA k
    | exact fun k => W.loadP k
    | exact fun k => W.lenM k
    | exact fun k => W.lenM0 k
    | exact fun k => W.makeMap k
    | exact fun k => W.takeP k
    | exact fun k => W.takeS k
    | exact fun k => W.takeF k
    | exact fun k => W.takeL k
    | exact fun k => W.takeLP k
    | exact fun k => W.anyDone k
    | exact fun k => W.any1 k) (k : q) : p := h k
end Go.Proofs.Yteghmoijhcdpeaa
