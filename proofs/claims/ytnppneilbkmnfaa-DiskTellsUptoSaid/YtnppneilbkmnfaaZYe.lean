/- The walks of the laws DiskReads, DiskTells, DiskCrashes: each returns true, and no older memory turns. Condition: the arguments can be read. -/
import Derived.Test.YtnppneilbkmnfaaZYd
namespace Go.Proofs.Ytnppneilbkmnfaa
open Go.RowKit

set_option maxRecDepth 20000 in
theorem reads_any (w : World) (lim : Int) (m : Bool) (v : Value) (l : List FI) (hI : ImgR w v l) (hfew : l.length ≤ 1048576) (hbyt : ∀ x ∈ l, x.b.length ≤ 1073741824) (sv : Value) (L : List OpI) (hS : ScrR w sv L) :
    Calls Try.prog 10 #[.agg #[.int .i64 lim, .bool m, v], sv] w fun e w' => e = .returned (.bool true) ∧ Ext Nil w w' := by
  obtain ⟨ao, cap, rfl, -, -⟩ := hI.see.shape
  have eW : Ext Nil w (w.alloc (.cells #[.int .i64 lim, .bool m, .slice ao l.length cap] 44 (0, 0))) := (Ext.refl _ _).alloc _
  have a1 := At.new w [.int .i64 lim, .bool m, .slice ao l.length cap] 44
  have b0 := a1.cell 0 rfl
  have b1 := a1.cell 1 rfl
  have b2 := a1.cell 2 rfl
  have HPM := Lib.hid (fun lo hi => play_m _ lim m _ l (hI.ext eW fun _ _ h => h) hfew hbyt sv L (hS.ext0 eW) lo hi)
  have EW := Lib.hid eW
  clear hI hS a1 eW
  go_enter Try.func10, Try.ntmps10
  go_wp2_with (go_at_call 42; refine (HPM.out _ _).mono ?_; rintro e w1 ⟨rfl, e1⟩)
  go_ret
  exact ⟨rfl, EW.out.same e1⟩
set_option maxRecDepth 20000 in
theorem tells2_any (w : World) (lim : Int) (m : Bool) (v : Value) (l : List FI) (hI : ImgR w v l) (hfew : l.length ≤ 1048576) (hbyt : ∀ x ∈ l, x.b.length ≤ 1073741824) (sv : Value) (L : List OpI) (hS : ScrR w sv L) :
    Calls Try.prog 11 #[.agg #[.int .i64 lim, .bool m, v], sv] w fun e w' => e = .returned (.bool true) ∧ Ext Nil w w' := by
  obtain ⟨ao, cap, rfl, -, -⟩ := hI.see.shape
  have eW : Ext Nil w (w.alloc (.cells #[.int .i64 lim, .bool m, .slice ao l.length cap] 44 (0, 0))) := (Ext.refl _ _).alloc _
  have a1 := At.new w [.int .i64 lim, .bool m, .slice ao l.length cap] 44
  have b0 := a1.cell 0 rfl
  have b1 := a1.cell 1 rfl
  have b2 := a1.cell 2 rfl
  have HPM := Lib.hid (fun lo hi => play_m _ lim m _ l (hI.ext eW fun _ _ h => h) hfew hbyt sv L (hS.ext0 eW) lo hi)
  have EW := Lib.hid eW
  clear hI hS a1 eW
  go_enter Try.func11, Try.ntmps11
  go_wp2_with (go_at_call 42; refine (HPM.out _ _).mono ?_; rintro e w1 ⟨rfl, e1⟩)
  go_ret
  exact ⟨rfl, EW.out.same e1⟩
set_option maxRecDepth 20000 in
theorem crashes2_any (w : World) (lim : Int) (m : Bool) (v : Value) (l : List FI) (hI : ImgR w v l) (hfew : l.length ≤ 1048576) (hbyt : ∀ x ∈ l, x.b.length ≤ 1073741824) (sv : Value) (L : List OpI) (hS : ScrR w sv L) :
    Calls Try.prog 12 #[.agg #[.int .i64 lim, .bool m, v], sv] w fun e w' => e = .returned (.bool true) ∧ Ext Nil w w' := by
  obtain ⟨ao, cap, rfl, -, -⟩ := hI.see.shape
  have eW : Ext Nil w (w.alloc (.cells #[.int .i64 lim, .bool m, .slice ao l.length cap] 44 (0, 0))) := (Ext.refl _ _).alloc _
  have a1 := At.new w [.int .i64 lim, .bool m, .slice ao l.length cap] 44
  have b0 := a1.cell 0 rfl
  have b1 := a1.cell 1 rfl
  have b2 := a1.cell 2 rfl
  have HPM := Lib.hid (fun lo hi => play_m _ lim m _ l (hI.ext eW fun _ _ h => h) hfew hbyt sv L (hS.ext0 eW) lo hi)
  have EW := Lib.hid eW
  clear hI hS a1 eW
  go_enter Try.func12, Try.ntmps12
  go_wp2_with (go_at_call 42; refine (HPM.out _ _).mono ?_; rintro e w1 ⟨rfl, e1⟩)
  go_ret
  exact ⟨rfl, EW.out.same e1⟩
end Go.Proofs.Ytnppneilbkmnfaa
