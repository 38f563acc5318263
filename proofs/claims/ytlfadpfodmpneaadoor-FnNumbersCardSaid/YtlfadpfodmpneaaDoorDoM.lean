/- What the listed errors of the library tell the walk. -/
import Derived.Test.YtlfadpfodmpneaaDoorDoL
import Derived.Test.YtlfadpfodmpneaaDoorNu6
namespace Go.Proofs.YtlfadpfodmpneaaDoor
open Go.RowKit

theorem err_row (u : TypeId) (h : Tryd.prog.typeName? 3 u = some "*errors.errorString") : u = 103 :=
  typeName_ptr_named (nm := "errors.errorString") (by rw [show "*" ++ "errors.errorString" = "*errors.errorString" by decide]; kernel_rfl) (by kernel_rfl) (by decide) u (by rw [show "*" ++ "errors.errorString" = "*errors.errorString" by decide]; exact h)
theorem err_head {W : World} {n : String} {g : Nat} {text : List UInt8} {rest : List (String × DataW Unit)} (h : laidMet Tryd.prog ((n, .iface "*errors.errorString" (.ptr (.agg [.lit (.string text)]))) :: rest) W)
    (hg : Tryd.prog.globalNamed n = some g) (ht : (Tryd.prog.globals[g]?).map (·.type) = some 47) : ∃ te pe, W.cell? ⟨g, 0, none⟩ = some (.iface te pe) := by
  obtain ⟨a0, s0, hv0, -, -, -⟩ := laid_sentinel h hg ht Tryd.underlying47 err_row Tryd.underlying103 Tryd.underlying105 rfl rfl Tryd.underlying9 (by kernel_rfl) (by kernel_rfl)
  have h0 := World.var?_cell hg hv0 0
  exact ⟨_, _, by simpa using h0⟩
theorem errs_of {W : World} {a b c d : String × DataW Unit} {rest : List (String × DataW Unit)} (h : laidMet Tryd.prog (a :: b :: c :: d :: ("strconv.ErrRange", Rows.laid_strconv_ErrRange) :: ("strconv.ErrSyntax", Rows.laid_strconv_ErrSyntax) :: rest) W) : ErrsAre W := by
  have h5 := laidMet.tail (laidMet.tail (laidMet.tail (laidMet.tail h)))
  have h6 := laidMet.tail h5
  exact ⟨err_head h6 (by kernel_rfl) (by kernel_rfl), err_head h5 (by kernel_rfl) (by kernel_rfl)⟩
theorem FnExactParseNumbers_errsAre {W : World} (h : laidMet Tryd.prog Rows.fnExactParseNumbersRow.laid W) : ErrsAre W := errs_of h
theorem FnNumbers_errsAre {W : World} (h : laidMet Tryd.prog Rows.fnNumbersRow.laid W) : ErrsAre W := errs_of h

end Go.Proofs.YtlfadpfodmpneaaDoor
