/- Drawn bytes. -/
import Derived.Test.YtcpkadenejlbjaaEncD
namespace Go.Proofs.Ytcpkadenejlbjaa
open Go.RowKit
set_option linter.unusedVariables false

theorem drawBase64Encode_any (a : Option Addr) (len cap : Nat) (zs : List Int) (w : World) (h : IsRow w a len cap zs) :
    Calls Try.prog 13 #[.slice a len cap] w (GaveStr 40 w) := by
  have H := Lib.hid h; clear h
  go_enter Try.func13, Try.ntmps13
  go_wp2_with fail
  refine (open_any a len cap zs _ H.out).mono ?_
  rintro e w1 ⟨rfl, hb, hr⟩
  have HB := Lib.hid hb; clear hb
  have HR := Lib.hid hr; clear hr
  go_wp2_with fail
  refine (drawBytes_any _ 0 _ (by omega) HR.out).mono ?_
  rintro e w2 ⟨s, hs, rfl, hk, hr2⟩
  go_wp2
  go_ret
  exact ⟨s, hs, rfl, HB.out.trans (hk.below (Nat.le_refl _) HB.out.size)⟩

end Go.Proofs.Ytcpkadenejlbjaa
