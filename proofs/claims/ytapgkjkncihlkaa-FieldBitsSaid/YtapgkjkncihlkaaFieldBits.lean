/- FieldBits: any bits of any word: got, put, as a signed number; masks; halves: the program tells what the document tells. The walk through the statement. -/
import Derived.Test.YtapgkjkncihlkaaRef01
import Derived.Test.YtapgkjkncihlkaaFieldOne
namespace Go.Proofs.Ytapgkjkncihlkaa.Field
open Go Go.RowKit Go.Proofs.Ytapgkjkncihlkaa.Heap Go.Proofs.Ytapgkjkncihlkaa.Bits

set_option maxRecDepth 100000 in
set_option maxHeartbeats 1000000 in
theorem fieldBits_walk (u a n v : Int) (w : World) (h0 : 0 ≤ u ∧ u < 18446744073709551616) (hv : 0 ≤ v ∧ v < 18446744073709551616) :
    Calls Try.prog 7 #[.int .u64 u, .int .i64 a, .int .i64 n, .int .u64 v] w fun e w' => e = .returned (.bool true) ∧ Chg [] w w' := by
  have J1 := join_ok (u / 4294967296) (u % 4294967296) (by omega) (by omega) (by omega) (by omega)
  have J2 := Ref01.join_ok (u / 4294967296) (u % 4294967296) (by omega) (by omega) (by omega) (by omega)
  rw [show u / 4294967296 * 4294967296 + u % 4294967296 = u by omega] at J1 J2
  have HJ1 : Hid _ := J1
  have HJ2 : Hid _ := J2
  have H0 : Hid (0 ≤ u ∧ u < 18446744073709551616) := h0
  have HV : Hid (0 ≤ v ∧ v < 18446744073709551616) := hv
  have z1 : (u == u) = true := by simp
  clear J1 J2 h0 hv
  go_enter Try.func7, Try.ntmps7
  go_wp2_with fail
  refine (get_ok u a n H0.out.1 H0.out.2 _).mono ?_
  rintro e w1 ⟨rfl, k1, rfl⟩
  go_wp2_with fail
  refine (Ref01.get_ok u a n H0.out.1 H0.out.2 _).mono ?_
  rintro e w1 ⟨rfl, rfl⟩
  go_wp2_with fail
  refine (put_ok u a n v H0.out.1 H0.out.2 HV.out.1 HV.out.2 _).mono ?_
  rintro e w1 ⟨rfl, k2, rfl⟩
  go_wp2_with fail
  refine (Ref01.put_ok u a n v H0.out.1 H0.out.2 HV.out.1 HV.out.2 _).mono ?_
  rintro e w1 ⟨rfl, rfl⟩
  go_wp2_with fail
  refine (parts_ok u H0.out.1 H0.out.2 _).mono ?_
  rintro e w1 ⟨rfl, rfl⟩
  go_wp2_with fail
  refine (mask_ok n _).mono ?_
  rintro e w1 ⟨rfl, rfl⟩
  go_wp2_with fail
  refine (Ref01.mask_ok n _).mono ?_
  rintro e w1 ⟨rfl, rfl⟩
  go_wp2_with fail
  refine (fits_ok v n HV.out.1 HV.out.2 _).mono ?_
  rintro e w1 ⟨rfl, rfl⟩
  go_wp2_with fail
  refine (Ref01.fits_ok v n HV.out.1 HV.out.2 _).mono ?_
  rintro e w1 ⟨rfl, rfl⟩
  go_wp2_with fail
  refine (sign_ok v n HV.out.1 _).mono ?_
  rintro e w1 ⟨rfl, rfl⟩
  go_wp2_with fail
  refine (Ref01.sign_ok v n HV.out.1 HV.out.2 _).mono ?_
  rintro e w1 ⟨rfl, rfl⟩
  go_wp2_with fail
  refine (HJ1.out _).mono ?_
  rintro e w1 ⟨rfl, rfl⟩
  go_wp2_with fail
  refine (HJ2.out _).mono ?_
  rintro e w1 ⟨rfl, rfl⟩
  go_wp2_with fail
  refine (awake_ok _).mono ?_
  rintro e w1 ⟨rfl, rfl⟩
  go_wp2
  go_ret
  exact ⟨rfl, (Chg.refl [] w).drewN _⟩
end Go.Proofs.Ytapgkjkncihlkaa.Field
