/- Package escrow: the law's head: the examples of the chapter. -/
import Derived.Test.YtdjaofkbgkifkaaE21
set_option linter.unusedVariables false
set_option linter.unusedSimpArgs false
namespace Go.Proofs.Ytdjaofkbgkifkaa
open Go.RowKit

def hS0 : ES := eNew 2 10
def hS1 : ES := (eGive hS0 0 1 4).2
theorem hE0 : (eGive hS0 0 1 4).1 = 0 := by decide +kernel
theorem hE1 : (eHave hS1 0) = 6 := by decide +kernel
theorem hE2 : (eHave hS1 1) = 0 := by decide +kernel
theorem hE3 : (eFly hS1) = 4 := by decide +kernel
theorem hE4 : (eSpent hS1) = 0 := by decide +kernel
def hS2 : ES := (eSpend hS1 0 7).2
theorem hE5 : (eSpend hS1 0 7).1 = 19 := by decide +kernel
def hS3 : ES := (eSend hS2 0 1).2
theorem hE6 : (eSend hS2 0 1).1 = 0 := by decide +kernel
def hS4 : ES := (eDeliver hS3 0 1 true true).2
theorem hE7 : (eDeliver hS3 0 1 true true).1 = true := by decide +kernel
theorem hE8 : (eHave hS4 1) = 0 := by decide +kernel
def hS5 : ES := (eDeliver hS4 0 1 false true).2
theorem hE9 : (eDeliver hS4 0 1 false true).1 = true := by decide +kernel
def hS6 : ES := (eDeliver hS5 0 1 false false).2
theorem hE10 : (eDeliver hS5 0 1 false false).1 = true := by decide +kernel
def hS7 : ES := (eDeliver hS6 0 1 false false).2
theorem hE11 : (eDeliver hS6 0 1 false false).1 = false := by decide +kernel
theorem hE12 : (eHave hS7 0) = 6 := by decide +kernel
theorem hE13 : (eHave hS7 1) = 4 := by decide +kernel
theorem hE14 : (eFly hS7) = 0 := by decide +kernel
def hS8 : ES := (eSpend hS7 1 1).2
theorem hE15 : (eSpend hS7 1 1).1 = 0 := by decide +kernel
def hS9 : ES := (eRevoke hS8 0).2
theorem hE16 : (eRevoke hS8 0).1 = 0 := by decide +kernel
def hS10 : ES := (eSend hS9 0 1).2
theorem hE17 : (eSend hS9 0 1).1 = 0 := by decide +kernel
def hS11 : ES := (eDeliver hS10 0 1 false false).2
theorem hE18 : (eDeliver hS10 0 1 false false).1 = true := by decide +kernel
def hS12 : ES := (eSpend hS11 1 1).2
theorem hE19 : (eSpend hS11 1 1).1 = 22 := by decide +kernel
def hS13 : ES := (eReturn hS12 1 1).2
theorem hE20 : (eReturn hS12 1 1).1 = 0 := by decide +kernel
theorem hE21 : (eHave hS13 1) = 4 := by decide +kernel
theorem head_any (w : World) : Calls Try.prog 34 #[] w fun e w' => e = .returned (.bool true) ∧ Fr None' w w' := by
  go_enter Try.func34, Try.ntmps34
  go_wp2_with fail
  refine (s_new 2 10 w (by decide) (by decide) (by decide) (by decide)).mono ?_
  rintro e w0 ⟨g, rfl, h'⟩
  have H0 := Lib.hid (show ESt 10 0 w w0 g hS0 from h')
  clear h'
  go_wp2_with fail
  refine (enew_bad 9 10 w0 (by decide)).mono ?_
  rintro e wx ⟨rfl, rfl⟩
  go_wp2_with fail
  refine (s_give H0.out (by decide) 0 1 4).mono ?_
  rw [hE0]
  rintro e w1 ⟨rfl, h'⟩
  have H1 := Lib.hid (show ESt 10 1 w w1 g hS1 from h')
  clear h' H0
  go_wp2_with fail
  refine (s_have H1.out 0).mono ?_
  rw [hE1]
  rintro e w2 ⟨rfl, h'⟩
  have H2 := Lib.hid (show ESt 10 1 w w2 g hS1 from h')
  clear h' H1
  go_wp2_with fail
  refine (s_have H2.out 1).mono ?_
  rw [hE2]
  rintro e w3 ⟨rfl, h'⟩
  have H3 := Lib.hid (show ESt 10 1 w w3 g hS1 from h')
  clear h' H2
  go_wp2_with fail
  refine (s_fly H3.out (by decide)).mono ?_
  rw [hE3]
  rintro e w4 ⟨rfl, h'⟩
  have H4 := Lib.hid (show ESt 10 1 w w4 g hS1 from h')
  clear h' H3
  go_wp2_with fail
  refine (s_spent H4.out).mono ?_
  rw [hE4]
  rintro e w5 ⟨rfl, h'⟩
  have H5 := Lib.hid (show ESt 10 1 w w5 g hS1 from h')
  clear h' H4
  go_wp2_with fail
  refine (s_spend H5.out 0 7 (by decide)).mono ?_
  rw [hE5]
  rintro e w6 ⟨rfl, h'⟩
  have H6 := Lib.hid (show ESt 10 1 w w6 g hS2 from h')
  clear h' H5
  go_wp2_with fail
  refine (s_send H6.out 0 1).mono ?_
  rw [hE6]
  rintro e w7 ⟨rfl, h'⟩
  have H7 := Lib.hid (show ESt 10 1 w w7 g hS3 from h')
  clear h' H6
  go_wp2_with fail
  refine (s_deliver H7.out (by decide) 0 1 true true).mono ?_
  rw [hE7]
  rintro e w8 ⟨rfl, h'⟩
  have H8 := Lib.hid (show ESt 10 1 w w8 g hS4 from h')
  clear h' H7
  go_wp2_with fail
  refine (s_have H8.out 1).mono ?_
  rw [hE8]
  rintro e w9 ⟨rfl, h'⟩
  have H9 := Lib.hid (show ESt 10 1 w w9 g hS4 from h')
  clear h' H8
  go_wp2_with fail
  refine (s_deliver H9.out (by decide) 0 1 false true).mono ?_
  rw [hE9]
  rintro e w10 ⟨rfl, h'⟩
  have H10 := Lib.hid (show ESt 10 1 w w10 g hS5 from h')
  clear h' H9
  go_wp2_with fail
  refine (s_deliver H10.out (by decide) 0 1 false false).mono ?_
  rw [hE10]
  rintro e w11 ⟨rfl, h'⟩
  have H11 := Lib.hid (show ESt 10 1 w w11 g hS6 from h')
  clear h' H10
  go_wp2_with fail
  refine (s_deliver H11.out (by decide) 0 1 false false).mono ?_
  rw [hE11]
  rintro e w12 ⟨rfl, h'⟩
  have H12 := Lib.hid (show ESt 10 1 w w12 g hS7 from h')
  clear h' H11
  go_wp2_with fail
  refine (s_have H12.out 0).mono ?_
  rw [hE12]
  rintro e w13 ⟨rfl, h'⟩
  have H13 := Lib.hid (show ESt 10 1 w w13 g hS7 from h')
  clear h' H12
  go_wp2_with fail
  refine (s_have H13.out 1).mono ?_
  rw [hE13]
  rintro e w14 ⟨rfl, h'⟩
  have H14 := Lib.hid (show ESt 10 1 w w14 g hS7 from h')
  clear h' H13
  go_wp2_with fail
  refine (s_fly H14.out (by decide)).mono ?_
  rw [hE14]
  rintro e w15 ⟨rfl, h'⟩
  have H15 := Lib.hid (show ESt 10 1 w w15 g hS7 from h')
  clear h' H14
  go_wp2_with fail
  refine (s_spend H15.out 1 1 (by decide)).mono ?_
  rw [hE15]
  rintro e w16 ⟨rfl, h'⟩
  have H16 := Lib.hid (show ESt 10 1 w w16 g hS8 from h')
  clear h' H15
  go_wp2_with fail
  refine (s_revoke H16.out 0).mono ?_
  rw [hE16]
  rintro e w17 ⟨rfl, h'⟩
  have H17 := Lib.hid (show ESt 10 1 w w17 g hS9 from h')
  clear h' H16
  go_wp2_with fail
  refine (s_send H17.out 0 1).mono ?_
  rw [hE17]
  rintro e w18 ⟨rfl, h'⟩
  have H18 := Lib.hid (show ESt 10 1 w w18 g hS10 from h')
  clear h' H17
  go_wp2_with fail
  refine (s_deliver H18.out (by decide) 0 1 false false).mono ?_
  rw [hE18]
  rintro e w19 ⟨rfl, h'⟩
  have H19 := Lib.hid (show ESt 10 1 w w19 g hS11 from h')
  clear h' H18
  go_wp2_with fail
  refine (s_spend H19.out 1 1 (by decide)).mono ?_
  rw [hE19]
  rintro e w20 ⟨rfl, h'⟩
  have H20 := Lib.hid (show ESt 10 1 w w20 g hS12 from h')
  clear h' H19
  go_wp2_with fail
  refine (s_return H20.out 1 1 (by decide)).mono ?_
  rw [hE20]
  rintro e w21 ⟨rfl, h'⟩
  have H21 := Lib.hid (show ESt 10 1 w w21 g hS13 from h')
  clear h' H20
  go_wp2_with fail
  refine (s_have H21.out 1).mono ?_
  rw [hE21]
  rintro e w22 ⟨rfl, h'⟩
  have H22 := Lib.hid (show ESt 10 1 w w22 g hS13 from h')
  clear h' H21
  go_wp2_with fail
  refine (spend_nil 0 1 (by decide) w22).mono ?_
  rintro e wx ⟨rfl, rfl⟩
  go_wp2_with fail
  refine (have_nil 0 _).mono ?_
  rintro e wx ⟨rfl, rfl⟩
  go_wp2_with fail
  refine (deliver_nil0 0 1 false false _).mono ?_
  rintro e wx ⟨rfl, rfl⟩
  go_wp2_with fail
  go_ret
  exact ⟨rfl, H22.out.fr⟩
end Go.Proofs.Ytdjaofkbgkifkaa
