/- PRINTED BY rprint.py (this session's own program): the run, and its rule for each function. No condition. -/
import Derived.Test.YthoabddfionmoaaSt
import Derived.Test.YthoabddfionmoaaAG
set_option linter.unusedVariables false
set_option maxRecDepth 100000
namespace Go.Proofs.Ythoabddfionmoaa.AH
open Go Go.RowKit
def annT : Nat → Nat → List Nat
  | 3 => an3
  | 4 => an4
  | 5 => an5
  | 6 => an6
  | 7 => an7
  | 8 => an8
  | 9 => an9
  | 10 => an10
  | 11 => an11
  | 12 => an12
  | 13 => an13
  | 14 => an14
  | 15 => an15
  | 17 => an17
  | 18 => an18
  | 19 => an19
  | 20 => an20
  | 21 => an21
  | 22 => an22
  | 23 => an23
  | 24 => an24
  | 25 => an25
  | 26 => an26
  | 27 => an27
  | 28 => an28
  | 29 => an29
  | 30 => an30
  | 31 => an31
  | 32 => an32
  | 33 => an33
  | 34 => an34
  | 35 => an35
  | 36 => an36
  | 37 => an37
  | 38 => an38
  | 39 => an39
  | 40 => an40
  | 41 => an41
  | 42 => an42
  | 44 => an44
  | 45 => an45
  | 46 => an46
  | 47 => an47
  | 48 => an48
  | 49 => an49
  | 50 => an50
  | 51 => an51
  | 52 => an52
  | 53 => an53
  | 54 => an54
  | 55 => an55
  | 56 => an56
  | 57 => an57
  | 58 => an58
  | 59 => an59
  | 60 => an60
  | 61 => an61
  | 62 => an62
  | 63 => an63
  | 64 => an64
  | 65 => an65
  | 66 => an66
  | 67 => an67
  | 68 => an68
  | 69 => an69
  | 70 => an70
  | 71 => an71
  | 72 => an72
  | 73 => an73
  | 75 => an75
  | 76 => an76
  | 77 => an77
  | 78 => an78
  | 79 => an79
  | 80 => an80
  | 81 => an81
  | 82 => an82
  | 83 => an83
  | 84 => an84
  | 85 => an85
  | 87 => an87
  | 88 => an88
  | 89 => an89
  | 94 => an94
  | 95 => an95
  | _ => fun _ => []
noncomputable def primT : Nat → Option (List V → H → Option (V × H))
  | 74 => some (insP 4 40)
  | 92 => some (insP 2 32)
  | 93 => some (delP 2)
  | _ => none
noncomputable def R : CallF := run Try.prog primT annT
theorem R3 {args : List V} {h : H} {Q : V → H → Prop} (hl : Nat.ble args.length Try.f3.ntmps = true) (w : Wp (bodyK Try.prog R an3 Try.f3 (bodyOf Try.f3) args h) Q) : Wp (R 3 args h) Q :=
  Wp.run rfl (fn := Try.f3) (by kernel_rfl) (by kernel_rfl) (by kernel_rfl) (Nat.le_of_ble_eq_true hl) w
theorem R4 {args : List V} {h : H} {Q : V → H → Prop} (hl : Nat.ble args.length Try.f4.ntmps = true) (w : Wp (bodyK Try.prog R an4 Try.f4 (bodyOf Try.f4) args h) Q) : Wp (R 4 args h) Q :=
  Wp.run rfl (fn := Try.f4) (by kernel_rfl) (by kernel_rfl) (by kernel_rfl) (Nat.le_of_ble_eq_true hl) w
theorem R5 {args : List V} {h : H} {Q : V → H → Prop} (hl : Nat.ble args.length Try.f5.ntmps = true) (w : Wp (bodyK Try.prog R an5 Try.f5 (bodyOf Try.f5) args h) Q) : Wp (R 5 args h) Q :=
  Wp.run rfl (fn := Try.f5) (by kernel_rfl) (by kernel_rfl) (by kernel_rfl) (Nat.le_of_ble_eq_true hl) w
theorem R6 {args : List V} {h : H} {Q : V → H → Prop} (hl : Nat.ble args.length Try.f6.ntmps = true) (w : Wp (bodyK Try.prog R an6 Try.f6 (bodyOf Try.f6) args h) Q) : Wp (R 6 args h) Q :=
  Wp.run rfl (fn := Try.f6) (by kernel_rfl) (by kernel_rfl) (by kernel_rfl) (Nat.le_of_ble_eq_true hl) w
theorem R7 {args : List V} {h : H} {Q : V → H → Prop} (hl : Nat.ble args.length Try.f7.ntmps = true) (w : Wp (bodyK Try.prog R an7 Try.f7 (bodyOf Try.f7) args h) Q) : Wp (R 7 args h) Q :=
  Wp.run rfl (fn := Try.f7) (by kernel_rfl) (by kernel_rfl) (by kernel_rfl) (Nat.le_of_ble_eq_true hl) w
theorem R8 {args : List V} {h : H} {Q : V → H → Prop} (hl : Nat.ble args.length Try.f8.ntmps = true) (w : Wp (bodyK Try.prog R an8 Try.f8 (bodyOf Try.f8) args h) Q) : Wp (R 8 args h) Q :=
  Wp.run rfl (fn := Try.f8) (by kernel_rfl) (by kernel_rfl) (by kernel_rfl) (Nat.le_of_ble_eq_true hl) w
theorem R9 {args : List V} {h : H} {Q : V → H → Prop} (hl : Nat.ble args.length Try.f9.ntmps = true) (w : Wp (bodyK Try.prog R an9 Try.f9 (bodyOf Try.f9) args h) Q) : Wp (R 9 args h) Q :=
  Wp.run rfl (fn := Try.f9) (by kernel_rfl) (by kernel_rfl) (by kernel_rfl) (Nat.le_of_ble_eq_true hl) w
theorem R10 {args : List V} {h : H} {Q : V → H → Prop} (hl : Nat.ble args.length Try.f10.ntmps = true) (w : Wp (bodyK Try.prog R an10 Try.f10 (bodyOf Try.f10) args h) Q) : Wp (R 10 args h) Q :=
  Wp.run rfl (fn := Try.f10) (by kernel_rfl) (by kernel_rfl) (by kernel_rfl) (Nat.le_of_ble_eq_true hl) w
theorem R11 {args : List V} {h : H} {Q : V → H → Prop} (hl : Nat.ble args.length Try.f11.ntmps = true) (w : Wp (bodyK Try.prog R an11 Try.f11 (bodyOf Try.f11) args h) Q) : Wp (R 11 args h) Q :=
  Wp.run rfl (fn := Try.f11) (by kernel_rfl) (by kernel_rfl) (by kernel_rfl) (Nat.le_of_ble_eq_true hl) w
theorem R12 {args : List V} {h : H} {Q : V → H → Prop} (hl : Nat.ble args.length Try.f12.ntmps = true) (w : Wp (bodyK Try.prog R an12 Try.f12 (bodyOf Try.f12) args h) Q) : Wp (R 12 args h) Q :=
  Wp.run rfl (fn := Try.f12) (by kernel_rfl) (by kernel_rfl) (by kernel_rfl) (Nat.le_of_ble_eq_true hl) w
theorem R13 {args : List V} {h : H} {Q : V → H → Prop} (hl : Nat.ble args.length Try.f13.ntmps = true) (w : Wp (bodyK Try.prog R an13 Try.f13 (bodyOf Try.f13) args h) Q) : Wp (R 13 args h) Q :=
  Wp.run rfl (fn := Try.f13) (by kernel_rfl) (by kernel_rfl) (by kernel_rfl) (Nat.le_of_ble_eq_true hl) w
theorem R14 {args : List V} {h : H} {Q : V → H → Prop} (hl : Nat.ble args.length Try.f14.ntmps = true) (w : Wp (bodyK Try.prog R an14 Try.f14 (bodyOf Try.f14) args h) Q) : Wp (R 14 args h) Q :=
  Wp.run rfl (fn := Try.f14) (by kernel_rfl) (by kernel_rfl) (by kernel_rfl) (Nat.le_of_ble_eq_true hl) w
theorem R15 {args : List V} {h : H} {Q : V → H → Prop} (hl : Nat.ble args.length Try.f15.ntmps = true) (w : Wp (bodyK Try.prog R an15 Try.f15 (bodyOf Try.f15) args h) Q) : Wp (R 15 args h) Q :=
  Wp.run rfl (fn := Try.f15) (by kernel_rfl) (by kernel_rfl) (by kernel_rfl) (Nat.le_of_ble_eq_true hl) w
theorem R17 {args : List V} {h : H} {Q : V → H → Prop} (hl : Nat.ble args.length Try.f17.ntmps = true) (w : Wp (bodyK Try.prog R an17 Try.f17 (bodyOf Try.f17) args h) Q) : Wp (R 17 args h) Q :=
  Wp.run rfl (fn := Try.f17) (by kernel_rfl) (by kernel_rfl) (by kernel_rfl) (Nat.le_of_ble_eq_true hl) w
theorem R18 {args : List V} {h : H} {Q : V → H → Prop} (hl : Nat.ble args.length Try.f18.ntmps = true) (w : Wp (bodyK Try.prog R an18 Try.f18 (bodyOf Try.f18) args h) Q) : Wp (R 18 args h) Q :=
  Wp.run rfl (fn := Try.f18) (by kernel_rfl) (by kernel_rfl) (by kernel_rfl) (Nat.le_of_ble_eq_true hl) w
theorem R19 {args : List V} {h : H} {Q : V → H → Prop} (hl : Nat.ble args.length Try.f19.ntmps = true) (w : Wp (bodyK Try.prog R an19 Try.f19 (bodyOf Try.f19) args h) Q) : Wp (R 19 args h) Q :=
  Wp.run rfl (fn := Try.f19) (by kernel_rfl) (by kernel_rfl) (by kernel_rfl) (Nat.le_of_ble_eq_true hl) w
theorem R20 {args : List V} {h : H} {Q : V → H → Prop} (hl : Nat.ble args.length Try.f20.ntmps = true) (w : Wp (bodyK Try.prog R an20 Try.f20 (bodyOf Try.f20) args h) Q) : Wp (R 20 args h) Q :=
  Wp.run rfl (fn := Try.f20) (by kernel_rfl) (by kernel_rfl) (by kernel_rfl) (Nat.le_of_ble_eq_true hl) w
theorem R21 {args : List V} {h : H} {Q : V → H → Prop} (hl : Nat.ble args.length Try.f21.ntmps = true) (w : Wp (bodyK Try.prog R an21 Try.f21 (bodyOf Try.f21) args h) Q) : Wp (R 21 args h) Q :=
  Wp.run rfl (fn := Try.f21) (by kernel_rfl) (by kernel_rfl) (by kernel_rfl) (Nat.le_of_ble_eq_true hl) w
theorem R22 {args : List V} {h : H} {Q : V → H → Prop} (hl : Nat.ble args.length Try.f22.ntmps = true) (w : Wp (bodyK Try.prog R an22 Try.f22 (bodyOf Try.f22) args h) Q) : Wp (R 22 args h) Q :=
  Wp.run rfl (fn := Try.f22) (by kernel_rfl) (by kernel_rfl) (by kernel_rfl) (Nat.le_of_ble_eq_true hl) w
theorem R23 {args : List V} {h : H} {Q : V → H → Prop} (hl : Nat.ble args.length Try.f23.ntmps = true) (w : Wp (bodyK Try.prog R an23 Try.f23 (bodyOf Try.f23) args h) Q) : Wp (R 23 args h) Q :=
  Wp.run rfl (fn := Try.f23) (by kernel_rfl) (by kernel_rfl) (by kernel_rfl) (Nat.le_of_ble_eq_true hl) w
theorem R24 {args : List V} {h : H} {Q : V → H → Prop} (hl : Nat.ble args.length Try.f24.ntmps = true) (w : Wp (bodyK Try.prog R an24 Try.f24 (bodyOf Try.f24) args h) Q) : Wp (R 24 args h) Q :=
  Wp.run rfl (fn := Try.f24) (by kernel_rfl) (by kernel_rfl) (by kernel_rfl) (Nat.le_of_ble_eq_true hl) w
theorem R25 {args : List V} {h : H} {Q : V → H → Prop} (hl : Nat.ble args.length Try.f25.ntmps = true) (w : Wp (bodyK Try.prog R an25 Try.f25 (bodyOf Try.f25) args h) Q) : Wp (R 25 args h) Q :=
  Wp.run rfl (fn := Try.f25) (by kernel_rfl) (by kernel_rfl) (by kernel_rfl) (Nat.le_of_ble_eq_true hl) w
theorem R26 {args : List V} {h : H} {Q : V → H → Prop} (hl : Nat.ble args.length Try.f26.ntmps = true) (w : Wp (bodyK Try.prog R an26 Try.f26 (bodyOf Try.f26) args h) Q) : Wp (R 26 args h) Q :=
  Wp.run rfl (fn := Try.f26) (by kernel_rfl) (by kernel_rfl) (by kernel_rfl) (Nat.le_of_ble_eq_true hl) w
theorem R27 {args : List V} {h : H} {Q : V → H → Prop} (hl : Nat.ble args.length Try.f27.ntmps = true) (w : Wp (bodyK Try.prog R an27 Try.f27 (bodyOf Try.f27) args h) Q) : Wp (R 27 args h) Q :=
  Wp.run rfl (fn := Try.f27) (by kernel_rfl) (by kernel_rfl) (by kernel_rfl) (Nat.le_of_ble_eq_true hl) w
theorem R28 {args : List V} {h : H} {Q : V → H → Prop} (hl : Nat.ble args.length Try.f28.ntmps = true) (w : Wp (bodyK Try.prog R an28 Try.f28 (bodyOf Try.f28) args h) Q) : Wp (R 28 args h) Q :=
  Wp.run rfl (fn := Try.f28) (by kernel_rfl) (by kernel_rfl) (by kernel_rfl) (Nat.le_of_ble_eq_true hl) w
theorem R29 {args : List V} {h : H} {Q : V → H → Prop} (hl : Nat.ble args.length Try.f29.ntmps = true) (w : Wp (bodyK Try.prog R an29 Try.f29 (bodyOf Try.f29) args h) Q) : Wp (R 29 args h) Q :=
  Wp.run rfl (fn := Try.f29) (by kernel_rfl) (by kernel_rfl) (by kernel_rfl) (Nat.le_of_ble_eq_true hl) w
theorem R30 {args : List V} {h : H} {Q : V → H → Prop} (hl : Nat.ble args.length Try.f30.ntmps = true) (w : Wp (bodyK Try.prog R an30 Try.f30 (bodyOf Try.f30) args h) Q) : Wp (R 30 args h) Q :=
  Wp.run rfl (fn := Try.f30) (by kernel_rfl) (by kernel_rfl) (by kernel_rfl) (Nat.le_of_ble_eq_true hl) w
theorem R31 {args : List V} {h : H} {Q : V → H → Prop} (hl : Nat.ble args.length Try.f31.ntmps = true) (w : Wp (bodyK Try.prog R an31 Try.f31 (bodyOf Try.f31) args h) Q) : Wp (R 31 args h) Q :=
  Wp.run rfl (fn := Try.f31) (by kernel_rfl) (by kernel_rfl) (by kernel_rfl) (Nat.le_of_ble_eq_true hl) w
theorem R32 {args : List V} {h : H} {Q : V → H → Prop} (hl : Nat.ble args.length Try.f32.ntmps = true) (w : Wp (bodyK Try.prog R an32 Try.f32 (bodyOf Try.f32) args h) Q) : Wp (R 32 args h) Q :=
  Wp.run rfl (fn := Try.f32) (by kernel_rfl) (by kernel_rfl) (by kernel_rfl) (Nat.le_of_ble_eq_true hl) w
theorem R33 {args : List V} {h : H} {Q : V → H → Prop} (hl : Nat.ble args.length Try.f33.ntmps = true) (w : Wp (bodyK Try.prog R an33 Try.f33 (bodyOf Try.f33) args h) Q) : Wp (R 33 args h) Q :=
  Wp.run rfl (fn := Try.f33) (by kernel_rfl) (by kernel_rfl) (by kernel_rfl) (Nat.le_of_ble_eq_true hl) w
theorem R34 {args : List V} {h : H} {Q : V → H → Prop} (hl : Nat.ble args.length Try.f34.ntmps = true) (w : Wp (bodyK Try.prog R an34 Try.f34 (bodyOf Try.f34) args h) Q) : Wp (R 34 args h) Q :=
  Wp.run rfl (fn := Try.f34) (by kernel_rfl) (by kernel_rfl) (by kernel_rfl) (Nat.le_of_ble_eq_true hl) w
theorem R35 {args : List V} {h : H} {Q : V → H → Prop} (hl : Nat.ble args.length Try.f35.ntmps = true) (w : Wp (bodyK Try.prog R an35 Try.f35 (bodyOf Try.f35) args h) Q) : Wp (R 35 args h) Q :=
  Wp.run rfl (fn := Try.f35) (by kernel_rfl) (by kernel_rfl) (by kernel_rfl) (Nat.le_of_ble_eq_true hl) w
theorem R36 {args : List V} {h : H} {Q : V → H → Prop} (hl : Nat.ble args.length Try.f36.ntmps = true) (w : Wp (bodyK Try.prog R an36 Try.f36 (bodyOf Try.f36) args h) Q) : Wp (R 36 args h) Q :=
  Wp.run rfl (fn := Try.f36) (by kernel_rfl) (by kernel_rfl) (by kernel_rfl) (Nat.le_of_ble_eq_true hl) w
theorem R37 {args : List V} {h : H} {Q : V → H → Prop} (hl : Nat.ble args.length Try.f37.ntmps = true) (w : Wp (bodyK Try.prog R an37 Try.f37 (bodyOf Try.f37) args h) Q) : Wp (R 37 args h) Q :=
  Wp.run rfl (fn := Try.f37) (by kernel_rfl) (by kernel_rfl) (by kernel_rfl) (Nat.le_of_ble_eq_true hl) w
theorem R38 {args : List V} {h : H} {Q : V → H → Prop} (hl : Nat.ble args.length Try.f38.ntmps = true) (w : Wp (bodyK Try.prog R an38 Try.f38 (bodyOf Try.f38) args h) Q) : Wp (R 38 args h) Q :=
  Wp.run rfl (fn := Try.f38) (by kernel_rfl) (by kernel_rfl) (by kernel_rfl) (Nat.le_of_ble_eq_true hl) w
theorem R39 {args : List V} {h : H} {Q : V → H → Prop} (hl : Nat.ble args.length Try.f39.ntmps = true) (w : Wp (bodyK Try.prog R an39 Try.f39 (bodyOf Try.f39) args h) Q) : Wp (R 39 args h) Q :=
  Wp.run rfl (fn := Try.f39) (by kernel_rfl) (by kernel_rfl) (by kernel_rfl) (Nat.le_of_ble_eq_true hl) w
theorem R40 {args : List V} {h : H} {Q : V → H → Prop} (hl : Nat.ble args.length Try.f40.ntmps = true) (w : Wp (bodyK Try.prog R an40 Try.f40 (bodyOf Try.f40) args h) Q) : Wp (R 40 args h) Q :=
  Wp.run rfl (fn := Try.f40) (by kernel_rfl) (by kernel_rfl) (by kernel_rfl) (Nat.le_of_ble_eq_true hl) w
theorem R41 {args : List V} {h : H} {Q : V → H → Prop} (hl : Nat.ble args.length Try.f41.ntmps = true) (w : Wp (bodyK Try.prog R an41 Try.f41 (bodyOf Try.f41) args h) Q) : Wp (R 41 args h) Q :=
  Wp.run rfl (fn := Try.f41) (by kernel_rfl) (by kernel_rfl) (by kernel_rfl) (Nat.le_of_ble_eq_true hl) w
theorem R42 {args : List V} {h : H} {Q : V → H → Prop} (hl : Nat.ble args.length Try.f42.ntmps = true) (w : Wp (bodyK Try.prog R an42 Try.f42 (bodyOf Try.f42) args h) Q) : Wp (R 42 args h) Q :=
  Wp.run rfl (fn := Try.f42) (by kernel_rfl) (by kernel_rfl) (by kernel_rfl) (Nat.le_of_ble_eq_true hl) w
theorem R44 {args : List V} {h : H} {Q : V → H → Prop} (hl : Nat.ble args.length Try.f44.ntmps = true) (w : Wp (bodyK Try.prog R an44 Try.f44 (bodyOf Try.f44) args h) Q) : Wp (R 44 args h) Q :=
  Wp.run rfl (fn := Try.f44) (by kernel_rfl) (by kernel_rfl) (by kernel_rfl) (Nat.le_of_ble_eq_true hl) w
theorem R45 {args : List V} {h : H} {Q : V → H → Prop} (hl : Nat.ble args.length Try.f45.ntmps = true) (w : Wp (bodyK Try.prog R an45 Try.f45 (bodyOf Try.f45) args h) Q) : Wp (R 45 args h) Q :=
  Wp.run rfl (fn := Try.f45) (by kernel_rfl) (by kernel_rfl) (by kernel_rfl) (Nat.le_of_ble_eq_true hl) w
theorem R46 {args : List V} {h : H} {Q : V → H → Prop} (hl : Nat.ble args.length Try.f46.ntmps = true) (w : Wp (bodyK Try.prog R an46 Try.f46 (bodyOf Try.f46) args h) Q) : Wp (R 46 args h) Q :=
  Wp.run rfl (fn := Try.f46) (by kernel_rfl) (by kernel_rfl) (by kernel_rfl) (Nat.le_of_ble_eq_true hl) w
theorem R47 {args : List V} {h : H} {Q : V → H → Prop} (hl : Nat.ble args.length Try.f47.ntmps = true) (w : Wp (bodyK Try.prog R an47 Try.f47 (bodyOf Try.f47) args h) Q) : Wp (R 47 args h) Q :=
  Wp.run rfl (fn := Try.f47) (by kernel_rfl) (by kernel_rfl) (by kernel_rfl) (Nat.le_of_ble_eq_true hl) w
theorem R48 {args : List V} {h : H} {Q : V → H → Prop} (hl : Nat.ble args.length Try.f48.ntmps = true) (w : Wp (bodyK Try.prog R an48 Try.f48 (bodyOf Try.f48) args h) Q) : Wp (R 48 args h) Q :=
  Wp.run rfl (fn := Try.f48) (by kernel_rfl) (by kernel_rfl) (by kernel_rfl) (Nat.le_of_ble_eq_true hl) w
theorem R49 {args : List V} {h : H} {Q : V → H → Prop} (hl : Nat.ble args.length Try.f49.ntmps = true) (w : Wp (bodyK Try.prog R an49 Try.f49 (bodyOf Try.f49) args h) Q) : Wp (R 49 args h) Q :=
  Wp.run rfl (fn := Try.f49) (by kernel_rfl) (by kernel_rfl) (by kernel_rfl) (Nat.le_of_ble_eq_true hl) w
theorem R50 {args : List V} {h : H} {Q : V → H → Prop} (hl : Nat.ble args.length Try.f50.ntmps = true) (w : Wp (bodyK Try.prog R an50 Try.f50 (bodyOf Try.f50) args h) Q) : Wp (R 50 args h) Q :=
  Wp.run rfl (fn := Try.f50) (by kernel_rfl) (by kernel_rfl) (by kernel_rfl) (Nat.le_of_ble_eq_true hl) w
theorem R51 {args : List V} {h : H} {Q : V → H → Prop} (hl : Nat.ble args.length Try.f51.ntmps = true) (w : Wp (bodyK Try.prog R an51 Try.f51 (bodyOf Try.f51) args h) Q) : Wp (R 51 args h) Q :=
  Wp.run rfl (fn := Try.f51) (by kernel_rfl) (by kernel_rfl) (by kernel_rfl) (Nat.le_of_ble_eq_true hl) w
theorem R52 {args : List V} {h : H} {Q : V → H → Prop} (hl : Nat.ble args.length Try.f52.ntmps = true) (w : Wp (bodyK Try.prog R an52 Try.f52 (bodyOf Try.f52) args h) Q) : Wp (R 52 args h) Q :=
  Wp.run rfl (fn := Try.f52) (by kernel_rfl) (by kernel_rfl) (by kernel_rfl) (Nat.le_of_ble_eq_true hl) w
theorem R53 {args : List V} {h : H} {Q : V → H → Prop} (hl : Nat.ble args.length Try.f53.ntmps = true) (w : Wp (bodyK Try.prog R an53 Try.f53 (bodyOf Try.f53) args h) Q) : Wp (R 53 args h) Q :=
  Wp.run rfl (fn := Try.f53) (by kernel_rfl) (by kernel_rfl) (by kernel_rfl) (Nat.le_of_ble_eq_true hl) w
theorem R54 {args : List V} {h : H} {Q : V → H → Prop} (hl : Nat.ble args.length Try.f54.ntmps = true) (w : Wp (bodyK Try.prog R an54 Try.f54 (bodyOf Try.f54) args h) Q) : Wp (R 54 args h) Q :=
  Wp.run rfl (fn := Try.f54) (by kernel_rfl) (by kernel_rfl) (by kernel_rfl) (Nat.le_of_ble_eq_true hl) w
theorem R55 {args : List V} {h : H} {Q : V → H → Prop} (hl : Nat.ble args.length Try.f55.ntmps = true) (w : Wp (bodyK Try.prog R an55 Try.f55 (bodyOf Try.f55) args h) Q) : Wp (R 55 args h) Q :=
  Wp.run rfl (fn := Try.f55) (by kernel_rfl) (by kernel_rfl) (by kernel_rfl) (Nat.le_of_ble_eq_true hl) w
theorem R56 {args : List V} {h : H} {Q : V → H → Prop} (hl : Nat.ble args.length Try.f56.ntmps = true) (w : Wp (bodyK Try.prog R an56 Try.f56 (bodyOf Try.f56) args h) Q) : Wp (R 56 args h) Q :=
  Wp.run rfl (fn := Try.f56) (by kernel_rfl) (by kernel_rfl) (by kernel_rfl) (Nat.le_of_ble_eq_true hl) w
theorem R57 {args : List V} {h : H} {Q : V → H → Prop} (hl : Nat.ble args.length Try.f57.ntmps = true) (w : Wp (bodyK Try.prog R an57 Try.f57 (bodyOf Try.f57) args h) Q) : Wp (R 57 args h) Q :=
  Wp.run rfl (fn := Try.f57) (by kernel_rfl) (by kernel_rfl) (by kernel_rfl) (Nat.le_of_ble_eq_true hl) w
theorem R58 {args : List V} {h : H} {Q : V → H → Prop} (hl : Nat.ble args.length Try.f58.ntmps = true) (w : Wp (bodyK Try.prog R an58 Try.f58 (bodyOf Try.f58) args h) Q) : Wp (R 58 args h) Q :=
  Wp.run rfl (fn := Try.f58) (by kernel_rfl) (by kernel_rfl) (by kernel_rfl) (Nat.le_of_ble_eq_true hl) w
theorem R59 {args : List V} {h : H} {Q : V → H → Prop} (hl : Nat.ble args.length Try.f59.ntmps = true) (w : Wp (bodyK Try.prog R an59 Try.f59 (bodyOf Try.f59) args h) Q) : Wp (R 59 args h) Q :=
  Wp.run rfl (fn := Try.f59) (by kernel_rfl) (by kernel_rfl) (by kernel_rfl) (Nat.le_of_ble_eq_true hl) w
theorem R60 {args : List V} {h : H} {Q : V → H → Prop} (hl : Nat.ble args.length Try.f60.ntmps = true) (w : Wp (bodyK Try.prog R an60 Try.f60 (bodyOf Try.f60) args h) Q) : Wp (R 60 args h) Q :=
  Wp.run rfl (fn := Try.f60) (by kernel_rfl) (by kernel_rfl) (by kernel_rfl) (Nat.le_of_ble_eq_true hl) w
theorem R61 {args : List V} {h : H} {Q : V → H → Prop} (hl : Nat.ble args.length Try.f61.ntmps = true) (w : Wp (bodyK Try.prog R an61 Try.f61 (bodyOf Try.f61) args h) Q) : Wp (R 61 args h) Q :=
  Wp.run rfl (fn := Try.f61) (by kernel_rfl) (by kernel_rfl) (by kernel_rfl) (Nat.le_of_ble_eq_true hl) w
theorem R62 {args : List V} {h : H} {Q : V → H → Prop} (hl : Nat.ble args.length Try.f62.ntmps = true) (w : Wp (bodyK Try.prog R an62 Try.f62 (bodyOf Try.f62) args h) Q) : Wp (R 62 args h) Q :=
  Wp.run rfl (fn := Try.f62) (by kernel_rfl) (by kernel_rfl) (by kernel_rfl) (Nat.le_of_ble_eq_true hl) w
theorem R63 {args : List V} {h : H} {Q : V → H → Prop} (hl : Nat.ble args.length Try.f63.ntmps = true) (w : Wp (bodyK Try.prog R an63 Try.f63 (bodyOf Try.f63) args h) Q) : Wp (R 63 args h) Q :=
  Wp.run rfl (fn := Try.f63) (by kernel_rfl) (by kernel_rfl) (by kernel_rfl) (Nat.le_of_ble_eq_true hl) w
theorem R64 {args : List V} {h : H} {Q : V → H → Prop} (hl : Nat.ble args.length Try.f64.ntmps = true) (w : Wp (bodyK Try.prog R an64 Try.f64 (bodyOf Try.f64) args h) Q) : Wp (R 64 args h) Q :=
  Wp.run rfl (fn := Try.f64) (by kernel_rfl) (by kernel_rfl) (by kernel_rfl) (Nat.le_of_ble_eq_true hl) w
theorem R65 {args : List V} {h : H} {Q : V → H → Prop} (hl : Nat.ble args.length Try.f65.ntmps = true) (w : Wp (bodyK Try.prog R an65 Try.f65 (bodyOf Try.f65) args h) Q) : Wp (R 65 args h) Q :=
  Wp.run rfl (fn := Try.f65) (by kernel_rfl) (by kernel_rfl) (by kernel_rfl) (Nat.le_of_ble_eq_true hl) w
theorem R66 {args : List V} {h : H} {Q : V → H → Prop} (hl : Nat.ble args.length Try.f66.ntmps = true) (w : Wp (bodyK Try.prog R an66 Try.f66 (bodyOf Try.f66) args h) Q) : Wp (R 66 args h) Q :=
  Wp.run rfl (fn := Try.f66) (by kernel_rfl) (by kernel_rfl) (by kernel_rfl) (Nat.le_of_ble_eq_true hl) w
theorem R67 {args : List V} {h : H} {Q : V → H → Prop} (hl : Nat.ble args.length Try.f67.ntmps = true) (w : Wp (bodyK Try.prog R an67 Try.f67 (bodyOf Try.f67) args h) Q) : Wp (R 67 args h) Q :=
  Wp.run rfl (fn := Try.f67) (by kernel_rfl) (by kernel_rfl) (by kernel_rfl) (Nat.le_of_ble_eq_true hl) w
theorem R68 {args : List V} {h : H} {Q : V → H → Prop} (hl : Nat.ble args.length Try.f68.ntmps = true) (w : Wp (bodyK Try.prog R an68 Try.f68 (bodyOf Try.f68) args h) Q) : Wp (R 68 args h) Q :=
  Wp.run rfl (fn := Try.f68) (by kernel_rfl) (by kernel_rfl) (by kernel_rfl) (Nat.le_of_ble_eq_true hl) w
theorem R69 {args : List V} {h : H} {Q : V → H → Prop} (hl : Nat.ble args.length Try.f69.ntmps = true) (w : Wp (bodyK Try.prog R an69 Try.f69 (bodyOf Try.f69) args h) Q) : Wp (R 69 args h) Q :=
  Wp.run rfl (fn := Try.f69) (by kernel_rfl) (by kernel_rfl) (by kernel_rfl) (Nat.le_of_ble_eq_true hl) w
theorem R70 {args : List V} {h : H} {Q : V → H → Prop} (hl : Nat.ble args.length Try.f70.ntmps = true) (w : Wp (bodyK Try.prog R an70 Try.f70 (bodyOf Try.f70) args h) Q) : Wp (R 70 args h) Q :=
  Wp.run rfl (fn := Try.f70) (by kernel_rfl) (by kernel_rfl) (by kernel_rfl) (Nat.le_of_ble_eq_true hl) w
theorem R71 {args : List V} {h : H} {Q : V → H → Prop} (hl : Nat.ble args.length Try.f71.ntmps = true) (w : Wp (bodyK Try.prog R an71 Try.f71 (bodyOf Try.f71) args h) Q) : Wp (R 71 args h) Q :=
  Wp.run rfl (fn := Try.f71) (by kernel_rfl) (by kernel_rfl) (by kernel_rfl) (Nat.le_of_ble_eq_true hl) w
theorem R72 {args : List V} {h : H} {Q : V → H → Prop} (hl : Nat.ble args.length Try.f72.ntmps = true) (w : Wp (bodyK Try.prog R an72 Try.f72 (bodyOf Try.f72) args h) Q) : Wp (R 72 args h) Q :=
  Wp.run rfl (fn := Try.f72) (by kernel_rfl) (by kernel_rfl) (by kernel_rfl) (Nat.le_of_ble_eq_true hl) w
theorem R73 {args : List V} {h : H} {Q : V → H → Prop} (hl : Nat.ble args.length Try.f73.ntmps = true) (w : Wp (bodyK Try.prog R an73 Try.f73 (bodyOf Try.f73) args h) Q) : Wp (R 73 args h) Q :=
  Wp.run rfl (fn := Try.f73) (by kernel_rfl) (by kernel_rfl) (by kernel_rfl) (Nat.le_of_ble_eq_true hl) w
theorem R75 {args : List V} {h : H} {Q : V → H → Prop} (hl : Nat.ble args.length Try.f75.ntmps = true) (w : Wp (bodyK Try.prog R an75 Try.f75 (bodyOf Try.f75) args h) Q) : Wp (R 75 args h) Q :=
  Wp.run rfl (fn := Try.f75) (by kernel_rfl) (by kernel_rfl) (by kernel_rfl) (Nat.le_of_ble_eq_true hl) w
theorem R76 {args : List V} {h : H} {Q : V → H → Prop} (hl : Nat.ble args.length Try.f76.ntmps = true) (w : Wp (bodyK Try.prog R an76 Try.f76 (bodyOf Try.f76) args h) Q) : Wp (R 76 args h) Q :=
  Wp.run rfl (fn := Try.f76) (by kernel_rfl) (by kernel_rfl) (by kernel_rfl) (Nat.le_of_ble_eq_true hl) w
theorem R77 {args : List V} {h : H} {Q : V → H → Prop} (hl : Nat.ble args.length Try.f77.ntmps = true) (w : Wp (bodyK Try.prog R an77 Try.f77 (bodyOf Try.f77) args h) Q) : Wp (R 77 args h) Q :=
  Wp.run rfl (fn := Try.f77) (by kernel_rfl) (by kernel_rfl) (by kernel_rfl) (Nat.le_of_ble_eq_true hl) w
theorem R78 {args : List V} {h : H} {Q : V → H → Prop} (hl : Nat.ble args.length Try.f78.ntmps = true) (w : Wp (bodyK Try.prog R an78 Try.f78 (bodyOf Try.f78) args h) Q) : Wp (R 78 args h) Q :=
  Wp.run rfl (fn := Try.f78) (by kernel_rfl) (by kernel_rfl) (by kernel_rfl) (Nat.le_of_ble_eq_true hl) w
theorem R79 {args : List V} {h : H} {Q : V → H → Prop} (hl : Nat.ble args.length Try.f79.ntmps = true) (w : Wp (bodyK Try.prog R an79 Try.f79 (bodyOf Try.f79) args h) Q) : Wp (R 79 args h) Q :=
  Wp.run rfl (fn := Try.f79) (by kernel_rfl) (by kernel_rfl) (by kernel_rfl) (Nat.le_of_ble_eq_true hl) w
theorem R80 {args : List V} {h : H} {Q : V → H → Prop} (hl : Nat.ble args.length Try.f80.ntmps = true) (w : Wp (bodyK Try.prog R an80 Try.f80 (bodyOf Try.f80) args h) Q) : Wp (R 80 args h) Q :=
  Wp.run rfl (fn := Try.f80) (by kernel_rfl) (by kernel_rfl) (by kernel_rfl) (Nat.le_of_ble_eq_true hl) w
theorem R81 {args : List V} {h : H} {Q : V → H → Prop} (hl : Nat.ble args.length Try.f81.ntmps = true) (w : Wp (bodyK Try.prog R an81 Try.f81 (bodyOf Try.f81) args h) Q) : Wp (R 81 args h) Q :=
  Wp.run rfl (fn := Try.f81) (by kernel_rfl) (by kernel_rfl) (by kernel_rfl) (Nat.le_of_ble_eq_true hl) w
theorem R82 {args : List V} {h : H} {Q : V → H → Prop} (hl : Nat.ble args.length Try.f82.ntmps = true) (w : Wp (bodyK Try.prog R an82 Try.f82 (bodyOf Try.f82) args h) Q) : Wp (R 82 args h) Q :=
  Wp.run rfl (fn := Try.f82) (by kernel_rfl) (by kernel_rfl) (by kernel_rfl) (Nat.le_of_ble_eq_true hl) w
theorem R83 {args : List V} {h : H} {Q : V → H → Prop} (hl : Nat.ble args.length Try.f83.ntmps = true) (w : Wp (bodyK Try.prog R an83 Try.f83 (bodyOf Try.f83) args h) Q) : Wp (R 83 args h) Q :=
  Wp.run rfl (fn := Try.f83) (by kernel_rfl) (by kernel_rfl) (by kernel_rfl) (Nat.le_of_ble_eq_true hl) w
theorem R84 {args : List V} {h : H} {Q : V → H → Prop} (hl : Nat.ble args.length Try.f84.ntmps = true) (w : Wp (bodyK Try.prog R an84 Try.f84 (bodyOf Try.f84) args h) Q) : Wp (R 84 args h) Q :=
  Wp.run rfl (fn := Try.f84) (by kernel_rfl) (by kernel_rfl) (by kernel_rfl) (Nat.le_of_ble_eq_true hl) w
theorem R85 {args : List V} {h : H} {Q : V → H → Prop} (hl : Nat.ble args.length Try.f85.ntmps = true) (w : Wp (bodyK Try.prog R an85 Try.f85 (bodyOf Try.f85) args h) Q) : Wp (R 85 args h) Q :=
  Wp.run rfl (fn := Try.f85) (by kernel_rfl) (by kernel_rfl) (by kernel_rfl) (Nat.le_of_ble_eq_true hl) w
theorem R87 {args : List V} {h : H} {Q : V → H → Prop} (hl : Nat.ble args.length Try.f87.ntmps = true) (w : Wp (bodyK Try.prog R an87 Try.f87 (bodyOf Try.f87) args h) Q) : Wp (R 87 args h) Q :=
  Wp.run rfl (fn := Try.f87) (by kernel_rfl) (by kernel_rfl) (by kernel_rfl) (Nat.le_of_ble_eq_true hl) w
theorem R88 {args : List V} {h : H} {Q : V → H → Prop} (hl : Nat.ble args.length Try.f88.ntmps = true) (w : Wp (bodyK Try.prog R an88 Try.f88 (bodyOf Try.f88) args h) Q) : Wp (R 88 args h) Q :=
  Wp.run rfl (fn := Try.f88) (by kernel_rfl) (by kernel_rfl) (by kernel_rfl) (Nat.le_of_ble_eq_true hl) w
theorem R89 {args : List V} {h : H} {Q : V → H → Prop} (hl : Nat.ble args.length Try.f89.ntmps = true) (w : Wp (bodyK Try.prog R an89 Try.f89 (bodyOf Try.f89) args h) Q) : Wp (R 89 args h) Q :=
  Wp.run rfl (fn := Try.f89) (by kernel_rfl) (by kernel_rfl) (by kernel_rfl) (Nat.le_of_ble_eq_true hl) w
theorem R94 {args : List V} {h : H} {Q : V → H → Prop} (hl : Nat.ble args.length Try.f94.ntmps = true) (w : Wp (bodyK Try.prog R an94 Try.f94 (bodyOf Try.f94) args h) Q) : Wp (R 94 args h) Q :=
  Wp.run rfl (fn := Try.f94) (by kernel_rfl) (by kernel_rfl) (by kernel_rfl) (Nat.le_of_ble_eq_true hl) w
theorem R95 {args : List V} {h : H} {Q : V → H → Prop} (hl : Nat.ble args.length Try.f95.ntmps = true) (w : Wp (bodyK Try.prog R an95 Try.f95 (bodyOf Try.f95) args h) Q) : Wp (R 95 args h) Q :=
  Wp.run rfl (fn := Try.f95) (by kernel_rfl) (by kernel_rfl) (by kernel_rfl) (Nat.le_of_ble_eq_true hl) w
end Go.Proofs.Ythoabddfionmoaa.AH
