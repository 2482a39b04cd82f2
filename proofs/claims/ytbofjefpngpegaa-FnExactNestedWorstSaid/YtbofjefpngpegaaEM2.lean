import Derived.Test.YtbofjefpngpegaaEM1
namespace Go.Proofs.Ytbofjefpngpegaa
theorem mS_zbx_0 (x1 : Int × Int) (x2 : Int × Y1) : Le (Sm_zbx_0 x1 x2).ev (S_zbx_0 x1 x2).ev := by
  unfold Sm_zbx_0 S_zbx_0
  try dsimp only
  repeat' first
    | with_reducible exact Le.refl _
    | with_reducible exact Le.f _
    | with_reducible refine Le.t ?_ ?_
    | with_reducible refine Le.g ?_
    | with_reducible refine Le.s (fun _ => ?_) (fun _ => ?_)
    | with_reducible refine Le.c ?_ (fun _ => ?_)
    | with_reducible assumption
    | with_reducible refine Le.bnd ?_
    | with_reducible intro _
theorem mL_zbx_0 (x3 : Int × Int) (x4 : Int × Y1) : Le (Lm_zbx_0 x3 x4) (L_zbx_0 x3 x4) := by
  unfold Lm_zbx_0 L_zbx_0
  refine Le.it (fun v => ?_) _ _
  apply mS_zbx_0
  all_goals assumption
theorem mT_zbx (x5 : Int) (x6 : Int) : Le (Tm_zbx x5 x6).ev (T_zbx x5 x6).ev := by
  unfold Tm_zbx T_zbx
  try dsimp only
  repeat' first
    | with_reducible exact Le.refl _
    | with_reducible exact Le.f _
    | with_reducible refine Le.t ?_ ?_
    | with_reducible refine Le.g ?_
    | with_reducible refine Le.s (fun _ => ?_) (fun _ => ?_)
    | with_reducible refine Le.c ?_ (fun _ => ?_)
    | with_reducible assumption
    | with_reducible apply mL_zbx_0
    | with_reducible refine Le.bnd ?_
    | with_reducible intro _
theorem mF_zbx (x7 : Int) (x8 : Int) : Le (Fm_zbx x7 x8) (F_zbx x7 x8) := by
  unfold Fm_zbx F_zbx
  apply mT_zbx
  all_goals assumption
theorem mS_zbw_0 (x9 : Y1 × Y1) (x10 : Int) : Le (Sm_zbw_0 x9 x10).ev (S_zbw_0 x9 x10).ev := by
  unfold Sm_zbw_0 S_zbw_0
  try dsimp only
  repeat' first
    | with_reducible exact Le.refl _
    | with_reducible exact Le.f _
    | with_reducible refine Le.t ?_ ?_
    | with_reducible refine Le.g ?_
    | with_reducible refine Le.s (fun _ => ?_) (fun _ => ?_)
    | with_reducible refine Le.c ?_ (fun _ => ?_)
    | with_reducible assumption
    | with_reducible refine Le.bnd ?_
    | with_reducible intro _
theorem mL_zbw_0 (x11 : Y1 × Y1) (x12 : Int) : Le (Lm_zbw_0 x11 x12) (L_zbw_0 x11 x12) := by
  unfold Lm_zbw_0 L_zbw_0
  refine Le.it (fun v => ?_) _ _
  apply mS_zbw_0
  all_goals assumption
theorem mT_zbw (x13 : Y1) (x14 : Y1) : Le (Tm_zbw x13 x14).ev (T_zbw x13 x14).ev := by
  unfold Tm_zbw T_zbw
  try dsimp only
  repeat' first
    | with_reducible exact Le.refl _
    | with_reducible exact Le.f _
    | with_reducible refine Le.t ?_ ?_
    | with_reducible refine Le.g ?_
    | with_reducible refine Le.s (fun _ => ?_) (fun _ => ?_)
    | with_reducible refine Le.c ?_ (fun _ => ?_)
    | with_reducible assumption
    | with_reducible apply mL_zbw_0
    | with_reducible refine Le.bnd ?_
    | with_reducible intro _
theorem mF_zbw (x15 : Y1) (x16 : Y1) : Le (Fm_zbw x15 x16) (F_zbw x15 x16) := by
  unfold Fm_zbw F_zbw
  apply mT_zbw
  all_goals assumption
theorem mS_zcc_2 (x17 : Int × (Y2 × (Int × Y1))) (x18 : Int) : Le (Sm_zcc_2 x17 x18).ev (S_zcc_2 x17 x18).ev := by
  unfold Sm_zcc_2 S_zcc_2
  try dsimp only
  repeat' first
    | with_reducible exact Le.refl _
    | with_reducible exact Le.f _
    | with_reducible refine Le.t ?_ ?_
    | with_reducible refine Le.g ?_
    | with_reducible refine Le.s (fun _ => ?_) (fun _ => ?_)
    | with_reducible refine Le.c ?_ (fun _ => ?_)
    | with_reducible assumption
    | with_reducible apply mF_zbw
    | with_reducible refine Le.bnd ?_
    | with_reducible intro _
theorem mL_zcc_2 (x19 : Int × (Y2 × (Int × Y1))) (x20 : Int) : Le (Lm_zcc_2 x19 x20) (L_zcc_2 x19 x20) := by
  unfold Lm_zcc_2 L_zcc_2
  refine Le.it (fun v => ?_) _ _
  apply mS_zcc_2
  all_goals assumption
theorem mS_zcc_0 (x21 : Int) (x22 : Y2 × Int) : Le (Sm_zcc_0 x21 x22).ev (S_zcc_0 x21 x22).ev := by
  unfold Sm_zcc_0 S_zcc_0
  try dsimp only
  repeat' first
    | with_reducible exact Le.refl _
    | with_reducible exact Le.f _
    | with_reducible refine Le.t ?_ ?_
    | with_reducible refine Le.g ?_
    | with_reducible refine Le.s (fun _ => ?_) (fun _ => ?_)
    | with_reducible refine Le.c ?_ (fun _ => ?_)
    | with_reducible assumption
    | with_reducible apply mF_zbx
    | with_reducible apply mL_zcc_2
    | with_reducible refine Le.bnd ?_
    | with_reducible intro _
theorem mL_zcc_0 (x23 : Int) (x24 : Y2 × Int) : Le (Lm_zcc_0 x23 x24) (L_zcc_0 x23 x24) := by
  unfold Lm_zcc_0 L_zcc_0
  refine Le.it (fun v => ?_) _ _
  apply mS_zcc_0
  all_goals assumption
theorem mT_zcc (x25 : Int) : Le (Tm_zcc x25).ev (T_zcc x25).ev := by
  unfold Tm_zcc T_zcc
  try dsimp only
  repeat' first
    | with_reducible exact Le.refl _
    | with_reducible exact Le.f _
    | with_reducible refine Le.t ?_ ?_
    | with_reducible refine Le.g ?_
    | with_reducible refine Le.s (fun _ => ?_) (fun _ => ?_)
    | with_reducible refine Le.c ?_ (fun _ => ?_)
    | with_reducible assumption
    | with_reducible apply mL_zcc_0
    | with_reducible refine Le.bnd ?_
    | with_reducible intro _
theorem mF_zcc (x26 : Int) : Le (Fm_zcc x26) (F_zcc x26) := by
  unfold Fm_zcc F_zcc
  apply mT_zcc
  all_goals assumption
theorem mT_zam (x27 : Int) : Le (Tm_zam x27).ev (T_zam x27).ev := by
  unfold Tm_zam T_zam
  try dsimp only
  repeat' first
    | with_reducible exact Le.refl _
    | with_reducible exact Le.f _
    | with_reducible refine Le.t ?_ ?_
    | with_reducible refine Le.g ?_
    | with_reducible refine Le.s (fun _ => ?_) (fun _ => ?_)
    | with_reducible refine Le.c ?_ (fun _ => ?_)
    | with_reducible assumption
    | with_reducible refine Le.bnd ?_
    | with_reducible intro _
theorem mF_zam (x28 : Int) : Le (Fm_zam x28) (F_zam x28) := by
  unfold Fm_zam F_zam
  apply mT_zam
  all_goals assumption
theorem mT_zal (x29 : Int) : Le (Tm_zal x29).ev (T_zal x29).ev := by
  unfold Tm_zal T_zal
  try dsimp only
  repeat' first
    | with_reducible exact Le.refl _
    | with_reducible exact Le.f _
    | with_reducible refine Le.t ?_ ?_
    | with_reducible refine Le.g ?_
    | with_reducible refine Le.s (fun _ => ?_) (fun _ => ?_)
    | with_reducible refine Le.c ?_ (fun _ => ?_)
    | with_reducible assumption
    | with_reducible apply mF_zam
    | with_reducible refine Le.bnd ?_
    | with_reducible intro _
theorem mF_zal (x30 : Int) : Le (Fm_zal x30) (F_zal x30) := by
  unfold Fm_zal F_zal
  apply mT_zal
  all_goals assumption
theorem mT_zd (x31 : Int) : Le (Tm_zd x31).ev (T_zd x31).ev := by
  unfold Tm_zd T_zd
  try dsimp only
  repeat' first
    | with_reducible exact Le.refl _
    | with_reducible exact Le.f _
    | with_reducible refine Le.t ?_ ?_
    | with_reducible refine Le.g ?_
    | with_reducible refine Le.s (fun _ => ?_) (fun _ => ?_)
    | with_reducible refine Le.c ?_ (fun _ => ?_)
    | with_reducible assumption
    | with_reducible refine Le.bnd ?_
    | with_reducible intro _
theorem mF_zd (x32 : Int) : Le (Fm_zd x32) (F_zd x32) := by
  unfold Fm_zd F_zd
  apply mT_zd
  all_goals assumption
theorem mT_zbi (x33 : Int) : Le (Tm_zbi x33).ev (T_zbi x33).ev := by
  unfold Tm_zbi T_zbi
  try dsimp only
  repeat' first
    | with_reducible exact Le.refl _
    | with_reducible exact Le.f _
    | with_reducible refine Le.t ?_ ?_
    | with_reducible refine Le.g ?_
    | with_reducible refine Le.s (fun _ => ?_) (fun _ => ?_)
    | with_reducible refine Le.c ?_ (fun _ => ?_)
    | with_reducible assumption
    | with_reducible apply mF_zal
    | with_reducible refine Le.bnd ?_
    | with_reducible intro _
theorem mF_zbi (x34 : Int) : Le (Fm_zbi x34) (F_zbi x34) := by
  unfold Fm_zbi F_zbi
  apply mT_zbi
  all_goals assumption
theorem mT_zbp (x35 : Int) : Le (Tm_zbp x35).ev (T_zbp x35).ev := by
  unfold Tm_zbp T_zbp
  try dsimp only
  repeat' first
    | with_reducible exact Le.refl _
    | with_reducible exact Le.f _
    | with_reducible refine Le.t ?_ ?_
    | with_reducible refine Le.g ?_
    | with_reducible refine Le.s (fun _ => ?_) (fun _ => ?_)
    | with_reducible refine Le.c ?_ (fun _ => ?_)
    | with_reducible assumption
    | with_reducible refine Le.bnd ?_
    | with_reducible intro _
theorem mF_zbp (x36 : Int) : Le (Fm_zbp x36) (F_zbp x36) := by
  unfold Fm_zbp F_zbp
  apply mT_zbp
  all_goals assumption
theorem mT_zr (x37 : Int) (x38 : Int) : Le (Tm_zr x37 x38).ev (T_zr x37 x38).ev := by
  unfold Tm_zr T_zr
  try dsimp only
  repeat' first
    | with_reducible exact Le.refl _
    | with_reducible exact Le.f _
    | with_reducible refine Le.t ?_ ?_
    | with_reducible refine Le.g ?_
    | with_reducible refine Le.s (fun _ => ?_) (fun _ => ?_)
    | with_reducible refine Le.c ?_ (fun _ => ?_)
    | with_reducible assumption
    | with_reducible refine Le.bnd ?_
    | with_reducible intro _
theorem mF_zr (x39 : Int) (x40 : Int) : Le (Fm_zr x39 x40) (F_zr x39 x40) := by
  unfold Fm_zr F_zr
  apply mT_zr
  all_goals assumption
theorem mS_zs_0 (x41 : Int) (x42 : Int × Y1) : Le (Sm_zs_0 x41 x42).ev (S_zs_0 x41 x42).ev := by
  unfold Sm_zs_0 S_zs_0
  try dsimp only
  repeat' first
    | with_reducible exact Le.refl _
    | with_reducible exact Le.f _
    | with_reducible refine Le.t ?_ ?_
    | with_reducible refine Le.g ?_
    | with_reducible refine Le.s (fun _ => ?_) (fun _ => ?_)
    | with_reducible refine Le.c ?_ (fun _ => ?_)
    | with_reducible assumption
    | with_reducible apply mF_zr
    | with_reducible refine Le.bnd ?_
    | with_reducible intro _
theorem mL_zs_0 (x43 : Int) (x44 : Int × Y1) : Le (Lm_zs_0 x43 x44) (L_zs_0 x43 x44) := by
  unfold Lm_zs_0 L_zs_0
  refine Le.it (fun v => ?_) _ _
  apply mS_zs_0
  all_goals assumption
theorem mT_zs (x45 : Int) : Le (Tm_zs x45).ev (T_zs x45).ev := by
  unfold Tm_zs T_zs
  try dsimp only
  repeat' first
    | with_reducible exact Le.refl _
    | with_reducible exact Le.f _
    | with_reducible refine Le.t ?_ ?_
    | with_reducible refine Le.g ?_
    | with_reducible refine Le.s (fun _ => ?_) (fun _ => ?_)
    | with_reducible refine Le.c ?_ (fun _ => ?_)
    | with_reducible assumption
    | with_reducible apply mL_zs_0
    | with_reducible refine Le.bnd ?_
    | with_reducible intro _
theorem mF_zs (x46 : Int) : Le (Fm_zs x46) (F_zs x46) := by
  unfold Fm_zs F_zs
  apply mT_zs
  all_goals assumption
theorem mS_zbc_2 (c47 : (Int)) (c48 : (Int)) (q49 q50 : ((HL [y1, y1] → Option (Int)))) (hq51 : ∀ h, Le (q49 h) (q50 h)) (c52 : Int) (x53 : Int × ((List Nat) × Y2)) : Le (Sm_zbc_2 (c47, (c48, (q49, c52))) x53).ev (S_zbc_2 (c47, (c48, (q50, c52))) x53).ev := by
  unfold Sm_zbc_2 S_zbc_2
  try dsimp only
  repeat' first
    | with_reducible exact Le.refl _
    | with_reducible exact Le.f _
    | with_reducible refine Le.t ?_ ?_
    | with_reducible refine Le.g ?_
    | with_reducible refine Le.s (fun _ => ?_) (fun _ => ?_)
    | with_reducible refine Le.c ?_ (fun _ => ?_)
    | with_reducible assumption
    | with_reducible apply hq51
    | with_reducible refine Le.bnd ?_
    | with_reducible intro _
theorem mL_zbc_2 (c54 : (Int)) (c55 : (Int)) (q56 q57 : ((HL [y1, y1] → Option (Int)))) (hq58 : ∀ h, Le (q56 h) (q57 h)) (c59 : Int) (x60 : Int × ((List Nat) × Y2)) : Le (Lm_zbc_2 (c54, (c55, (q56, c59))) x60) (L_zbc_2 (c54, (c55, (q57, c59))) x60) := by
  unfold Lm_zbc_2 L_zbc_2
  refine Le.it (fun v => ?_) _ _
  apply mS_zbc_2
  all_goals assumption
theorem mS_zbc_0 (c61 : (Int)) (c62 : (Int)) (q63 q64 : HL [y1, y1] → Option (Int)) (hq65 : ∀ h, Le (q63 h) (q64 h)) (x66 : Int × ((List Nat) × Y2)) : Le (Sm_zbc_0 (c61, (c62, q63)) x66).ev (S_zbc_0 (c61, (c62, q64)) x66).ev := by
  unfold Sm_zbc_0 S_zbc_0
  try dsimp only
  repeat' first
    | with_reducible exact Le.refl _
    | with_reducible exact Le.f _
    | with_reducible refine Le.t ?_ ?_
    | with_reducible refine Le.g ?_
    | with_reducible refine Le.s (fun _ => ?_) (fun _ => ?_)
    | with_reducible refine Le.c ?_ (fun _ => ?_)
    | with_reducible assumption
    | with_reducible apply hq65
    | with_reducible apply mL_zbc_2
    | with_reducible refine Le.bnd ?_
    | with_reducible intro _
theorem mL_zbc_0 (c67 : (Int)) (c68 : (Int)) (q69 q70 : HL [y1, y1] → Option (Int)) (hq71 : ∀ h, Le (q69 h) (q70 h)) (x72 : Int × ((List Nat) × Y2)) : Le (Lm_zbc_0 (c67, (c68, q69)) x72) (L_zbc_0 (c67, (c68, q70)) x72) := by
  unfold Lm_zbc_0 L_zbc_0
  refine Le.it (fun v => ?_) _ _
  apply mS_zbc_0
  all_goals assumption
theorem mT_zbc (x73 : Int) (x74 : Int) (q75 q76 : (HL [y1, y1] → Option (Int))) (hq77 : ∀ h, Le (q75 h) (q76 h)) (x78 : (List Nat) × Y2) : Le (Tm_zbc x73 x74 q75 x78).ev (T_zbc x73 x74 q76 x78).ev := by
  unfold Tm_zbc T_zbc
  try dsimp only
  repeat' first
    | with_reducible exact Le.refl _
    | with_reducible exact Le.f _
    | with_reducible refine Le.t ?_ ?_
    | with_reducible refine Le.g ?_
    | with_reducible refine Le.s (fun _ => ?_) (fun _ => ?_)
    | with_reducible refine Le.c ?_ (fun _ => ?_)
    | with_reducible assumption
    | with_reducible apply hq77
    | with_reducible apply mL_zbc_0
    | with_reducible refine Le.bnd ?_
    | with_reducible intro _
theorem mF_zbc (x79 : Int) (x80 : Int) (q81 q82 : (HL [y1, y1] → Option (Int))) (hq83 : ∀ h, Le (q81 h) (q82 h)) (x84 : (List Nat) × Y2) : Le (Fm_zbc x79 x80 q81 x84) (F_zbc x79 x80 q82 x84) := by
  unfold Fm_zbc F_zbc
  apply mT_zbc
  all_goals assumption
theorem mS_zay_0 (x85 : Int × (Int × Int)) (x86 : Int × (((List Nat) × Y2) × Int)) : Le (Sm_zay_0 x85 x86).ev (S_zay_0 x85 x86).ev := by
  unfold Sm_zay_0 S_zay_0
  try dsimp only
  repeat' first
    | with_reducible exact Le.refl _
    | with_reducible exact Le.f _
    | with_reducible refine Le.t ?_ ?_
    | with_reducible refine Le.g ?_
    | with_reducible refine Le.s (fun _ => ?_) (fun _ => ?_)
    | with_reducible refine Le.c ?_ (fun _ => ?_)
    | with_reducible assumption
    | with_reducible apply mF_zbp
    | with_reducible refine Le.bnd ?_
    | with_reducible intro _
theorem mL_zay_0 (x87 : Int × (Int × Int)) (x88 : Int × (((List Nat) × Y2) × Int)) : Le (Lm_zay_0 x87 x88) (L_zay_0 x87 x88) := by
  unfold Lm_zay_0 L_zay_0
  refine Le.it (fun v => ?_) _ _
  apply mS_zay_0
  all_goals assumption
theorem mT_zay (x89 : Int) (x90 : Int) (q91 q92 : (HL [y1, y1] → Option (Int))) (hq93 : ∀ h, Le (q91 h) (q92 h)) (x94 : (List Nat) × Y2) : Le (Tm_zay x89 x90 q91 x94).ev (T_zay x89 x90 q92 x94).ev := by
  unfold Tm_zay T_zay
  try dsimp only
  repeat' first
    | with_reducible exact Le.refl _
    | with_reducible exact Le.f _
    | with_reducible refine Le.t ?_ ?_
    | with_reducible refine Le.g ?_
    | with_reducible refine Le.s (fun _ => ?_) (fun _ => ?_)
    | with_reducible refine Le.c ?_ (fun _ => ?_)
    | with_reducible assumption
    | with_reducible apply hq93
    | with_reducible apply mF_zbi
    | with_reducible apply mL_zay_0
    | with_reducible refine Le.bnd ?_
    | with_reducible intro _
theorem mF_zay (x95 : Int) (x96 : Int) (q97 q98 : (HL [y1, y1] → Option (Int))) (hq99 : ∀ h, Le (q97 h) (q98 h)) (x100 : (List Nat) × Y2) : Le (Fm_zay x95 x96 q97 x100) (F_zay x95 x96 q98 x100) := by
  unfold Fm_zay F_zay
  apply mT_zay
  all_goals assumption
theorem mT_zbj (x101 : List Y1) (x102 : Int) (x103 : Int) (q104 q105 : (HL [y1, y1] → Option (Int))) (hq106 : ∀ h, Le (q104 h) (q105 h)) (x107 : Int) : Le (Tm_zbj x101 x102 x103 q104 x107).ev (T_zbj x101 x102 x103 q105 x107).ev := by
  unfold Tm_zbj T_zbj
  try dsimp only
  repeat' first
    | with_reducible exact Le.refl _
    | with_reducible exact Le.f _
    | with_reducible refine Le.t ?_ ?_
    | with_reducible refine Le.g ?_
    | with_reducible refine Le.s (fun _ => ?_) (fun _ => ?_)
    | with_reducible refine Le.c ?_ (fun _ => ?_)
    | with_reducible assumption
    | with_reducible apply hq106
    | with_reducible refine Le.bnd ?_
    | with_reducible intro _
theorem mF_zbj (x108 : List Y1) (x109 : Int) (x110 : Int) (q111 q112 : (HL [y1, y1] → Option (Int))) (hq113 : ∀ h, Le (q111 h) (q112 h)) (x114 : Int) : Le (Fm_zbj x108 x109 x110 q111 x114) (F_zbj x108 x109 x110 q112 x114) := by
  unfold Fm_zbj F_zbj
  apply mT_zbj
  all_goals assumption
theorem mT_zbg (x115 : List Y1) (x116 : Int) (x117 : Int) (x118 : Int) (q119 q120 : (HL [y1, y1] → Option (Int))) (hq121 : ∀ h, Le (q119 h) (q120 h)) (x122 : Int) : Le (Tm_zbg x115 x116 x117 x118 q119 x122).ev (T_zbg x115 x116 x117 x118 q120 x122).ev := by
  unfold Tm_zbg T_zbg
  try dsimp only
  repeat' first
    | with_reducible exact Le.refl _
    | with_reducible exact Le.f _
    | with_reducible refine Le.t ?_ ?_
    | with_reducible refine Le.g ?_
    | with_reducible refine Le.s (fun _ => ?_) (fun _ => ?_)
    | with_reducible refine Le.c ?_ (fun _ => ?_)
    | with_reducible assumption
    | with_reducible apply hq121
    | with_reducible apply mF_zbj
    | with_reducible refine Le.bnd ?_
    | with_reducible intro _
theorem mF_zbg (x123 : List Y1) (x124 : Int) (x125 : Int) (x126 : Int) (q127 q128 : (HL [y1, y1] → Option (Int))) (hq129 : ∀ h, Le (q127 h) (q128 h)) (x130 : Int) : Le (Fm_zbg x123 x124 x125 x126 q127 x130) (F_zbg x123 x124 x125 x126 q128 x130) := by
  unfold Fm_zbg F_zbg
  apply mT_zbg
  all_goals assumption
theorem mT_zbe (x131 : List Y1) (x132 : Int) (q133 q134 : (HL [y1, y1] → Option (Int))) (hq135 : ∀ h, Le (q133 h) (q134 h)) (x136 : Int) : Le (Tm_zbe x131 x132 q133 x136).ev (T_zbe x131 x132 q134 x136).ev := by
  unfold Tm_zbe T_zbe
  try dsimp only
  repeat' first
    | with_reducible exact Le.refl _
    | with_reducible exact Le.f _
    | with_reducible refine Le.t ?_ ?_
    | with_reducible refine Le.g ?_
    | with_reducible refine Le.s (fun _ => ?_) (fun _ => ?_)
    | with_reducible refine Le.c ?_ (fun _ => ?_)
    | with_reducible assumption
    | with_reducible apply hq135
    | with_reducible apply mF_zbg
    | with_reducible refine Le.bnd ?_
    | with_reducible intro _
theorem mF_zbe (x137 : List Y1) (x138 : Int) (q139 q140 : (HL [y1, y1] → Option (Int))) (hq141 : ∀ h, Le (q139 h) (q140 h)) (x142 : Int) : Le (Fm_zbe x137 x138 q139 x142) (F_zbe x137 x138 q140 x142) := by
  unfold Fm_zbe F_zbe
  apply mT_zbe
  all_goals assumption
theorem mT_zba (x143 : List Y1) (x144 : Int) (x145 : Int) (q146 q147 : (HL [y1, y1] → Option (Int))) (hq148 : ∀ h, Le (q146 h) (q147 h)) : Le (Tm_zba x143 x144 x145 q146).ev (T_zba x143 x144 x145 q147).ev := by
  unfold Tm_zba T_zba
  try dsimp only
  repeat' first
    | with_reducible exact Le.refl _
    | with_reducible exact Le.f _
    | with_reducible refine Le.t ?_ ?_
    | with_reducible refine Le.g ?_
    | with_reducible refine Le.s (fun _ => ?_) (fun _ => ?_)
    | with_reducible refine Le.c ?_ (fun _ => ?_)
    | with_reducible assumption
    | with_reducible apply hq148
    | with_reducible apply mF_zbe
    | with_reducible apply mF_zbg
    | with_reducible refine Le.bnd ?_
    | with_reducible intro _
theorem mF_zba (x149 : List Y1) (x150 : Int) (x151 : Int) (q152 q153 : (HL [y1, y1] → Option (Int))) (hq154 : ∀ h, Le (q152 h) (q153 h)) : Le (Fm_zba x149 x150 x151 q152) (F_zba x149 x150 x151 q153) := by
  unfold Fm_zba F_zba
  apply mT_zba
  all_goals assumption
theorem mS_zbl_0 (c155 : (Int)) (q156 q157 : ((HL [y1, y1] → Option (Int)))) (hq158 : ∀ h, Le (q156 h) (q157 h)) (c159 : (Int)) (c160 : (List Nat)) (c161 : List Y1) (x162 : Int) : Le (Sm_zbl_0 (c155, (q156, (c159, (c160, c161)))) x162).ev (S_zbl_0 (c155, (q157, (c159, (c160, c161)))) x162).ev := by
  unfold Sm_zbl_0 S_zbl_0
  try dsimp only
  repeat' first
    | with_reducible exact Le.refl _
    | with_reducible exact Le.f _
    | with_reducible refine Le.t ?_ ?_
    | with_reducible refine Le.g ?_
    | with_reducible refine Le.s (fun _ => ?_) (fun _ => ?_)
    | with_reducible refine Le.c ?_ (fun _ => ?_)
    | with_reducible assumption
    | with_reducible apply hq158
    | with_reducible refine Le.bnd ?_
    | with_reducible intro _
theorem mL_zbl_0 (c163 : (Int)) (q164 q165 : ((HL [y1, y1] → Option (Int)))) (hq166 : ∀ h, Le (q164 h) (q165 h)) (c167 : (Int)) (c168 : (List Nat)) (c169 : List Y1) (x170 : Int) : Le (Lm_zbl_0 (c163, (q164, (c167, (c168, c169)))) x170) (L_zbl_0 (c163, (q165, (c167, (c168, c169)))) x170) := by
  unfold Lm_zbl_0 L_zbl_0
  refine Le.it (fun v => ?_) _ _
  apply mS_zbl_0
  all_goals assumption
theorem mS_zbl_2 (c171 : (Int)) (q172 q173 : ((HL [y1, y1] → Option (Int)))) (hq174 : ∀ h, Le (q172 h) (q173 h)) (c175 : (Int)) (c176 : (List Nat)) (c177 : List Y1) (x178 : Int) : Le (Sm_zbl_2 (c171, (q172, (c175, (c176, c177)))) x178).ev (S_zbl_2 (c171, (q173, (c175, (c176, c177)))) x178).ev := by
  unfold Sm_zbl_2 S_zbl_2
  try dsimp only
  repeat' first
    | with_reducible exact Le.refl _
    | with_reducible exact Le.f _
    | with_reducible refine Le.t ?_ ?_
    | with_reducible refine Le.g ?_
    | with_reducible refine Le.s (fun _ => ?_) (fun _ => ?_)
    | with_reducible refine Le.c ?_ (fun _ => ?_)
    | with_reducible assumption
    | with_reducible apply hq174
    | with_reducible refine Le.bnd ?_
    | with_reducible intro _
theorem mL_zbl_2 (c179 : (Int)) (q180 q181 : ((HL [y1, y1] → Option (Int)))) (hq182 : ∀ h, Le (q180 h) (q181 h)) (c183 : (Int)) (c184 : (List Nat)) (c185 : List Y1) (x186 : Int) : Le (Lm_zbl_2 (c179, (q180, (c183, (c184, c185)))) x186) (L_zbl_2 (c179, (q181, (c183, (c184, c185)))) x186) := by
  unfold Lm_zbl_2 L_zbl_2
  refine Le.it (fun v => ?_) _ _
  apply mS_zbl_2
  all_goals assumption
theorem mS_zbl_6 (c187 : (Int)) (q188 q189 : ((HL [y1, y1] → Option (Int)))) (hq190 : ∀ h, Le (q188 h) (q189 h)) (c191 : (Int)) (c192 : (List Nat)) (c193 : List Y1) (x194 : Int) : Le (Sm_zbl_6 (c187, (q188, (c191, (c192, c193)))) x194).ev (S_zbl_6 (c187, (q189, (c191, (c192, c193)))) x194).ev := by
  unfold Sm_zbl_6 S_zbl_6
  try dsimp only
  repeat' first
    | with_reducible exact Le.refl _
    | with_reducible exact Le.f _
    | with_reducible refine Le.t ?_ ?_
    | with_reducible refine Le.g ?_
    | with_reducible refine Le.s (fun _ => ?_) (fun _ => ?_)
    | with_reducible refine Le.c ?_ (fun _ => ?_)
    | with_reducible assumption
    | with_reducible apply hq190
    | with_reducible refine Le.bnd ?_
    | with_reducible intro _
theorem mL_zbl_6 (c195 : (Int)) (q196 q197 : ((HL [y1, y1] → Option (Int)))) (hq198 : ∀ h, Le (q196 h) (q197 h)) (c199 : (Int)) (c200 : (List Nat)) (c201 : List Y1) (x202 : Int) : Le (Lm_zbl_6 (c195, (q196, (c199, (c200, c201)))) x202) (L_zbl_6 (c195, (q197, (c199, (c200, c201)))) x202) := by
  unfold Lm_zbl_6 L_zbl_6
  refine Le.it (fun v => ?_) _ _
  apply mS_zbl_6
  all_goals assumption
theorem mS_zbl_8 (c203 : (Int)) (q204 q205 : ((HL [y1, y1] → Option (Int)))) (hq206 : ∀ h, Le (q204 h) (q205 h)) (c207 : (Int)) (c208 : (List Nat)) (c209 : List Y1) (x210 : Int) : Le (Sm_zbl_8 (c203, (q204, (c207, (c208, c209)))) x210).ev (S_zbl_8 (c203, (q205, (c207, (c208, c209)))) x210).ev := by
  unfold Sm_zbl_8 S_zbl_8
  try dsimp only
  repeat' first
    | with_reducible exact Le.refl _
    | with_reducible exact Le.f _
    | with_reducible refine Le.t ?_ ?_
    | with_reducible refine Le.g ?_
    | with_reducible refine Le.s (fun _ => ?_) (fun _ => ?_)
    | with_reducible refine Le.c ?_ (fun _ => ?_)
    | with_reducible assumption
    | with_reducible apply hq206
    | with_reducible refine Le.bnd ?_
    | with_reducible intro _
theorem mL_zbl_8 (c211 : (Int)) (q212 q213 : ((HL [y1, y1] → Option (Int)))) (hq214 : ∀ h, Le (q212 h) (q213 h)) (c215 : (Int)) (c216 : (List Nat)) (c217 : List Y1) (x218 : Int) : Le (Lm_zbl_8 (c211, (q212, (c215, (c216, c217)))) x218) (L_zbl_8 (c211, (q213, (c215, (c216, c217)))) x218) := by
  unfold Lm_zbl_8 L_zbl_8
  refine Le.it (fun v => ?_) _ _
  apply mS_zbl_8
  all_goals assumption
theorem mS_zbl_4 (c219 : (Int)) (q220 q221 : HL [y1, y1] → Option (Int)) (hq222 : ∀ h, Le (q220 h) (q221 h)) (x223 : Int × (Int × ((List Nat) × Y2))) : Le (Sm_zbl_4 (c219, q220) x223).ev (S_zbl_4 (c219, q221) x223).ev := by
  unfold Sm_zbl_4 S_zbl_4
  try dsimp only
  repeat' first
    | with_reducible exact Le.refl _
    | with_reducible exact Le.f _
    | with_reducible refine Le.t ?_ ?_
    | with_reducible refine Le.g ?_
    | with_reducible refine Le.s (fun _ => ?_) (fun _ => ?_)
    | with_reducible refine Le.c ?_ (fun _ => ?_)
    | with_reducible assumption
    | with_reducible apply hq222
    | with_reducible apply mL_zbl_6
    | with_reducible apply mL_zbl_8
    | with_reducible refine Le.bnd ?_
    | with_reducible intro _
theorem mL_zbl_4 (c224 : (Int)) (q225 q226 : HL [y1, y1] → Option (Int)) (hq227 : ∀ h, Le (q225 h) (q226 h)) (x228 : Int × (Int × ((List Nat) × Y2))) : Le (Lm_zbl_4 (c224, q225) x228) (L_zbl_4 (c224, q226) x228) := by
  unfold Lm_zbl_4 L_zbl_4
  refine Le.it (fun v => ?_) _ _
  apply mS_zbl_4
  all_goals assumption
theorem mT_zbl (x229 : Int) (x230 : Int) (x231 : Int) (q232 q233 : (HL [y1, y1] → Option (Int))) (hq234 : ∀ h, Le (q232 h) (q233 h)) (x235 : (List Nat) × Y2) : Le (Tm_zbl x229 x230 x231 q232 x235).ev (T_zbl x229 x230 x231 q233 x235).ev := by
  unfold Tm_zbl T_zbl
  try dsimp only
  repeat' first
    | with_reducible exact Le.refl _
    | with_reducible exact Le.f _
    | with_reducible refine Le.t ?_ ?_
    | with_reducible refine Le.g ?_
    | with_reducible refine Le.s (fun _ => ?_) (fun _ => ?_)
    | with_reducible refine Le.c ?_ (fun _ => ?_)
    | with_reducible assumption
    | with_reducible apply hq234
    | with_reducible apply mL_zbl_0
    | with_reducible apply mL_zbl_2
    | with_reducible apply mL_zbl_4
    | with_reducible refine Le.bnd ?_
    | with_reducible intro _
theorem mF_zbl (x236 : Int) (x237 : Int) (x238 : Int) (q239 q240 : (HL [y1, y1] → Option (Int))) (hq241 : ∀ h, Le (q239 h) (q240 h)) (x242 : (List Nat) × Y2) : Le (Fm_zbl x236 x237 x238 q239 x242) (F_zbl x236 x237 x238 q240 x242) := by
  unfold Fm_zbl F_zbl
  apply mT_zbl
  all_goals assumption
theorem mS_zbn_0 (rec243 rec244 : (Int) → (Int) → (Int) → ((HL [y1, y1] → Option (Int))) → ((List Nat) × Y2) → Option ((List Nat) × Y2)) (hr245 : ∀ (x246 : (Int)) (x247 : (Int)) (x248 : (Int)) (q249 q250 : ((HL [y1, y1] → Option (Int)))) (hq251 : ∀ h, Le (q249 h) (q250 h)) (x252 : ((List Nat) × Y2)), Le (rec243 x246 x247 x248 q249 x252) (rec244 x246 x247 x248 q250 x252)) (q253 q254 : (HL [y1, y1] → Option (Int))) (hq255 : ∀ h, Le (q253 h) (q254 h)) (x256 : Int × (Int × (Int × (Bool × (Bool × ((List Nat) × Y2)))))) : Le (Sm_zbn_0 rec243 q253 x256).ev (S_zbn_0 rec244 q254 x256).ev := by
  unfold Sm_zbn_0 S_zbn_0
  try dsimp only
  repeat' first
    | with_reducible exact Le.refl _
    | with_reducible exact Le.f _
    | with_reducible refine Le.t ?_ ?_
    | with_reducible refine Le.g ?_
    | with_reducible refine Le.s (fun _ => ?_) (fun _ => ?_)
    | with_reducible refine Le.c ?_ (fun _ => ?_)
    | with_reducible assumption
    | with_reducible apply hr245
    | with_reducible apply hq255
    | with_reducible apply mF_zbc
    | with_reducible apply mF_zay
    | with_reducible apply mF_zba
    | with_reducible apply mF_zbl
    | with_reducible refine Le.bnd ?_
    | with_reducible intro _
theorem mL_zbn_0 (rec257 rec258 : (Int) → (Int) → (Int) → ((HL [y1, y1] → Option (Int))) → ((List Nat) × Y2) → Option ((List Nat) × Y2)) (hr259 : ∀ (x260 : (Int)) (x261 : (Int)) (x262 : (Int)) (q263 q264 : ((HL [y1, y1] → Option (Int)))) (hq265 : ∀ h, Le (q263 h) (q264 h)) (x266 : ((List Nat) × Y2)), Le (rec257 x260 x261 x262 q263 x266) (rec258 x260 x261 x262 q264 x266)) (q267 q268 : (HL [y1, y1] → Option (Int))) (hq269 : ∀ h, Le (q267 h) (q268 h)) (x270 : Int × (Int × (Int × (Bool × (Bool × ((List Nat) × Y2)))))) : Le (Lm_zbn_0 rec257 q267 x270) (L_zbn_0 rec258 q268 x270) := by
  unfold Lm_zbn_0 L_zbn_0
  refine Le.it (fun v => ?_) _ _
  apply mS_zbn_0
  all_goals assumption
theorem mT_zbn (rec271 rec272 : (Int) → (Int) → (Int) → ((HL [y1, y1] → Option (Int))) → ((List Nat) × Y2) → Option ((List Nat) × Y2)) (hr273 : ∀ (x274 : (Int)) (x275 : (Int)) (x276 : (Int)) (q277 q278 : ((HL [y1, y1] → Option (Int)))) (hq279 : ∀ h, Le (q277 h) (q278 h)) (x280 : ((List Nat) × Y2)), Le (rec271 x274 x275 x276 q277 x280) (rec272 x274 x275 x276 q278 x280)) (x281 : Int) (x282 : Int) (x283 : Int) (q284 q285 : (HL [y1, y1] → Option (Int))) (hq286 : ∀ h, Le (q284 h) (q285 h)) (x287 : (List Nat) × Y2) : Le (Tm_zbn rec271 x281 x282 x283 q284 x287).ev (T_zbn rec272 x281 x282 x283 q285 x287).ev := by
  unfold Tm_zbn T_zbn
  try dsimp only
  repeat' first
    | with_reducible exact Le.refl _
    | with_reducible exact Le.f _
    | with_reducible refine Le.t ?_ ?_
    | with_reducible refine Le.g ?_
    | with_reducible refine Le.s (fun _ => ?_) (fun _ => ?_)
    | with_reducible refine Le.c ?_ (fun _ => ?_)
    | with_reducible assumption
    | with_reducible apply hr273
    | with_reducible apply hq286
    | with_reducible apply mL_zbn_0
    | with_reducible refine Le.bnd ?_
    | with_reducible intro _
theorem mF_zbn : ∀ (n : Nat) (x288 : (Int)) (x289 : (Int)) (x290 : (Int)) (q291 q292 : ((HL [y1, y1] → Option (Int)))) (hq293 : ∀ h, Le (q291 h) (q292 h)) (x294 : ((List Nat) × Y2)), Le (Fm_zbn n x288 x289 x290 q291 x294) (F_zbn n x288 x289 x290 q292 x294)
  | 0 => by intros; exact Le.none _
  | n + 1 => by
    intros
    unfold Fm_zbn F_zbn
    apply mT_zbn
    · exact mF_zbn n
    all_goals assumption
theorem mT_zau (q295 q296 : (HL [y1, y1] → Option (Int))) (hq297 : ∀ h, Le (q295 h) (q296 h)) (x298 : (List Nat) × Y2) : Le (Tm_zau q295 x298).ev (T_zau q296 x298).ev := by
  unfold Tm_zau T_zau
  try dsimp only
  repeat' first
    | with_reducible exact Le.refl _
    | with_reducible exact Le.f _
    | with_reducible refine Le.t ?_ ?_
    | with_reducible refine Le.g ?_
    | with_reducible refine Le.s (fun _ => ?_) (fun _ => ?_)
    | with_reducible refine Le.c ?_ (fun _ => ?_)
    | with_reducible assumption
    | with_reducible apply hq297
    | with_reducible apply mF_zal
    | with_reducible apply mF_zbn
    | with_reducible refine Le.bnd ?_
    | with_reducible intro _
theorem mF_zau (q299 q300 : (HL [y1, y1] → Option (Int))) (hq301 : ∀ h, Le (q299 h) (q300 h)) (x302 : (List Nat) × Y2) : Le (Fm_zau q299 x302) (F_zau q300 x302) := by
  unfold Fm_zau F_zau
  apply mT_zau
  all_goals assumption
theorem mT_za (x303 : Int) (x304 : Int) : Le (Tm_za x303 x304).ev (T_za x303 x304).ev := by
  unfold Tm_za T_za
  try dsimp only
  repeat' first
    | with_reducible exact Le.refl _
    | with_reducible exact Le.f _
    | with_reducible refine Le.t ?_ ?_
    | with_reducible refine Le.g ?_
    | with_reducible refine Le.s (fun _ => ?_) (fun _ => ?_)
    | with_reducible refine Le.c ?_ (fun _ => ?_)
    | with_reducible assumption
    | with_reducible apply mF_zd
    | with_reducible refine Le.bnd ?_
    | with_reducible intro _
theorem mF_za (x305 : Int) (x306 : Int) : Le (Fm_za x305 x306) (F_za x305 x306) := by
  unfold Fm_za F_za
  apply mT_za
  all_goals assumption
theorem mS_zao_0 (x307 : Y1 × (Y1 × (Y1 × Int))) (x308 : Int) : Le (Sm_zao_0 x307 x308).ev (S_zao_0 x307 x308).ev := by
  unfold Sm_zao_0 S_zao_0
  try dsimp only
  repeat' first
    | with_reducible exact Le.refl _
    | with_reducible exact Le.f _
    | with_reducible refine Le.t ?_ ?_
    | with_reducible refine Le.g ?_
    | with_reducible refine Le.s (fun _ => ?_) (fun _ => ?_)
    | with_reducible refine Le.c ?_ (fun _ => ?_)
    | with_reducible assumption
    | with_reducible apply mF_za
    | with_reducible refine Le.bnd ?_
    | with_reducible intro _
theorem mL_zao_0 (x309 : Y1 × (Y1 × (Y1 × Int))) (x310 : Int) : Le (Lm_zao_0 x309 x310) (L_zao_0 x309 x310) := by
  unfold Lm_zao_0 L_zao_0
  refine Le.it (fun v => ?_) _ _
  apply mS_zao_0
  all_goals assumption
theorem mT_zao (x311 : Y1) (x312 : Y1) : Le (Tm_zao x311 x312).ev (T_zao x311 x312).ev := by
  unfold Tm_zao T_zao
  try dsimp only
  repeat' first
    | with_reducible exact Le.refl _
    | with_reducible exact Le.f _
    | with_reducible refine Le.t ?_ ?_
    | with_reducible refine Le.g ?_
    | with_reducible refine Le.s (fun _ => ?_) (fun _ => ?_)
    | with_reducible refine Le.c ?_ (fun _ => ?_)
    | with_reducible assumption
    | with_reducible apply mL_zao_0
    | with_reducible refine Le.bnd ?_
    | with_reducible intro _
theorem mF_zao (x313 : Y1) (x314 : Y1) : Le (Fm_zao x313 x314) (F_zao x313 x314) := by
  unfold Fm_zao F_zao
  apply mT_zao
  all_goals assumption
theorem mS_zc_0 (x315 : Int × (Y1 × Int)) (x316 : Int) : Le (Sm_zc_0 x315 x316).ev (S_zc_0 x315 x316).ev := by
  unfold Sm_zc_0 S_zc_0
  try dsimp only
  repeat' first
    | with_reducible exact Le.refl _
    | with_reducible exact Le.f _
    | with_reducible refine Le.t ?_ ?_
    | with_reducible refine Le.g ?_
    | with_reducible refine Le.s (fun _ => ?_) (fun _ => ?_)
    | with_reducible refine Le.c ?_ (fun _ => ?_)
    | with_reducible assumption
    | with_reducible refine Le.bnd ?_
    | with_reducible intro _
theorem mL_zc_0 (x317 : Int × (Y1 × Int)) (x318 : Int) : Le (Lm_zc_0 x317 x318) (L_zc_0 x317 x318) := by
  unfold Lm_zc_0 L_zc_0
  refine Le.it (fun v => ?_) _ _
  apply mS_zc_0
  all_goals assumption
theorem mT_zc (x319 : Y1) : Le (Tm_zc x319).ev (T_zc x319).ev := by
  unfold Tm_zc T_zc
  try dsimp only
  repeat' first
    | with_reducible exact Le.refl _
    | with_reducible exact Le.f _
    | with_reducible refine Le.t ?_ ?_
    | with_reducible refine Le.g ?_
    | with_reducible refine Le.s (fun _ => ?_) (fun _ => ?_)
    | with_reducible refine Le.c ?_ (fun _ => ?_)
    | with_reducible assumption
    | with_reducible apply mL_zc_0
    | with_reducible refine Le.bnd ?_
    | with_reducible intro _
theorem mF_zc (x320 : Y1) : Le (Fm_zc x320) (F_zc x320) := by
  unfold Fm_zc F_zc
  apply mT_zc
  all_goals assumption
theorem mT_zu (x321 : Y1) (x322 : Y1) : Le (Tm_zu x321 x322).ev (T_zu x321 x322).ev := by
  unfold Tm_zu T_zu
  try dsimp only
  repeat' first
    | with_reducible exact Le.refl _
    | with_reducible exact Le.f _
    | with_reducible refine Le.t ?_ ?_
    | with_reducible refine Le.g ?_
    | with_reducible refine Le.s (fun _ => ?_) (fun _ => ?_)
    | with_reducible refine Le.c ?_ (fun _ => ?_)
    | with_reducible assumption
    | with_reducible apply mF_za
    | with_reducible apply mF_zao
    | with_reducible apply mF_zc
    | with_reducible refine Le.bnd ?_
    | with_reducible intro _
theorem mF_zu (x323 : Y1) (x324 : Y1) : Le (Fm_zu x323 x324) (F_zu x323 x324) := by
  unfold Fm_zu F_zu
  apply mT_zu
  all_goals assumption
theorem mS_zy_0 (x325 : Int) (x326 : Int × Y2) : Le (Sm_zy_0 x325 x326).ev (S_zy_0 x325 x326).ev := by
  unfold Sm_zy_0 S_zy_0
  try dsimp only
  repeat' first
    | with_reducible exact Le.refl _
    | with_reducible exact Le.f _
    | with_reducible refine Le.t ?_ ?_
    | with_reducible refine Le.g ?_
    | with_reducible refine Le.s (fun _ => ?_) (fun _ => ?_)
    | with_reducible refine Le.c ?_ (fun _ => ?_)
    | with_reducible assumption
    | with_reducible apply mF_zs
    | with_reducible refine Le.bnd ?_
    | with_reducible intro _
theorem mL_zy_0 (x327 : Int) (x328 : Int × Y2) : Le (Lm_zy_0 x327 x328) (L_zy_0 x327 x328) := by
  unfold Lm_zy_0 L_zy_0
  refine Le.it (fun v => ?_) _ _
  apply mS_zy_0
  all_goals assumption
theorem mT_zy (x329 : Int) : Le (Tm_zy x329).ev (T_zy x329).ev := by
  unfold Tm_zy T_zy
  try dsimp only
  repeat' first
    | with_reducible exact Le.refl _
    | with_reducible exact Le.f _
    | with_reducible refine Le.t ?_ ?_
    | with_reducible refine Le.g ?_
    | with_reducible refine Le.s (fun _ => ?_) (fun _ => ?_)
    | with_reducible refine Le.c ?_ (fun _ => ?_)
    | with_reducible assumption
    | with_reducible apply mL_zy_0
    | with_reducible apply mF_zau
    | with_reducible apply mF_zu
    | with_reducible refine Le.bnd ?_
    | with_reducible intro _
theorem mF_zy (x330 : Int) : Le (Fm_zy x330) (F_zy x330) := by
  unfold Fm_zy F_zy
  apply mT_zy
  all_goals assumption
end Go.Proofs.Ytbofjefpngpegaa
