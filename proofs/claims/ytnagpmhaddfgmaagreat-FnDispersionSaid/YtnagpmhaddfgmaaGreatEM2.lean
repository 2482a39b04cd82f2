import Derived.Test.YtnagpmhaddfgmaaGreatEM1
namespace Go.Proofs.YtnagpmhaddfgmaaGreat
open List (length getD set)
open Int (toNat)
open IntKind (wrap)
theorem wcco (x1 : Int) (x2 : Int) : Le (wblj x1 x2).ev (T_zr x1 x2).ev := by
  unfold wblj T_zr
  try dsimp only
  repeat' first
    | with_reducible exact Le.refl _
    | with_reducible exact Le.f _
    | with_reducible refine Le.t ?_ ?_
    | with_reducible refine Le.g ?_
    | with_reducible refine Le.s (fun _ => ?_) (fun _ => ?_)
    | with_reducible refine Le.c ?_ (fun _ => ?_)
    | with_reducible assumption
    | with_reducible refine Le.bnd ?_
    | with_reducible intro _
theorem wccp (x3 : Int) (x4 : Int) : Le (wblk x3 x4) (F_zr x3 x4) := by
  unfold wblk F_zr
  apply wcco
  all_goals assumption
theorem wblt (x5 : Int) (x6 : Int × Y1) : Le (wyr x5 x6).ev (waay x5 x6).ev := by
  unfold wyr waay
  try dsimp only
  repeat' first
    | with_reducible exact Le.refl _
    | with_reducible exact Le.f _
    | with_reducible refine Le.t ?_ ?_
    | with_reducible refine Le.g ?_
    | with_reducible refine Le.s (fun _ => ?_) (fun _ => ?_)
    | with_reducible refine Le.c ?_ (fun _ => ?_)
    | with_reducible assumption
    | with_reducible apply wccp
    | with_reducible refine Le.bnd ?_
    | with_reducible intro _
theorem wblu (x7 : Int) (x8 : Int × Y1) : Le (wys x7 x8) (wajx x7 x8) := by
  unfold wys wajx
  refine Le.it (fun v => ?_) _ _
  apply wblt
  all_goals assumption
theorem wccq (x9 : Int) : Le (wbll x9).ev (T_zs x9).ev := by
  unfold wbll T_zs
  try dsimp only
  repeat' first
    | with_reducible exact Le.refl _
    | with_reducible exact Le.f _
    | with_reducible refine Le.t ?_ ?_
    | with_reducible refine Le.g ?_
    | with_reducible refine Le.s (fun _ => ?_) (fun _ => ?_)
    | with_reducible refine Le.c ?_ (fun _ => ?_)
    | with_reducible assumption
    | with_reducible apply wblu
    | with_reducible refine Le.bnd ?_
    | with_reducible intro _
theorem wccr (x10 : Int) : Le (wblm x10) (F_zs x10) := by
  unfold wblm F_zs
  apply wccq
  all_goals assumption
theorem wbrk (x11 : Int) : Le (wanp x11).ev (wasg x11).ev := by
  unfold wanp wasg
  try dsimp only
  repeat' first
    | with_reducible exact Le.refl _
    | with_reducible exact Le.f _
    | with_reducible refine Le.t ?_ ?_
    | with_reducible refine Le.g ?_
    | with_reducible refine Le.s (fun _ => ?_) (fun _ => ?_)
    | with_reducible refine Le.c ?_ (fun _ => ?_)
    | with_reducible assumption
    | with_reducible refine Le.bnd ?_
    | with_reducible intro _
theorem wbrl (x12 : Int) : Le (wanq x12) (wash x12) := by
  unfold wanq wash
  apply wbrk
  all_goals assumption
theorem wbrm (x13 : Int) : Le (wanr x13).ev (wasi x13).ev := by
  unfold wanr wasi
  try dsimp only
  repeat' first
    | with_reducible exact Le.refl _
    | with_reducible exact Le.f _
    | with_reducible refine Le.t ?_ ?_
    | with_reducible refine Le.g ?_
    | with_reducible refine Le.s (fun _ => ?_) (fun _ => ?_)
    | with_reducible refine Le.c ?_ (fun _ => ?_)
    | with_reducible assumption
    | with_reducible apply wbrl
    | with_reducible refine Le.bnd ?_
    | with_reducible intro _
theorem wbag (x14 : Int) : Le (wads x14) (wxk x14) := by
  unfold wads wxk
  apply wbrm
  all_goals assumption
theorem wawd (c15 : (Int)) (c16 : (Int)) (q17 q18 : ((HL [y1, y1] → Option (Int)))) (hq19 : ∀ h, Le (q17 h) (q18 h)) (c20 : Int) (x21 : Int × ((List Nat) × Y2)) : Le (wrq (c15, (c16, (q17, c20))) x21).ev (wqy (c15, (c16, (q18, c20))) x21).ev := by
  unfold wrq wqy
  try dsimp only
  repeat' first
    | with_reducible exact Le.refl _
    | with_reducible exact Le.f _
    | with_reducible refine Le.t ?_ ?_
    | with_reducible refine Le.g ?_
    | with_reducible refine Le.s (fun _ => ?_) (fun _ => ?_)
    | with_reducible refine Le.c ?_ (fun _ => ?_)
    | with_reducible assumption
    | with_reducible apply hq19
    | with_reducible refine Le.bnd ?_
    | with_reducible intro _
theorem wawe (c22 : (Int)) (c23 : (Int)) (q24 q25 : ((HL [y1, y1] → Option (Int)))) (hq26 : ∀ h, Le (q24 h) (q25 h)) (c27 : Int) (x28 : Int × ((List Nat) × Y2)) : Le (wrr (c22, (c23, (q24, c27))) x28) (wxl (c22, (c23, (q25, c27))) x28) := by
  unfold wrr wxl
  refine Le.it (fun v => ?_) _ _
  apply wawd
  all_goals assumption
theorem wawf (c29 : (Int)) (c30 : (Int)) (q31 q32 : HL [y1, y1] → Option (Int)) (hq33 : ∀ h, Le (q31 h) (q32 h)) (x34 : Int × ((List Nat) × Y2)) : Le (wrs (c29, (c30, q31)) x34).ev (wqz (c29, (c30, q32)) x34).ev := by
  unfold wrs wqz
  try dsimp only
  repeat' first
    | with_reducible exact Le.refl _
    | with_reducible exact Le.f _
    | with_reducible refine Le.t ?_ ?_
    | with_reducible refine Le.g ?_
    | with_reducible refine Le.s (fun _ => ?_) (fun _ => ?_)
    | with_reducible refine Le.c ?_ (fun _ => ?_)
    | with_reducible assumption
    | with_reducible apply hq33
    | with_reducible apply wawe
    | with_reducible refine Le.bnd ?_
    | with_reducible intro _
theorem wawg (c35 : (Int)) (c36 : (Int)) (q37 q38 : HL [y1, y1] → Option (Int)) (hq39 : ∀ h, Le (q37 h) (q38 h)) (x40 : Int × ((List Nat) × Y2)) : Le (wrt (c35, (c36, q37)) x40) (wxm (c35, (c36, q38)) x40) := by
  unfold wrt wxm
  refine Le.it (fun v => ?_) _ _
  apply wawf
  all_goals assumption
theorem wbrn (x41 : Int) (x42 : Int) (q43 q44 : (HL [y1, y1] → Option (Int))) (hq45 : ∀ h, Le (q43 h) (q44 h)) (x46 : (List Nat) × Y2) : Le (wans x41 x42 q43 x46).ev (wasj x41 x42 q44 x46).ev := by
  unfold wans wasj
  try dsimp only
  repeat' first
    | with_reducible exact Le.refl _
    | with_reducible exact Le.f _
    | with_reducible refine Le.t ?_ ?_
    | with_reducible refine Le.g ?_
    | with_reducible refine Le.s (fun _ => ?_) (fun _ => ?_)
    | with_reducible refine Le.c ?_ (fun _ => ?_)
    | with_reducible assumption
    | with_reducible apply hq45
    | with_reducible apply wawg
    | with_reducible refine Le.bnd ?_
    | with_reducible intro _
theorem wbro (x47 : Int) (x48 : Int) (q49 q50 : (HL [y1, y1] → Option (Int))) (hq51 : ∀ h, Le (q49 h) (q50 h)) (x52 : (List Nat) × Y2) : Le (wanu x47 x48 q49 x52) (wask x47 x48 q50 x52) := by
  unfold wanu wask
  apply wbrn
  all_goals assumption
theorem wbrp (x53 : Int) : Le (wanv x53).ev (wasn x53).ev := by
  unfold wanv wasn
  try dsimp only
  repeat' first
    | with_reducible exact Le.refl _
    | with_reducible exact Le.f _
    | with_reducible refine Le.t ?_ ?_
    | with_reducible refine Le.g ?_
    | with_reducible refine Le.s (fun _ => ?_) (fun _ => ?_)
    | with_reducible refine Le.c ?_ (fun _ => ?_)
    | with_reducible assumption
    | with_reducible apply wbag
    | with_reducible refine Le.bnd ?_
    | with_reducible intro _
theorem wbrq (x54 : Int) : Le (wanw x54) (waka x54) := by
  unfold wanw waka
  apply wbrp
  all_goals assumption
theorem wbrr (x55 : Int) : Le (wanx x55).ev (wasp x55).ev := by
  unfold wanx wasp
  try dsimp only
  repeat' first
    | with_reducible exact Le.refl _
    | with_reducible exact Le.f _
    | with_reducible refine Le.t ?_ ?_
    | with_reducible refine Le.g ?_
    | with_reducible refine Le.s (fun _ => ?_) (fun _ => ?_)
    | with_reducible refine Le.c ?_ (fun _ => ?_)
    | with_reducible assumption
    | with_reducible refine Le.bnd ?_
    | with_reducible intro _
theorem wbrs (x56 : Int) : Le (wany x56) (wakb x56) := by
  unfold wany wakb
  apply wbrr
  all_goals assumption
theorem wawh (x57 : Int × (Int × Int)) (x58 : Int × (((List Nat) × Y2) × Int)) : Le (wru x57 x58).ev (wra x57 x58).ev := by
  unfold wru wra
  try dsimp only
  repeat' first
    | with_reducible exact Le.refl _
    | with_reducible exact Le.f _
    | with_reducible refine Le.t ?_ ?_
    | with_reducible refine Le.g ?_
    | with_reducible refine Le.s (fun _ => ?_) (fun _ => ?_)
    | with_reducible refine Le.c ?_ (fun _ => ?_)
    | with_reducible assumption
    | with_reducible apply wbrs
    | with_reducible refine Le.bnd ?_
    | with_reducible intro _
theorem wawi (x59 : Int × (Int × Int)) (x60 : Int × (((List Nat) × Y2) × Int)) : Le (wrv x59 x60) (wxn x59 x60) := by
  unfold wrv wxn
  refine Le.it (fun v => ?_) _ _
  apply wawh
  all_goals assumption
theorem wbrt (x61 : Int) (x62 : Int) (q63 q64 : (HL [y1, y1] → Option (Int))) (hq65 : ∀ h, Le (q63 h) (q64 h)) (x66 : (List Nat) × Y2) : Le (wanz x61 x62 q63 x66).ev (wasr x61 x62 q64 x66).ev := by
  unfold wanz wasr
  try dsimp only
  repeat' first
    | with_reducible exact Le.refl _
    | with_reducible exact Le.f _
    | with_reducible refine Le.t ?_ ?_
    | with_reducible refine Le.g ?_
    | with_reducible refine Le.s (fun _ => ?_) (fun _ => ?_)
    | with_reducible refine Le.c ?_ (fun _ => ?_)
    | with_reducible assumption
    | with_reducible apply hq65
    | with_reducible apply wbrq
    | with_reducible apply wawi
    | with_reducible refine Le.bnd ?_
    | with_reducible intro _
theorem wbru (x67 : Int) (x68 : Int) (q69 q70 : (HL [y1, y1] → Option (Int))) (hq71 : ∀ h, Le (q69 h) (q70 h)) (x72 : (List Nat) × Y2) : Le (waoa x67 x68 q69 x72) (wass x67 x68 q70 x72) := by
  unfold waoa wass
  apply wbrt
  all_goals assumption
theorem wbrv (x73 : List Y1) (x74 : Int) (x75 : Int) (q76 q77 : (HL [y1, y1] → Option (Int))) (hq78 : ∀ h, Le (q76 h) (q77 h)) (x79 : Int) : Le (waob x73 x74 x75 q76 x79).ev (wasu x73 x74 x75 q77 x79).ev := by
  unfold waob wasu
  try dsimp only
  repeat' first
    | with_reducible exact Le.refl _
    | with_reducible exact Le.f _
    | with_reducible refine Le.t ?_ ?_
    | with_reducible refine Le.g ?_
    | with_reducible refine Le.s (fun _ => ?_) (fun _ => ?_)
    | with_reducible refine Le.c ?_ (fun _ => ?_)
    | with_reducible assumption
    | with_reducible apply hq78
    | with_reducible refine Le.bnd ?_
    | with_reducible intro _
theorem wbrw (x80 : List Y1) (x81 : Int) (x82 : Int) (q83 q84 : (HL [y1, y1] → Option (Int))) (hq85 : ∀ h, Le (q83 h) (q84 h)) (x86 : Int) : Le (wvm x80 x81 x82 q83 x86) (wafo x80 x81 x82 q84 x86) := by
  unfold wvm wafo
  apply wbrv
  all_goals assumption
theorem wbrx (x87 : List Y1) (x88 : Int) (x89 : Int) (x90 : Int) (q91 q92 : (HL [y1, y1] → Option (Int))) (hq93 : ∀ h, Le (q91 h) (q92 h)) (x94 : Int) : Le (waoc x87 x88 x89 x90 q91 x94).ev (wasv x87 x88 x89 x90 q92 x94).ev := by
  unfold waoc wasv
  try dsimp only
  repeat' first
    | with_reducible exact Le.refl _
    | with_reducible exact Le.f _
    | with_reducible refine Le.t ?_ ?_
    | with_reducible refine Le.g ?_
    | with_reducible refine Le.s (fun _ => ?_) (fun _ => ?_)
    | with_reducible refine Le.c ?_ (fun _ => ?_)
    | with_reducible assumption
    | with_reducible apply hq93
    | with_reducible apply wbrw
    | with_reducible refine Le.bnd ?_
    | with_reducible intro _
theorem wbah (x95 : List Y1) (x96 : Int) (x97 : Int) (x98 : Int) (q99 q100 : (HL [y1, y1] → Option (Int))) (hq101 : ∀ h, Le (q99 h) (q100 h)) (x102 : Int) : Le (wvn x95 x96 x97 x98 q99 x102) (wafp x95 x96 x97 x98 q100 x102) := by
  unfold wvn wafp
  apply wbrx
  all_goals assumption
theorem wbry (x103 : List Y1) (x104 : Int) (q105 q106 : (HL [y1, y1] → Option (Int))) (hq107 : ∀ h, Le (q105 h) (q106 h)) (x108 : Int) : Le (waod x103 x104 q105 x108).ev (wasx x103 x104 q106 x108).ev := by
  unfold waod wasx
  try dsimp only
  repeat' first
    | with_reducible exact Le.refl _
    | with_reducible exact Le.f _
    | with_reducible refine Le.t ?_ ?_
    | with_reducible refine Le.g ?_
    | with_reducible refine Le.s (fun _ => ?_) (fun _ => ?_)
    | with_reducible refine Le.c ?_ (fun _ => ?_)
    | with_reducible assumption
    | with_reducible apply hq107
    | with_reducible apply wbah
    | with_reducible refine Le.bnd ?_
    | with_reducible intro _
theorem wbrz (x109 : List Y1) (x110 : Int) (q111 q112 : (HL [y1, y1] → Option (Int))) (hq113 : ∀ h, Le (q111 h) (q112 h)) (x114 : Int) : Le (wvo x109 x110 q111 x114) (wafq x109 x110 q112 x114) := by
  unfold wvo wafq
  apply wbry
  all_goals assumption
theorem wbsa (x115 : List Y1) (x116 : Int) (x117 : Int) (q118 q119 : (HL [y1, y1] → Option (Int))) (hq120 : ∀ h, Le (q118 h) (q119 h)) : Le (waoe x115 x116 x117 q118).ev (wasy x115 x116 x117 q119).ev := by
  unfold waoe wasy
  try dsimp only
  repeat' first
    | with_reducible exact Le.refl _
    | with_reducible exact Le.f _
    | with_reducible refine Le.t ?_ ?_
    | with_reducible refine Le.g ?_
    | with_reducible refine Le.s (fun _ => ?_) (fun _ => ?_)
    | with_reducible refine Le.c ?_ (fun _ => ?_)
    | with_reducible assumption
    | with_reducible apply hq120
    | with_reducible apply wbrz
    | with_reducible apply wbah
    | with_reducible refine Le.bnd ?_
    | with_reducible intro _
theorem wbsb (x121 : List Y1) (x122 : Int) (x123 : Int) (q124 q125 : (HL [y1, y1] → Option (Int))) (hq126 : ∀ h, Le (q124 h) (q125 h)) : Le (wadt x121 x122 x123 q124) (wakc x121 x122 x123 q125) := by
  unfold wadt wakc
  apply wbsa
  all_goals assumption
theorem wawj (c127 : (Int)) (q128 q129 : ((HL [y1, y1] → Option (Int)))) (hq130 : ∀ h, Le (q128 h) (q129 h)) (c131 : (Int)) (c132 : (List Nat)) (c133 : List Y1) (x134 : Int) : Le (wrw (c127, (q128, (c131, (c132, c133)))) x134).ev (wrb (c127, (q129, (c131, (c132, c133)))) x134).ev := by
  unfold wrw wrb
  try dsimp only
  repeat' first
    | with_reducible exact Le.refl _
    | with_reducible exact Le.f _
    | with_reducible refine Le.t ?_ ?_
    | with_reducible refine Le.g ?_
    | with_reducible refine Le.s (fun _ => ?_) (fun _ => ?_)
    | with_reducible refine Le.c ?_ (fun _ => ?_)
    | with_reducible assumption
    | with_reducible apply hq130
    | with_reducible refine Le.bnd ?_
    | with_reducible intro _
theorem wawk (c135 : (Int)) (q136 q137 : ((HL [y1, y1] → Option (Int)))) (hq138 : ∀ h, Le (q136 h) (q137 h)) (c139 : (Int)) (c140 : (List Nat)) (c141 : List Y1) (x142 : Int) : Le (wrx (c135, (q136, (c139, (c140, c141)))) x142) (wxo (c135, (q137, (c139, (c140, c141)))) x142) := by
  unfold wrx wxo
  refine Le.it (fun v => ?_) _ _
  apply wawj
  all_goals assumption
theorem wawl (c143 : (Int)) (q144 q145 : ((HL [y1, y1] → Option (Int)))) (hq146 : ∀ h, Le (q144 h) (q145 h)) (c147 : (Int)) (c148 : (List Nat)) (c149 : List Y1) (x150 : Int) : Le (wry (c143, (q144, (c147, (c148, c149)))) x150).ev (wrc (c143, (q145, (c147, (c148, c149)))) x150).ev := by
  unfold wry wrc
  try dsimp only
  repeat' first
    | with_reducible exact Le.refl _
    | with_reducible exact Le.f _
    | with_reducible refine Le.t ?_ ?_
    | with_reducible refine Le.g ?_
    | with_reducible refine Le.s (fun _ => ?_) (fun _ => ?_)
    | with_reducible refine Le.c ?_ (fun _ => ?_)
    | with_reducible assumption
    | with_reducible apply hq146
    | with_reducible refine Le.bnd ?_
    | with_reducible intro _
theorem wawm (c151 : (Int)) (q152 q153 : ((HL [y1, y1] → Option (Int)))) (hq154 : ∀ h, Le (q152 h) (q153 h)) (c155 : (Int)) (c156 : (List Nat)) (c157 : List Y1) (x158 : Int) : Le (wrz (c151, (q152, (c155, (c156, c157)))) x158) (wxp (c151, (q153, (c155, (c156, c157)))) x158) := by
  unfold wrz wxp
  refine Le.it (fun v => ?_) _ _
  apply wawl
  all_goals assumption
theorem wawn (c159 : (Int)) (q160 q161 : ((HL [y1, y1] → Option (Int)))) (hq162 : ∀ h, Le (q160 h) (q161 h)) (c163 : (Int)) (c164 : (List Nat)) (c165 : List Y1) (x166 : Int) : Le (wsa (c159, (q160, (c163, (c164, c165)))) x166).ev (wrd (c159, (q161, (c163, (c164, c165)))) x166).ev := by
  unfold wsa wrd
  try dsimp only
  repeat' first
    | with_reducible exact Le.refl _
    | with_reducible exact Le.f _
    | with_reducible refine Le.t ?_ ?_
    | with_reducible refine Le.g ?_
    | with_reducible refine Le.s (fun _ => ?_) (fun _ => ?_)
    | with_reducible refine Le.c ?_ (fun _ => ?_)
    | with_reducible assumption
    | with_reducible apply hq162
    | with_reducible refine Le.bnd ?_
    | with_reducible intro _
theorem wawo (c167 : (Int)) (q168 q169 : ((HL [y1, y1] → Option (Int)))) (hq170 : ∀ h, Le (q168 h) (q169 h)) (c171 : (Int)) (c172 : (List Nat)) (c173 : List Y1) (x174 : Int) : Le (wsb (c167, (q168, (c171, (c172, c173)))) x174) (wxq (c167, (q169, (c171, (c172, c173)))) x174) := by
  unfold wsb wxq
  refine Le.it (fun v => ?_) _ _
  apply wawn
  all_goals assumption
theorem wawp (c175 : (Int)) (q176 q177 : ((HL [y1, y1] → Option (Int)))) (hq178 : ∀ h, Le (q176 h) (q177 h)) (c179 : (Int)) (c180 : (List Nat)) (c181 : List Y1) (x182 : Int) : Le (wsc (c175, (q176, (c179, (c180, c181)))) x182).ev (wre (c175, (q177, (c179, (c180, c181)))) x182).ev := by
  unfold wsc wre
  try dsimp only
  repeat' first
    | with_reducible exact Le.refl _
    | with_reducible exact Le.f _
    | with_reducible refine Le.t ?_ ?_
    | with_reducible refine Le.g ?_
    | with_reducible refine Le.s (fun _ => ?_) (fun _ => ?_)
    | with_reducible refine Le.c ?_ (fun _ => ?_)
    | with_reducible assumption
    | with_reducible apply hq178
    | with_reducible refine Le.bnd ?_
    | with_reducible intro _
theorem wawq (c183 : (Int)) (q184 q185 : ((HL [y1, y1] → Option (Int)))) (hq186 : ∀ h, Le (q184 h) (q185 h)) (c187 : (Int)) (c188 : (List Nat)) (c189 : List Y1) (x190 : Int) : Le (wsd (c183, (q184, (c187, (c188, c189)))) x190) (wxr (c183, (q185, (c187, (c188, c189)))) x190) := by
  unfold wsd wxr
  refine Le.it (fun v => ?_) _ _
  apply wawp
  all_goals assumption
theorem wawr (c191 : (Int)) (q192 q193 : HL [y1, y1] → Option (Int)) (hq194 : ∀ h, Le (q192 h) (q193 h)) (x195 : Int × (Int × ((List Nat) × Y2))) : Le (wsf (c191, q192) x195).ev (wrf (c191, q193) x195).ev := by
  unfold wsf wrf
  try dsimp only
  repeat' first
    | with_reducible exact Le.refl _
    | with_reducible exact Le.f _
    | with_reducible refine Le.t ?_ ?_
    | with_reducible refine Le.g ?_
    | with_reducible refine Le.s (fun _ => ?_) (fun _ => ?_)
    | with_reducible refine Le.c ?_ (fun _ => ?_)
    | with_reducible assumption
    | with_reducible apply hq194
    | with_reducible apply wawo
    | with_reducible apply wawq
    | with_reducible refine Le.bnd ?_
    | with_reducible intro _
theorem waws (c196 : (Int)) (q197 q198 : HL [y1, y1] → Option (Int)) (hq199 : ∀ h, Le (q197 h) (q198 h)) (x200 : Int × (Int × ((List Nat) × Y2))) : Le (wsg (c196, q197) x200) (wxs (c196, q198) x200) := by
  unfold wsg wxs
  refine Le.it (fun v => ?_) _ _
  apply wawr
  all_goals assumption
theorem wbsc (x201 : Int) (x202 : Int) (x203 : Int) (q204 q205 : (HL [y1, y1] → Option (Int))) (hq206 : ∀ h, Le (q204 h) (q205 h)) (x207 : (List Nat) × Y2) : Le (waof x201 x202 x203 q204 x207).ev (wasz x201 x202 x203 q205 x207).ev := by
  unfold waof wasz
  try dsimp only
  repeat' first
    | with_reducible exact Le.refl _
    | with_reducible exact Le.f _
    | with_reducible refine Le.t ?_ ?_
    | with_reducible refine Le.g ?_
    | with_reducible refine Le.s (fun _ => ?_) (fun _ => ?_)
    | with_reducible refine Le.c ?_ (fun _ => ?_)
    | with_reducible assumption
    | with_reducible apply hq206
    | with_reducible apply wawk
    | with_reducible apply wawm
    | with_reducible apply waws
    | with_reducible refine Le.bnd ?_
    | with_reducible intro _
theorem wbsd (x208 : Int) (x209 : Int) (x210 : Int) (q211 q212 : (HL [y1, y1] → Option (Int))) (hq213 : ∀ h, Le (q211 h) (q212 h)) (x214 : (List Nat) × Y2) : Le (wek x208 x209 x210 q211 x214) (whw x208 x209 x210 q212 x214) := by
  unfold wek whw
  apply wbsc
  all_goals assumption
theorem wawt (rec215 rec216 : (Int) → (Int) → (Int) → ((HL [y1, y1] → Option (Int))) → ((List Nat) × Y2) → Option ((List Nat) × Y2)) (hr217 : ∀ (x218 : (Int)) (x219 : (Int)) (x220 : (Int)) (q221 q222 : ((HL [y1, y1] → Option (Int)))) (hq223 : ∀ h, Le (q221 h) (q222 h)) (x224 : ((List Nat) × Y2)), Le (rec215 x218 x219 x220 q221 x224) (rec216 x218 x219 x220 q222 x224)) (q225 q226 : (HL [y1, y1] → Option (Int))) (hq227 : ∀ h, Le (q225 h) (q226 h)) (x228 : Int × (Int × (Int × (Bool × (Bool × ((List Nat) × Y2)))))) : Le (wsh rec215 q225 x228).ev (wrg rec216 q226 x228).ev := by
  unfold wsh wrg
  try dsimp only
  repeat' first
    | with_reducible exact Le.refl _
    | with_reducible exact Le.f _
    | with_reducible refine Le.t ?_ ?_
    | with_reducible refine Le.g ?_
    | with_reducible refine Le.s (fun _ => ?_) (fun _ => ?_)
    | with_reducible refine Le.c ?_ (fun _ => ?_)
    | with_reducible assumption
    | with_reducible apply hr217
    | with_reducible apply hq227
    | with_reducible apply wbro
    | with_reducible apply wbru
    | with_reducible apply wbsb
    | with_reducible apply wbsd
    | with_reducible refine Le.bnd ?_
    | with_reducible intro _
theorem wawu (rec229 rec230 : (Int) → (Int) → (Int) → ((HL [y1, y1] → Option (Int))) → ((List Nat) × Y2) → Option ((List Nat) × Y2)) (hr231 : ∀ (x232 : (Int)) (x233 : (Int)) (x234 : (Int)) (q235 q236 : ((HL [y1, y1] → Option (Int)))) (hq237 : ∀ h, Le (q235 h) (q236 h)) (x238 : ((List Nat) × Y2)), Le (rec229 x232 x233 x234 q235 x238) (rec230 x232 x233 x234 q236 x238)) (q239 q240 : (HL [y1, y1] → Option (Int))) (hq241 : ∀ h, Le (q239 h) (q240 h)) (x242 : Int × (Int × (Int × (Bool × (Bool × ((List Nat) × Y2)))))) : Le (wsi rec229 q239 x242) (wxv rec230 q240 x242) := by
  unfold wsi wxv
  refine Le.it (fun v => ?_) _ _
  apply wawt
  all_goals assumption
theorem wbse (rec243 rec244 : (Int) → (Int) → (Int) → ((HL [y1, y1] → Option (Int))) → ((List Nat) × Y2) → Option ((List Nat) × Y2)) (hr245 : ∀ (x246 : (Int)) (x247 : (Int)) (x248 : (Int)) (q249 q250 : ((HL [y1, y1] → Option (Int)))) (hq251 : ∀ h, Le (q249 h) (q250 h)) (x252 : ((List Nat) × Y2)), Le (rec243 x246 x247 x248 q249 x252) (rec244 x246 x247 x248 q250 x252)) (x253 : Int) (x254 : Int) (x255 : Int) (q256 q257 : (HL [y1, y1] → Option (Int))) (hq258 : ∀ h, Le (q256 h) (q257 h)) (x259 : (List Nat) × Y2) : Le (waog rec243 x253 x254 x255 q256 x259).ev (wata rec244 x253 x254 x255 q257 x259).ev := by
  unfold waog wata
  try dsimp only
  repeat' first
    | with_reducible exact Le.refl _
    | with_reducible exact Le.f _
    | with_reducible refine Le.t ?_ ?_
    | with_reducible refine Le.g ?_
    | with_reducible refine Le.s (fun _ => ?_) (fun _ => ?_)
    | with_reducible refine Le.c ?_ (fun _ => ?_)
    | with_reducible assumption
    | with_reducible apply hr245
    | with_reducible apply hq258
    | with_reducible apply wawu
    | with_reducible refine Le.bnd ?_
    | with_reducible intro _
theorem wbai : ∀ (n : Nat) (x260 : (Int)) (x261 : (Int)) (x262 : (Int)) (q263 q264 : ((HL [y1, y1] → Option (Int)))) (hq265 : ∀ h, Le (q263 h) (q264 h)) (x266 : ((List Nat) × Y2)), Le (wadu n x260 x261 x262 q263 x266) (wrh n x260 x261 x262 q264 x266)
  | 0 => by intros; exact Le.none _
  | n + 1 => by
    intros
    unfold wadu wrh
    apply wbse
    · exact wbai n
    all_goals assumption
theorem wbsf (q267 q268 : (HL [y1, y1] → Option (Int))) (hq269 : ∀ h, Le (q267 h) (q268 h)) (x270 : (List Nat) × Y2) : Le (waoh q267 x270).ev (watc q268 x270).ev := by
  unfold waoh watc
  try dsimp only
  repeat' first
    | with_reducible exact Le.refl _
    | with_reducible exact Le.f _
    | with_reducible refine Le.t ?_ ?_
    | with_reducible refine Le.g ?_
    | with_reducible refine Le.s (fun _ => ?_) (fun _ => ?_)
    | with_reducible refine Le.c ?_ (fun _ => ?_)
    | with_reducible assumption
    | with_reducible apply hq269
    | with_reducible apply wbag
    | with_reducible apply wbai
    | with_reducible refine Le.bnd ?_
    | with_reducible intro _
theorem wbsg (q271 q272 : (HL [y1, y1] → Option (Int))) (hq273 : ∀ h, Le (q271 h) (q272 h)) (x274 : (List Nat) × Y2) : Le (waoi q271 x274) (watd q272 x274) := by
  unfold waoi watd
  apply wbsf
  all_goals assumption
theorem wccs (x275 : Int) : Le (wbln x275).ev (T_zd x275).ev := by
  unfold wbln T_zd
  try dsimp only
  repeat' first
    | with_reducible exact Le.refl _
    | with_reducible exact Le.f _
    | with_reducible refine Le.t ?_ ?_
    | with_reducible refine Le.g ?_
    | with_reducible refine Le.s (fun _ => ?_) (fun _ => ?_)
    | with_reducible refine Le.c ?_ (fun _ => ?_)
    | with_reducible assumption
    | with_reducible refine Le.bnd ?_
    | with_reducible intro _
theorem wcct (x276 : Int) : Le (wawb x276) (F_zd x276) := by
  unfold wawb F_zd
  apply wccs
  all_goals assumption
theorem wccu (x277 : Int) (x278 : Int) : Le (wblo x277 x278).ev (T_za x277 x278).ev := by
  unfold wblo T_za
  try dsimp only
  repeat' first
    | with_reducible exact Le.refl _
    | with_reducible exact Le.f _
    | with_reducible refine Le.t ?_ ?_
    | with_reducible refine Le.g ?_
    | with_reducible refine Le.s (fun _ => ?_) (fun _ => ?_)
    | with_reducible refine Le.c ?_ (fun _ => ?_)
    | with_reducible assumption
    | with_reducible apply wcct
    | with_reducible refine Le.bnd ?_
    | with_reducible intro _
theorem wbsh (x279 : Int) (x280 : Int) : Le (wawc x279 x280) (F_za x279 x280) := by
  unfold wawc F_za
  apply wccu
  all_goals assumption
theorem wawv (x281 : Y1 × (Y1 × (Y1 × Int))) (x282 : Int) : Le (wsj x281 x282).ev (wri x281 x282).ev := by
  unfold wsj wri
  try dsimp only
  repeat' first
    | with_reducible exact Le.refl _
    | with_reducible exact Le.f _
    | with_reducible refine Le.t ?_ ?_
    | with_reducible refine Le.g ?_
    | with_reducible refine Le.s (fun _ => ?_) (fun _ => ?_)
    | with_reducible refine Le.c ?_ (fun _ => ?_)
    | with_reducible assumption
    | with_reducible apply wbsh
    | with_reducible refine Le.bnd ?_
    | with_reducible intro _
theorem waww (x283 : Y1 × (Y1 × (Y1 × Int))) (x284 : Int) : Le (wsk x283 x284) (wxw x283 x284) := by
  unfold wsk wxw
  refine Le.it (fun v => ?_) _ _
  apply wawv
  all_goals assumption
theorem wbsi (x285 : Y1) (x286 : Y1) : Le (waoj x285 x286).ev (watf x285 x286).ev := by
  unfold waoj watf
  try dsimp only
  repeat' first
    | with_reducible exact Le.refl _
    | with_reducible exact Le.f _
    | with_reducible refine Le.t ?_ ?_
    | with_reducible refine Le.g ?_
    | with_reducible refine Le.s (fun _ => ?_) (fun _ => ?_)
    | with_reducible refine Le.c ?_ (fun _ => ?_)
    | with_reducible assumption
    | with_reducible apply waww
    | with_reducible refine Le.bnd ?_
    | with_reducible intro _
theorem wbsj (x287 : Y1) (x288 : Y1) : Le (waok x287 x288) (watg x287 x288) := by
  unfold waok watg
  apply wbsi
  all_goals assumption
theorem wblv (x289 : Int × (Y1 × Int)) (x290 : Int) : Le (wyt x289 x290).ev (wabj x289 x290).ev := by
  unfold wyt wabj
  try dsimp only
  repeat' first
    | with_reducible exact Le.refl _
    | with_reducible exact Le.f _
    | with_reducible refine Le.t ?_ ?_
    | with_reducible refine Le.g ?_
    | with_reducible refine Le.s (fun _ => ?_) (fun _ => ?_)
    | with_reducible refine Le.c ?_ (fun _ => ?_)
    | with_reducible assumption
    | with_reducible refine Le.bnd ?_
    | with_reducible intro _
theorem wblw (x291 : Int × (Y1 × Int)) (x292 : Int) : Le (wyu x291 x292) (wakd x291 x292) := by
  unfold wyu wakd
  refine Le.it (fun v => ?_) _ _
  apply wblv
  all_goals assumption
theorem wccv (x293 : Y1) : Le (wblp x293).ev (T_zc x293).ev := by
  unfold wblp T_zc
  try dsimp only
  repeat' first
    | with_reducible exact Le.refl _
    | with_reducible exact Le.f _
    | with_reducible refine Le.t ?_ ?_
    | with_reducible refine Le.g ?_
    | with_reducible refine Le.s (fun _ => ?_) (fun _ => ?_)
    | with_reducible refine Le.c ?_ (fun _ => ?_)
    | with_reducible assumption
    | with_reducible apply wblw
    | with_reducible refine Le.bnd ?_
    | with_reducible intro _
theorem wccw (x294 : Y1) : Le (wblq x294) (F_zc x294) := by
  unfold wblq F_zc
  apply wccv
  all_goals assumption
theorem wccx (x295 : Y1) (x296 : Y1) : Le (wblr x295 x296).ev (T_zu x295 x296).ev := by
  unfold wblr T_zu
  try dsimp only
  repeat' first
    | with_reducible exact Le.refl _
    | with_reducible exact Le.f _
    | with_reducible refine Le.t ?_ ?_
    | with_reducible refine Le.g ?_
    | with_reducible refine Le.s (fun _ => ?_) (fun _ => ?_)
    | with_reducible refine Le.c ?_ (fun _ => ?_)
    | with_reducible assumption
    | with_reducible apply wbsh
    | with_reducible apply wbsj
    | with_reducible apply wccw
    | with_reducible refine Le.bnd ?_
    | with_reducible intro _
theorem wccy (x297 : Y1) (x298 : Y1) : Le (wbls x297 x298) (F_zu x297 x298) := by
  unfold wbls F_zu
  apply wccx
  all_goals assumption
theorem wawx (x299 : Int) (x300 : Int × Y2) : Le (wsl x299 x300).ev (wrj x299 x300).ev := by
  unfold wsl wrj
  try dsimp only
  repeat' first
    | with_reducible exact Le.refl _
    | with_reducible exact Le.f _
    | with_reducible refine Le.t ?_ ?_
    | with_reducible refine Le.g ?_
    | with_reducible refine Le.s (fun _ => ?_) (fun _ => ?_)
    | with_reducible refine Le.c ?_ (fun _ => ?_)
    | with_reducible assumption
    | with_reducible apply wccr
    | with_reducible refine Le.bnd ?_
    | with_reducible intro _
theorem wawy (x301 : Int) (x302 : Int × Y2) : Le (wsm x301 x302) (wxx x301 x302) := by
  unfold wsm wxx
  refine Le.it (fun v => ?_) _ _
  apply wawx
  all_goals assumption
theorem wbsk (x303 : Int) : Le (waol x303).ev (wati x303).ev := by
  unfold waol wati
  try dsimp only
  repeat' first
    | with_reducible exact Le.refl _
    | with_reducible exact Le.f _
    | with_reducible refine Le.t ?_ ?_
    | with_reducible refine Le.g ?_
    | with_reducible refine Le.s (fun _ => ?_) (fun _ => ?_)
    | with_reducible refine Le.c ?_ (fun _ => ?_)
    | with_reducible assumption
    | with_reducible apply wawy
    | with_reducible apply wbsg
    | with_reducible apply wccy
    | with_reducible refine Le.bnd ?_
    | with_reducible intro _
theorem wbsl (x304 : Int) : Le (waom x304) (wakg x304) := by
  unfold waom wakg
  apply wbsk
  all_goals assumption
theorem wawz (x305 : Int × Int) (x306 : Int × Y1) : Le (wsn x305 x306).ev (wgj x305 x306).ev := by
  unfold wsn wgj
  try dsimp only
  repeat' first
    | with_reducible exact Le.refl _
    | with_reducible exact Le.f _
    | with_reducible refine Le.t ?_ ?_
    | with_reducible refine Le.g ?_
    | with_reducible refine Le.s (fun _ => ?_) (fun _ => ?_)
    | with_reducible refine Le.c ?_ (fun _ => ?_)
    | with_reducible assumption
    | with_reducible refine Le.bnd ?_
    | with_reducible intro _
theorem waxa (x307 : Int × Int) (x308 : Int × Y1) : Le (wso x307 x308) (wrk x307 x308) := by
  unfold wso wrk
  refine Le.it (fun v => ?_) _ _
  apply wawz
  all_goals assumption
theorem wbsm (x309 : Int) (x310 : Int) : Le (waon x309 x310).ev (wakv x309 x310).ev := by
  unfold waon wakv
  try dsimp only
  repeat' first
    | with_reducible exact Le.refl _
    | with_reducible exact Le.f _
    | with_reducible refine Le.t ?_ ?_
    | with_reducible refine Le.g ?_
    | with_reducible refine Le.s (fun _ => ?_) (fun _ => ?_)
    | with_reducible refine Le.c ?_ (fun _ => ?_)
    | with_reducible assumption
    | with_reducible apply waxa
    | with_reducible refine Le.bnd ?_
    | with_reducible intro _
theorem wbsn (x311 : Int) (x312 : Int) : Le (waoo x311 x312) (wya x311 x312) := by
  unfold waoo wya
  apply wbsm
  all_goals assumption
theorem waxb (x313 : Y1 × Y1) (x314 : Int) : Le (wsp x313 x314).ev (wrl x313 x314).ev := by
  unfold wsp wrl
  try dsimp only
  repeat' first
    | with_reducible exact Le.refl _
    | with_reducible exact Le.f _
    | with_reducible refine Le.t ?_ ?_
    | with_reducible refine Le.g ?_
    | with_reducible refine Le.s (fun _ => ?_) (fun _ => ?_)
    | with_reducible refine Le.c ?_ (fun _ => ?_)
    | with_reducible assumption
    | with_reducible refine Le.bnd ?_
    | with_reducible intro _
theorem waxc (x315 : Y1 × Y1) (x316 : Int) : Le (wsq x315 x316) (wyb x315 x316) := by
  unfold wsq wyb
  refine Le.it (fun v => ?_) _ _
  apply waxb
  all_goals assumption
theorem wbso (x317 : Y1) (x318 : Y1) : Le (waop x317 x318).ev (watx x317 x318).ev := by
  unfold waop watx
  try dsimp only
  repeat' first
    | with_reducible exact Le.refl _
    | with_reducible exact Le.f _
    | with_reducible refine Le.t ?_ ?_
    | with_reducible refine Le.g ?_
    | with_reducible refine Le.s (fun _ => ?_) (fun _ => ?_)
    | with_reducible refine Le.c ?_ (fun _ => ?_)
    | with_reducible assumption
    | with_reducible apply waxc
    | with_reducible refine Le.bnd ?_
    | with_reducible intro _
theorem wbsp (x319 : Y1) (x320 : Y1) : Le (waoq x319 x320) (waty x319 x320) := by
  unfold waoq waty
  apply wbso
  all_goals assumption
theorem waxd (x321 : Int × (Y2 × (Int × Y1))) (x322 : Int) : Le (wsr x321 x322).ev (wrm x321 x322).ev := by
  unfold wsr wrm
  try dsimp only
  repeat' first
    | with_reducible exact Le.refl _
    | with_reducible exact Le.f _
    | with_reducible refine Le.t ?_ ?_
    | with_reducible refine Le.g ?_
    | with_reducible refine Le.s (fun _ => ?_) (fun _ => ?_)
    | with_reducible refine Le.c ?_ (fun _ => ?_)
    | with_reducible assumption
    | with_reducible apply wbsp
    | with_reducible refine Le.bnd ?_
    | with_reducible intro _
theorem waxe (x323 : Int × (Y2 × (Int × Y1))) (x324 : Int) : Le (wss x323 x324) (wyc x323 x324) := by
  unfold wss wyc
  refine Le.it (fun v => ?_) _ _
  apply waxd
  all_goals assumption
theorem waxf (x325 : Int) (x326 : Y2 × Int) : Le (wsu x325 x326).ev (wrn x325 x326).ev := by
  unfold wsu wrn
  try dsimp only
  repeat' first
    | with_reducible exact Le.refl _
    | with_reducible exact Le.f _
    | with_reducible refine Le.t ?_ ?_
    | with_reducible refine Le.g ?_
    | with_reducible refine Le.s (fun _ => ?_) (fun _ => ?_)
    | with_reducible refine Le.c ?_ (fun _ => ?_)
    | with_reducible assumption
    | with_reducible apply wbsn
    | with_reducible apply waxe
    | with_reducible refine Le.bnd ?_
    | with_reducible intro _
theorem waxg (x327 : Int) (x328 : Y2 × Int) : Le (wsv x327 x328) (wyd x327 x328) := by
  unfold wsv wyd
  refine Le.it (fun v => ?_) _ _
  apply waxf
  all_goals assumption
theorem wbsq (x329 : Int) : Le (waor x329).ev (waua x329).ev := by
  unfold waor waua
  try dsimp only
  repeat' first
    | with_reducible exact Le.refl _
    | with_reducible exact Le.f _
    | with_reducible refine Le.t ?_ ?_
    | with_reducible refine Le.g ?_
    | with_reducible refine Le.s (fun _ => ?_) (fun _ => ?_)
    | with_reducible refine Le.c ?_ (fun _ => ?_)
    | with_reducible assumption
    | with_reducible apply waxg
    | with_reducible refine Le.bnd ?_
    | with_reducible intro _
theorem wbsr (x330 : Int) : Le (waos x330) (wakw x330) := by
  unfold waos wakw
  apply wbsq
  all_goals assumption
end Go.Proofs.YtnagpmhaddfgmaaGreat
