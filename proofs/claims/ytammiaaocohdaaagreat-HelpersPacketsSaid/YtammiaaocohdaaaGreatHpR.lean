/- HelpersPackets: every piece of its code leads from template to template. -/
import Derived.Test.YtammiaaocohdaaaGreatAwake22
import Derived.Test.YtammiaaocohdaaaGreatHpF
set_option linter.all false
namespace Go.Bx.HP
open Go Go.Bx Go.RowKit Go.Proofs
set_option maxRecDepth 100000
noncomputable def E0 : Env := Env.of Tryz.prog
noncomputable def code : Code := match Tryz.f3.body with | some c => c | none => .skip
noncomputable def callW (E : Env) : CallF := evFn E (orcS (graceOrc 20) 10) noDorc 3000 80
noncomputable def okN (j : Nat) : Bool := leads (E0.with (factsN j)) (callW (E0.with (factsN j))) 128 3000 (body code) (tplAt j) .normal (tplAt (j + 1)) HP.next ids
noncomputable def okL (j : Nat) : Bool := leads (E0.with factsL) (callW (E0.with factsL)) 128 3000 (body code) (tplAt j) .normal (tplAt j) HP.next ids
noncomputable def okX1 (j : Nat) : Bool := leads (E0.with factsX1) (callW (E0.with factsX1)) 128 3000 (body code) (tplAt j) (.exit 0) tplX [] ids
noncomputable def okX2 (j : Nat) : Bool := leads (E0.with factsX2) (callW (E0.with factsX2)) 128 3000 (body code) (tplAt j) (.exit 0) tplX [] ids
def p0 : Tpl := ⟨[.xarg 0 vn, .sym (.i .i64) vx] ++ List.replicate 126 (.tuple []), [(0, .xro .s 0)], 1⟩
noncomputable def okA : Bool := leads E0 (callW E0) 128 3000 (ahead code) p0 .normal (tplAt 0) [(0, .num 0)] ids
noncomputable def okB : Bool :=
  match evCode E0 (callW E0) 128 3000 (behind code) tplX.tms tplX.hp [] with
  | some (.ret, tm, h, []) => (match results1 (resV E0 tm h Tryz.f3.results.toList) with | some (.bool b) => b | _ => false)
  | _ => false
theorem runA : okA = true := by kernel_rfl
theorem runB : okB = true := by kernel_rfl
theorem n0 : okN 0 = true := by kernel_rfl
theorem n1 : okN 1 = true := by kernel_rfl
theorem n2 : okN 2 = true := by kernel_rfl
theorem n3 : okN 3 = true := by kernel_rfl
theorem n4 : okN 4 = true := by kernel_rfl
theorem n5 : okN 5 = true := by kernel_rfl
theorem n6 : okN 6 = true := by kernel_rfl
theorem n7 : okN 7 = true := by kernel_rfl
theorem n8 : okN 8 = true := by kernel_rfl
theorem n9 : okN 9 = true := by kernel_rfl
theorem n10 : okN 10 = true := by kernel_rfl
theorem n11 : okN 11 = true := by kernel_rfl
theorem n12 : okN 12 = true := by kernel_rfl
theorem n13 : okN 13 = true := by kernel_rfl
theorem n14 : okN 14 = true := by kernel_rfl
theorem n15 : okN 15 = true := by kernel_rfl
theorem n16 : okN 16 = true := by kernel_rfl
theorem n17 : okN 17 = true := by kernel_rfl
theorem n18 : okN 18 = true := by kernel_rfl
theorem n19 : okN 19 = true := by kernel_rfl
theorem n20 : okN 20 = true := by kernel_rfl
theorem n21 : okN 21 = true := by kernel_rfl
theorem n22 : okN 22 = true := by kernel_rfl
theorem n23 : okN 23 = true := by kernel_rfl
theorem n24 : okN 24 = true := by kernel_rfl
theorem n25 : okN 25 = true := by kernel_rfl
theorem n26 : okN 26 = true := by kernel_rfl
theorem n27 : okN 27 = true := by kernel_rfl
theorem n28 : okN 28 = true := by kernel_rfl
theorem n29 : okN 29 = true := by kernel_rfl
theorem n30 : okN 30 = true := by kernel_rfl
theorem n31 : okN 31 = true := by kernel_rfl
theorem n32 : okN 32 = true := by kernel_rfl
theorem n33 : okN 33 = true := by kernel_rfl
theorem n34 : okN 34 = true := by kernel_rfl
theorem n35 : okN 35 = true := by kernel_rfl
theorem n36 : okN 36 = true := by kernel_rfl
theorem n37 : okN 37 = true := by kernel_rfl
theorem n38 : okN 38 = true := by kernel_rfl
theorem n39 : okN 39 = true := by kernel_rfl
theorem n40 : okN 40 = true := by kernel_rfl
theorem n41 : okN 41 = true := by kernel_rfl
theorem n42 : okN 42 = true := by kernel_rfl
theorem n43 : okN 43 = true := by kernel_rfl
theorem n44 : okN 44 = true := by kernel_rfl
theorem n45 : okN 45 = true := by kernel_rfl
theorem n46 : okN 46 = true := by kernel_rfl
theorem n47 : okN 47 = true := by kernel_rfl
theorem n48 : okN 48 = true := by kernel_rfl
theorem n49 : okN 49 = true := by kernel_rfl
theorem nAll : ∀ j, j < 50 → okN j = true
  | 0, _ => n0
  | 1, _ => n1
  | 2, _ => n2
  | 3, _ => n3
  | 4, _ => n4
  | 5, _ => n5
  | 6, _ => n6
  | 7, _ => n7
  | 8, _ => n8
  | 9, _ => n9
  | 10, _ => n10
  | 11, _ => n11
  | 12, _ => n12
  | 13, _ => n13
  | 14, _ => n14
  | 15, _ => n15
  | 16, _ => n16
  | 17, _ => n17
  | 18, _ => n18
  | 19, _ => n19
  | 20, _ => n20
  | 21, _ => n21
  | 22, _ => n22
  | 23, _ => n23
  | 24, _ => n24
  | 25, _ => n25
  | 26, _ => n26
  | 27, _ => n27
  | 28, _ => n28
  | 29, _ => n29
  | 30, _ => n30
  | 31, _ => n31
  | 32, _ => n32
  | 33, _ => n33
  | 34, _ => n34
  | 35, _ => n35
  | 36, _ => n36
  | 37, _ => n37
  | 38, _ => n38
  | 39, _ => n39
  | 40, _ => n40
  | 41, _ => n41
  | 42, _ => n42
  | 43, _ => n43
  | 44, _ => n44
  | 45, _ => n45
  | 46, _ => n46
  | 47, _ => n47
  | 48, _ => n48
  | 49, _ => n49
  | _ + 50, h => absurd h (by omega)
theorem l0 : okL 0 = true := by kernel_rfl
theorem l1 : okL 1 = true := by kernel_rfl
theorem l2 : okL 2 = true := by kernel_rfl
theorem l3 : okL 3 = true := by kernel_rfl
theorem l4 : okL 4 = true := by kernel_rfl
theorem l5 : okL 5 = true := by kernel_rfl
theorem l6 : okL 6 = true := by kernel_rfl
theorem l7 : okL 7 = true := by kernel_rfl
theorem l8 : okL 8 = true := by kernel_rfl
theorem l9 : okL 9 = true := by kernel_rfl
theorem l10 : okL 10 = true := by kernel_rfl
theorem l11 : okL 11 = true := by kernel_rfl
theorem l12 : okL 12 = true := by kernel_rfl
theorem l13 : okL 13 = true := by kernel_rfl
theorem l14 : okL 14 = true := by kernel_rfl
theorem l15 : okL 15 = true := by kernel_rfl
theorem l16 : okL 16 = true := by kernel_rfl
theorem l17 : okL 17 = true := by kernel_rfl
theorem l18 : okL 18 = true := by kernel_rfl
theorem l19 : okL 19 = true := by kernel_rfl
theorem l20 : okL 20 = true := by kernel_rfl
theorem l21 : okL 21 = true := by kernel_rfl
theorem l22 : okL 22 = true := by kernel_rfl
theorem l23 : okL 23 = true := by kernel_rfl
theorem l24 : okL 24 = true := by kernel_rfl
theorem l25 : okL 25 = true := by kernel_rfl
theorem l26 : okL 26 = true := by kernel_rfl
theorem l27 : okL 27 = true := by kernel_rfl
theorem l28 : okL 28 = true := by kernel_rfl
theorem l29 : okL 29 = true := by kernel_rfl
theorem l30 : okL 30 = true := by kernel_rfl
theorem l31 : okL 31 = true := by kernel_rfl
theorem l32 : okL 32 = true := by kernel_rfl
theorem l33 : okL 33 = true := by kernel_rfl
theorem l34 : okL 34 = true := by kernel_rfl
theorem l35 : okL 35 = true := by kernel_rfl
theorem l36 : okL 36 = true := by kernel_rfl
theorem l37 : okL 37 = true := by kernel_rfl
theorem l38 : okL 38 = true := by kernel_rfl
theorem l39 : okL 39 = true := by kernel_rfl
theorem l40 : okL 40 = true := by kernel_rfl
theorem l41 : okL 41 = true := by kernel_rfl
theorem l42 : okL 42 = true := by kernel_rfl
theorem l43 : okL 43 = true := by kernel_rfl
theorem l44 : okL 44 = true := by kernel_rfl
theorem l45 : okL 45 = true := by kernel_rfl
theorem l46 : okL 46 = true := by kernel_rfl
theorem l47 : okL 47 = true := by kernel_rfl
theorem l48 : okL 48 = true := by kernel_rfl
theorem l49 : okL 49 = true := by kernel_rfl
theorem lAll : ∀ j, j < 50 → okL j = true
  | 0, _ => l0
  | 1, _ => l1
  | 2, _ => l2
  | 3, _ => l3
  | 4, _ => l4
  | 5, _ => l5
  | 6, _ => l6
  | 7, _ => l7
  | 8, _ => l8
  | 9, _ => l9
  | 10, _ => l10
  | 11, _ => l11
  | 12, _ => l12
  | 13, _ => l13
  | 14, _ => l14
  | 15, _ => l15
  | 16, _ => l16
  | 17, _ => l17
  | 18, _ => l18
  | 19, _ => l19
  | 20, _ => l20
  | 21, _ => l21
  | 22, _ => l22
  | 23, _ => l23
  | 24, _ => l24
  | 25, _ => l25
  | 26, _ => l26
  | 27, _ => l27
  | 28, _ => l28
  | 29, _ => l29
  | 30, _ => l30
  | 31, _ => l31
  | 32, _ => l32
  | 33, _ => l33
  | 34, _ => l34
  | 35, _ => l35
  | 36, _ => l36
  | 37, _ => l37
  | 38, _ => l38
  | 39, _ => l39
  | 40, _ => l40
  | 41, _ => l41
  | 42, _ => l42
  | 43, _ => l43
  | 44, _ => l44
  | 45, _ => l45
  | 46, _ => l46
  | 47, _ => l47
  | 48, _ => l48
  | 49, _ => l49
  | _ + 50, h => absurd h (by omega)
theorem x10 : okX1 0 = true := by kernel_rfl
theorem x11 : okX1 1 = true := by kernel_rfl
theorem x12 : okX1 2 = true := by kernel_rfl
theorem x13 : okX1 3 = true := by kernel_rfl
theorem x14 : okX1 4 = true := by kernel_rfl
theorem x15 : okX1 5 = true := by kernel_rfl
theorem x16 : okX1 6 = true := by kernel_rfl
theorem x17 : okX1 7 = true := by kernel_rfl
theorem x18 : okX1 8 = true := by kernel_rfl
theorem x19 : okX1 9 = true := by kernel_rfl
theorem x110 : okX1 10 = true := by kernel_rfl
theorem x111 : okX1 11 = true := by kernel_rfl
theorem x112 : okX1 12 = true := by kernel_rfl
theorem x113 : okX1 13 = true := by kernel_rfl
theorem x114 : okX1 14 = true := by kernel_rfl
theorem x115 : okX1 15 = true := by kernel_rfl
theorem x116 : okX1 16 = true := by kernel_rfl
theorem x117 : okX1 17 = true := by kernel_rfl
theorem x118 : okX1 18 = true := by kernel_rfl
theorem x119 : okX1 19 = true := by kernel_rfl
theorem x120 : okX1 20 = true := by kernel_rfl
theorem x121 : okX1 21 = true := by kernel_rfl
theorem x122 : okX1 22 = true := by kernel_rfl
theorem x123 : okX1 23 = true := by kernel_rfl
theorem x124 : okX1 24 = true := by kernel_rfl
theorem x125 : okX1 25 = true := by kernel_rfl
theorem x126 : okX1 26 = true := by kernel_rfl
theorem x127 : okX1 27 = true := by kernel_rfl
theorem x128 : okX1 28 = true := by kernel_rfl
theorem x129 : okX1 29 = true := by kernel_rfl
theorem x130 : okX1 30 = true := by kernel_rfl
theorem x131 : okX1 31 = true := by kernel_rfl
theorem x132 : okX1 32 = true := by kernel_rfl
theorem x133 : okX1 33 = true := by kernel_rfl
theorem x134 : okX1 34 = true := by kernel_rfl
theorem x135 : okX1 35 = true := by kernel_rfl
theorem x136 : okX1 36 = true := by kernel_rfl
theorem x137 : okX1 37 = true := by kernel_rfl
theorem x138 : okX1 38 = true := by kernel_rfl
theorem x139 : okX1 39 = true := by kernel_rfl
theorem x140 : okX1 40 = true := by kernel_rfl
theorem x141 : okX1 41 = true := by kernel_rfl
theorem x142 : okX1 42 = true := by kernel_rfl
theorem x143 : okX1 43 = true := by kernel_rfl
theorem x144 : okX1 44 = true := by kernel_rfl
theorem x145 : okX1 45 = true := by kernel_rfl
theorem x146 : okX1 46 = true := by kernel_rfl
theorem x147 : okX1 47 = true := by kernel_rfl
theorem x148 : okX1 48 = true := by kernel_rfl
theorem x149 : okX1 49 = true := by kernel_rfl
theorem x150 : okX1 50 = true := by kernel_rfl
theorem x1All : ∀ j, j < 51 → okX1 j = true
  | 0, _ => x10
  | 1, _ => x11
  | 2, _ => x12
  | 3, _ => x13
  | 4, _ => x14
  | 5, _ => x15
  | 6, _ => x16
  | 7, _ => x17
  | 8, _ => x18
  | 9, _ => x19
  | 10, _ => x110
  | 11, _ => x111
  | 12, _ => x112
  | 13, _ => x113
  | 14, _ => x114
  | 15, _ => x115
  | 16, _ => x116
  | 17, _ => x117
  | 18, _ => x118
  | 19, _ => x119
  | 20, _ => x120
  | 21, _ => x121
  | 22, _ => x122
  | 23, _ => x123
  | 24, _ => x124
  | 25, _ => x125
  | 26, _ => x126
  | 27, _ => x127
  | 28, _ => x128
  | 29, _ => x129
  | 30, _ => x130
  | 31, _ => x131
  | 32, _ => x132
  | 33, _ => x133
  | 34, _ => x134
  | 35, _ => x135
  | 36, _ => x136
  | 37, _ => x137
  | 38, _ => x138
  | 39, _ => x139
  | 40, _ => x140
  | 41, _ => x141
  | 42, _ => x142
  | 43, _ => x143
  | 44, _ => x144
  | 45, _ => x145
  | 46, _ => x146
  | 47, _ => x147
  | 48, _ => x148
  | 49, _ => x149
  | 50, _ => x150
  | _ + 51, h => absurd h (by omega)
theorem x20 : okX2 0 = true := by kernel_rfl
theorem x21 : okX2 1 = true := by kernel_rfl
theorem x22 : okX2 2 = true := by kernel_rfl
theorem x23 : okX2 3 = true := by kernel_rfl
theorem x24 : okX2 4 = true := by kernel_rfl
theorem x25 : okX2 5 = true := by kernel_rfl
theorem x26 : okX2 6 = true := by kernel_rfl
theorem x27 : okX2 7 = true := by kernel_rfl
theorem x28 : okX2 8 = true := by kernel_rfl
theorem x29 : okX2 9 = true := by kernel_rfl
theorem x210 : okX2 10 = true := by kernel_rfl
theorem x211 : okX2 11 = true := by kernel_rfl
theorem x212 : okX2 12 = true := by kernel_rfl
theorem x213 : okX2 13 = true := by kernel_rfl
theorem x214 : okX2 14 = true := by kernel_rfl
theorem x215 : okX2 15 = true := by kernel_rfl
theorem x216 : okX2 16 = true := by kernel_rfl
theorem x217 : okX2 17 = true := by kernel_rfl
theorem x218 : okX2 18 = true := by kernel_rfl
theorem x219 : okX2 19 = true := by kernel_rfl
theorem x220 : okX2 20 = true := by kernel_rfl
theorem x221 : okX2 21 = true := by kernel_rfl
theorem x222 : okX2 22 = true := by kernel_rfl
theorem x223 : okX2 23 = true := by kernel_rfl
theorem x224 : okX2 24 = true := by kernel_rfl
theorem x225 : okX2 25 = true := by kernel_rfl
theorem x226 : okX2 26 = true := by kernel_rfl
theorem x227 : okX2 27 = true := by kernel_rfl
theorem x228 : okX2 28 = true := by kernel_rfl
theorem x229 : okX2 29 = true := by kernel_rfl
theorem x230 : okX2 30 = true := by kernel_rfl
theorem x231 : okX2 31 = true := by kernel_rfl
theorem x232 : okX2 32 = true := by kernel_rfl
theorem x233 : okX2 33 = true := by kernel_rfl
theorem x234 : okX2 34 = true := by kernel_rfl
theorem x235 : okX2 35 = true := by kernel_rfl
theorem x236 : okX2 36 = true := by kernel_rfl
theorem x237 : okX2 37 = true := by kernel_rfl
theorem x238 : okX2 38 = true := by kernel_rfl
theorem x239 : okX2 39 = true := by kernel_rfl
theorem x240 : okX2 40 = true := by kernel_rfl
theorem x241 : okX2 41 = true := by kernel_rfl
theorem x242 : okX2 42 = true := by kernel_rfl
theorem x243 : okX2 43 = true := by kernel_rfl
theorem x244 : okX2 44 = true := by kernel_rfl
theorem x245 : okX2 45 = true := by kernel_rfl
theorem x246 : okX2 46 = true := by kernel_rfl
theorem x247 : okX2 47 = true := by kernel_rfl
theorem x248 : okX2 48 = true := by kernel_rfl
theorem x249 : okX2 49 = true := by kernel_rfl
theorem x250 : okX2 50 = true := by kernel_rfl
theorem x2All : ∀ j, j < 51 → okX2 j = true
  | 0, _ => x20
  | 1, _ => x21
  | 2, _ => x22
  | 3, _ => x23
  | 4, _ => x24
  | 5, _ => x25
  | 6, _ => x26
  | 7, _ => x27
  | 8, _ => x28
  | 9, _ => x29
  | 10, _ => x210
  | 11, _ => x211
  | 12, _ => x212
  | 13, _ => x213
  | 14, _ => x214
  | 15, _ => x215
  | 16, _ => x216
  | 17, _ => x217
  | 18, _ => x218
  | 19, _ => x219
  | 20, _ => x220
  | 21, _ => x221
  | 22, _ => x222
  | 23, _ => x223
  | 24, _ => x224
  | 25, _ => x225
  | 26, _ => x226
  | 27, _ => x227
  | 28, _ => x228
  | 29, _ => x229
  | 30, _ => x230
  | 31, _ => x231
  | 32, _ => x232
  | 33, _ => x233
  | 34, _ => x234
  | 35, _ => x235
  | 36, _ => x236
  | 37, _ => x237
  | 38, _ => x238
  | 39, _ => x239
  | 40, _ => x240
  | 41, _ => x241
  | 42, _ => x242
  | 43, _ => x243
  | 44, _ => x244
  | 45, _ => x245
  | 46, _ => x246
  | 47, _ => x247
  | 48, _ => x248
  | 49, _ => x249
  | 50, _ => x250
  | _ + 51, h => absurd h (by omega)
end Go.Bx.HP
