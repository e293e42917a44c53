/-
  MixPieces: the functions as Om's instructions, and that they are so.
-/
import Derived.Test.YtihhnicfkeiglaaProg
import Derived.Test.YtihhnicfkeiglaaOm28
set_option linter.all false
namespace Go.Proofs.Ytihhnicfkeiglaa.Mix
open Go Go.Om
/-! 3: windrose/windroselaw01.MixPieces -/
def f3_r0 : List AOp := [⟨(some 5), .box 23 (.tmp 2), none⟩,
  ⟨(some 6), .mov (.con (.b false)), none⟩]
def f3_r1 : List AOp := [⟨(some 12), .mov (.tmp 1), none⟩,
  ⟨(some 13), .lenStr (.tmp 12), none⟩,
  ⟨(some 14), .bin .gtr (.tmp 13) (.con (.i 3000)), none⟩]
def f3_r2 : List AOp := [⟨(some 15), .call false (.con (.fn 6 [])) [], none⟩,
  ⟨(some 6), .mov (.tmp 15), none⟩]
def f3_r3 : List AOp := [⟨(some 16), .mov (.tmp 1), none⟩,
  ⟨(some 17), .call false (.con (.fn 7 [])) [(.tmp 16)], none⟩,
  ⟨(some 7), .mov (.tmp 17), none⟩]
def f3_r4 : List AOp := [⟨(some 18), .bslice 22 1 [.int .u64 0] 0 [], none⟩,
  ⟨(some 19), .mov (.tmp 7), none⟩,
  ⟨(some 20), .app 22 1 (.tmp 18) (.tmp 19), none⟩,
  ⟨(some 8), .mov (.tmp 20), none⟩]
def f3_r5 : List AOp := [⟨(some 21), .iadrA 2 1 (.tmp 5) (.con (.i 0)), none⟩,
  ⟨(some 22), .ld1 (.tmp 21), none⟩,
  ⟨(some 23), .mov (.tmp 7), none⟩,
  ⟨(some 24), .len (.tmp 23), none⟩,
  ⟨(some 25), .cvtI .u64 (.tmp 24), none⟩,
  ⟨(some 26), .bin .rem (.tmp 22) (.tmp 25), none⟩,
  ⟨(some 27), .cvtI .i64 (.tmp 26), none⟩,
  ⟨(some 9), .mov (.tmp 27), none⟩]
def f3_r6 : List AOp := [⟨(some 28), .mov (.tmp 8), none⟩,
  ⟨(some 29), .mov (.tmp 9), none⟩,
  ⟨(some 30), .iadrA 2 1 (.tmp 5) (.con (.i 1)), none⟩,
  ⟨(some 31), .ld1 (.tmp 30), none⟩,
  ⟨(some 32), .iadrS 1 (.tmp 28) (.tmp 29), none⟩,
  ⟨none, .st 1 (.tmp 32) (.tmp 31), none⟩]
def f3_r7 : List AOp := [⟨(some 33), .mov (.tmp 0), none⟩,
  ⟨(some 34), .mov (.tmp 7), none⟩,
  ⟨(some 35), .call false (.con (.fn 8 [])) [(.tmp 33), (.tmp 34)], none⟩,
  ⟨(some 36), .mov (.tmp 0), none⟩,
  ⟨(some 37), .mov (.tmp 8), none⟩,
  ⟨(some 38), .call false (.con (.fn 8 [])) [(.tmp 36), (.tmp 37)], none⟩,
  ⟨(some 39), .bin .eql (.tmp 35) (.tmp 38), none⟩,
  ⟨(some 40), .mov (.tmp 8), none⟩,
  ⟨(some 41), .mov (.tmp 9), none⟩,
  ⟨(some 42), .iadrS 1 (.tmp 40) (.tmp 41), none⟩,
  ⟨(some 43), .ld1 (.tmp 42), none⟩,
  ⟨(some 44), .mov (.tmp 7), none⟩,
  ⟨(some 45), .mov (.tmp 9), none⟩,
  ⟨(some 46), .iadrS 1 (.tmp 44) (.tmp 45), none⟩,
  ⟨(some 47), .ld1 (.tmp 46), none⟩,
  ⟨(some 48), .bin .eql (.tmp 43) (.tmp 47), none⟩,
  ⟨(some 49), .binB .neq (.tmp 39) (.tmp 48), none⟩]
def f3_r8 : List AOp := [⟨(some 6), .mov (.con (.b false)), none⟩]
def f3_r9 : List AOp := [⟨(some 50), .mov (.tmp 1), none⟩,
  ⟨(some 51), .lenStr (.tmp 50), none⟩,
  ⟨(some 52), .bin .eql (.tmp 51) (.con (.i 0)), none⟩]
def f3_r10 : List AOp := [⟨(some 53), .call false (.con (.fn 6 [])) [], none⟩,
  ⟨(some 6), .mov (.tmp 53), none⟩]
def f3_r11 : List AOp := [⟨(some 54), .iadrA 2 1 (.tmp 5) (.con (.i 0)), none⟩,
  ⟨(some 55), .ld1 (.tmp 54), none⟩,
  ⟨(some 56), .mov (.tmp 1), none⟩,
  ⟨(some 57), .lenStr (.tmp 56), none⟩,
  ⟨(some 58), .cvtI .u64 (.tmp 57), none⟩,
  ⟨(some 59), .bin .rem (.tmp 55) (.tmp 58), none⟩,
  ⟨(some 60), .cvtI .i64 (.tmp 59), none⟩,
  ⟨(some 10), .mov (.tmp 60), none⟩]
def f3_r12 : List AOp := [⟨(some 61), .mov (.tmp 1), none⟩,
  ⟨(some 62), .cvtSB 5 (.tmp 61), none⟩,
  ⟨(some 11), .mov (.tmp 62), none⟩]
def f3_r13 : List AOp := [⟨(some 63), .mov (.tmp 11), none⟩,
  ⟨(some 64), .mov (.tmp 10), none⟩,
  ⟨(some 65), .iadrA 2 1 (.tmp 5) (.con (.i 1)), none⟩,
  ⟨(some 66), .ld1 (.tmp 65), none⟩,
  ⟨(some 67), .cvtI .u8 (.tmp 66), none⟩,
  ⟨(some 68), .iadrS 1 (.tmp 63) (.tmp 64), none⟩,
  ⟨none, .st 1 (.tmp 68) (.tmp 67), none⟩]
def f3_r14 : List AOp := [⟨(some 69), .mov (.tmp 0), none⟩,
  ⟨(some 70), .mov (.tmp 11), none⟩,
  ⟨(some 71), .cvtBS (.tmp 70), none⟩,
  ⟨(some 72), .call false (.con (.fn 9 [])) [(.tmp 69), (.tmp 71)], none⟩,
  ⟨(some 73), .mov (.tmp 0), none⟩,
  ⟨(some 74), .mov (.tmp 1), none⟩,
  ⟨(some 75), .call false (.con (.fn 9 [])) [(.tmp 73), (.tmp 74)], none⟩,
  ⟨(some 76), .bin .eql (.tmp 72) (.tmp 75), none⟩,
  ⟨(some 77), .mov (.tmp 11), none⟩,
  ⟨(some 78), .mov (.tmp 10), none⟩,
  ⟨(some 79), .iadrS 1 (.tmp 77) (.tmp 78), none⟩,
  ⟨(some 80), .ld1 (.tmp 79), none⟩,
  ⟨(some 81), .mov (.tmp 1), none⟩,
  ⟨(some 82), .mov (.tmp 10), none⟩,
  ⟨(some 83), .idxStr (.tmp 81) (.tmp 82), none⟩,
  ⟨(some 84), .bin .eql (.tmp 80) (.tmp 83), none⟩,
  ⟨(some 85), .binB .eql (.tmp 76) (.tmp 84), none⟩,
  ⟨(some 86), .mov (.tmp 85), none⟩,
  ⟨(some 87), .call false (.con (.fn 6 [])) [], (some (86, true))⟩,
  ⟨(some 88), .pick (.tmp 86) (.tmp 87) (.con (.b false)), none⟩,
  ⟨(some 6), .mov (.tmp 88), none⟩]
def f3_c : AC := (.seq (.reg f3_r0) (.seq (.seq (.reg f3_r1) (.cond (.tmp 14) (.seq (.reg f3_r2) .ret) .skip)) (.seq (.reg f3_r3) (.seq (.reg f3_r4) (.seq (.reg f3_r5) (.seq (.reg f3_r6) (.seq (.seq (.regD [0, 0, 3, 0, 0, 31, 63, 0, 0, 384, 896, 0, 0, 6144, 14336, 32640, 65535] f3_r7) (.cond (.tmp 49) (.seq (.reg f3_r8) .ret) .skip)) (.seq (.seq (.reg f3_r9) (.cond (.tmp 52) (.seq (.reg f3_r10) .ret) .skip)) (.seq (.reg f3_r11) (.seq (.reg f3_r12) (.seq (.reg f3_r13) (.seq (.regD [0, 0, 2, 7, 0, 0, 63, 127, 0, 0, 768, 1792, 0, 0, 12288, 32512, 65535, 131071, 262143, 524287, 1048575] f3_r14) .ret))))))))))))
def f3 : AFn := ⟨89, [.tmp 6], false, f3_c⟩
/-! 6: windrose/windroselaw01.awake -/
def f6_r0 : List AOp := [⟨(some 0), .mov (.con (.b false)), none⟩]
def f6_r1 : List AOp := [⟨(some 1), .call false (.con (.fn 24 [])) [(.con (.iv (.int .u64 1)))], none⟩,
  ⟨(some 2), .bin .eql (.tmp 1) (.con (.iv (.int .u64 4717996019076358352))), none⟩,
  ⟨(some 3), .mov (.tmp 2), none⟩,
  ⟨(some 4), .call false (.con (.fn 25 [])) [(.con (.iv (.int .u64 18446744073709551615))), (.con (.i 10))], (some (3, true))⟩,
  ⟨(some 5), .bin .eql (.tmp 4) (.con (.i 9)), (some (3, true))⟩,
  ⟨(some 6), .pick (.tmp 3) (.tmp 5) (.con (.b false)), none⟩,
  ⟨(some 0), .mov (.tmp 6), none⟩]
def f6_c : AC := (.seq (.reg f6_r0) (.seq (.reg f6_r1) .ret))
def f6 : AFn := ⟨7, [.tmp 0], false, f6_c⟩
/-! 7: windrose/windroseref01.Pieces -/
def f7_r0 : List AOp := [⟨(some 2), .mov (.con (.nils)), none⟩]
def f7_r1 : List AOp := [⟨(some 7), .mov (.tmp 0), none⟩,
  ⟨(some 8), .lenStr (.tmp 7), none⟩,
  ⟨(some 9), .cvtI .u64 (.tmp 8), none⟩,
  ⟨(some 10), .bslice 22 1 [.int .u64 0] 1 [(0, (.tmp 9))], none⟩,
  ⟨(some 3), .mov (.tmp 10), none⟩]
def f7_r2 : List AOp := [⟨(some 4), .mov (.con (.i 0)), none⟩]
def f7_r3 : List AOp := [⟨(some 11), .mov (.tmp 4), none⟩,
  ⟨(some 12), .mov (.tmp 0), none⟩,
  ⟨(some 13), .lenStr (.tmp 12), none⟩,
  ⟨(some 14), .bin .lss (.tmp 11) (.tmp 13), none⟩]
def f7_r4 : List AOp := [⟨(some 5), .mov (.con (.iv (.int .u64 0))), none⟩]
def f7_r5 : List AOp := [⟨(some 6), .mov (.con (.i 7)), none⟩]
def f7_r6 : List AOp := [⟨(some 17), .mov (.tmp 6), none⟩,
  ⟨(some 18), .bin .geq (.tmp 17) (.con (.i 0)), none⟩]
def f7_r7 : List AOp := [⟨(some 21), .mov (.tmp 5), none⟩,
  ⟨(some 22), .bin .mul (.tmp 21) (.con (.iv (.int .u64 256))), none⟩,
  ⟨(some 5), .mov (.tmp 22), none⟩]
def f7_r8 : List AOp := [⟨(some 23), .mov (.tmp 4), none⟩,
  ⟨(some 24), .mov (.tmp 6), none⟩,
  ⟨(some 25), .bin .add (.tmp 23) (.tmp 24), none⟩,
  ⟨(some 26), .mov (.tmp 0), none⟩,
  ⟨(some 27), .lenStr (.tmp 26), none⟩,
  ⟨(some 28), .bin .lss (.tmp 25) (.tmp 27), none⟩]
def f7_r9 : List AOp := [⟨(some 29), .mov (.tmp 5), none⟩,
  ⟨(some 30), .mov (.tmp 0), none⟩,
  ⟨(some 31), .mov (.tmp 4), none⟩,
  ⟨(some 32), .mov (.tmp 6), none⟩,
  ⟨(some 33), .bin .add (.tmp 31) (.tmp 32), none⟩,
  ⟨(some 34), .idxStr (.tmp 30) (.tmp 33), none⟩,
  ⟨(some 35), .cvtI .u64 (.tmp 34), none⟩,
  ⟨(some 36), .bin .add (.tmp 29) (.tmp 35), none⟩,
  ⟨(some 5), .mov (.tmp 36), none⟩]
def f7_r10 : List AOp := [⟨(some 19), .mov (.tmp 6), none⟩,
  ⟨(some 20), .bin .sub (.tmp 19) (.con (.i 1)), none⟩,
  ⟨(some 6), .mov (.tmp 20), none⟩]
def f7_b1 : AC := (.seq (.seq (.reg f7_r6) (.cond (.tmp 18) .skip (.exit 2))) (.seq (.block 3 (.seq (.reg f7_r7) (.seq (.reg f7_r8) (.cond (.tmp 28) (.reg f7_r9) .skip)))) (.reg f7_r10)))
def f7_r11 : List AOp := [⟨(some 37), .mov (.tmp 3), none⟩,
  ⟨(some 38), .mov (.tmp 5), none⟩,
  ⟨(some 39), .bslice 22 1 [.int .u64 0] 1 [(0, (.tmp 38))], none⟩,
  ⟨(some 40), .app 22 1 (.tmp 37) (.tmp 39), none⟩,
  ⟨(some 3), .mov (.tmp 40), none⟩]
def f7_r12 : List AOp := [⟨(some 15), .mov (.tmp 4), none⟩,
  ⟨(some 16), .bin .add (.tmp 15) (.con (.i 8)), none⟩,
  ⟨(some 4), .mov (.tmp 16), none⟩]
def f7_b0 : AC := (.seq (.seq (.reg f7_r3) (.cond (.tmp 14) .skip (.exit 0))) (.seq (.block 1 (.seq (.reg f7_r4) (.seq (.seq (.reg f7_r5) (.block 2 (.loop f7_b1))) (.reg f7_r11)))) (.reg f7_r12)))
def f7_r13 : List AOp := [⟨(some 41), .mov (.tmp 3), none⟩,
  ⟨(some 2), .mov (.tmp 41), none⟩]
def f7_c : AC := (.seq (.reg f7_r0) (.seq (.reg f7_r1) (.seq (.seq (.reg f7_r2) (.block 0 (.loop f7_b0))) (.seq (.reg f7_r13) .ret))))
def f7 : AFn := ⟨42, [.tmp 2], false, f7_c⟩
/-! 8: windrose/mix.Fold -/
def f8_r0 : List AOp := [⟨(some 4), .mov (.con (.iv (.int .u64 0))), none⟩]
def f8_r1 : List AOp := [⟨(some 8), .mov (.tmp 0), none⟩,
  ⟨(some 9), .call false (.con (.fn 24 [])) [(.tmp 8)], none⟩,
  ⟨(some 5), .mov (.tmp 9), none⟩]
def f8_r2 : List AOp := [⟨(some 10), .mov (.tmp 1), none⟩,
  ⟨(some 11), .len (.tmp 10), none⟩,
  ⟨(some 12), .mov (.con (.i 0)), none⟩]
def f8_r3 : List AOp := [⟨(some 13), .bin .lss (.tmp 12) (.tmp 11), none⟩]
def f8_r4 : List AOp := [⟨(some 14), .iadrS 1 (.tmp 10) (.tmp 12), none⟩,
  ⟨(some 15), .ld1 (.tmp 14), none⟩,
  ⟨(some 7), .mov (.tmp 15), none⟩]
def f8_r5 : List AOp := [⟨(some 16), .mov (.tmp 5), none⟩,
  ⟨(some 17), .mov (.tmp 7), none⟩,
  ⟨(some 18), .bin .xor (.tmp 16) (.tmp 17), none⟩,
  ⟨(some 19), .bin .add (.tmp 18) (.con (.iv (.int .u64 11400714819323198485))), none⟩,
  ⟨(some 20), .call false (.con (.fn 24 [])) [(.tmp 19)], none⟩,
  ⟨(some 5), .mov (.tmp 20), none⟩]
def f8_r6 : List AOp := [⟨(some 21), .bin .add (.tmp 12) (.con (.i 1)), none⟩,
  ⟨(some 12), .mov (.tmp 21), none⟩]
def f8_b0 : AC := (.seq (.reg f8_r3) (.seq (.cond (.tmp 13) .skip (.exit 0)) (.seq (.block 1 (.seq (.reg f8_r4) (.reg f8_r5))) (.reg f8_r6))))
def f8_r7 : List AOp := [⟨(some 22), .mov (.tmp 5), none⟩,
  ⟨(some 4), .mov (.tmp 22), none⟩]
def f8_c : AC := (.seq (.reg f8_r0) (.seq (.reg f8_r1) (.seq (.seq (.reg f8_r2) (.block 0 (.loop f8_b0))) (.seq (.reg f8_r7) .ret))))
def f8 : AFn := ⟨23, [.tmp 4], false, f8_c⟩
/-! 9: windrose/mix.Text -/
def f9_r0 : List AOp := [⟨(some 4), .mov (.con (.iv (.int .u64 0))), none⟩]
def f9_r1 : List AOp := [⟨(some 7), .mov (.tmp 1), none⟩,
  ⟨(some 8), .lenStr (.tmp 7), none⟩,
  ⟨(some 9), .cvtI .u64 (.tmp 8), none⟩,
  ⟨(some 10), .bslice 22 1 [.int .u64 0] 1 [(0, (.tmp 9))], none⟩,
  ⟨(some 5), .mov (.tmp 10), none⟩]
def f9_r2 : List AOp := [⟨(some 11), .mov (.tmp 1), none⟩,
  ⟨(some 12), .lenStr (.tmp 11), none⟩,
  ⟨(some 13), .mov (.con (.i 0)), none⟩]
def f9_r3 : List AOp := [⟨(some 14), .bin .lss (.tmp 13) (.tmp 12), none⟩]
def f9_r4 : List AOp := [⟨(some 15), .mov (.tmp 13), none⟩,
  ⟨(some 6), .mov (.tmp 15), none⟩]
def f9_r5 : List AOp := [⟨(some 16), .mov (.tmp 6), none⟩,
  ⟨(some 17), .bin .rem (.tmp 16) (.con (.i 8)), none⟩,
  ⟨(some 18), .bin .eql (.tmp 17) (.con (.i 0)), none⟩]
def f9_r6 : List AOp := [⟨(some 19), .mov (.tmp 5), none⟩,
  ⟨(some 20), .bslice 22 1 [.int .u64 0] 1 [(0, (.con (.iv (.int .u64 0))))], none⟩,
  ⟨(some 21), .app 22 1 (.tmp 19) (.tmp 20), none⟩,
  ⟨(some 5), .mov (.tmp 21), none⟩]
def f9_r7 : List AOp := [⟨(some 22), .mov (.tmp 5), none⟩,
  ⟨(some 23), .mov (.tmp 5), none⟩,
  ⟨(some 24), .len (.tmp 23), none⟩,
  ⟨(some 25), .bin .sub (.tmp 24) (.con (.i 1)), none⟩,
  ⟨(some 26), .iadrS 1 (.tmp 22) (.tmp 25), none⟩,
  ⟨(some 27), .ld1 (.tmp 26), none⟩,
  ⟨(some 28), .mov (.tmp 1), none⟩,
  ⟨(some 29), .mov (.tmp 6), none⟩,
  ⟨(some 30), .idxStr (.tmp 28) (.tmp 29), none⟩,
  ⟨(some 31), .cvtI .u64 (.tmp 30), none⟩,
  ⟨(some 32), .mov (.tmp 6), none⟩,
  ⟨(some 33), .bin .rem (.tmp 32) (.con (.i 8)), none⟩,
  ⟨(some 34), .bin .mul (.con (.i 8)) (.tmp 33), none⟩,
  ⟨(some 35), .bin .shl (.tmp 31) (.tmp 34), none⟩,
  ⟨(some 36), .bin .or (.tmp 27) (.tmp 35), none⟩,
  ⟨(some 37), .iadrS 1 (.tmp 22) (.tmp 25), none⟩,
  ⟨none, .st 1 (.tmp 37) (.tmp 36), none⟩]
def f9_r8 : List AOp := [⟨(some 38), .bin .add (.tmp 13) (.con (.i 1)), none⟩,
  ⟨(some 13), .mov (.tmp 38), none⟩]
def f9_b0 : AC := (.seq (.reg f9_r3) (.seq (.cond (.tmp 14) .skip (.exit 0)) (.seq (.block 1 (.seq (.reg f9_r4) (.seq (.seq (.reg f9_r5) (.cond (.tmp 18) (.reg f9_r6) .skip)) (.regD [0, 0, 2, 6, 15, 31, 0, 0, 192, 448, 0, 1024, 3072, 8128, 16383, 32767, 65535] f9_r7)))) (.reg f9_r8))))
def f9_r9 : List AOp := [⟨(some 39), .mov (.tmp 0), none⟩,
  ⟨(some 40), .mov (.tmp 5), none⟩,
  ⟨(some 41), .call false (.con (.fn 8 [])) [(.tmp 39), (.tmp 40)], none⟩,
  ⟨(some 4), .mov (.tmp 41), none⟩]
def f9_c : AC := (.seq (.reg f9_r0) (.seq (.reg f9_r1) (.seq (.seq (.reg f9_r2) (.block 0 (.loop f9_b0))) (.seq (.reg f9_r9) .ret))))
def f9 : AFn := ⟨42, [.tmp 4], false, f9_c⟩
/-! 24: windrose/mix.Mix -/
def f24_r0 : List AOp := [⟨(some 2), .mov (.con (.iv (.int .u64 0))), none⟩]
def f24_r1 : List AOp := [⟨(some 3), .mov (.con (.i 0)), none⟩]
def f24_r2 : List AOp := [⟨(some 4), .bin .lss (.tmp 3) (.con (.i 2)), none⟩]
def f24_r3 : List AOp := [⟨(some 5), .mov (.tmp 0), none⟩,
  ⟨(some 6), .mov (.tmp 0), none⟩,
  ⟨(some 7), .bin .shr (.tmp 6) (.con (.iv (.int .u64 32))), none⟩,
  ⟨(some 8), .bin .xor (.tmp 5) (.tmp 7), none⟩,
  ⟨(some 0), .mov (.tmp 8), none⟩]
def f24_r4 : List AOp := [⟨(some 9), .mov (.tmp 0), none⟩,
  ⟨(some 10), .bin .mul (.tmp 9) (.con (.iv (.int .u64 15485907386658061715))), none⟩,
  ⟨(some 0), .mov (.tmp 10), none⟩]
def f24_r5 : List AOp := [⟨(some 11), .bin .add (.tmp 3) (.con (.i 1)), none⟩,
  ⟨(some 3), .mov (.tmp 11), none⟩]
def f24_b0 : AC := (.seq (.reg f24_r2) (.seq (.cond (.tmp 4) .skip (.exit 0)) (.seq (.block 1 (.seq (.reg f24_r3) (.reg f24_r4))) (.reg f24_r5))))
def f24_r6 : List AOp := [⟨(some 12), .mov (.tmp 0), none⟩,
  ⟨(some 13), .mov (.tmp 0), none⟩,
  ⟨(some 14), .bin .shr (.tmp 13) (.con (.iv (.int .u64 32))), none⟩,
  ⟨(some 15), .bin .xor (.tmp 12) (.tmp 14), none⟩,
  ⟨(some 2), .mov (.tmp 15), none⟩]
def f24_c : AC := (.seq (.reg f24_r0) (.seq (.seq (.reg f24_r1) (.block 0 (.loop f24_b0))) (.seq (.reg f24_r6) .ret)))
def f24 : AFn := ⟨16, [.tmp 2], false, f24_c⟩
/-! 25: windrose/mix.Below -/
def f25_r0 : List AOp := [⟨(some 4), .mov (.con (.i 0)), none⟩]
def f25_r1 : List AOp := [⟨(some 5), .mov (.tmp 1), none⟩,
  ⟨(some 6), .bin .lss (.tmp 5) (.con (.i 1)), none⟩,
  ⟨(some 7), .mov (.tmp 6), none⟩,
  ⟨(some 8), .mov (.tmp 1), (some (7, false))⟩,
  ⟨(some 9), .bin .gtr (.tmp 8) (.con (.i 2147483647)), (some (7, false))⟩,
  ⟨(some 10), .pick (.tmp 7) (.con (.b true)) (.tmp 9), none⟩]
def f25_r2 : List AOp := [⟨(some 4), .mov (.con (.i 0)), none⟩]
def f25_r3 : List AOp := [⟨(some 11), .mov (.tmp 0), none⟩,
  ⟨(some 12), .bin .shr (.tmp 11) (.con (.iv (.int .u64 32))), none⟩,
  ⟨(some 13), .mov (.tmp 1), none⟩,
  ⟨(some 14), .cvtI .u64 (.tmp 13), none⟩,
  ⟨(some 15), .bin .mul (.tmp 12) (.tmp 14), none⟩,
  ⟨(some 16), .bin .shr (.tmp 15) (.con (.iv (.int .u64 32))), none⟩,
  ⟨(some 17), .cvtI .i64 (.tmp 16), none⟩,
  ⟨(some 4), .mov (.tmp 17), none⟩]
def f25_c : AC := (.seq (.reg f25_r0) (.seq (.seq (.reg f25_r1) (.cond (.tmp 10) (.seq (.reg f25_r2) .ret) .skip)) (.seq (.reg f25_r3) .ret)))
def f25 : AFn := ⟨18, [.tmp 4], false, f25_c⟩

set_option maxRecDepth 100000
theorem is3 : IsFn Try.prog [] [] 3 f3 := ⟨Try.f3, _, Try.func3, rfl, by kernel_rfl, by decide +kernel, by kernel_rfl, by kernel_rfl, by kernel_rfl, by decide +kernel⟩
theorem is6 : IsFn Try.prog [] [] 6 f6 := ⟨Try.f6, _, Try.func6, rfl, by kernel_rfl, by decide +kernel, by kernel_rfl, by kernel_rfl, by kernel_rfl, by decide +kernel⟩
theorem is7 : IsFn Try.prog [] [] 7 f7 := ⟨Try.f7, _, Try.func7, rfl, by kernel_rfl, by decide +kernel, by kernel_rfl, by kernel_rfl, by kernel_rfl, by decide +kernel⟩
theorem is8 : IsFn Try.prog [] [] 8 f8 := ⟨Try.f8, _, Try.func8, rfl, by kernel_rfl, by decide +kernel, by kernel_rfl, by kernel_rfl, by kernel_rfl, by decide +kernel⟩
theorem is9 : IsFn Try.prog [] [] 9 f9 := ⟨Try.f9, _, Try.func9, rfl, by kernel_rfl, by decide +kernel, by kernel_rfl, by kernel_rfl, by kernel_rfl, by decide +kernel⟩
theorem is24 : IsFn Try.prog [] [] 24 f24 := ⟨Try.f24, _, Try.func24, rfl, by kernel_rfl, by decide +kernel, by kernel_rfl, by kernel_rfl, by kernel_rfl, by decide +kernel⟩
theorem is25 : IsFn Try.prog [] [] 25 f25 := ⟨Try.f25, _, Try.func25, rfl, by kernel_rfl, by decide +kernel, by kernel_rfl, by kernel_rfl, by kernel_rfl, by decide +kernel⟩
end Go.Proofs.Ytihhnicfkeiglaa.Mix
