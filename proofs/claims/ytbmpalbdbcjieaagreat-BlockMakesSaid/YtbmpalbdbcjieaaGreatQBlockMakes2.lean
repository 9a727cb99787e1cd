/- Contracts of functions, over the machine. -/
import Derived.Test.YtbmpalbdbcjieaaGreatQBlockMakes1
import Derived.Test.YtbmpalbdbcjieaaGreatVL
noncomputable section
namespace Go.Proofs.YtbmpalbdbcjieaaGreat.R
open Go Go.Vm
set_option maxRecDepth 100000
def rep (n : Nat) (v : Value) (l : List Value) : List Value := List.replicate n v ++ l
def va_1 : Value := .agg ⟨(.string ⟨⟨[97]⟩⟩) :: (.int .i64 3) :: (.int .i64 4) :: rep 128 (.int .u8 0) ([])⟩
def ob_2 : AObj := .cells ((.string ⟨⟨[97]⟩⟩) :: (.int .i64 3) :: (.int .i64 4) :: rep 128 (.int .u8 0) ([])) 0
def ob_3 : AObj := .cells ((.int .u8 0) :: (.int .u8 0) :: (.int .u8 0) :: (.int .u8 1) :: (.int .i64 5) :: (.int .u8 0) :: (.int .u8 0) :: (.int .u8 0) :: (.int .u8 2) :: (.int .i64 7) :: []) 0
def va_4 : Value := .agg ⟨(.string ⟨⟨[97]⟩⟩) :: (.int .i64 3) :: (.int .i64 4) :: rep 32 (.int .u8 0) ((.int .u8 6) :: (.int .u8 42) :: (.int .u8 8) :: (.int .u8 140) :: (.int .u8 251) :: (.int .u8 91) :: (.int .u8 124) :: (.int .u8 64) :: (.int .u8 45) :: (.int .u8 135) :: (.int .u8 23) :: (.int .u8 48) :: (.int .u8 171) :: (.int .u8 198) :: (.int .u8 50) :: (.int .u8 83) :: (.int .u8 6) :: (.int .u8 143) :: (.int .u8 224) :: (.int .u8 191) :: (.int .u8 80) :: (.int .u8 205) :: (.int .u8 63) :: (.int .u8 101) :: (.int .u8 68) :: (.int .u8 82) :: (.int .u8 26) :: (.int .u8 114) :: (.int .u8 181) :: (.int .u8 102) :: (.int .u8 136) :: (.int .u8 230) :: rep 64 (.int .u8 0) ((.int .i64 3) :: (.int .u8 7) :: (.int .u8 218) :: (.int .u8 153) :: (.int .u8 245) :: (.int .u8 22) :: (.int .u8 243) :: (.int .u8 57) :: (.int .u8 53) :: (.int .u8 12) :: (.int .u8 62) :: (.int .u8 187) :: (.int .u8 40) :: (.int .u8 219) :: (.int .u8 60) :: (.int .u8 114) :: (.int .u8 108) :: (.int .u8 145) :: (.int .u8 194) :: (.int .u8 110) :: (.int .u8 193) :: (.int .u8 43) :: (.int .u8 222) :: (.int .u8 143) :: (.int .u8 29) :: (.int .u8 210) :: (.int .u8 188) :: (.int .u8 35) :: (.int .u8 66) :: (.int .u8 31) :: (.int .u8 219) :: (.int .u8 29) :: (.int .u8 161) :: (.slice none 0 0) :: (.slice (some ⟨86, 0, (some 0)⟩) 2 2) :: []))⟩
def ob_5 : AObj := .cells ((.int .u8 0) :: (.int .u8 0) :: (.int .u8 0) :: (.int .u8 1) :: (.int .i64 5) :: (.int .u8 0) :: (.int .u8 0) :: (.int .u8 0) :: (.int .u8 2) :: (.int .i64 7) :: []) 5
def ob_6 : AObj := .cells ((.string ⟨⟨[97]⟩⟩) :: (.int .i64 3) :: (.int .i64 4) :: rep 32 (.int .u8 0) ((.int .u8 6) :: (.int .u8 42) :: (.int .u8 8) :: (.int .u8 140) :: (.int .u8 251) :: (.int .u8 91) :: (.int .u8 124) :: (.int .u8 64) :: (.int .u8 45) :: (.int .u8 135) :: (.int .u8 23) :: (.int .u8 48) :: (.int .u8 171) :: (.int .u8 198) :: (.int .u8 50) :: (.int .u8 83) :: (.int .u8 6) :: (.int .u8 143) :: (.int .u8 224) :: (.int .u8 191) :: (.int .u8 80) :: (.int .u8 205) :: (.int .u8 63) :: (.int .u8 101) :: (.int .u8 68) :: (.int .u8 82) :: (.int .u8 26) :: (.int .u8 114) :: (.int .u8 181) :: (.int .u8 102) :: (.int .u8 136) :: (.int .u8 230) :: rep 64 (.int .u8 0) ((.int .i64 3) :: (.int .u8 7) :: (.int .u8 218) :: (.int .u8 153) :: (.int .u8 245) :: (.int .u8 22) :: (.int .u8 243) :: (.int .u8 57) :: (.int .u8 53) :: (.int .u8 12) :: (.int .u8 62) :: (.int .u8 187) :: (.int .u8 40) :: (.int .u8 219) :: (.int .u8 60) :: (.int .u8 114) :: (.int .u8 108) :: (.int .u8 145) :: (.int .u8 194) :: (.int .u8 110) :: (.int .u8 193) :: (.int .u8 43) :: (.int .u8 222) :: (.int .u8 143) :: (.int .u8 29) :: (.int .u8 210) :: (.int .u8 188) :: (.int .u8 35) :: (.int .u8 66) :: (.int .u8 31) :: (.int .u8 219) :: (.int .u8 29) :: (.int .u8 161) :: (.slice none 0 0) :: (.slice (some ⟨86, 0, (some 0)⟩) 2 2) :: []))) 0
def ob_7 : AObj := .cells ((.int .u8 1) :: (.int .u8 135) :: (.int .u8 1) :: (.int .u8 1) :: (.int .u8 97) :: (.int .u8 1) :: (.int .u8 3) :: (.int .u8 1) :: (.int .u8 4) :: rep 32 (.int .u8 0) ((.int .u8 6) :: (.int .u8 42) :: (.int .u8 8) :: (.int .u8 140) :: (.int .u8 251) :: (.int .u8 91) :: (.int .u8 124) :: (.int .u8 64) :: (.int .u8 45) :: (.int .u8 135) :: (.int .u8 23) :: (.int .u8 48) :: (.int .u8 171) :: (.int .u8 198) :: (.int .u8 50) :: (.int .u8 83) :: (.int .u8 6) :: (.int .u8 143) :: (.int .u8 224) :: (.int .u8 191) :: (.int .u8 80) :: (.int .u8 205) :: (.int .u8 63) :: (.int .u8 101) :: (.int .u8 68) :: (.int .u8 82) :: (.int .u8 26) :: (.int .u8 114) :: (.int .u8 181) :: (.int .u8 102) :: (.int .u8 136) :: (.int .u8 230) :: rep 64 (.int .u8 0) ((.int .u8 1) :: (.int .u8 35) :: (.int .u8 1) :: (.int .u8 3) :: (.int .u8 7) :: (.int .u8 218) :: (.int .u8 153) :: (.int .u8 245) :: (.int .u8 22) :: (.int .u8 243) :: (.int .u8 57) :: (.int .u8 53) :: (.int .u8 12) :: (.int .u8 62) :: (.int .u8 187) :: (.int .u8 40) :: (.int .u8 219) :: (.int .u8 60) :: (.int .u8 114) :: (.int .u8 108) :: (.int .u8 145) :: (.int .u8 194) :: (.int .u8 110) :: (.int .u8 193) :: (.int .u8 43) :: (.int .u8 222) :: (.int .u8 143) :: (.int .u8 29) :: (.int .u8 210) :: (.int .u8 188) :: (.int .u8 35) :: (.int .u8 66) :: (.int .u8 31) :: (.int .u8 219) :: (.int .u8 29) :: (.int .u8 161) :: (.int .u8 0) :: (.int .u8 1) :: (.int .u8 14) :: (.int .u8 1) :: (.int .u8 2) :: (.int .u8 0) :: (.int .u8 0) :: (.int .u8 0) :: (.int .u8 1) :: (.int .u8 1) :: (.int .u8 5) :: (.int .u8 0) :: (.int .u8 0) :: (.int .u8 0) :: (.int .u8 2) :: (.int .u8 1) :: (.int .u8 7) :: []))) 1
def va_8 : Value := .agg ⟨(.string ⟨⟨[97]⟩⟩) :: (.int .i64 3) :: (.int .i64 4) :: rep 32 (.int .u8 0) ((.int .u8 6) :: (.int .u8 42) :: (.int .u8 8) :: (.int .u8 140) :: (.int .u8 251) :: (.int .u8 91) :: (.int .u8 124) :: (.int .u8 64) :: (.int .u8 45) :: (.int .u8 135) :: (.int .u8 23) :: (.int .u8 48) :: (.int .u8 171) :: (.int .u8 198) :: (.int .u8 50) :: (.int .u8 83) :: (.int .u8 6) :: (.int .u8 143) :: (.int .u8 224) :: (.int .u8 191) :: (.int .u8 80) :: (.int .u8 205) :: (.int .u8 63) :: (.int .u8 101) :: (.int .u8 68) :: (.int .u8 82) :: (.int .u8 26) :: (.int .u8 114) :: (.int .u8 181) :: (.int .u8 102) :: (.int .u8 136) :: (.int .u8 230) :: rep 64 (.int .u8 0) ((.int .i64 3) :: (.int .u8 7) :: (.int .u8 218) :: (.int .u8 153) :: (.int .u8 245) :: (.int .u8 22) :: (.int .u8 243) :: (.int .u8 57) :: (.int .u8 53) :: (.int .u8 12) :: (.int .u8 62) :: (.int .u8 187) :: (.int .u8 40) :: (.int .u8 219) :: (.int .u8 60) :: (.int .u8 114) :: (.int .u8 108) :: (.int .u8 145) :: (.int .u8 194) :: (.int .u8 110) :: (.int .u8 193) :: (.int .u8 43) :: (.int .u8 222) :: (.int .u8 143) :: (.int .u8 29) :: (.int .u8 210) :: (.int .u8 188) :: (.int .u8 35) :: (.int .u8 66) :: (.int .u8 31) :: (.int .u8 219) :: (.int .u8 29) :: (.int .u8 161) :: (.slice none 0 0) :: (.slice (some ⟨346, 0, (some 0)⟩) 2 2) :: []))⟩
def ob_9 : AObj := .cells ((.int .i64 3) :: (.int .u8 7) :: (.int .u8 218) :: (.int .u8 153) :: (.int .u8 245) :: (.int .u8 22) :: (.int .u8 243) :: (.int .u8 57) :: (.int .u8 53) :: (.int .u8 12) :: (.int .u8 62) :: (.int .u8 187) :: (.int .u8 40) :: (.int .u8 219) :: (.int .u8 60) :: (.int .u8 114) :: (.int .u8 108) :: (.int .u8 145) :: (.int .u8 194) :: (.int .u8 110) :: (.int .u8 193) :: (.int .u8 43) :: (.int .u8 222) :: (.int .u8 143) :: (.int .u8 29) :: (.int .u8 210) :: (.int .u8 188) :: (.int .u8 35) :: (.int .u8 66) :: (.int .u8 31) :: (.int .u8 219) :: (.int .u8 29) :: (.int .u8 161) :: (.slice none 0 0) :: []) 0
def ob_10 : AObj := .cells ((.int .i64 3) :: (.int .u8 7) :: (.int .u8 218) :: (.int .u8 153) :: (.int .u8 245) :: (.int .u8 22) :: (.int .u8 243) :: (.int .u8 57) :: (.int .u8 53) :: (.int .u8 12) :: (.int .u8 62) :: (.int .u8 187) :: (.int .u8 40) :: (.int .u8 219) :: (.int .u8 60) :: (.int .u8 114) :: (.int .u8 108) :: (.int .u8 145) :: (.int .u8 194) :: (.int .u8 110) :: (.int .u8 193) :: (.int .u8 43) :: (.int .u8 222) :: (.int .u8 143) :: (.int .u8 29) :: (.int .u8 210) :: (.int .u8 188) :: (.int .u8 35) :: (.int .u8 66) :: (.int .u8 31) :: (.int .u8 219) :: (.int .u8 29) :: (.int .u8 161) :: (.slice (some ⟨361, 0, none⟩) 0 0) :: []) 0
def ob_11 : AObj := .cells ((.string ⟨⟨[97]⟩⟩) :: (.int .i64 3) :: (.int .i64 4) :: rep 32 (.int .u8 0) ((.int .u8 6) :: (.int .u8 42) :: (.int .u8 8) :: (.int .u8 140) :: (.int .u8 251) :: (.int .u8 91) :: (.int .u8 124) :: (.int .u8 64) :: (.int .u8 45) :: (.int .u8 135) :: (.int .u8 23) :: (.int .u8 48) :: (.int .u8 171) :: (.int .u8 198) :: (.int .u8 50) :: (.int .u8 83) :: (.int .u8 6) :: (.int .u8 143) :: (.int .u8 224) :: (.int .u8 191) :: (.int .u8 80) :: (.int .u8 205) :: (.int .u8 63) :: (.int .u8 101) :: (.int .u8 68) :: (.int .u8 82) :: (.int .u8 26) :: (.int .u8 114) :: (.int .u8 181) :: (.int .u8 102) :: (.int .u8 136) :: (.int .u8 230) :: rep 64 (.int .u8 0) ((.int .i64 3) :: (.int .u8 7) :: (.int .u8 218) :: (.int .u8 153) :: (.int .u8 245) :: (.int .u8 22) :: (.int .u8 243) :: (.int .u8 57) :: (.int .u8 53) :: (.int .u8 12) :: (.int .u8 62) :: (.int .u8 187) :: (.int .u8 40) :: (.int .u8 219) :: (.int .u8 60) :: (.int .u8 114) :: (.int .u8 108) :: (.int .u8 145) :: (.int .u8 194) :: (.int .u8 110) :: (.int .u8 193) :: (.int .u8 43) :: (.int .u8 222) :: (.int .u8 143) :: (.int .u8 29) :: (.int .u8 210) :: (.int .u8 188) :: (.int .u8 35) :: (.int .u8 66) :: (.int .u8 31) :: (.int .u8 219) :: (.int .u8 29) :: (.int .u8 161) :: (.slice none 0 0) :: (.slice (some ⟨346, 0, (some 0)⟩) 2 2) :: []))) 0
def ob_12 : AObj := .cells ((.string ⟨⟨[97]⟩⟩) :: (.int .i64 3) :: (.int .i64 4) :: rep 32 (.int .u8 0) ((.int .u8 6) :: (.int .u8 42) :: (.int .u8 8) :: (.int .u8 140) :: (.int .u8 251) :: (.int .u8 91) :: (.int .u8 124) :: (.int .u8 64) :: (.int .u8 45) :: (.int .u8 135) :: (.int .u8 23) :: (.int .u8 48) :: (.int .u8 171) :: (.int .u8 198) :: (.int .u8 50) :: (.int .u8 83) :: (.int .u8 6) :: (.int .u8 143) :: (.int .u8 224) :: (.int .u8 191) :: (.int .u8 80) :: (.int .u8 205) :: (.int .u8 63) :: (.int .u8 101) :: (.int .u8 68) :: (.int .u8 82) :: (.int .u8 26) :: (.int .u8 114) :: (.int .u8 181) :: (.int .u8 102) :: (.int .u8 136) :: (.int .u8 230) :: rep 64 (.int .u8 0) ((.int .i64 3) :: (.int .u8 7) :: (.int .u8 218) :: (.int .u8 153) :: (.int .u8 245) :: (.int .u8 22) :: (.int .u8 243) :: (.int .u8 57) :: (.int .u8 53) :: (.int .u8 12) :: (.int .u8 62) :: (.int .u8 187) :: (.int .u8 40) :: (.int .u8 219) :: (.int .u8 60) :: (.int .u8 114) :: (.int .u8 108) :: (.int .u8 145) :: (.int .u8 194) :: (.int .u8 110) :: (.int .u8 193) :: (.int .u8 43) :: (.int .u8 222) :: (.int .u8 143) :: (.int .u8 29) :: (.int .u8 210) :: (.int .u8 188) :: (.int .u8 35) :: (.int .u8 66) :: (.int .u8 31) :: (.int .u8 219) :: (.int .u8 29) :: (.int .u8 161) :: (.slice (some ⟨361, 0, none⟩) 0 0) :: (.slice (some ⟨363, 0, (some 0)⟩) 2 2) :: []))) 0
def ob_13 : AObj := .cells ((.string ⟨⟨[97]⟩⟩) :: (.int .i64 3) :: (.int .i64 4) :: rep 32 (.int .u8 0) ((.int .u8 6) :: (.int .u8 42) :: (.int .u8 8) :: (.int .u8 140) :: (.int .u8 251) :: (.int .u8 91) :: (.int .u8 124) :: (.int .u8 64) :: (.int .u8 45) :: (.int .u8 135) :: (.int .u8 23) :: (.int .u8 48) :: (.int .u8 171) :: (.int .u8 198) :: (.int .u8 50) :: (.int .u8 83) :: (.int .u8 6) :: (.int .u8 143) :: (.int .u8 224) :: (.int .u8 191) :: (.int .u8 80) :: (.int .u8 205) :: (.int .u8 63) :: (.int .u8 101) :: (.int .u8 68) :: (.int .u8 82) :: (.int .u8 26) :: (.int .u8 114) :: (.int .u8 181) :: (.int .u8 102) :: (.int .u8 136) :: (.int .u8 230) :: rep 64 (.int .u8 0) ((.int .i64 4) :: (.int .u8 7) :: (.int .u8 218) :: (.int .u8 153) :: (.int .u8 245) :: (.int .u8 22) :: (.int .u8 243) :: (.int .u8 57) :: (.int .u8 53) :: (.int .u8 12) :: (.int .u8 62) :: (.int .u8 187) :: (.int .u8 40) :: (.int .u8 219) :: (.int .u8 60) :: (.int .u8 114) :: (.int .u8 108) :: (.int .u8 145) :: (.int .u8 194) :: (.int .u8 110) :: (.int .u8 193) :: (.int .u8 43) :: (.int .u8 222) :: (.int .u8 143) :: (.int .u8 29) :: (.int .u8 210) :: (.int .u8 188) :: (.int .u8 35) :: (.int .u8 66) :: (.int .u8 31) :: (.int .u8 219) :: (.int .u8 29) :: (.int .u8 161) :: (.slice (some ⟨361, 0, none⟩) 0 0) :: (.slice (some ⟨363, 0, (some 0)⟩) 2 2) :: []))) 0
def va_14 : Value := .agg ⟨(.string ⟨⟨[97]⟩⟩) :: (.int .i64 3) :: (.int .i64 4) :: rep 32 (.int .u8 0) ((.int .u8 6) :: (.int .u8 42) :: (.int .u8 8) :: (.int .u8 140) :: (.int .u8 251) :: (.int .u8 91) :: (.int .u8 124) :: (.int .u8 64) :: (.int .u8 45) :: (.int .u8 135) :: (.int .u8 23) :: (.int .u8 48) :: (.int .u8 171) :: (.int .u8 198) :: (.int .u8 50) :: (.int .u8 83) :: (.int .u8 6) :: (.int .u8 143) :: (.int .u8 224) :: (.int .u8 191) :: (.int .u8 80) :: (.int .u8 205) :: (.int .u8 63) :: (.int .u8 101) :: (.int .u8 68) :: (.int .u8 82) :: (.int .u8 26) :: (.int .u8 114) :: (.int .u8 181) :: (.int .u8 102) :: (.int .u8 136) :: (.int .u8 230) :: rep 64 (.int .u8 0) ((.int .i64 3) :: (.int .u8 7) :: (.int .u8 218) :: (.int .u8 153) :: (.int .u8 245) :: (.int .u8 22) :: (.int .u8 243) :: (.int .u8 57) :: (.int .u8 53) :: (.int .u8 12) :: (.int .u8 62) :: (.int .u8 187) :: (.int .u8 40) :: (.int .u8 219) :: (.int .u8 60) :: (.int .u8 114) :: (.int .u8 108) :: (.int .u8 145) :: (.int .u8 194) :: (.int .u8 110) :: (.int .u8 193) :: (.int .u8 43) :: (.int .u8 222) :: (.int .u8 143) :: (.int .u8 29) :: (.int .u8 210) :: (.int .u8 188) :: (.int .u8 35) :: (.int .u8 66) :: (.int .u8 31) :: (.int .u8 219) :: (.int .u8 29) :: (.int .u8 161) :: (.slice (some ⟨488, 0, (some 0)⟩) 1 1) :: (.slice (some ⟨486, 0, (some 0)⟩) 2 2) :: []))⟩
def ob_15 : AObj := .cells ((.string ⟨⟨[97]⟩⟩) :: (.int .i64 3) :: (.int .i64 4) :: rep 32 (.int .u8 0) ((.int .u8 6) :: (.int .u8 42) :: (.int .u8 8) :: (.int .u8 140) :: (.int .u8 251) :: (.int .u8 91) :: (.int .u8 124) :: (.int .u8 64) :: (.int .u8 45) :: (.int .u8 135) :: (.int .u8 23) :: (.int .u8 48) :: (.int .u8 171) :: (.int .u8 198) :: (.int .u8 50) :: (.int .u8 83) :: (.int .u8 6) :: (.int .u8 143) :: (.int .u8 224) :: (.int .u8 191) :: (.int .u8 80) :: (.int .u8 205) :: (.int .u8 63) :: (.int .u8 101) :: (.int .u8 68) :: (.int .u8 82) :: (.int .u8 26) :: (.int .u8 114) :: (.int .u8 181) :: (.int .u8 102) :: (.int .u8 136) :: (.int .u8 230) :: rep 64 (.int .u8 0) ((.int .i64 3) :: (.int .u8 7) :: (.int .u8 218) :: (.int .u8 153) :: (.int .u8 245) :: (.int .u8 22) :: (.int .u8 243) :: (.int .u8 57) :: (.int .u8 53) :: (.int .u8 12) :: (.int .u8 62) :: (.int .u8 187) :: (.int .u8 40) :: (.int .u8 219) :: (.int .u8 60) :: (.int .u8 114) :: (.int .u8 108) :: (.int .u8 145) :: (.int .u8 194) :: (.int .u8 110) :: (.int .u8 193) :: (.int .u8 43) :: (.int .u8 222) :: (.int .u8 143) :: (.int .u8 29) :: (.int .u8 210) :: (.int .u8 188) :: (.int .u8 35) :: (.int .u8 66) :: (.int .u8 31) :: (.int .u8 219) :: (.int .u8 29) :: (.int .u8 161) :: (.slice (some ⟨488, 0, (some 0)⟩) 1 1) :: (.slice (some ⟨486, 0, (some 0)⟩) 2 2) :: []))) 0
def ob_16 : AObj := .cells ((.int .i64 3) :: (.int .u8 7) :: (.int .u8 218) :: (.int .u8 153) :: (.int .u8 245) :: (.int .u8 22) :: (.int .u8 243) :: (.int .u8 57) :: (.int .u8 53) :: (.int .u8 12) :: (.int .u8 62) :: (.int .u8 187) :: (.int .u8 40) :: (.int .u8 219) :: (.int .u8 60) :: (.int .u8 114) :: (.int .u8 108) :: (.int .u8 145) :: (.int .u8 194) :: (.int .u8 110) :: (.int .u8 193) :: (.int .u8 43) :: (.int .u8 222) :: (.int .u8 143) :: (.int .u8 29) :: (.int .u8 210) :: (.int .u8 188) :: (.int .u8 35) :: (.int .u8 66) :: (.int .u8 31) :: (.int .u8 219) :: (.int .u8 29) :: (.int .u8 161) :: (.slice (some ⟨484, 0, none⟩) 0 0) :: []) 0
def ob_17 : AObj := .cells ((.string ⟨⟨[97]⟩⟩) :: (.int .i64 3) :: (.int .i64 4) :: rep 32 (.int .u8 0) ((.int .u8 6) :: (.int .u8 42) :: (.int .u8 8) :: (.int .u8 140) :: (.int .u8 251) :: (.int .u8 91) :: (.int .u8 124) :: (.int .u8 64) :: (.int .u8 45) :: (.int .u8 135) :: (.int .u8 23) :: (.int .u8 48) :: (.int .u8 171) :: (.int .u8 198) :: (.int .u8 50) :: (.int .u8 83) :: (.int .u8 6) :: (.int .u8 143) :: (.int .u8 224) :: (.int .u8 191) :: (.int .u8 80) :: (.int .u8 205) :: (.int .u8 63) :: (.int .u8 101) :: (.int .u8 68) :: (.int .u8 82) :: (.int .u8 26) :: (.int .u8 114) :: (.int .u8 181) :: (.int .u8 102) :: (.int .u8 136) :: (.int .u8 230) :: rep 64 (.int .u8 0) ((.int .i64 3) :: (.int .u8 7) :: (.int .u8 218) :: (.int .u8 153) :: (.int .u8 245) :: (.int .u8 22) :: (.int .u8 243) :: (.int .u8 57) :: (.int .u8 53) :: (.int .u8 12) :: (.int .u8 62) :: (.int .u8 187) :: (.int .u8 40) :: (.int .u8 219) :: (.int .u8 60) :: (.int .u8 114) :: (.int .u8 108) :: (.int .u8 145) :: (.int .u8 194) :: (.int .u8 110) :: (.int .u8 193) :: (.int .u8 43) :: (.int .u8 222) :: (.int .u8 143) :: (.int .u8 29) :: (.int .u8 210) :: (.int .u8 188) :: (.int .u8 35) :: (.int .u8 66) :: (.int .u8 31) :: (.int .u8 219) :: (.int .u8 29) :: (.int .u8 161) :: (.slice (some ⟨484, 0, none⟩) 0 0) :: (.slice (some ⟨486, 0, (some 0)⟩) 2 2) :: []))) 0
def va_18 : Value := .agg ⟨(.string ⟨⟨[97]⟩⟩) :: (.int .i64 3) :: (.int .i64 4) :: rep 32 (.int .u8 0) ((.int .u8 6) :: (.int .u8 42) :: (.int .u8 8) :: (.int .u8 140) :: (.int .u8 251) :: (.int .u8 91) :: (.int .u8 124) :: (.int .u8 64) :: (.int .u8 45) :: (.int .u8 135) :: (.int .u8 23) :: (.int .u8 48) :: (.int .u8 171) :: (.int .u8 198) :: (.int .u8 50) :: (.int .u8 83) :: (.int .u8 6) :: (.int .u8 143) :: (.int .u8 224) :: (.int .u8 191) :: (.int .u8 80) :: (.int .u8 205) :: (.int .u8 63) :: (.int .u8 101) :: (.int .u8 68) :: (.int .u8 82) :: (.int .u8 26) :: (.int .u8 114) :: (.int .u8 181) :: (.int .u8 102) :: (.int .u8 136) :: (.int .u8 230) :: rep 64 (.int .u8 0) ((.int .i64 3) :: (.int .u8 7) :: (.int .u8 218) :: (.int .u8 153) :: (.int .u8 245) :: (.int .u8 22) :: (.int .u8 243) :: (.int .u8 57) :: (.int .u8 53) :: (.int .u8 12) :: (.int .u8 62) :: (.int .u8 187) :: (.int .u8 40) :: (.int .u8 219) :: (.int .u8 60) :: (.int .u8 114) :: (.int .u8 108) :: (.int .u8 145) :: (.int .u8 194) :: (.int .u8 110) :: (.int .u8 193) :: (.int .u8 43) :: (.int .u8 222) :: (.int .u8 143) :: (.int .u8 29) :: (.int .u8 210) :: (.int .u8 188) :: (.int .u8 35) :: (.int .u8 66) :: (.int .u8 31) :: (.int .u8 219) :: (.int .u8 29) :: (.int .u8 161) :: (.slice (some ⟨615, 0, (some 0)⟩) 1 1) :: (.slice (some ⟨613, 0, (some 0)⟩) 2 2) :: []))⟩
def ob_19 : AObj := .cells ((.string ⟨⟨[97]⟩⟩) :: (.int .i64 3) :: (.int .i64 4) :: rep 32 (.int .u8 0) ((.int .u8 6) :: (.int .u8 42) :: (.int .u8 8) :: (.int .u8 140) :: (.int .u8 251) :: (.int .u8 91) :: (.int .u8 124) :: (.int .u8 64) :: (.int .u8 45) :: (.int .u8 135) :: (.int .u8 23) :: (.int .u8 48) :: (.int .u8 171) :: (.int .u8 198) :: (.int .u8 50) :: (.int .u8 83) :: (.int .u8 6) :: (.int .u8 143) :: (.int .u8 224) :: (.int .u8 191) :: (.int .u8 80) :: (.int .u8 205) :: (.int .u8 63) :: (.int .u8 101) :: (.int .u8 68) :: (.int .u8 82) :: (.int .u8 26) :: (.int .u8 114) :: (.int .u8 181) :: (.int .u8 102) :: (.int .u8 136) :: (.int .u8 230) :: rep 64 (.int .u8 0) ((.int .i64 3) :: (.int .u8 7) :: (.int .u8 218) :: (.int .u8 153) :: (.int .u8 245) :: (.int .u8 22) :: (.int .u8 243) :: (.int .u8 57) :: (.int .u8 53) :: (.int .u8 12) :: (.int .u8 62) :: (.int .u8 187) :: (.int .u8 40) :: (.int .u8 219) :: (.int .u8 60) :: (.int .u8 114) :: (.int .u8 108) :: (.int .u8 145) :: (.int .u8 194) :: (.int .u8 110) :: (.int .u8 193) :: (.int .u8 43) :: (.int .u8 222) :: (.int .u8 143) :: (.int .u8 29) :: (.int .u8 210) :: (.int .u8 188) :: (.int .u8 35) :: (.int .u8 66) :: (.int .u8 31) :: (.int .u8 219) :: (.int .u8 29) :: (.int .u8 161) :: (.slice (some ⟨611, 0, none⟩) 0 0) :: (.slice (some ⟨613, 0, (some 0)⟩) 2 2) :: []))) 0
def ob_20 : AObj := .cells ((.int .i64 3) :: (.int .u8 7) :: (.int .u8 218) :: (.int .u8 153) :: (.int .u8 245) :: (.int .u8 22) :: (.int .u8 243) :: (.int .u8 57) :: (.int .u8 53) :: (.int .u8 12) :: (.int .u8 62) :: (.int .u8 187) :: (.int .u8 40) :: (.int .u8 219) :: (.int .u8 60) :: (.int .u8 114) :: (.int .u8 108) :: (.int .u8 145) :: (.int .u8 194) :: (.int .u8 110) :: (.int .u8 193) :: (.int .u8 43) :: (.int .u8 222) :: (.int .u8 143) :: (.int .u8 29) :: (.int .u8 210) :: (.int .u8 188) :: (.int .u8 35) :: (.int .u8 66) :: (.int .u8 31) :: (.int .u8 219) :: (.int .u8 29) :: (.int .u8 161) :: (.slice (some ⟨611, 0, none⟩) 0 0) :: []) 0
def ob_21 : AObj := .cells ((.string ⟨⟨[97]⟩⟩) :: (.int .i64 3) :: (.int .i64 4) :: rep 32 (.int .u8 0) ((.int .u8 6) :: (.int .u8 42) :: (.int .u8 8) :: (.int .u8 140) :: (.int .u8 251) :: (.int .u8 91) :: (.int .u8 124) :: (.int .u8 64) :: (.int .u8 45) :: (.int .u8 135) :: (.int .u8 23) :: (.int .u8 48) :: (.int .u8 171) :: (.int .u8 198) :: (.int .u8 50) :: (.int .u8 83) :: (.int .u8 6) :: (.int .u8 143) :: (.int .u8 224) :: (.int .u8 191) :: (.int .u8 80) :: (.int .u8 205) :: (.int .u8 63) :: (.int .u8 101) :: (.int .u8 68) :: (.int .u8 82) :: (.int .u8 26) :: (.int .u8 114) :: (.int .u8 181) :: (.int .u8 102) :: (.int .u8 136) :: (.int .u8 230) :: rep 64 (.int .u8 0) ((.int .i64 3) :: (.int .u8 7) :: (.int .u8 218) :: (.int .u8 153) :: (.int .u8 245) :: (.int .u8 22) :: (.int .u8 243) :: (.int .u8 57) :: (.int .u8 53) :: (.int .u8 12) :: (.int .u8 62) :: (.int .u8 187) :: (.int .u8 40) :: (.int .u8 219) :: (.int .u8 60) :: (.int .u8 114) :: (.int .u8 108) :: (.int .u8 145) :: (.int .u8 194) :: (.int .u8 110) :: (.int .u8 193) :: (.int .u8 43) :: (.int .u8 222) :: (.int .u8 143) :: (.int .u8 29) :: (.int .u8 210) :: (.int .u8 188) :: (.int .u8 35) :: (.int .u8 66) :: (.int .u8 31) :: (.int .u8 219) :: (.int .u8 29) :: (.int .u8 161) :: (.slice (some ⟨615, 0, (some 0)⟩) 1 1) :: (.slice (some ⟨613, 0, (some 0)⟩) 2 2) :: []))) 0
def va_22 : Value := .agg ⟨(.string ⟨⟨[97]⟩⟩) :: (.int .i64 3) :: (.int .i64 4) :: rep 32 (.int .u8 0) ((.int .u8 6) :: (.int .u8 42) :: (.int .u8 8) :: (.int .u8 140) :: (.int .u8 251) :: (.int .u8 91) :: (.int .u8 124) :: (.int .u8 64) :: (.int .u8 45) :: (.int .u8 135) :: (.int .u8 23) :: (.int .u8 48) :: (.int .u8 171) :: (.int .u8 198) :: (.int .u8 50) :: (.int .u8 83) :: (.int .u8 6) :: (.int .u8 143) :: (.int .u8 224) :: (.int .u8 191) :: (.int .u8 80) :: (.int .u8 205) :: (.int .u8 63) :: (.int .u8 101) :: (.int .u8 68) :: (.int .u8 82) :: (.int .u8 26) :: (.int .u8 114) :: (.int .u8 181) :: (.int .u8 102) :: (.int .u8 136) :: (.int .u8 230) :: rep 64 (.int .u8 0) ((.int .i64 4) :: (.int .u8 7) :: (.int .u8 218) :: (.int .u8 153) :: (.int .u8 245) :: (.int .u8 22) :: (.int .u8 243) :: (.int .u8 57) :: (.int .u8 53) :: (.int .u8 12) :: (.int .u8 62) :: (.int .u8 187) :: (.int .u8 40) :: (.int .u8 219) :: (.int .u8 60) :: (.int .u8 114) :: (.int .u8 108) :: (.int .u8 145) :: (.int .u8 194) :: (.int .u8 110) :: (.int .u8 193) :: (.int .u8 43) :: (.int .u8 222) :: (.int .u8 143) :: (.int .u8 29) :: (.int .u8 210) :: (.int .u8 188) :: (.int .u8 35) :: (.int .u8 66) :: (.int .u8 31) :: (.int .u8 219) :: (.int .u8 29) :: (.int .u8 161) :: (.slice (some ⟨361, 0, none⟩) 0 0) :: (.slice (some ⟨363, 0, (some 0)⟩) 2 2) :: []))⟩
def tr_1 : Tr := .node .dead .nil .nil
def tr_2 : Tr := .node .dead tr_1 .nil
def tr_3 : Tr := .node .dead tr_2 tr_2
def tr_4 : Tr := .node .dead tr_2 tr_1
def tr_5 : Tr := .node .dead tr_3 tr_4
def tr_6 : Tr := .node .dead tr_5 tr_5
def tr_7 : Tr := .node ob_5 .nil .nil
def tr_8 : Tr := .node .dead tr_7 .nil
def tr_9 : Tr := .node .dead tr_2 tr_8
def tr_10 : Tr := .node .dead tr_9 tr_4
def tr_11 : Tr := .node .dead tr_5 tr_10
def tr_12 : Tr := .node ob_3 tr_6 tr_11
def tr_13 : Tr := .node ob_6 .nil .nil
def tr_14 : Tr := .node .dead tr_13 .nil
def tr_15 : Tr := .node .dead (.node .dead tr_3 (.node .dead tr_2 tr_14)) tr_5
def tr_16 : Tr := .node .dead tr_1 tr_1
def tr_17 : Tr := .node .dead tr_16 tr_2
def tr_18 : Tr := .node .dead tr_17 tr_17
def tr_19 : Tr := .node .dead tr_17 tr_3
def tr_20 : Tr := .node .dead tr_18 tr_19
def tr_21 : Tr := .node .dead (.node ob_2 (.node .dead (.node .dead tr_18 (.node .dead tr_17 (.node .dead (.node ob_6 tr_1 tr_1) tr_2))) tr_20) (.node .dead tr_20 tr_20)) (.node ob_3 (.node .dead (.node .dead tr_18 (.node .dead tr_17 (.node .dead (.node .dead tr_1 (.node ob_7 .nil .nil)) tr_2))) tr_20) (.node .dead tr_20 (.node .dead (.node .dead tr_17 (.node .dead (.node ob_5 tr_1 tr_1) tr_2)) tr_19)))
def tr_22 : Tr := .node .dead tr_3 tr_3
def tr_23 : Tr := .node .dead tr_22 tr_5
def tr_24 : Tr := .node .dead (.node ob_6 tr_2 tr_2) tr_4
def tr_25 : Tr := .node .dead tr_6 tr_6
def tr_26 : Tr := .node .dead (.node .dead tr_2 (.node ob_7 tr_1 .nil)) tr_4
def tr_27 : Tr := .node .dead (.node ob_5 tr_2 tr_2) tr_4
def tr_28 : Tr := .node ob_9 .nil .nil
def tr_29 : Tr := .node .dead tr_28 .nil
def tr_30 : Tr := .node .dead tr_22 (.node .dead tr_3 (.node .dead tr_2 tr_29))
def tr_31 : Tr := .node ob_10 .nil .nil
def tr_32 : Tr := .node .dead tr_31 .nil
def tr_33 : Tr := .node .dead tr_3 (.node .dead tr_2 tr_32)
def tr_34 : Tr := .node ob_11 .nil .nil
def tr_35 : Tr := .node .dead tr_34 .nil
def tr_36 : Tr := .node .dead (.node .dead tr_3 (.node .dead tr_2 tr_35)) tr_5
def tr_37 : Tr := .node (.cells [] 0) .nil .nil
def tr_38 : Tr := .node .dead tr_37 .nil
def tr_39 : Tr := .node .dead tr_3 (.node .dead tr_2 tr_38)
def tr_40 : Tr := .node ob_12 .nil .nil
def tr_41 : Tr := .node .dead tr_40 .nil
def tr_42 : Tr := .node .dead tr_3 (.node .dead tr_2 tr_41)
def tr_43 : Tr := .node (.cells [(.int .i64 0), (.int .i64 0)] 0) .nil .nil
def tr_44 : Tr := .node .dead tr_43 .nil
def tr_45 : Tr := .node ob_13 .nil .nil
def tr_46 : Tr := .node .dead tr_45 .nil
def tr_47 : Tr := .node .dead tr_16 tr_16
def tr_48 : Tr := .node .dead tr_47 tr_17
def tr_49 : Tr := .node .dead tr_47 (.node .dead tr_16 tr_29)
def tr_50 : Tr := .node .dead tr_48 tr_49
def tr_51 : Tr := .node .dead tr_47 (.node .dead tr_16 tr_32)
def tr_52 : Tr := .node .dead (.node ob_6 tr_16 tr_16) tr_17
def tr_53 : Tr := .node .dead (.node .dead tr_47 (.node .dead tr_16 tr_35)) tr_48
def tr_54 : Tr := .node .dead (.node .dead tr_47 (.node .dead tr_16 tr_8)) tr_48
def tr_55 : Tr := .node .dead tr_48 tr_48
def tr_56 : Tr := .node .dead tr_47 (.node .dead tr_16 tr_38)
def tr_57 : Tr := .node .dead tr_56 tr_48
def tr_58 : Tr := .node .dead tr_47 (.node .dead tr_16 tr_41)
def tr_59 : Tr := .node .dead (.node .dead tr_16 (.node ob_7 tr_1 tr_1)) tr_17
def tr_60 : Tr := .node .dead (.node .dead tr_47 (.node .dead tr_16 tr_46)) tr_48
def tr_61 : Tr := .node .dead tr_7 tr_1
def tr_62 : Tr := .node .dead tr_56 (.node .dead (.node .dead tr_16 tr_61) tr_17)
def tr_63 : Tr := .node .dead (.node ob_5 tr_16 tr_16) tr_17
def tr_64 : Tr := .node .dead tr_47 (.node .dead tr_16 tr_14)
def tr_65 : Tr := .node ob_15 .nil .nil
def tr_66 : Tr := .node .dead tr_1 tr_65
def tr_67 : Tr := .node .dead tr_16 tr_66
def tr_68 : Tr := .node (.cells [(.int .i64 1), (.int .u64 9)] 0) .nil .nil
def tr_69 : Tr := .node .dead tr_31 tr_68
def tr_70 : Tr := .node ob_16 .nil .nil
def tr_71 : Tr := .node .dead tr_34 tr_70
def tr_72 : Tr := .node ob_17 .nil .nil
def tr_73 : Tr := .node .dead tr_1 tr_72
def tr_74 : Tr := .node .dead tr_47 (.node .dead tr_16 tr_73)
def tr_75 : Tr := .node .dead tr_40 tr_37
def tr_76 : Tr := .node (.cells [(.int .i64 1), (.int .u64 9)] 2) .nil .nil
def tr_77 : Tr := .node .dead tr_31 tr_76
def tr_78 : Tr := .node .dead tr_43 tr_37
def tr_79 : Tr := .node .dead tr_1 tr_70
def tr_80 : Tr := .node .dead tr_40 tr_7
def tr_81 : Tr := .node .dead tr_4 tr_4
def tr_82 : Tr := .node .dead tr_4 tr_66
def tr_83 : Tr := .node .dead tr_81 (.node .dead tr_4 (.node .dead tr_28 tr_1))
def tr_84 : Tr := .node .dead tr_4 tr_16
def tr_85 : Tr := .node .dead (.node ob_6 tr_4 tr_4) tr_84
def tr_86 : Tr := .node .dead tr_81 tr_84
def tr_87 : Tr := .node .dead (.node .dead tr_81 (.node .dead tr_4 tr_61)) tr_86
def tr_88 : Tr := .node .dead tr_81 (.node .dead tr_4 tr_73)
def tr_89 : Tr := .node .dead tr_81 (.node .dead tr_4 (.node .dead tr_37 tr_1))
def tr_90 : Tr := .node .dead tr_89 tr_86
def tr_91 : Tr := .node .dead tr_81 (.node .dead tr_4 (.node .dead tr_34 tr_1))
def tr_92 : Tr := .node .dead (.node .dead tr_81 (.node .dead tr_4 tr_77)) (.node .dead (.node .dead tr_4 (.node ob_7 tr_2 tr_1)) tr_84)
def tr_93 : Tr := .node .dead (.node .dead tr_81 (.node .dead tr_4 (.node .dead tr_45 tr_1))) tr_86
def tr_94 : Tr := .node ob_5 tr_1 .nil
def tr_95 : Tr := .node .dead tr_94 tr_1
def tr_96 : Tr := .node .dead tr_89 (.node .dead (.node .dead tr_4 tr_95) tr_84)
def tr_97 : Tr := .node .dead (.node ob_5 tr_4 tr_4) tr_84
def tr_98 : Tr := .node .dead tr_81 (.node .dead tr_4 (.node .dead tr_13 tr_1))
def tr_99 : Tr := .node .dead (.node ob_19 .nil .nil) .nil
def tr_100 : Tr := .node .dead tr_99 tr_65
def tr_101 : Tr := .node ob_10 (.node (.cells [(.int .i64 2), (.int .u64 9)] 2) .nil .nil) .nil
def tr_102 : Tr := .node .dead tr_101 tr_68
def tr_103 : Tr := .node ob_11 tr_37 .nil
def tr_104 : Tr := .node .dead tr_103 tr_70
def tr_105 : Tr := .node .dead (.node ob_20 .nil .nil) .nil
def tr_106 : Tr := .node .dead tr_105 tr_72
def tr_107 : Tr := .node ob_12 tr_7 .nil
def tr_108 : Tr := .node .dead tr_107 tr_37
def tr_109 : Tr := .node .dead (.node ob_21 .nil .nil) .nil
def tr_110 : Tr := .node .dead tr_109 tr_1
def tr_111 : Tr := .node .dead tr_99 tr_72
def tr_112 : Tr := .node (.cells [(.int .i64 0), (.int .i64 0)] 0) tr_37 .nil
def tr_113 : Tr := .node .dead tr_112 tr_37
def tr_114 : Tr := .node .dead tr_105 tr_70
def tr_115 : Tr := .node ob_12 (.node (.cells [(.int .i64 2), (.int .u64 9)] 0) .nil .nil) .nil
def tr_116 : Tr := .node .dead tr_115 tr_7
def tr_117 : Tr := .node .dead tr_109 tr_65
def tr_118 : Tr := .node ob_9 tr_1 .nil
def tr_119 : Tr := .node .dead tr_22 (.node .dead tr_3 (.node .dead tr_118 tr_1))
def tr_120 : Tr := .node .dead tr_3 tr_95
def tr_121 : Tr := .node (.cells [] 0) tr_1 .nil
def tr_122 : Tr := .node .dead tr_22 (.node .dead tr_3 (.node .dead tr_121 tr_1))
def tr_123 : Tr := .node ob_11 tr_1 .nil
def tr_124 : Tr := .node ob_10 tr_1 .nil
def tr_125 : Tr := .node ob_7 tr_2 tr_2
def tr_126 : Tr := .node ob_13 tr_1 .nil
def tr_127 : Tr := .node ob_6 tr_1 .nil
def tr_128 : Tr := .node .dead (.node ob_2 (.node .dead (.node .dead (.node .dead (.node .dead tr_22 (.node .dead tr_3 tr_100)) tr_119) (.node .dead (.node .dead tr_22 (.node .dead tr_3 tr_102)) (.node .dead (.node ob_6 tr_3 tr_3) tr_5))) (.node .dead (.node .dead (.node .dead tr_22 (.node .dead tr_3 tr_104)) tr_23) (.node .dead (.node .dead tr_22 tr_120) tr_6))) (.node .dead (.node .dead (.node .dead (.node .dead tr_22 (.node .dead tr_3 tr_106)) tr_23) (.node .dead tr_122 tr_23)) (.node .dead (.node .dead (.node .dead tr_22 (.node .dead tr_3 tr_108)) tr_23) (.node .dead (.node .dead tr_22 (.node .dead tr_3 (.node .dead tr_123 tr_1))) (.node .dead (.node .dead tr_3 tr_110) tr_5))))) (.node ob_3 (.node .dead (.node .dead (.node .dead (.node .dead tr_22 (.node .dead tr_3 tr_111)) tr_119) (.node .dead (.node .dead tr_22 (.node .dead tr_3 (.node .dead tr_124 tr_76))) (.node .dead (.node .dead tr_3 tr_125) tr_5))) (.node .dead (.node .dead (.node .dead tr_22 (.node .dead tr_3 tr_113)) tr_23) (.node .dead (.node .dead tr_22 (.node .dead tr_3 (.node .dead tr_126 tr_1))) tr_6))) (.node .dead (.node .dead (.node .dead (.node .dead tr_22 (.node .dead tr_3 tr_114)) tr_23) (.node .dead tr_122 (.node .dead tr_120 tr_5))) (.node .dead (.node .dead (.node .dead tr_22 (.node .dead tr_3 tr_116)) (.node .dead (.node ob_5 tr_3 tr_3) tr_5)) (.node .dead (.node .dead tr_22 (.node .dead tr_3 (.node .dead tr_127 tr_1))) (.node .dead (.node .dead tr_3 tr_117) tr_5)))))
def tr_129 : Tr := .node ob_15 tr_1 .nil
def tr_130 : Tr := .node .dead tr_19 (.node .dead tr_17 (.node .dead tr_118 tr_2))
def tr_131 : Tr := .node ob_16 tr_1 .nil
def tr_132 : Tr := .node .dead tr_19 tr_19
def tr_133 : Tr := .node .dead tr_17 (.node .dead tr_94 tr_2)
def tr_134 : Tr := .node ob_17 tr_1 .nil
def tr_135 : Tr := .node .dead tr_19 (.node .dead tr_17 (.node .dead tr_121 tr_2))
end Go.Proofs.YtbmpalbdbcjieaaGreat.R

namespace Go.Proofs.YtbmpalbdbcjieaaGreat.R
open Go Go.Vm
set_option maxRecDepth 100000
def ma_1 : List Value := [va_1, (.slice (some ⟨2, 0, none⟩) 2 2)]
def mh_1 : Heap := ⟨3, (.node .dead (.node ob_2 .nil .nil) (.node ob_3 .nil .nil))⟩
def mo_1 : List CO := [(.ret (.tuple ⟨[va_4, (.int .i64 0)]⟩) ⟨87, (.node .dead (.node ob_2 tr_6 tr_6) tr_12)⟩)]
theorem me_1 : fewOK (xcall Tryz.prog tabS 1000 60 (.fn 9) ma_1 mh_1) mo_1 = true := by kernel_rfl
def ma_2 : List Value := [va_4]
def mh_2 : Heap := ⟨88, (.node .dead (.node ob_2 tr_15 tr_6) tr_12)⟩
def mo_2 : List CO := [(.ret (.tuple ⟨[(.slice (some ⟨216, 0, (some 0)⟩) 190 190), (.int .i64 0)]⟩) ⟨217, tr_21⟩)]
theorem me_2 : fewOK (xcall Tryz.prog tabS 1000 60 (.fn 22) ma_2 mh_2) mo_2 = true := by kernel_rfl
def ma_3 : List Value := [(.slice (some ⟨216, 0, (some 0)⟩) 190 190)]
def mh_3 : Heap := ⟨217, tr_21⟩
def mo_3 : List CO := [(.ret (.tuple ⟨[va_8, (.agg ⟨[(.int .i64 0), (.int .i64 0)]⟩)]⟩) ⟨355, (.node .dead (.node ob_2 (.node .dead (.node .dead tr_23 (.node .dead tr_5 tr_24)) tr_25) (.node .dead (.node .dead tr_23 tr_6) tr_25)) (.node ob_3 (.node .dead (.node .dead tr_23 (.node .dead tr_5 tr_26)) tr_25) (.node .dead (.node .dead tr_23 tr_11) (.node .dead (.node .dead tr_5 tr_27) tr_6))))⟩)]
theorem me_3 : fewOK (xcall Tryz.prog tabS 1000 60 (.fn 15) ma_3 mh_3) mo_3 = true := by kernel_rfl
def ma_4 : List Value := [va_4]
def mh_4 : Heap := ⟨369, (.node .dead (.node ob_2 (.node .dead (.node .dead tr_30 (.node .dead tr_33 tr_24)) (.node .dead tr_36 (.node .dead (.node .dead tr_3 tr_9) tr_5))) (.node .dead (.node .dead tr_23 (.node .dead tr_39 tr_5)) (.node .dead (.node .dead tr_42 tr_5) tr_36))) (.node ob_3 (.node .dead (.node .dead tr_30 (.node .dead tr_33 tr_26)) (.node .dead (.node .dead (.node .dead tr_3 (.node .dead tr_2 tr_44)) tr_5) (.node .dead (.node .dead tr_3 (.node .dead tr_2 tr_46)) tr_5))) (.node .dead (.node .dead tr_23 (.node .dead tr_39 tr_10)) (.node .dead (.node .dead tr_42 tr_27) tr_15))))⟩
def mo_4 : List CO := [(.ret (.int .i64 0) ⟨478, (.node .dead (.node ob_2 (.node .dead (.node .dead tr_50 (.node .dead tr_51 tr_52)) (.node .dead tr_53 tr_54)) (.node .dead (.node .dead tr_55 tr_57) (.node .dead (.node .dead tr_58 tr_48) tr_53))) (.node ob_3 (.node .dead (.node .dead tr_50 (.node .dead tr_51 tr_59)) (.node .dead (.node .dead (.node .dead tr_47 (.node .dead tr_16 tr_44)) tr_48) tr_60)) (.node .dead (.node .dead tr_55 tr_62) (.node .dead (.node .dead tr_58 tr_63) (.node .dead tr_64 tr_18)))))⟩)]
theorem me_4 : fewOK (xcall Tryz.prog tabS 1000 60 (.fn 21) ma_4 mh_4) mo_4 = true := by kernel_rfl
end Go.Proofs.YtbmpalbdbcjieaaGreat.R

namespace Go.Proofs.YtbmpalbdbcjieaaGreat.R
open Go Go.Vm
set_option maxRecDepth 100000
def ma_5 : List Value := [va_14]
def mh_5 : Heap := ⟨489, (.node .dead (.node ob_2 (.node .dead (.node .dead (.node .dead (.node .dead tr_47 tr_67) tr_49) (.node .dead (.node .dead tr_47 (.node .dead tr_16 tr_69)) tr_52)) (.node .dead (.node .dead (.node .dead tr_47 (.node .dead tr_16 tr_71)) tr_48) tr_54)) (.node .dead (.node .dead (.node .dead tr_74 tr_48) tr_57) (.node .dead (.node .dead (.node .dead tr_47 (.node .dead tr_16 tr_75)) tr_48) tr_53))) (.node ob_3 (.node .dead (.node .dead (.node .dead tr_74 tr_49) (.node .dead (.node .dead tr_47 (.node .dead tr_16 tr_77)) tr_59)) (.node .dead (.node .dead (.node .dead tr_47 (.node .dead tr_16 tr_78)) tr_48) tr_60)) (.node .dead (.node .dead (.node .dead (.node .dead tr_47 (.node .dead tr_16 tr_79)) tr_48) tr_62) (.node .dead (.node .dead (.node .dead tr_47 (.node .dead tr_16 tr_80)) tr_63) (.node .dead tr_64 (.node .dead tr_67 tr_17))))))⟩
def mo_5 : List CO := [(.ret (.int .i64 0) ⟨605, (.node .dead (.node ob_2 (.node .dead (.node .dead (.node .dead (.node .dead tr_81 tr_82) tr_83) (.node .dead (.node .dead tr_81 (.node .dead tr_4 tr_69)) tr_85)) (.node .dead (.node .dead (.node .dead tr_81 (.node .dead tr_4 tr_71)) tr_86) tr_87)) (.node .dead (.node .dead (.node .dead tr_88 tr_86) tr_90) (.node .dead (.node .dead (.node .dead tr_81 (.node .dead tr_4 tr_75)) tr_86) (.node .dead tr_91 (.node .dead tr_84 tr_84))))) (.node ob_3 (.node .dead (.node .dead (.node .dead tr_88 tr_83) tr_92) (.node .dead (.node .dead (.node .dead tr_81 (.node .dead tr_4 tr_78)) tr_86) tr_93)) (.node .dead (.node .dead (.node .dead (.node .dead tr_81 (.node .dead tr_4 tr_79)) tr_86) tr_96) (.node .dead (.node .dead (.node .dead tr_81 (.node .dead tr_4 tr_80)) tr_97) (.node .dead tr_98 (.node .dead tr_82 tr_84))))))⟩)]
theorem me_5 : fewOK (xcall Tryz.prog tabS 1000 60 (.fn 21) ma_5 mh_5) mo_5 = true := by kernel_rfl
def ma_6 : List Value := [va_18]
def mh_6 : Heap := ⟨616, (.node .dead (.node ob_2 (.node .dead (.node .dead (.node .dead (.node .dead tr_81 (.node .dead tr_4 tr_100)) tr_83) (.node .dead (.node .dead tr_81 (.node .dead tr_4 tr_102)) tr_85)) (.node .dead (.node .dead (.node .dead tr_81 (.node .dead tr_4 tr_104)) tr_86) tr_87)) (.node .dead (.node .dead (.node .dead (.node .dead tr_81 (.node .dead tr_4 tr_106)) tr_86) tr_90) (.node .dead (.node .dead (.node .dead tr_81 (.node .dead tr_4 tr_108)) tr_86) (.node .dead tr_91 (.node .dead (.node .dead tr_4 tr_110) tr_84))))) (.node ob_3 (.node .dead (.node .dead (.node .dead (.node .dead tr_81 (.node .dead tr_4 tr_111)) tr_83) tr_92) (.node .dead (.node .dead (.node .dead tr_81 (.node .dead tr_4 tr_113)) tr_86) tr_93)) (.node .dead (.node .dead (.node .dead (.node .dead tr_81 (.node .dead tr_4 tr_114)) tr_86) tr_96) (.node .dead (.node .dead (.node .dead tr_81 (.node .dead tr_4 tr_116)) tr_97) (.node .dead tr_98 (.node .dead (.node .dead tr_4 tr_117) tr_84))))))⟩
def mo_6 : List CO := [(.ret (.int .i64 3) ⟨730, tr_128⟩)]
theorem me_6 : fewOK (xcall Tryz.prog tabS 1000 60 (.fn 21) ma_6 mh_6) mo_6 = true := by kernel_rfl
def ma_7 : List Value := [va_22]
def mh_7 : Heap := ⟨730, tr_128⟩
def mo_7 : List CO := [(.ret (.int .i64 13) ⟨836, (.node .dead (.node ob_2 (.node .dead (.node .dead (.node .dead (.node .dead tr_18 (.node .dead tr_17 (.node .dead tr_99 tr_129))) tr_130) (.node .dead (.node .dead tr_19 (.node .dead tr_17 (.node .dead tr_101 (.node (.cells [(.int .i64 1), (.int .u64 9)] 0) tr_1 .nil)))) (.node .dead (.node ob_6 tr_17 tr_3) tr_19))) (.node .dead (.node .dead (.node .dead tr_18 (.node .dead tr_17 (.node .dead tr_103 tr_131))) tr_132) (.node .dead (.node .dead tr_19 tr_133) tr_132))) (.node .dead (.node .dead (.node .dead (.node .dead tr_18 (.node .dead tr_17 (.node .dead tr_105 tr_134))) tr_132) (.node .dead tr_135 tr_132)) (.node .dead (.node .dead (.node .dead tr_19 (.node .dead tr_17 (.node .dead tr_107 tr_121))) tr_132) (.node .dead (.node .dead tr_19 (.node .dead tr_17 (.node .dead tr_123 tr_2))) (.node .dead (.node .dead tr_17 (.node .dead tr_109 tr_2)) tr_19))))) (.node ob_3 (.node .dead (.node .dead (.node .dead (.node .dead tr_18 (.node .dead tr_17 (.node .dead tr_99 tr_134))) tr_130) (.node .dead (.node .dead tr_19 (.node .dead tr_17 (.node .dead tr_124 (.node (.cells [(.int .i64 1), (.int .u64 9)] 2) tr_1 .nil)))) (.node .dead (.node .dead tr_17 tr_125) tr_19))) (.node .dead (.node .dead (.node .dead tr_19 (.node .dead tr_17 (.node .dead tr_112 tr_121))) tr_132) (.node .dead (.node .dead tr_19 (.node .dead tr_17 (.node .dead tr_126 tr_2))) tr_132))) (.node .dead (.node .dead (.node .dead (.node .dead tr_18 (.node .dead tr_17 (.node .dead tr_105 tr_131))) tr_132) (.node .dead tr_135 (.node .dead tr_133 tr_19))) (.node .dead (.node .dead (.node .dead tr_19 (.node .dead tr_17 (.node .dead tr_115 tr_94))) (.node .dead (.node ob_5 tr_17 tr_3) tr_19)) (.node .dead (.node .dead tr_19 (.node .dead tr_17 (.node .dead tr_127 tr_2))) (.node .dead (.node .dead tr_17 (.node .dead tr_109 tr_129)) tr_19))))))⟩)]
theorem me_7 : fewOK (xcall Tryz.prog tabS 1000 60 (.fn 21) ma_7 mh_7) mo_7 = true := by kernel_rfl
end Go.Proofs.YtbmpalbdbcjieaaGreat.R

namespace Go.Proofs.YtbmpalbdbcjieaaGreat.R
open Go Go.Vm
set_option maxRecDepth 100000
def memo_9 : Memo := [(ma_1, mh_1, mo_1)]
theorem memo_9_ok : MemoF Tryz.prog 9 memo_9 := MemoF.cons tabS_ok me_1 (MemoF.nil)
def memo_15 : Memo := [(ma_3, mh_3, mo_3)]
theorem memo_15_ok : MemoF Tryz.prog 15 memo_15 := MemoF.cons tabS_ok me_3 (MemoF.nil)
def memo_21 : Memo := [(ma_4, mh_4, mo_4), (ma_5, mh_5, mo_5), (ma_6, mh_6, mo_6), (ma_7, mh_7, mo_7)]
theorem memo_21_ok : MemoF Tryz.prog 21 memo_21 := MemoF.cons tabS_ok me_4 (MemoF.cons tabS_ok me_5 (MemoF.cons tabS_ok me_6 (MemoF.cons tabS_ok me_7 (MemoF.nil))))
def memo_22 : Memo := [(ma_2, mh_2, mo_2)]
theorem memo_22_ok : MemoF Tryz.prog 22 memo_22 := MemoF.cons tabS_ok me_2 (MemoF.nil)
def tab : Table := (withMemo (withMemo (withMemo (withMemo tabS 9 memo_9) 15 memo_15) 21 memo_21) 22 memo_22)
theorem tab_ok : TableOK Tryz.prog tab := (withMemoF_ok (Checked.mixed Tryz.checked) (withMemoF_ok (Checked.mixed Tryz.checked) (withMemoF_ok (Checked.mixed Tryz.checked) (withMemoF_ok (Checked.mixed Tryz.checked) tabS_ok memo_9_ok) memo_15_ok) memo_21_ok) memo_22_ok)
end Go.Proofs.YtbmpalbdbcjieaaGreat.R
