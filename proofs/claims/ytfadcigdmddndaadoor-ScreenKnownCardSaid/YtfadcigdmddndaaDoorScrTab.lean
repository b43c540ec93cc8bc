/- The tables of the Screen statements. -/
import Derived.Test.YtfadcigdmddndaaDoorShY
set_option linter.unusedVariables false
set_option linter.unusedSimpArgs false
namespace Go.SH
def scr_bounds : List Int := [768, 879, 0, 1155, 1161, 0, 1425, 1469, 0, 1552, 1562, 0, 1611, 1631, 0, 4352, 4447, 2, 6832, 6911, 0, 7616, 7679, 0, 8203, 8207, 0, 8400, 8447, 0, 11904, 12350, 2, 12353, 42191, 2, 44032, 55203, 2, 63744, 64255, 2, 65024, 65039, 0, 65056, 65071, 0, 65072, 65135, 2, 65280, 65376, 2, 65504, 65510, 2, 127744, 128591, 2, 129280, 129535, 2, 131072, 262141, 2]
def scr_dB64 : List Int := [0, 1, 56, 2, 57, 49, 28, 3, 61, 58, 42, 50, 38, 29, 17, 4, 62, 47, 59, 36, 45, 43, 51, 22, 53, 39, 33, 30, 24, 18, 12, 5, 63, 55, 48, 27, 60, 41, 37, 16, 46, 35, 44, 21, 52, 32, 23, 11, 54, 26, 40, 15, 34, 20, 31, 10, 25, 14, 19, 9, 13, 8, 7, 6]
def scrG : List (Nat × List PV) := [(0, scr_bounds.map fun n => .int .i32 n), (1, scr_dB64.map fun n => .int .u8 n)]
end Go.SH
