/-
  Contracts and plain laws for the functions of this seat (texts joined: Shelf Inter Rank Open3 RecPair PushM PairsM MarkL MarkC MarkRec Work SidesOf TurnM Tab ModTab Times TabOk TabOk2 Img Val Pairs).
  Conditions: each text says its own.
-/
import Derived.Shelf.Small.Bits
import Derived.Shelf.Small.Wraps
import Derived.Shelf.Strconv.Itoa0
import Derived.Shelf.Strings.Search1
import Derived.Shelf.Strings.Search2
import Derived.Shelf.Strings.Search3
import Derived.Shelf.LaysM
import Derived.Shelf.Strings.Shaped
import Derived.Shelf.Strings.Prefix
import Derived.Shelf.Bits.Mul64
import Derived.Test.YtlohpphmamapeaaProg
import Derived.Lib.IndexMore
import Derived.BigQuiet
import Derived.Deep.RegionHeld3
import Derived.StillTailTactics
import Derived.Test.YtlohpphmamapeaaMt1
/-
  DERIVED: THE SHELF's CONTRACTS AT THIS DUMP, IN PLAIN WORDS (tools/lay-plain.mjs out of 'TryShelf.lean', which tools/lay-shelf.mjs wrote): THE SAME DECLARATIONS UNDER THE SAME NAMES: 'import', 'namespace', 'open', 'def', 'theorem' AND NOTHING ELSE: no command of the shelf's: FOR A HAND-IN. Each laying: the table of numbers ('.._ren') and one theorem, a field a fact of the dump's own or the kernel's comparison; each contract: ONE APPLICATION.
-/
namespace Go.Proofs
open Go.Shelf
def Try.lays128_ren : Go.Shelf.Ren := ⟨fun | 128 => 208 | n => n, fun | 51 => 192 | 3 => 3 | 4 => 4 | 46 => 178 | 5 => 5 | 9 => 9 | n => n, fun | n => n⟩
theorem Try.lays128 : Go.Proofs.Lays.n128 Try.prog Try.lays128_ren := {
  mixed := by kernel_rfl
  f128 := Try.func208.trans (congrArg some (by kernel_rfl))
  t3 := Try.underlying3
  a3 := Try.isAgg3
  z3 := Try.sizeOf3
  v3 := Try.zeroValue3
  t4 := Try.underlying4
  a4 := Try.isAgg4
  z4 := Try.sizeOf4
  v4 := Try.zeroValue4
  t5 := Try.underlying5
  a5 := Try.isAgg5
  z5 := Try.sizeOf5
  v5 := Try.zeroValue5
  t9 := Try.underlying9
  a9 := Try.isAgg9
  z9 := Try.sizeOf9
  v9 := Try.zeroValue9
  t46 := Try.underlying178
  a46 := Try.isAgg178
  z46 := Try.sizeOf178
  v46 := Try.zeroValue178
  t51 := Try.underlying192
  a51 := Try.isAgg192
  z51 := Try.sizeOf192
  v51 := Try.zeroValue192 }
/-- bits.Len32: "Len32 returns the minimum number of bits required to represent x; the result is 0 for x == 0.": IT RETURNS 'Lib.bitLen x'; the world is as it was. ('h0', 'h1': x is a uint32.) (LAID: no walk: one application.) -/
theorem Try.bits_Len32 (x : Int) (w : World) (h0 : 0 ≤ x) (h1 : x ≤ 4294967295) :
    Calls Try.prog 208 #[.int .u32 x] w fun e w' => e = .returned (.int .i64 (Lib.bitLen x.toNat)) ∧ w' = w := Any.bits_Len32 Try.lays128 x w h0 h1
def Try.lays125_ren : Go.Shelf.Ren := ⟨fun | 125 => 187 | 128 => 208 | 129 => 209 | n => n, fun | 46 => 178 | 3 => 3 | 51 => 192 | 53 => 195 | 4 => 4 | 5 => 5 | 9 => 9 | n => n, fun | n => n⟩
theorem Try.lays125 : Go.Proofs.Lays.n125 Try.prog Try.lays125_ren := {
  mixed := by kernel_rfl
  f125 := Try.func187.trans (congrArg some (by kernel_rfl))
  f128 := Try.func208.trans (congrArg some (by kernel_rfl))
  f129 := Try.func209.trans (congrArg some (by kernel_rfl))
  t3 := Try.underlying3
  a3 := Try.isAgg3
  z3 := Try.sizeOf3
  v3 := Try.zeroValue3
  t4 := Try.underlying4
  a4 := Try.isAgg4
  z4 := Try.sizeOf4
  v4 := Try.zeroValue4
  t5 := Try.underlying5
  a5 := Try.isAgg5
  z5 := Try.sizeOf5
  v5 := Try.zeroValue5
  t9 := Try.underlying9
  a9 := Try.isAgg9
  z9 := Try.sizeOf9
  v9 := Try.zeroValue9
  t46 := Try.underlying178
  a46 := Try.isAgg178
  z46 := Try.sizeOf178
  v46 := Try.zeroValue178
  t51 := Try.underlying192
  a51 := Try.isAgg192
  z51 := Try.sizeOf192
  v51 := Try.zeroValue192
  t53 := Try.underlying195
  a53 := Try.isAgg195
  z53 := Try.sizeOf195
  v53 := Try.zeroValue195 }
/-- bits.Len: "Len returns the minimum number of bits required to represent x; the result is 0 for x == 0.": IT RETURNS 'Lib.bitLen x'; the world is as it was. (A uint has 64 bits in the model.) ITS CALLEE bits.Len64 IS MET BY ITS OWN CONTRACT OFF THE SHELF (lay that first). (LAID: no walk: one application.) -/
theorem Try.bits_Len (x : Int) (w : World) (h0 : 0 ≤ x) (h1 : x ≤ 18446744073709551615) :
    Calls Try.prog 187 #[.int .u64 x] w fun e w' => e = .returned (.int .i64 (Lib.bitLen x.toNat)) ∧ w' = w := Any.bits_Len Try.lays125 x w h0 h1
def Try.lays215_ren : Go.Shelf.Ren := ⟨fun | 215 => 197 | n => n, fun | 3 => 3 | 4 => 4 | n => n, fun | n => n⟩
theorem Try.lays215 : Go.Proofs.Lays.n215 Try.prog Try.lays215_ren := {
  mixed := by kernel_rfl
  f215 := Try.func197.trans (congrArg some (by kernel_rfl))
  t3 := Try.underlying3
  a3 := Try.isAgg3
  z3 := Try.sizeOf3
  v3 := Try.zeroValue3
  t4 := Try.underlying4
  a4 := Try.isAgg4
  z4 := Try.sizeOf4
  v4 := Try.zeroValue4 }
open Go.RowKit in
/-- cmp.isNaN at int: 'x != x': false. (LAID: no walk: one application.) -/
theorem Try.cmp_isNaN_int (x : Int) (w : World) :
    Calls Try.prog 197 #[.int .i64 x] w fun e w' => e = .returned (.bool false) ∧ w' = w := Any.cmp_isNaN_int Try.lays215 x w
def Try.lays122_ren : Go.Shelf.Ren := ⟨fun | 122 => 182 | 215 => 197 | n => n, fun | 3 => 3 | 4 => 4 | n => n, fun | n => n⟩
theorem Try.lays122 : Go.Proofs.Lays.n122 Try.prog Try.lays122_ren := {
  mixed := by kernel_rfl
  f122 := Try.func182.trans (congrArg some (by kernel_rfl))
  f215 := Try.func197.trans (congrArg some (by kernel_rfl))
  t3 := Try.underlying3
  a3 := Try.isAgg3
  z3 := Try.sizeOf3
  v3 := Try.zeroValue3
  t4 := Try.underlying4
  a4 := Try.isAgg4
  z4 := Try.sizeOf4
  v4 := Try.zeroValue4 }
open Go.RowKit in
/-- cmp.Compare at int: "Compare returns -1 if x is less than y, 0 if x equals y, +1 if x is greater than y.": IT RETURNS 'Lib.compareInt x y'; the world is as it was. (LAID: no walk: one application.) -/
theorem Try.cmp_Compare_int (x y : Int) (w : World) :
    Calls Try.prog 182 #[.int .i64 x, .int .i64 y] w fun e w' => e = .returned (.int .i64 (Lib.compareInt x y)) ∧ w' = w := Any.cmp_Compare_int Try.lays122 x y w
def Try.lays129_ren : Go.Shelf.Ren := ⟨fun | 129 => 209 | n => n, fun | 53 => 195 | 3 => 3 | 4 => 4 | 46 => 178 | 5 => 5 | 9 => 9 | n => n, fun | n => n⟩
theorem Try.lays129 : Go.Proofs.Lays.n129 Try.prog Try.lays129_ren := {
  mixed := by kernel_rfl
  f129 := Try.func209.trans (congrArg some (by kernel_rfl))
  t3 := Try.underlying3
  a3 := Try.isAgg3
  z3 := Try.sizeOf3
  v3 := Try.zeroValue3
  t4 := Try.underlying4
  a4 := Try.isAgg4
  z4 := Try.sizeOf4
  v4 := Try.zeroValue4
  t5 := Try.underlying5
  a5 := Try.isAgg5
  z5 := Try.sizeOf5
  v5 := Try.zeroValue5
  t9 := Try.underlying9
  a9 := Try.isAgg9
  z9 := Try.sizeOf9
  v9 := Try.zeroValue9
  t46 := Try.underlying178
  a46 := Try.isAgg178
  z46 := Try.sizeOf178
  v46 := Try.zeroValue178
  t53 := Try.underlying195
  a53 := Try.isAgg195
  z53 := Try.sizeOf195
  v53 := Try.zeroValue195 }
/-- bits.Len64: "Len64 returns the minimum number of bits required to represent x; the result is 0 for x == 0.": IT RETURNS 'Lib.bitLen x'; the world is as it was. ('h0', 'h1': x is a uint64.) (LAID: no walk: one application.) -/
theorem Try.bits_Len64 (x : Int) (w : World) (h0 : 0 ≤ x) (h1 : x ≤ 18446744073709551615) :
    Calls Try.prog 209 #[.int .u64 x] w fun e w' => e = .returned (.int .i64 (Lib.bitLen x.toNat)) ∧ w' = w := Any.bits_Len64 Try.lays129 x w h0 h1
def Try.lays217_ren : Go.Shelf.Ren := ⟨fun | 217 => 190 | 266 => 210 | n => n, fun | 9 => 9 | 5 => 5 | 3 => 3 | n => n, fun | n => n⟩
theorem Try.lays217 : Go.Proofs.Lays.n217 Try.prog Try.lays217_ren := {
  mixed := by kernel_rfl
  f217 := Try.func190.trans (congrArg some (by kernel_rfl))
  f266 := Try.func210.trans (congrArg some (by kernel_rfl))
  t3 := Try.underlying3
  a3 := Try.isAgg3
  z3 := Try.sizeOf3
  v3 := Try.zeroValue3
  t5 := Try.underlying5
  a5 := Try.isAgg5
  z5 := Try.sizeOf5
  v5 := Try.zeroValue5
  t9 := Try.underlying9
  a9 := Try.isAgg9
  z9 := Try.sizeOf9
  v9 := Try.zeroValue9 }
open Go.RowKit Go.Lib in
/-- internal/stringslite.IndexByte (what strings.IndexByte calls): IT RETURNS 'Lib.indexByte s c'; the world is as it was. (LAID: no walk: one application.) -/
theorem Try.stringslite_IndexByte (s : ByteArray) (c : Int) (w : World) :
    Calls Try.prog 190 #[.string s, .int .u8 c] w fun e w' => e = .returned (.int .i64 (Lib.indexByte s.data.toList c.toNat.toUInt8)) ∧ w' = w := Any.stringslite_IndexByte Try.lays217 s c w
def Try.lays224_ren : Go.Shelf.Ren := ⟨fun | 224 => 192 | n => n, fun | 3 => 3 | n => n, fun | n => n⟩
theorem Try.lays224 : Go.Proofs.Lays.n224 Try.prog Try.lays224_ren := {
  mixed := by kernel_rfl
  f224 := Try.func192.trans (congrArg some (by kernel_rfl))
  t3 := Try.underlying3
  a3 := Try.isAgg3
  z3 := Try.sizeOf3
  v3 := Try.zeroValue3 }
open Go.RowKit Go.Lib in
/-- internal/bytealg.Cutover: "Cutover reports the number of failures of IndexByte we should tolerate before switching over to Index. n is the number of bytes processed so far.": on amd64: (n + 16) / 8. (LAID: no walk: one application.) -/
theorem Try.bytealg_Cutover (n : Int) (h0 : 0 ≤ n) (h1 : n < 4611686018427387904) (w : World) :
    Calls Try.prog 192 #[.int .i64 n] w fun e w' => e = .returned (.int .i64 ((n + 16) / 8)) ∧ w' = w := Any.bytealg_Cutover Try.lays224 n h0 h1 w
def Try.lays314_ren : Go.Shelf.Ren := ⟨fun | 314 => 211 | n => n, fun | 9 => 9 | 51 => 192 | 3 => 3 | 4 => 4 | 5 => 5 | 46 => 178 | n => n, fun | n => n⟩
theorem Try.lays314 : Go.Proofs.Lays.n314 Try.prog Try.lays314_ren := {
  mixed := by kernel_rfl
  f314 := Try.func211.trans (congrArg some (by kernel_rfl))
  t3 := Try.underlying3
  a3 := Try.isAgg3
  z3 := Try.sizeOf3
  v3 := Try.zeroValue3
  t4 := Try.underlying4
  a4 := Try.isAgg4
  z4 := Try.sizeOf4
  v4 := Try.zeroValue4
  t5 := Try.underlying5
  a5 := Try.isAgg5
  z5 := Try.sizeOf5
  v5 := Try.zeroValue5
  t9 := Try.underlying9
  a9 := Try.isAgg9
  z9 := Try.sizeOf9
  v9 := Try.zeroValue9
  t46 := Try.underlying178
  a46 := Try.isAgg178
  z46 := Try.sizeOf178
  v46 := Try.zeroValue178
  t51 := Try.underlying192
  a51 := Try.isAgg192
  z51 := Try.sizeOf192
  v51 := Try.zeroValue192 }
open Go.RowKit Go.Lib in
/-- hashStr: "returns the hash and the appropriate multiplicative factor for use in Rabin-Karp algorithm": THE HASH OF ALL OF sep, AND 16777619 ^ len(sep), both in uint32. (LAID: no walk: one application.) -/
theorem Try.bytealg_hashStr (sep : ByteArray) (hs : sep.size < 4294967281) (w : World) :
    Calls Try.prog 211 #[.string sep] w fun e w' => e = .returned (.tuple #[.int .u32 (RK.H sep.data.toList % 4294967296), .int .u32 (16777619 ^ sep.size % 4294967296)]) ∧ w' = w := Any.bytealg_hashStr Try.lays314 sep hs w
def Try.lays267_ren : Go.Shelf.Ren := ⟨fun | 267 => 193 | 314 => 211 | n => n, fun | 9 => 9 | 3 => 3 | 146 => 193 | 51 => 192 | 4 => 4 | 5 => 5 | 46 => 178 | n => n, fun | n => n⟩
theorem Try.lays267 : Go.Proofs.Lays.n267 Try.prog Try.lays267_ren := {
  mixed := by kernel_rfl
  f267 := Try.func193.trans (congrArg some (by kernel_rfl))
  f314 := Try.func211.trans (congrArg some (by kernel_rfl))
  t3 := Try.underlying3
  a3 := Try.isAgg3
  z3 := Try.sizeOf3
  v3 := Try.zeroValue3
  t4 := Try.underlying4
  a4 := Try.isAgg4
  z4 := Try.sizeOf4
  v4 := Try.zeroValue4
  t5 := Try.underlying5
  a5 := Try.isAgg5
  z5 := Try.sizeOf5
  v5 := Try.zeroValue5
  t9 := Try.underlying9
  a9 := Try.isAgg9
  z9 := Try.sizeOf9
  v9 := Try.zeroValue9
  t46 := Try.underlying178
  a46 := Try.isAgg178
  z46 := Try.sizeOf178
  v46 := Try.zeroValue178
  t51 := Try.underlying192
  a51 := Try.isAgg192
  z51 := Try.sizeOf192
  v51 := Try.zeroValue192
  t146 := Try.underlying193
  a146 := Try.isAgg193
  z146 := Try.sizeOf193
  v146 := Try.zeroValue193 }
open Go.RowKit Go.Lib in
theorem Try.bytealg_IndexRabinKarp (s sep : ByteArray) (h1 : 1 ≤ sep.size) (h2 : sep.size ≤ s.size) (hs : s.size < 4294967281) (w : World) :
    Calls Try.prog 193 #[.string s, .string sep] w fun e w' => e = .returned (.int .i64 (Lib.index s.data.toList sep.data.toList)) ∧ w' = w := Any.bytealg_IndexRabinKarp Try.lays267 s sep h1 h2 hs w
def Try.lays219_ren : Go.Shelf.Ren := ⟨fun | 219 => 176 | 217 => 190 | 225 => 191 | 224 => 192 | 267 => 193 | 266 => 210 | 314 => 211 | n => n, fun | 9 => 9 | 3 => 3 | 4 => 4 | 5 => 5 | 46 => 178 | 146 => 193 | 51 => 192 | n => n, fun | 1 => 0 | n => n⟩
theorem Try.lays219 : Go.Proofs.Lays.n219 Try.prog Try.lays219_ren := {
  mixed := by kernel_rfl
  f217 := Try.func190.trans (congrArg some (by kernel_rfl))
  f219 := Try.func176.trans (congrArg some (by kernel_rfl))
  f224 := Try.func192.trans (congrArg some (by kernel_rfl))
  f225 := Try.func191.trans (congrArg some (by kernel_rfl))
  f266 := Try.func210.trans (congrArg some (by kernel_rfl))
  f267 := Try.func193.trans (congrArg some (by kernel_rfl))
  f314 := Try.func211.trans (congrArg some (by kernel_rfl))
  t3 := Try.underlying3
  a3 := Try.isAgg3
  z3 := Try.sizeOf3
  v3 := Try.zeroValue3
  t4 := Try.underlying4
  a4 := Try.isAgg4
  z4 := Try.sizeOf4
  v4 := Try.zeroValue4
  t5 := Try.underlying5
  a5 := Try.isAgg5
  z5 := Try.sizeOf5
  v5 := Try.zeroValue5
  t9 := Try.underlying9
  a9 := Try.isAgg9
  z9 := Try.sizeOf9
  v9 := Try.zeroValue9
  t46 := Try.underlying178
  a46 := Try.isAgg178
  z46 := Try.sizeOf178
  v46 := Try.zeroValue178
  t51 := Try.underlying192
  a51 := Try.isAgg192
  z51 := Try.sizeOf192
  v51 := Try.zeroValue192
  t146 := Try.underlying193
  a146 := Try.isAgg193
  z146 := Try.sizeOf193
  v146 := Try.zeroValue193
  g1 := by kernel_rfl }
open Go.RowKit Go.Lib in
/-- internal/stringslite.Index (what strings.Index calls) AT A substr OF ONE BYTE c: IT RETURNS 'Lib.indexByte s c'; the world is as it was. (LAID: no walk: one application.) -/
theorem Try.stringslite_Index_one (s : ByteArray) (c : UInt8) (w : World) :
    Calls Try.prog 176 #[.string s, .string ⟨#[c]⟩] w fun e w' => e = .returned (.int .i64 (Lib.indexByte s.data.toList c)) ∧ w' = w := Any.stringslite_Index_one Try.lays219 s c w
open Go.RowKit Go.Lib in
/-- internal/stringslite.Index (what strings.Index calls) AT A substr OF WHATEVER LENGTH: IT RETURNS 'Lib.index s substr'; the world is as it was. 'm': what internal/bytealg.MaxLen holds: whatever. (LAID: no walk: one application.) -/
theorem Try.stringslite_Index (s sub : ByteArray) (m : Int) (w : World) (hs : s.size < 4294967281) (hm : w.cell? ⟨0, 0, none⟩ = some (.int .i64 m)) :
    Calls Try.prog 176 #[.string s, .string sub] w fun e w' => e = .returned (.int .i64 (Lib.index s.data.toList sub.data.toList)) ∧ w' = w := Any.stringslite_Index Try.lays219 s sub m w hs hm
def Try.lays143_ren : Go.Shelf.Ren := ⟨fun | 143 => 150 | 219 => 176 | 217 => 190 | 225 => 191 | 224 => 192 | 267 => 193 | 266 => 210 | 314 => 211 | n => n, fun | 9 => 9 | 3 => 3 | 4 => 4 | 5 => 5 | 46 => 178 | 146 => 193 | 51 => 192 | n => n, fun | 1 => 0 | n => n⟩
theorem Try.lays143 : Go.Proofs.Lays.n143 Try.prog Try.lays143_ren := {
  mixed := by kernel_rfl
  f143 := Try.func150.trans (congrArg some (by kernel_rfl))
  f217 := Try.func190.trans (congrArg some (by kernel_rfl))
  f219 := Try.func176.trans (congrArg some (by kernel_rfl))
  f224 := Try.func192.trans (congrArg some (by kernel_rfl))
  f225 := Try.func191.trans (congrArg some (by kernel_rfl))
  f266 := Try.func210.trans (congrArg some (by kernel_rfl))
  f267 := Try.func193.trans (congrArg some (by kernel_rfl))
  f314 := Try.func211.trans (congrArg some (by kernel_rfl))
  t3 := Try.underlying3
  a3 := Try.isAgg3
  z3 := Try.sizeOf3
  v3 := Try.zeroValue3
  t4 := Try.underlying4
  a4 := Try.isAgg4
  z4 := Try.sizeOf4
  v4 := Try.zeroValue4
  t5 := Try.underlying5
  a5 := Try.isAgg5
  z5 := Try.sizeOf5
  v5 := Try.zeroValue5
  t9 := Try.underlying9
  a9 := Try.isAgg9
  z9 := Try.sizeOf9
  v9 := Try.zeroValue9
  t46 := Try.underlying178
  a46 := Try.isAgg178
  z46 := Try.sizeOf178
  v46 := Try.zeroValue178
  t51 := Try.underlying192
  a51 := Try.isAgg192
  z51 := Try.sizeOf192
  v51 := Try.zeroValue192
  t146 := Try.underlying193
  a146 := Try.isAgg193
  z146 := Try.sizeOf193
  v146 := Try.zeroValue193
  g1 := by kernel_rfl }
open Go.RowKit Go.Lib in
/-- strings.Index: "Index returns the index of the first instance of substr in s, or -1 if substr is not present in s.": AT A substr OF ONE BYTE c: IT RETURNS 'Lib.indexByte s c'; the world is as it was. (LAID: no walk: one application.) -/
theorem Try.strings_Index_one (s : ByteArray) (c : UInt8) (w : World) :
    Calls Try.prog 150 #[.string s, .string ⟨#[c]⟩] w fun e w' => e = .returned (.int .i64 (Lib.indexByte s.data.toList c)) ∧ w' = w := Any.strings_Index_one Try.lays143 s c w
open Go.RowKit Go.Lib in
/-- strings.Index: "Index returns the index of the first instance of substr in s, or -1 if substr is not present in s.": IT RETURNS 'Lib.index s substr'; the world is as it was. (LAID: no walk: one application.) -/
theorem Try.strings_Index (s sub : ByteArray) (m : Int) (w : World) (hs : s.size < 4294967281) (hm : w.cell? ⟨0, 0, none⟩ = some (.int .i64 m)) :
    Calls Try.prog 150 #[.string s, .string sub] w fun e w' => e = .returned (.int .i64 (Lib.index s.data.toList sub.data.toList)) ∧ w' = w := Any.strings_Index Try.lays143 s sub m w hs hm
def Try.lays144_ren : Go.Shelf.Ren := ⟨fun | 144 => 103 | 143 => 150 | 219 => 176 | 217 => 190 | 225 => 191 | 224 => 192 | 267 => 193 | 266 => 210 | 314 => 211 | n => n, fun | 9 => 9 | 4 => 4 | 3 => 3 | 5 => 5 | 46 => 178 | 146 => 193 | 51 => 192 | n => n, fun | 1 => 0 | n => n⟩
theorem Try.lays144 : Go.Proofs.Lays.n144 Try.prog Try.lays144_ren := {
  mixed := by kernel_rfl
  f143 := Try.func150.trans (congrArg some (by kernel_rfl))
  f144 := Try.func103.trans (congrArg some (by kernel_rfl))
  f217 := Try.func190.trans (congrArg some (by kernel_rfl))
  f219 := Try.func176.trans (congrArg some (by kernel_rfl))
  f224 := Try.func192.trans (congrArg some (by kernel_rfl))
  f225 := Try.func191.trans (congrArg some (by kernel_rfl))
  f266 := Try.func210.trans (congrArg some (by kernel_rfl))
  f267 := Try.func193.trans (congrArg some (by kernel_rfl))
  f314 := Try.func211.trans (congrArg some (by kernel_rfl))
  t3 := Try.underlying3
  a3 := Try.isAgg3
  z3 := Try.sizeOf3
  v3 := Try.zeroValue3
  t4 := Try.underlying4
  a4 := Try.isAgg4
  z4 := Try.sizeOf4
  v4 := Try.zeroValue4
  t5 := Try.underlying5
  a5 := Try.isAgg5
  z5 := Try.sizeOf5
  v5 := Try.zeroValue5
  t9 := Try.underlying9
  a9 := Try.isAgg9
  z9 := Try.sizeOf9
  v9 := Try.zeroValue9
  t46 := Try.underlying178
  a46 := Try.isAgg178
  z46 := Try.sizeOf178
  v46 := Try.zeroValue178
  t51 := Try.underlying192
  a51 := Try.isAgg192
  z51 := Try.sizeOf192
  v51 := Try.zeroValue192
  t146 := Try.underlying193
  a146 := Try.isAgg193
  z146 := Try.sizeOf193
  v146 := Try.zeroValue193
  g1 := by kernel_rfl }
open Go.RowKit Go.Lib in
/-- strings.Contains: "Contains reports whether substr is within s.": AT A substr OF ONE BYTE c: IT RETURNS 'decide (0 ≤ Lib.indexByte s c)'; the world is as it was. (LAID: no walk: one application.) -/
theorem Try.strings_Contains_one (s : ByteArray) (c : UInt8) (w : World) :
    Calls Try.prog 103 #[.string s, .string ⟨#[c]⟩] w fun e w' => e = .returned (.bool (decide (0 ≤ Lib.indexByte s.data.toList c))) ∧ w' = w := Any.strings_Contains_one Try.lays144 s c w
open Go.RowKit Go.Lib in
/-- strings.Contains: "Contains reports whether substr is within s.": IT RETURNS 'Lib.contains s substr'; the world is as it was. (LAID: no walk: one application.) -/
theorem Try.strings_Contains (s sub : ByteArray) (m : Int) (w : World) (hs : s.size < 4294967281) (hm : w.cell? ⟨0, 0, none⟩ = some (.int .i64 m)) :
    Calls Try.prog 103 #[.string s, .string sub] w fun e w' => e = .returned (.bool (Lib.contains s.data.toList sub.data.toList)) ∧ w' = w := Any.strings_Contains Try.lays144 s sub m w hs hm
def Try.laysM219_ren : Go.Shelf.Ren := ⟨fun | 219 => 176 | 217 => 190 | 225 => 191 | 224 => 192 | 267 => 193 | 266 => 210 | 314 => 211 | n => n, fun | 9 => 9 | 3 => 3 | 4 => 4 | 5 => 5 | 46 => 178 | 146 => 193 | 51 => 192 | n => n, fun | 1 => 0 | n => n⟩
theorem Try.laysM219 : Go.Proofs.LaysM.n219 Try.prog Try.laysM219_ren := {
  mixed := by kernel_rfl
  f217 := Try.func190.trans (congrArg some (by kernel_rfl))
  f219 := Try.func176.trans (congrArg some (by kernel_rfl))
  f224 := Try.func192.trans (congrArg some (by kernel_rfl))
  f225 := Try.func191.trans (congrArg some (by kernel_rfl))
  f266 := Try.func210.trans (congrArg some (by kernel_rfl))
  f267 := Try.func193.trans (congrArg some (by kernel_rfl))
  f314 := Try.func211.trans (congrArg some (by kernel_rfl))
  t3 := Try.underlying3
  a3 := Try.isAgg3
  z3 := Try.sizeOf3
  v3 := Try.zeroValue3
  t4 := Try.underlying4
  a4 := Try.isAgg4
  z4 := Try.sizeOf4
  v4 := Try.zeroValue4
  t5 := Try.underlying5
  a5 := Try.isAgg5
  z5 := Try.sizeOf5
  v5 := Try.zeroValue5
  t9 := Try.underlying9
  a9 := Try.isAgg9
  z9 := Try.sizeOf9
  v9 := Try.zeroValue9
  t46 := Try.underlying178
  a46 := Try.isAgg178
  z46 := Try.sizeOf178
  v46 := Try.zeroValue178
  t51 := Try.underlying192
  a51 := Try.isAgg192
  z51 := Try.sizeOf192
  v51 := Try.zeroValue192
  t146 := Try.underlying193
  a146 := Try.isAgg193
  z146 := Try.sizeOf193
  v146 := Try.zeroValue193
  g1 := by kernel_rfl
  i3 := by kernel_rfl
  i4 := by kernel_rfl
  i5 := by kernel_rfl
  i9 := by kernel_rfl
  i46 := by kernel_rfl
  i51 := by kernel_rfl
  i146 := by kernel_rfl
  m1 := by kernel_rfl
  s1_3 := fun w h => Go.Proofs.cell_of_shapedOpen_int (zero := #[.int .i64 0]) (t := 3) h (of_decide_eq_true (by kernel_rfl)) (by kernel_rfl) rfl (by kernel_rfl) (by kernel_rfl) Try.underlying3 }
open Go.RowKit Go.Lib in
theorem Try.stringslite_Index_shaped (s sub : ByteArray) (w : World) (h : w.ShapedOpen Try.prog) (hs : s.size < 4294967281) :
    Calls Try.prog 176 #[.string s, .string sub] w fun e w' => e = .returned (.int .i64 (Lib.index s.data.toList sub.data.toList)) ∧ w' = w := Any.stringslite_Index_shaped Try.laysM219 s sub w h hs
def Try.laysM143_ren : Go.Shelf.Ren := ⟨fun | 143 => 150 | 219 => 176 | 217 => 190 | 225 => 191 | 224 => 192 | 267 => 193 | 266 => 210 | 314 => 211 | n => n, fun | 9 => 9 | 3 => 3 | 4 => 4 | 5 => 5 | 46 => 178 | 146 => 193 | 51 => 192 | n => n, fun | 1 => 0 | n => n⟩
theorem Try.laysM143 : Go.Proofs.LaysM.n143 Try.prog Try.laysM143_ren := {
  mixed := by kernel_rfl
  f143 := Try.func150.trans (congrArg some (by kernel_rfl))
  f217 := Try.func190.trans (congrArg some (by kernel_rfl))
  f219 := Try.func176.trans (congrArg some (by kernel_rfl))
  f224 := Try.func192.trans (congrArg some (by kernel_rfl))
  f225 := Try.func191.trans (congrArg some (by kernel_rfl))
  f266 := Try.func210.trans (congrArg some (by kernel_rfl))
  f267 := Try.func193.trans (congrArg some (by kernel_rfl))
  f314 := Try.func211.trans (congrArg some (by kernel_rfl))
  t3 := Try.underlying3
  a3 := Try.isAgg3
  z3 := Try.sizeOf3
  v3 := Try.zeroValue3
  t4 := Try.underlying4
  a4 := Try.isAgg4
  z4 := Try.sizeOf4
  v4 := Try.zeroValue4
  t5 := Try.underlying5
  a5 := Try.isAgg5
  z5 := Try.sizeOf5
  v5 := Try.zeroValue5
  t9 := Try.underlying9
  a9 := Try.isAgg9
  z9 := Try.sizeOf9
  v9 := Try.zeroValue9
  t46 := Try.underlying178
  a46 := Try.isAgg178
  z46 := Try.sizeOf178
  v46 := Try.zeroValue178
  t51 := Try.underlying192
  a51 := Try.isAgg192
  z51 := Try.sizeOf192
  v51 := Try.zeroValue192
  t146 := Try.underlying193
  a146 := Try.isAgg193
  z146 := Try.sizeOf193
  v146 := Try.zeroValue193
  g1 := by kernel_rfl
  i3 := by kernel_rfl
  i4 := by kernel_rfl
  i5 := by kernel_rfl
  i9 := by kernel_rfl
  i46 := by kernel_rfl
  i51 := by kernel_rfl
  i146 := by kernel_rfl
  m1 := by kernel_rfl
  s1_3 := fun w h => Go.Proofs.cell_of_shapedOpen_int (zero := #[.int .i64 0]) (t := 3) h (of_decide_eq_true (by kernel_rfl)) (by kernel_rfl) rfl (by kernel_rfl) (by kernel_rfl) Try.underlying3 }
open Go.RowKit Go.Lib in
theorem Try.strings_Index_shaped (s sub : ByteArray) (w : World) (h : w.ShapedOpen Try.prog) (hs : s.size < 4294967281) :
    Calls Try.prog 150 #[.string s, .string sub] w fun e w' => e = .returned (.int .i64 (Lib.index s.data.toList sub.data.toList)) ∧ w' = w := Any.strings_Index_shaped Try.laysM143 s sub w h hs
def Try.laysM144_ren : Go.Shelf.Ren := ⟨fun | 144 => 103 | 143 => 150 | 219 => 176 | 217 => 190 | 225 => 191 | 224 => 192 | 267 => 193 | 266 => 210 | 314 => 211 | n => n, fun | 9 => 9 | 4 => 4 | 3 => 3 | 5 => 5 | 46 => 178 | 146 => 193 | 51 => 192 | n => n, fun | 1 => 0 | n => n⟩
theorem Try.laysM144 : Go.Proofs.LaysM.n144 Try.prog Try.laysM144_ren := {
  mixed := by kernel_rfl
  f143 := Try.func150.trans (congrArg some (by kernel_rfl))
  f144 := Try.func103.trans (congrArg some (by kernel_rfl))
  f217 := Try.func190.trans (congrArg some (by kernel_rfl))
  f219 := Try.func176.trans (congrArg some (by kernel_rfl))
  f224 := Try.func192.trans (congrArg some (by kernel_rfl))
  f225 := Try.func191.trans (congrArg some (by kernel_rfl))
  f266 := Try.func210.trans (congrArg some (by kernel_rfl))
  f267 := Try.func193.trans (congrArg some (by kernel_rfl))
  f314 := Try.func211.trans (congrArg some (by kernel_rfl))
  t3 := Try.underlying3
  a3 := Try.isAgg3
  z3 := Try.sizeOf3
  v3 := Try.zeroValue3
  t4 := Try.underlying4
  a4 := Try.isAgg4
  z4 := Try.sizeOf4
  v4 := Try.zeroValue4
  t5 := Try.underlying5
  a5 := Try.isAgg5
  z5 := Try.sizeOf5
  v5 := Try.zeroValue5
  t9 := Try.underlying9
  a9 := Try.isAgg9
  z9 := Try.sizeOf9
  v9 := Try.zeroValue9
  t46 := Try.underlying178
  a46 := Try.isAgg178
  z46 := Try.sizeOf178
  v46 := Try.zeroValue178
  t51 := Try.underlying192
  a51 := Try.isAgg192
  z51 := Try.sizeOf192
  v51 := Try.zeroValue192
  t146 := Try.underlying193
  a146 := Try.isAgg193
  z146 := Try.sizeOf193
  v146 := Try.zeroValue193
  g1 := by kernel_rfl
  i3 := by kernel_rfl
  i4 := by kernel_rfl
  i5 := by kernel_rfl
  i9 := by kernel_rfl
  i46 := by kernel_rfl
  i51 := by kernel_rfl
  i146 := by kernel_rfl
  m1 := by kernel_rfl
  s1_3 := fun w h => Go.Proofs.cell_of_shapedOpen_int (zero := #[.int .i64 0]) (t := 3) h (of_decide_eq_true (by kernel_rfl)) (by kernel_rfl) rfl (by kernel_rfl) (by kernel_rfl) Try.underlying3 }
open Go.RowKit Go.Lib in
theorem Try.strings_Contains_shaped (s sub : ByteArray) (w : World) (h : w.ShapedOpen Try.prog) (hs : s.size < 4294967281) :
    Calls Try.prog 103 #[.string s, .string sub] w fun e w' => e = .returned (.bool (Lib.contains s.data.toList sub.data.toList)) ∧ w' = w := Any.strings_Contains_shaped Try.laysM144 s sub w h hs
def Try.lays206_ren : Go.Shelf.Ren := ⟨fun | 206 => 189 | n => n, fun | 9 => 9 | 4 => 4 | 3 => 3 | n => n, fun | n => n⟩
theorem Try.lays206 : Go.Proofs.Lays.n206 Try.prog Try.lays206_ren := {
  mixed := by kernel_rfl
  f206 := Try.func189.trans (congrArg some (by kernel_rfl))
  t3 := Try.underlying3
  a3 := Try.isAgg3
  z3 := Try.sizeOf3
  v3 := Try.zeroValue3
  t4 := Try.underlying4
  a4 := Try.isAgg4
  z4 := Try.sizeOf4
  v4 := Try.zeroValue4
  t9 := Try.underlying9
  a9 := Try.isAgg9
  z9 := Try.sizeOf9
  v9 := Try.zeroValue9 }
open Go.RowKit Go.Lib in
/-- internal/stringslite.HasPrefix (what strings.HasPrefix calls). (LAID: no walk: one application.) -/
theorem Try.stringslite_HasPrefix (s p : ByteArray) (w : World) :
    Calls Try.prog 189 #[.string s, .string p] w fun e w' => e = .returned (.bool (Lib.hasPrefix s.data.toList p.data.toList)) ∧ w' = w := Any.stringslite_HasPrefix Try.lays206 s p w
def Try.lays99_ren : Go.Shelf.Ren := ⟨fun | 99 => 175 | 206 => 189 | n => n, fun | 9 => 9 | 4 => 4 | 3 => 3 | n => n, fun | n => n⟩
theorem Try.lays99 : Go.Proofs.Lays.n99 Try.prog Try.lays99_ren := {
  mixed := by kernel_rfl
  f99 := Try.func175.trans (congrArg some (by kernel_rfl))
  f206 := Try.func189.trans (congrArg some (by kernel_rfl))
  t3 := Try.underlying3
  a3 := Try.isAgg3
  z3 := Try.sizeOf3
  v3 := Try.zeroValue3
  t4 := Try.underlying4
  a4 := Try.isAgg4
  z4 := Try.sizeOf4
  v4 := Try.zeroValue4
  t9 := Try.underlying9
  a9 := Try.isAgg9
  z9 := Try.sizeOf9
  v9 := Try.zeroValue9 }
open Go.RowKit Go.Lib in
/-- strings.HasPrefix: "HasPrefix reports whether the string s begins with prefix.": IT RETURNS 'Lib.hasPrefix s prefix'; the world is as it was. (LAID: no walk: one application.) -/
theorem Try.strings_HasPrefix (s p : ByteArray) (w : World) :
    Calls Try.prog 175 #[.string s, .string p] w fun e w' => e = .returned (.bool (Lib.hasPrefix s.data.toList p.data.toList)) ∧ w' = w := Any.strings_HasPrefix Try.lays99 s p w
def Try.lays264_ren : Go.Shelf.Ren := ⟨fun | 264 => 185 | n => n, fun | 53 => 195 | 46 => 178 | n => n, fun | n => n⟩
theorem Try.lays264 : Go.Proofs.Lays.n264 Try.prog Try.lays264_ren := {
  mixed := by kernel_rfl
  f264 := Try.func185.trans (congrArg some (by kernel_rfl))
  t46 := Try.underlying178
  a46 := Try.isAgg178
  z46 := Try.sizeOf178
  v46 := Try.zeroValue178
  t53 := Try.underlying195
  a53 := Try.isAgg195
  z53 := Try.sizeOf195
  v53 := Try.zeroValue195 }
open Go.RowKit Go.Lib in
theorem Try.bits_Mul64 (x y : Nat) (hx : x < 18446744073709551616) (hy : y < 18446744073709551616) (w : World) :
    Calls Try.prog 185 #[.int .u64 x, .int .u64 y] w fun e w' => e = .returned (.tuple #[.int .u64 ((x * y / 18446744073709551616 : Nat) : Int), .int .u64 ((x * y % 18446744073709551616 : Nat) : Int)]) ∧ w' = w := Any.bits_Mul64 Try.lays264 x y hx hy w
def Try.lays212_ren : Go.Shelf.Ren := ⟨fun | 212 => 168 | 263 => 184 | 264 => 185 | n => n, fun | 46 => 178 | 51 => 192 | 146 => 193 | 53 => 195 | 148 => 196 | n => n, fun | n => n⟩
theorem Try.lays212 : Go.Proofs.Lays.n212 Try.prog Try.lays212_ren := {
  mixed := by kernel_rfl
  f212 := Try.func168.trans (congrArg some (by kernel_rfl))
  f263 := Try.func184.trans (congrArg some (by kernel_rfl))
  f264 := Try.func185.trans (congrArg some (by kernel_rfl))
  t46 := Try.underlying178
  a46 := Try.isAgg178
  z46 := Try.sizeOf178
  v46 := Try.zeroValue178
  t51 := Try.underlying192
  a51 := Try.isAgg192
  z51 := Try.sizeOf192
  v51 := Try.zeroValue192
  t53 := Try.underlying195
  a53 := Try.isAgg195
  z53 := Try.sizeOf195
  v53 := Try.zeroValue195
  t146 := Try.underlying193
  a146 := Try.isAgg193
  z146 := Try.sizeOf193
  v146 := Try.zeroValue193
  t148 := Try.underlying196
  a148 := Try.isAgg196
  z148 := Try.sizeOf196
  v148 := Try.zeroValue196 }
open Go.RowKit Go.Lib in
/-- math/bits.Mul: "Mul returns the full-width product of x and y": on a machine of 64 bits: Mul64's. (LAID: no walk: one application.) -/
theorem Try.bits_Mul (x y : Nat) (hx : x < 18446744073709551616) (hy : y < 18446744073709551616) (w : World) :
    Calls Try.prog 168 #[.int .u64 x, .int .u64 y] w fun e w' => e = .returned (.tuple #[.int .u64 ((x * y / 18446744073709551616 : Nat) : Int), .int .u64 ((x * y % 18446744073709551616 : Nat) : Int)]) ∧ w' = w := Any.bits_Mul Try.lays212 x y hx hy w
end Go.Proofs
/-
  Contracts of IsInterreduced.
  Conditions: at most 2^20 rules.
-/
namespace Go.Proofs.Ytlohpphmamapeaa
open Go.RowKit
set_option linter.unusedVariables false

/-- Whether a part lies in a word. -/
def M.occ (l p : List UInt8) : Bool := decide (0 < (M.PlacesOf l p).length)
def M.bad (rs : List M.Rule) (i j : Nat) : Bool := match rs[i]?, rs[j]? with
  | some r, some x => (decide (i ≠ j) && M.occ r.left x.left) || M.occ r.right x.left
  | _, _ => false
def M.interOk (rs : List M.Rule) : Bool := (List.range rs.length).all fun i => (List.range rs.length).all fun j => !M.bad rs i j
def M.IsInterreduced (k : Int) (rs : List M.Rule) : Bool := M.SystemOk k rs && M.interOk rs
theorem inter_yes {rs : List M.Rule} (h : ∀ i j, i < rs.length → j < rs.length → M.bad rs i j = false) : M.interOk rs = true := by
  unfold M.interOk
  rw [List.all_eq_true]
  intro i hi
  rw [List.all_eq_true]
  intro j hj
  rw [h i j (List.mem_range.1 hi) (List.mem_range.1 hj)]
  rfl
theorem inter_no {rs : List M.Rule} {i j : Nat} (hi : i < rs.length) (hj : j < rs.length) (h : M.bad rs i j = true) : M.interOk rs = false := by
  cases hq : M.interOk rs
  · rfl
  · unfold M.interOk at hq
    rw [List.all_eq_true] at hq
    have := hq i (List.mem_range.2 hi)
    rw [List.all_eq_true] at this
    have := this j (List.mem_range.2 hj)
    rw [h] at this
    cases this
theorem bad_at {rs : List M.Rule} {i j : Nat} (hi : i < rs.length) (hj : j < rs.length) : M.bad rs i j = ((decide (i ≠ j) && M.occ rs[i].left rs[j].left) || M.occ rs[i].right rs[j].left) := by simp [M.bad, hi, hj]
theorem left_pos {k : Int} {rs : List M.Rule} (h : M.SystemOk k rs = true) {r : M.Rule} (hr : r ∈ rs) : r.left ≠ [] := by
  unfold M.SystemOk at h
  have h1 := (Bool.and_eq_true_iff.1 h).1
  unfold M.RulesOk at h1
  intro e
  have h2 : rs.any (M.ruleBad k) = true := List.any_eq_true.2 ⟨r, hr, by unfold M.ruleBad; rw [e]; simp⟩
  rw [h2] at h1
  simp at h1
theorem rulesLe {k : Int} {rs : List M.Rule} (h : M.SystemOk k rs = true) : rs.length ≤ 12 := by
  unfold M.SystemOk at h
  have h1 := (Bool.and_eq_true_iff.1 h).1
  unfold M.RulesOk at h1
  simp only [Bool.and_eq_true, decide_eq_true_eq] at h1
  omega
theorem occ_index {l p : List UInt8} (hp : p ≠ []) : Lib.contains l p = M.occ l p := by
  have hP : M.PlacesOf l p = M.sel (fun i => M.pre p (l.drop i)) l.length := if_neg hp
  have hocc : ∀ i, Lib.occAt l p i = M.pre p (l.drop i) := fun i => by
    unfold Lib.occAt M.pre
    rw [Bool.eq_iff_iff, List.isPrefixOf_iff_prefix, decide_eq_true_eq, List.prefix_iff_eq_take]
    exact ⟨fun h => h.symm, fun h => h.symm⟩
  unfold Lib.contains M.occ
  rw [hP]
  rcases Lib.index_spec l p with ⟨h1, h2⟩ | ⟨i, h1, h2, h3, _⟩
  · rw [h1, M.sel_more (p := fun i => M.pre p (l.drop i)) (k := 0) l.length (Nat.zero_le _) (fun j _ hj => by rw [← hocc]; exact h2 j (by omega))]
    simp [M.sel]
  · have hlt : i < l.length := by
      have h4 := Lib.index_room l p (by rw [h1]; omega)
      have h5 : 0 < p.length := by cases p with | nil => exact absurd rfl hp | cons a r => simp
      omega
    have hm : (i : Int) ∈ M.sel (fun i => M.pre p (l.drop i)) l.length := by
      unfold M.sel
      rw [List.mem_map]
      exact ⟨i, List.mem_filter.2 ⟨List.mem_range.2 hlt, by rw [← hocc]; exact h3⟩, rfl⟩
    have hpos := List.length_pos_of_mem hm
    rw [h1]
    simp only [decide_eq_true hpos]
    exact decide_eq_true (by omega)
theorem contains_c (l p : List UInt8) (m : Int) (w : World) (hl : l.length ≤ 1048576) (hp : p ≠ []) (hm : w.cell? ⟨0, 0, none⟩ = some (.int .i64 m)) : Calls Try.prog 103 #[.string ⟨l.toArray⟩, .string ⟨p.toArray⟩] w fun e w' => e = .returned (.bool (M.occ l p)) ∧ w = w' := by
  have h := Try.strings_Contains ⟨l.toArray⟩ ⟨p.toArray⟩ m w (by simp [ByteArray.size]; omega) hm
  refine h.mono fun e w' ⟨he, hw⟩ => ⟨?_, hw.symm⟩
  rw [he, ← occ_index hp]

end Go.Proofs.Ytlohpphmamapeaa
/-
  The plain law of reduction: the steps of ordered rules end, since each of them makes the word less.
  Conditions: words of letters from a to d.
-/
namespace Go.Proofs.Ytlohpphmamapeaa
set_option linter.unusedVariables false
set_option linter.unusedSimpArgs false

theorem tb_total : ∀ x y : List UInt8, Op.bytesLess x y = false → Op.bytesLess y x = false → x = y
  | [], [], _, _ => rfl
  | [], b :: y, h, _ => by simp [Op.bytesLess] at h
  | a :: x, [], _, h => by simp [Op.bytesLess] at h
  | a :: x, b :: y, h, h' => by
    simp only [Op.bytesLess, Bool.or_eq_false_iff, decide_eq_false_iff_not, Bool.and_eq_false_iff, beq_eq_false_iff_ne] at h h'
    have e : a = b := by
      have h1 := h.1
      have h2 := h'.1
      rw [UInt8.lt_iff_toNat_lt] at h1 h2
      exact UInt8.toNat_inj.1 (by omega)
    subst e
    rw [tb_total x y (by rcases h.2 with h | h; exact absurd rfl h; exact h) (by rcases h'.2 with h | h; exact absurd rfl h; exact h)]
theorem tless_total {u v : List UInt8} (h : M.IsLess u v = false) (h' : M.IsLess v u = false) : u = v := by
  unfold M.IsLess at h h'
  simp only [Bool.or_eq_false_iff, Bool.and_eq_false_iff, decide_eq_false_iff_not] at h h'
  have e : u.length = v.length := by omega
  exact tb_total u v (by rcases h.2 with h | h; exact absurd e h; exact h) (by rcases h'.2 with h | h; exact absurd e.symm h; exact h)
/-- The number of a word in the order of words, roughly: greater words have greater ones. -/
def M.rank : List UInt8 → Nat
  | [] => 0
  | b :: l => (b.toNat - 96) * 5 ^ l.length + M.rank l
def M.Low (l : List UInt8) : Prop := ∀ b ∈ l, 97 ≤ b.toNat ∧ b.toNat ≤ 100
theorem low_add {u v : List UInt8} (hu : M.Low u) (hv : M.Low v) : M.Low (u ++ v) := fun b hb => by
  rcases List.mem_append.1 hb with h | h
  · exact hu b h
  · exact hv b h
theorem low_take {u : List UInt8} (hu : M.Low u) (n : Nat) : M.Low (u.take n) := fun b hb => hu b (List.mem_of_mem_take hb)
theorem low_drop {u : List UInt8} (hu : M.Low u) (n : Nat) : M.Low (u.drop n) := fun b hb => hu b (List.mem_of_mem_drop hb)
theorem rank_lt {l : List UInt8} (h : M.Low l) : M.rank l < 5 ^ l.length := by
  induction l with
  | nil => simp [M.rank]
  | cons b l ih =>
    have h1 := h b (by simp)
    have h2 := ih (fun x hx => h x (by simp [hx]))
    rw [M.rank, List.length_cons, Nat.pow_succ]
    have h3 : (b.toNat - 96) * 5 ^ l.length ≤ 4 * 5 ^ l.length := Nat.mul_le_mul_right _ (by omega)
    omega
theorem rank_ge {b : UInt8} {l : List UInt8} (h : M.Low (b :: l)) : 5 ^ l.length ≤ M.rank (b :: l) := by
  have h1 := h b (by simp)
  rw [M.rank]
  have := Nat.mul_le_mul_right (5 ^ l.length) (show 1 ≤ b.toNat - 96 by omega)
  omega
theorem rank_bytes : ∀ {u v : List UInt8}, u.length = v.length → M.Low u → M.Low v → Op.bytesLess u v = true → M.rank u < M.rank v
  | [], [], _, _, _, h => by simp [Op.bytesLess] at h
  | [], _ :: _, h, _, _, _ => by simp at h
  | _ :: _, [], h, _, _, _ => by simp at h
  | a :: u, b :: v, hl, hu, hv, h => by
    simp only [Op.bytesLess, Bool.or_eq_true, decide_eq_true_eq, Bool.and_eq_true, beq_iff_eq] at h
    rw [M.rank, M.rank]
    have hl' : u.length = v.length := by simpa using hl
    rcases h with h | ⟨rfl, h⟩
    · rw [UInt8.lt_iff_toNat_lt] at h
      have ha := hu a (by simp)
      have r1 := rank_lt (l := u) (fun x hx => hu x (by simp [hx]))
      rw [hl'] at r1 ⊢
      have := Nat.mul_le_mul_right (5 ^ v.length) (show a.toNat - 96 + 1 ≤ b.toNat - 96 by omega)
      rw [Nat.add_mul, Nat.one_mul] at this
      omega
    · rw [hl']
      have := rank_bytes hl' (fun x hx => hu x (by simp [hx])) (fun x hx => hv x (by simp [hx])) h
      omega
theorem less_cases {u v : List UInt8} (h : M.IsLess u v = true) : u.length < v.length ∨ (u.length = v.length ∧ Op.bytesLess u v = true) := by
  unfold M.IsLess at h
  rw [Bool.or_eq_true, Bool.and_eq_true, decide_eq_true_iff, decide_eq_true_iff] at h
  exact h
theorem less_len {u v : List UInt8} (h : M.IsLess u v = true) : u.length ≤ v.length := by
  rcases less_cases h with h | h <;> omega
theorem rank_short {u v : List UInt8} (hu : M.Low u) (hv : M.Low v) (h : u.length < v.length) : M.rank u < M.rank v := by
  cases v with
  | nil => simp at h
  | cons b v =>
    have h1 := rank_lt hu
    have h2 := rank_ge hv
    have h3 := Nat.pow_le_pow_right (show 0 < 5 by decide) (show u.length ≤ v.length by simp at h; omega)
    omega
theorem rank_less {u v : List UInt8} (hu : M.Low u) (hv : M.Low v) (h : M.IsLess u v = true) : M.rank u < M.rank v := by
  rcases less_cases h with h | ⟨h, h'⟩
  · exact rank_short hu hv h
  · exact rank_bytes h hu hv h'
theorem less_of_rank {u v : List UInt8} (hu : M.Low u) (hv : M.Low v) (h : M.rank u < M.rank v) : M.IsLess u v = true := by
  cases h1 : M.IsLess u v with
  | true => rfl
  | false =>
    cases h2 : M.IsLess v u with
    | true => have := rank_less hv hu h2; omega
    | false =>
      have := tless_total h1 h2
      subst this
      omega
theorem rank_append (x y : List UInt8) : M.rank (x ++ y) = M.rank x * 5 ^ y.length + M.rank y := by
  induction x with
  | nil => simp [M.rank]
  | cons b x ih =>
    rw [List.cons_append, M.rank, M.rank, List.length_append, ih, Nat.pow_add, Nat.add_mul, Nat.mul_assoc]
    omega
theorem rank_both {p s u v : List UInt8} (hp : M.Low p) (hs : M.Low s) (hu : M.Low u) (hv : M.Low v) (h : M.IsLess u v = true) : M.rank (p ++ (u ++ s)) < M.rank (p ++ (v ++ s)) := by
  rcases less_cases h with h | ⟨h, h'⟩
  · exact rank_short (low_add hp (low_add hu hs)) (low_add hp (low_add hv hs)) (by simp; omega)
  · rw [rank_append, rank_append, rank_append, rank_append, List.length_append, List.length_append, h]
    have h1 := rank_bytes h hu hv h'
    have h2 := Nat.mul_le_mul_right (5 ^ s.length) (show M.rank u + 1 ≤ M.rank v by omega)
    have h3 : 0 < 5 ^ s.length := Nat.pow_pos (by decide)
    rw [Nat.add_mul, Nat.one_mul] at h2
    omega

theorem low_of {k : Int} {l : List UInt8} (hk : 1 ≤ k ∧ k ≤ 4) (h : M.hasLetters k l = true) : M.Low l := fun b hb => by
  have h1 := List.all_eq_true.1 h b hb
  unfold M.isLetter at h1
  rw [Bool.and_eq_true, decide_eq_true_iff, decide_eq_true_iff] at h1
  omega
theorem let_add {k : Int} {u v : List UInt8} : M.hasLetters k (u ++ v) = (M.hasLetters k u && M.hasLetters k v) := by unfold M.hasLetters; rw [List.all_append]
theorem let_take {k : Int} {u : List UInt8} (h : M.hasLetters k u = true) (n : Nat) : M.hasLetters k (u.take n) = true := List.all_eq_true.2 fun b hb => List.all_eq_true.1 h b (List.mem_of_mem_take hb)
theorem let_drop {k : Int} {u : List UInt8} (h : M.hasLetters k u = true) (n : Nat) : M.hasLetters k (u.drop n) = true := List.all_eq_true.2 fun b hb => List.all_eq_true.1 h b (List.mem_of_mem_drop hb)
/-- Rules whose right sides are less, with letters. -/
def M.Ordered (k : Int) (rs : List M.Rule) : Prop := ∀ r ∈ rs, M.IsLess r.right r.left = true ∧ M.hasLetters k r.left = true ∧ M.hasLetters k r.right = true
/-- A word that may be reduced. -/
def M.Wd (k : Int) (l : List UInt8) : Prop := (1 ≤ k ∧ k ≤ 4) ∧ M.hasLetters k l = true ∧ l.length ≤ 16
theorem wd_low {k : Int} {l : List UInt8} (h : M.Wd k l) : M.Low l := low_of h.1 h.2.1
theorem wd_of {k : Int} {l : List UInt8} (h : M.WordOk k l = true) : M.Wd k l := by
  unfold M.WordOk M.within at h
  simp only [Bool.and_eq_true, decide_eq_true_iff] at h
  exact ⟨h.1, h.2.2, by omega⟩
theorem ok_of_wd {k : Int} {l : List UInt8} (h : M.Wd k l) : M.WordOk k l = true := by rw [M.wordOk_short k l h.1 h.2.2, h.2.1]
/-- The word after the first step. -/
def M.red (rs : List M.Rule) (l : List UInt8) : Option (List UInt8) := if (M.first (M.stepsTo rs l l.length)).2 = true then some (M.replaced rs l (M.first (M.stepsTo rs l l.length)).1).1 else none
theorem first_mem {xs : List M.Step} (h : (M.first xs).2 = true) : (M.first xs).1 ∈ xs := by
  cases xs with
  | nil => simp [M.first] at h
  | cons x xs => simp [M.first]
theorem pre_split {part l : List UInt8} (h : M.pre part l = true) : l = part ++ l.drop part.length := by
  unfold M.pre at h
  have h := of_decide_eq_true h
  have := List.take_append_drop part.length l
  rw [h] at this
  exact this.symm
/-- What a step that lies in the list does. -/
theorem step_does {k : Int} {rs : List M.Rule} {l : List UInt8} {x : M.Step} (ho : M.Ordered k rs) (hf : M.Wd k l) (hx : x ∈ M.stepsTo rs l l.length) :
    ∃ (i p : Nat) (l' : List UInt8), x = ⟨i, p⟩ ∧ i < rs.length ∧ p < l.length ∧ M.replaced rs l x = (l', true) ∧ M.rank l' < M.rank l ∧ M.Wd k l' ∧ l'.length ≤ l.length := by
  obtain ⟨p, i, hp, hi, hh, rfl⟩ := M.to_mem hx
  rw [M.hit_at hi] at hh
  have hs := pre_split hh
  obtain ⟨h1, h2, h3⟩ := ho rs[i] (List.getElem_mem hi)
  have hl := less_len h1
  have hlen : rs[i].left.length ≤ (l.drop p).length := by rw [hs]; simp
  rw [List.length_drop] at hlen
  have e : l = l.take p ++ (rs[i].left ++ (l.drop p).drop rs[i].left.length) := by rw [← hs, List.take_append_drop]
  rw [List.drop_drop] at e
  have h16 := hf.2.2
  refine ⟨i, p, l.take p ++ (rs[i].right ++ l.drop (p + rs[i].left.length)), rfl, hi, hp, ?_, ?_, ⟨hf.1, ?_, ?_⟩, ?_⟩
  · rw [replaced_at hi, M.ReplaceAt, if_neg (by omega)]
    rfl
  · have h4 := rank_both (low_take (wd_low hf) p) (low_drop (wd_low hf) (p + rs[i].left.length)) (low_of hf.1 h3) (low_of hf.1 h2) h1
    rw [← e] at h4
    exact h4
  · rw [let_add, let_add, let_take hf.2.1, let_drop hf.2.1, h3]; rfl
  · simp; omega
  · simp; omega
theorem red_some {k : Int} {rs : List M.Rule} {l : List UInt8} (ho : M.Ordered k rs) (hf : M.Wd k l) (h : (M.first (M.stepsTo rs l l.length)).2 = true) :
    ∃ (i p : Nat) (l' : List UInt8), (M.first (M.stepsTo rs l l.length)).1 = ⟨i, p⟩ ∧ i < rs.length ∧ p < l.length ∧ M.replaced rs l ⟨i, p⟩ = (l', true) ∧ M.red rs l = some l' ∧ M.rank l' < M.rank l ∧ M.Wd k l' ∧ l'.length ≤ l.length := by
  obtain ⟨i, p, l', e, hi, hp, hr, h1, h2, h3⟩ := step_does ho hf (first_mem h)
  refine ⟨i, p, l', e, hi, hp, by rw [← e]; exact hr, ?_, h1, h2, h3⟩
  unfold M.red
  rw [if_pos h, hr]
theorem red_none {rs : List M.Rule} {l : List UInt8} (h : (M.first (M.stepsTo rs l l.length)).2 = false) : M.red rs l = none := if_neg (by rw [h]; simp)
def M.normal (rs : List M.Rule) (l : List UInt8) : List UInt8 :=
  match M.red rs l with
  | none => l
  | some l' => if h : M.rank l' < M.rank l then M.normal rs l' else l
termination_by M.rank l
theorem normal_none {rs : List M.Rule} {l : List UInt8} (h : M.red rs l = none) : M.normal rs l = l := by rw [M.normal, h]
theorem normal_some {rs : List M.Rule} {l l' : List UInt8} (h : M.red rs l = some l') (h' : M.rank l' < M.rank l) : M.normal rs l = M.normal rs l' := by rw [M.normal, h]; simp only; rw [dif_pos h']
/-- A normal form is a fit word, not longer and not greater. -/
theorem normal_fit {k : Int} {rs : List M.Rule} (ho : M.Ordered k rs) : ∀ (n : Nat) (l : List UInt8), M.rank l ≤ n → M.Wd k l → M.Wd k (M.normal rs l) ∧ (M.normal rs l).length ≤ l.length ∧ M.rank (M.normal rs l) ≤ M.rank l
  | n, l, hn, hf => by
    cases h : (M.first (M.stepsTo rs l l.length)).2 with
    | false => rw [normal_none (red_none h)]; exact ⟨hf, Nat.le_refl _, Nat.le_refl _⟩
    | true =>
      obtain ⟨i, p, l', _, _, _, _, hr, h1, h2, h3⟩ := red_some ho hf h
      rw [normal_some hr h1]
      cases n with
      | zero => omega
      | succ n =>
        obtain ⟨h4, h5, h6⟩ := normal_fit ho n l' (by omega) h2
        exact ⟨h4, by omega, by omega⟩
end Go.Proofs.Ytlohpphmamapeaa
/-
  Arguments that are steps, opened.
  Conditions: none; this text names no law.
-/
namespace Go.Proofs.Ytlohpphmamapeaa
open Go.ChangeShapes Go.WideShapes Go.ChangeAt Go.RowKit Go.Joins Go.Deep
set_option linter.unusedVariables false

section
variable {H : Type} {enc : TypeId × Value → H} {w : World} {b0 : Nat} {held : Bool} {spare : Nat → Bool} {v : Value} {d : DataW H} {p : List MemPlace}
end

end Go.Proofs.Ytlohpphmamapeaa
/-
  The laws' helpers on Pair and on slices of Pair: their cells; copied, compared, measured; openers.
  Conditions: at most 2^20 elements.
-/
namespace Go.Proofs.Ytlohpphmamapeaa
open Go.ChangeShapes Go.WideShapes Go.ChangeAt Go.RowKit Go.Joins Go.Deep
set_option linter.unusedVariables false
set_option linter.unusedSimpArgs false

structure M.Pair where
  word : List UInt8
  r1 : Int
  p1 : Int
  r2 : Int
  p2 : Int
def pairCells (x : M.Pair) : List Value := [.string ⟨x.word.toArray⟩, .int .i64 x.r1, .int .i64 x.p1, .int .i64 x.r2, .int .i64 x.p2]
def pairs_ (xs : List M.Pair) : List Value := xs.flatMap pairCells
theorem pairs_len (xs : List M.Pair) : (pairs_ xs).length = xs.length * 5 := flat_len (f := pairCells) (s := 5) (fun _ => rfl) xs
theorem pairs_add (a b : List M.Pair) : pairs_ (a ++ b) = pairs_ a ++ pairs_ b := by simp [pairs_]
theorem Rd.pairAt {w : World} {A : Option Addr} {n : Nat} {xs : List M.Pair} (h : Rd w 5 A n (pairs_ xs)) {k : Nat} (hk : k < n) :
    ∃ b o, A = some ⟨b, o, none⟩ ∧ ∃ hz : k < xs.length, w.cell? ⟨b, o + k * 5, none⟩ = some (.string ⟨xs[k].word.toArray⟩) ∧ w.cell? ⟨b, o + k * 5 + 1, none⟩ = some (.int .i64 xs[k].r1) ∧ w.cell? ⟨b, o + k * 5 + 2, none⟩ = some (.int .i64 xs[k].p1) ∧ w.cell? ⟨b, o + k * 5 + 3, none⟩ = some (.int .i64 xs[k].r2) ∧ w.cell? ⟨b, o + k * 5 + 4, none⟩ = some (.int .i64 xs[k].p2) := by
  obtain ⟨b, o, e, hc⟩ := h.2 (by omega)
  have hl : k < xs.length := by have := h.1; rw [pairs_len] at this; omega
  have hq := fun q hq => flat_at (f := pairCells) (s := 5) (fun _ => rfl) xs k q hl hq
  refine ⟨b, o, e, hl, ?_, ?_, ?_, ?_, ?_⟩
  · simpa using hc (k * 5) _ (hq 0 (by omega))
  · rw [Nat.add_assoc]; exact hc (k * 5 + 1) _ (hq 1 (by omega))
  · rw [Nat.add_assoc]; exact hc (k * 5 + 2) _ (hq 2 (by omega))
  · rw [Nat.add_assoc]; exact hc (k * 5 + 3) _ (hq 3 (by omega))
  · rw [Nat.add_assoc]; exact hc (k * 5 + 4) _ (hq 4 (by omega))
theorem isSome_keep {w : World} {b o b' o' : Nat} {v : Value} (h : (w.cell? ⟨b', o', none⟩).isSome = true) : ((w.setCell ⟨b, o, none⟩ v).cell? ⟨b', o', none⟩).isSome = true := by
  obtain ⟨u, hu⟩ := Option.isSome_iff_exists.1 h
  by_cases e : b = b' ∧ o = o'
  · obtain ⟨rfl, rfl⟩ := e
    rw [cell_set_eq v hu]
    rfl
  · rw [cell_set_ne v (by omega), hu]
    rfl
theorem set_some {w : World} {b o : Nat} {v : Value} (h : (w.cell? ⟨b, o, none⟩).isSome = true) : (w.setCell ⟨b, o, none⟩ v).cell? ⟨b, o, none⟩ = some v := by
  obtain ⟨u, hu⟩ := Option.isSome_iff_exists.1 h
  exact cell_set_eq v hu
theorem some_of {w : World} {b o : Nat} {v : Value} (h : w.cell? ⟨b, o, none⟩ = some v) : (w.cell? ⟨b, o, none⟩).isSome = true := by rw [h]; rfl


theorem held7 {a w w1 : World} {b0 o0 : Nat} {u0 : Value} {b1 o1 : Nat} {u1 : Value} {b2 o2 : Nat} {u2 : Value} {b3 o3 : Nat} {u3 : Value} {b4 o4 : Nat} {u4 : Value} {b5 o5 : Nat} {u5 : Value} {b6 o6 : Nat} {u6 : Value} (h : w.cell? ⟨b0, o0, none⟩ = some u0 ∧ w.cell? ⟨b1, o1, none⟩ = some u1 ∧ w.cell? ⟨b2, o2, none⟩ = some u2 ∧ w.cell? ⟨b3, o3, none⟩ = some u3 ∧ w.cell? ⟨b4, o4, none⟩ = some u4 ∧ w.cell? ⟨b5, o5, none⟩ = some u5 ∧ w.cell? ⟨b6, o6, none⟩ = some u6 ∧ Below a.heap.size a w) (hb : Below w.heap.size w w1) :
    w1.cell? ⟨b0, o0, none⟩ = some u0 ∧ w1.cell? ⟨b1, o1, none⟩ = some u1 ∧ w1.cell? ⟨b2, o2, none⟩ = some u2 ∧ w1.cell? ⟨b3, o3, none⟩ = some u3 ∧ w1.cell? ⟨b4, o4, none⟩ = some u4 ∧ w1.cell? ⟨b5, o5, none⟩ = some u5 ∧ w1.cell? ⟨b6, o6, none⟩ = some u6 ∧ Below a.heap.size a w1 :=
  ⟨cellKeep hb h.1, cellKeep hb h.2.1, cellKeep hb h.2.2.1, cellKeep hb h.2.2.2.1, cellKeep hb h.2.2.2.2.1, cellKeep hb h.2.2.2.2.2.1, cellKeep hb h.2.2.2.2.2.2.1, below_then h.2.2.2.2.2.2.2 hb⟩
theorem held7_below {a w : World} {p0 p1 p2 p3 p4 p5 p6 : Prop} (h : p0 ∧ p1 ∧ p2 ∧ p3 ∧ p4 ∧ p5 ∧ p6 ∧ Below a.heap.size a w) : Below a.heap.size a w := h.2.2.2.2.2.2.2

end Go.Proofs.Ytlohpphmamapeaa
/-
  A slice appended to a slice of the call's own: the law of a walk.
  Conditions: at most 2^30 elements of at most 64 bytes.
-/
namespace Go.Proofs.Ytlohpphmamapeaa
open Go.RowKit
set_option linter.unusedVariables false

section
variable {P : Program} {ops : Array Oper} {rest : List Oper} {o : Oper} {a : Act} {Q : Exit → Act → World → Prop} {w0 w : World}
theorem push_many (hgd : o.guard = none) (s x : Operand) {t : TypeId} (ho : o.op = .call { callee := .builtin .append, args := #[s, x], argTypes := #[t, t] }) {e : TypeId} {size : Nat} (T : SlT P t e size)
    {base : Nat} {A : Option Addr} {n c : Nat} {xs : List Value} (hs : a.eval s = .slice A n c) (hown : w.ownsRow base e size (.slice A n c) n xs) {us : List Value} {ad : Addr} {m d : Nat} (hx : a.eval x = .slice (some ad) m d)
    (hrd : Rd w size (some ad) m us) (h1 : ∀ u ∈ us, u.oneCell' = true) (hb : Below base w0 w) (hw0 : base = w0.heap.size) (hn : n + m ≤ 1099511627776)
    (h : ∀ A' c' w', w'.ownsRow base e size (.slice A' (n + m) c') (n + m) (xs ++ us) → Below base w0 w' → wpList P ops Q rest (a.put o.dst (.slice A' (n + m) c')) w') : wpList P ops Q (o :: rest) a w := by
  obtain ⟨i, z, hi, hz, hsz, hby, hzs⟩ := T.info
  have hbw : base ≤ w.heap.size := by rw [hw0]; exact hb.size
  refine wpList_append_own _ hgd s x t ho base e i z size i.bytes T.und hi hz hsz rfl hzs T.pos (.slice A n c) n xs hs hown ad m d us hx hrd.1 (fun j u hu => ?_) h1 (by simp only [maxLen]; omega) ?_ hbw ?_
  · have hj : j < m * size := by rw [← hrd.1]; exact (List.getElem?_eq_some_iff.1 hu).1
    have hm : 0 < m := by cases m with | zero => simp at hj | succ k => omega
    obtain ⟨b, q, e1, hc⟩ := hrd.2 hm
    injection e1 with e1
    subst e1
    have ha : (⟨b, q, none⟩ : Addr).add j = ⟨b, q + j, none⟩ := by unfold Addr.add; split <;> simp_all
    rw [ha]
    exact hc j u hu
  · have : (n + m) * i.bytes ≤ 1099511627776 * 64 := Nat.mul_le_mul hn hby
    omega
  · intro v' w' hown' hg _
    obtain ⟨A', c', rfl⟩ := own_slice hown'
    exact h A' c' w' hown' (hb.grown hg hbw (fun k hk => (hown.lt k hk).1))
end
theorem row_type {w : World} {base : Nat} {e : TypeId} {size : Nat} {v : Value} {n : Nat} {xs : List Value} (h : w.ownsRow base e size v n xs) {g : Nat} (hg : v.ownBlock = some g) : ∃ cur, w.heap[g]? = some (.cells cur e (0, 0)) := by
  rcases h.2 with ⟨rfl, _⟩ | ⟨g', cap, cur, rfl, _, hc, _⟩
  · simp [Value.ownBlock] at hg
  · simp [Value.ownBlock] at hg
    subst hg
    exact ⟨cur, hc⟩
/-- Rows of different element types lie in different blocks. -/
theorem own_apart {w : World} {base base' : Nat} {e e' : TypeId} {size size' : Nat} {v v' : Value} {n n' : Nat} {xs xs' : List Value} (h : w.ownsRow base e size v n xs) (h' : w.ownsRow base' e' size' v' n' xs') (hne : e ≠ e') : v.ownBlock = none ∨ v.ownBlock ≠ v'.ownBlock := by
  cases hv : v.ownBlock with
  | none => exact Or.inl rfl
  | some g =>
    refine Or.inr fun heq => ?_
    obtain ⟨c1, h1⟩ := row_type h hv
    obtain ⟨c2, h2⟩ := row_type h' heq.symm
    rw [h1] at h2
    simp at h2
    exact hne h2.2
section
variable {P : Program} {ops : Array Oper} {rest : List Oper} {o : Oper} {a : Act} {Q : Exit → Act → World → Prop} {w0 w : World}
theorem push_law_g (hgd : o.guard = none) (s x : Operand) {t : TypeId} (ho : o.op = .call { callee := .builtin .append, args := #[s, x], argTypes := #[t, t] }) {e : TypeId} {size : Nat} (T : SlT P t e size)
    {base : Nat} {A : Option Addr} {n c : Nat} {xs : List Value} (hs : a.eval s = .slice A n c) (hown : w.ownsRow base e size (.slice A n c) n xs) {us : List Value} {g : Nat} (hx : a.eval x = .slice (some ⟨g, 0, none⟩) 1 1)
    (hus : us.length = size) (h1 : ∀ u ∈ us, u.oneCell' = true) (hb : Below base w0 w) (hw0 : base = w0.heap.size) (hn : n < 1099511627776)
    (h : ∀ A' c' w', w'.ownsRow base e size (.slice A' (n + 1) c') (n + 1) (xs ++ us) → Below base w0 w' → (w.alloc (.cells us.toArray e)).grownBy w' (Value.slice A n c).ownBlock → wpList P ops Q rest (a.put o.dst (.slice A' (n + 1) c')) w') (hgw : g = w.heap.size := by first | rfl | simp) : wpList P ops Q (o :: rest) a (w.alloc (.cells us.toArray e)) := by
  subst hgw
  obtain ⟨i, z, hi, hz, hsz, hby, hzs⟩ := T.info
  have hbw : base ≤ w.heap.size := by rw [hw0]; exact hb.size
  refine wpList_append_own _ hgd s x t ho base e i z size i.bytes T.und hi hz hsz rfl hzs T.pos (.slice A n c) n xs hs (hown.alloc _) ⟨w.heap.size, 0, none⟩ 1 1 us hx (by simpa using hus) (fun j u hu => ?_) h1 (by simp only [maxLen]; omega) ?_ (by simp; omega) ?_
  · have ha : (⟨w.heap.size, 0, none⟩ : Addr).add j = ⟨w.heap.size, j, none⟩ := by unfold Addr.add; split <;> simp_all
    rw [ha, World.cell?_alloc_at _ _ _ _ rfl]
    simpa using hu
  · have : (n + 1) * i.bytes ≤ 1099511627776 * 64 := Nat.mul_le_mul (by omega) hby
    omega
  · intro v' w' hown' hg _
    obtain ⟨A', c', rfl⟩ := own_slice hown'
    refine h A' c' w' hown' ?_ hg
    refine (hb.alloc hbw _).grown hg (by simp; omega) (fun k hk => ?_)
    exact (hown.lt k hk).1
theorem push_law_gd {m : Nat} (hgd : o.guard = none) (s x : Operand) {t : TypeId} (ho : o.op = .call { callee := .builtin .append, args := #[s, x], argTypes := #[t, t] }) {e : TypeId} {size : Nat} (T : SlT P t e size)
    {base : Nat} {A : Option Addr} {n c : Nat} {xs : List Value} (hs : a.eval s = .slice A n c) (hown : w.ownsRow base e size (.slice A n c) n xs) {us : List Value} {g : Nat} (hx : a.eval x = .slice (some ⟨g, 0, none⟩) 1 1)
    (hus : us.length = size) (h1 : ∀ u ∈ us, u.oneCell' = true) (hb : Below base w0 w) (hw0 : base = w0.heap.size) (hn : n < 1099511627776)
    (h : ∀ A' c' w', w'.ownsRow base e size (.slice A' (n + 1) c') (n + 1) (xs ++ us) → Below base w0 w' → ((w.drewN m).alloc (.cells us.toArray e)).grownBy w' (Value.slice A n c).ownBlock → wpList P ops Q rest (a.put o.dst (.slice A' (n + 1) c')) w') (hgw : g = w.heap.size := by first | rfl | simp) : wpList P ops Q (o :: rest) a ((w.alloc (.cells us.toArray e)).drewN m) :=
  push_law_g (w := w.drewN m) hgd s x ho T hs hown (us := us) hx hus h1 (below_drewN hb m) hw0 hn h hgw
end
theorem cellBelow {B b o : Nat} {w0 w : World} {u : Value} (hb : Below B w0 w) (hlt : b < B) (h : w0.cell? ⟨b, o, none⟩ = some u) : w.cell? ⟨b, o, none⟩ = some u := (hb.cell (p := ⟨b, o, none⟩) hlt).trans h
theorem ruls_one (rs : List M.Rule) (f : M.Rule → List Value) (hf : ∀ r, ∀ u ∈ f r, u.oneCell' = true) : ∀ u ∈ rs.flatMap f, u.oneCell' = true := fun u hu => by
  obtain ⟨r, _, h⟩ := List.mem_flatMap.1 hu
  exact hf r u h

end Go.Proofs.Ytlohpphmamapeaa
/-
  Contracts of PairsOf.
  Conditions: at most 2^20 rules.
-/
namespace Go.Proofs.Ytlohpphmamapeaa
open Go.RowKit
set_option linter.unusedVariables false

def M.lft (rs : List M.Rule) (i : Nat) : List UInt8 := match rs[i]? with
  | some r => r.left
  | none => []
theorem lft_at {rs : List M.Rule} {i : Nat} (h : i < rs.length) : M.lft rs i = rs[i].left := by simp [M.lft, h]
def M.inPair (rs : List M.Rule) (i j : Nat) (p : Int) : M.Pair := ⟨M.lft rs i, i, 0, j, p⟩
def M.acPair (rs : List M.Rule) (i j : Nat) (n : Int) : M.Pair := ⟨M.lft rs i ++ (M.lft rs j).drop n.toNat, i, 0, j, (M.lft rs i).length - n⟩
def M.inside (rs : List M.Rule) (i j : Nat) : List M.Pair := if i = j then [] else (M.PlacesOf (M.lft rs i) (M.lft rs j)).map (M.inPair rs i j)
def M.across (rs : List M.Rule) (i j : Nat) : List M.Pair := (M.OverlapsOf (M.lft rs i) (M.lft rs j)).map (M.acPair rs i j)
def M.pairRow (rs : List M.Rule) (i : Nat) : Nat → List M.Pair
  | 0 => []
  | j + 1 => M.pairRow rs i j ++ M.inside rs i j ++ M.across rs i j
def M.pairTo (rs : List M.Rule) : Nat → List M.Pair
  | 0 => []
  | i + 1 => M.pairTo rs i ++ M.pairRow rs i rs.length
def M.PairsOf (k : Int) (rs : List M.Rule) : List M.Pair := if M.SystemOk k rs = true then M.pairTo rs rs.length else []
theorem sides8 {k : Int} {rs : List M.Rule} (h : M.SystemOk k rs = true) {i : Nat} : (M.lft rs i).length ≤ 8 := by
  by_cases hi : i < rs.length
  · rw [lft_at hi]
    unfold M.SystemOk at h
    have h1 := (Bool.and_eq_true_iff.1 h).1
    unfold M.RulesOk at h1
    have h2 := (Bool.and_eq_true_iff.1 (Bool.and_eq_true_iff.1 h1).2).2
    by_cases hl : rs[i].left.length ≤ 8
    · exact hl
    · have hb : M.ruleBad k rs[i] = true := by
        unfold M.ruleBad M.SidesOk
        have : decide ((rs[i].left.length : Int) ≤ 8) = false := decide_eq_false (by omega)
        simp [this]
      have h3 : rs.any (M.ruleBad k) = true := List.any_eq_true.2 ⟨rs[i], List.getElem_mem hi, hb⟩
      rw [h3] at h2
      cases h2
  · simp [M.lft, hi]
theorem overlaps_len (u v : List UInt8) : (M.OverlapsOf u v).length ≤ u.length := Nat.le_trans (M.sel_len _ _) (by omega)
theorem places_len (u v : List UInt8) : (M.PlacesOf u v).length ≤ u.length := by unfold M.PlacesOf; split <;> (first | simp | exact M.sel_len _ _)
theorem inside_len {rs : List M.Rule} (h8 : ∀ i, (M.lft rs i).length ≤ 8) (i j : Nat) : (M.inside rs i j).length ≤ 8 := by
  unfold M.inside
  split
  · simp
  · rw [List.length_map]; exact Nat.le_trans (places_len _ _) (h8 i)
theorem across_len {rs : List M.Rule} (h8 : ∀ i, (M.lft rs i).length ≤ 8) (i j : Nat) : (M.across rs i j).length ≤ 8 := by
  unfold M.across
  rw [List.length_map]
  exact Nat.le_trans (overlaps_len _ _) (h8 i)
theorem row_len8 {rs : List M.Rule} (h8 : ∀ i, (M.lft rs i).length ≤ 8) (i : Nat) : ∀ j, (M.pairRow rs i j).length ≤ j * 16
  | 0 => by simp [M.pairRow]
  | j + 1 => by
    have h1 := row_len8 h8 i j
    have h2 := inside_len h8 i j
    have h3 := across_len h8 i j
    simp only [M.pairRow, List.length_append]
    omega
theorem to_len8 {rs : List M.Rule} (h8 : ∀ i, (M.lft rs i).length ≤ 8) (hn : rs.length ≤ 12) : ∀ i, (M.pairTo rs i).length ≤ i * 192
  | 0 => by simp [M.pairTo]
  | i + 1 => by
    have h1 := to_len8 h8 hn i
    have h2 := row_len8 h8 i rs.length
    simp only [M.pairTo, List.length_append]
    omega
theorem pairsOf_len (k : Int) (rs : List M.Rule) : (M.PairsOf k rs).length ≤ 13000000 := by
  unfold M.PairsOf
  split
  · rename_i h
    have h1 := rulesLe h
    have h2 := to_len8 (fun i => sides8 h) h1 rs.length
    omega
  · simp
theorem sel_mem {p : Nat → Bool} {k : Nat} {z : Int} (h : z ∈ M.sel p k) : ∃ i : Nat, z = i ∧ i < k := by
  unfold M.sel at h
  obtain ⟨i, hi, rfl⟩ := List.mem_map.1 h
  exact ⟨i, rfl, List.mem_range.1 (List.mem_filter.1 hi).1⟩
theorem places_mem {u v : List UInt8} {z : Int} (h : z ∈ M.PlacesOf u v) : ∃ i : Nat, z = i ∧ i ≤ u.length := by
  unfold M.PlacesOf at h
  split at h
  · simp at h
  · obtain ⟨i, rfl, hi⟩ := sel_mem h
    exact ⟨i, rfl, by omega⟩
theorem overlaps_mem {u v : List UInt8} {z : Int} (h : z ∈ M.OverlapsOf u v) : ∃ i : Nat, z = i ∧ i ≤ u.length ∧ i ≤ v.length := by
  obtain ⟨i, rfl, hi⟩ := sel_mem h
  exact ⟨i, rfl, by omega, by omega⟩
theorem pairs_one (xs : List M.Pair) : ∀ u ∈ pairs_ xs, u.oneCell' = true := fun u hu => by
  obtain ⟨r, _, h⟩ := List.mem_flatMap.1 hu
  simp [pairCells] at h
  rcases h with rfl | rfl | rfl | rfl | rfl <;> simp [Value.oneCell']
theorem own_empty (w : World) (o : Obj) : ((w.alloc o).alloc (.cells #[] 131)).ownsRow (w.heap.size + 1) 131 5 (.slice (some ⟨w.heap.size + 1, 0, none⟩) 0 0) 0 [] := by
  have h := World.ownsRow_lit (e := 131) (size := 5) (w.alloc o) #[] 0 (Nat.le_refl _) (by simp [maxLen]) (by simp)
  simpa using h
/-- A call that returns a slice of pairs of its own that is not nil. -/
def RetPairs (xs : List M.Pair) (w : World) (x : Ending) (w' : World) : Prop :=
  ∃ ad c, x = .returned (.slice (some ad) xs.length c) ∧ w'.ownsRow w.heap.size 131 5 (.slice (some ad) xs.length c) xs.length (pairs_ xs) ∧ Below w.heap.size w w'
theorem own_some {w : World} {base : Nat} {E : TypeId} {size n c : Nat} {A : Option Addr} {xs : List Value} (h : w.ownsRow base E size (.slice A n c) n xs) (hn : 0 < n) : ∃ ad, A = some ad := by
  obtain ⟨g, o, e, _⟩ := (Own.of_row h).cells hn
  exact ⟨_, e⟩


end Go.Proofs.Ytlohpphmamapeaa
/-
  What a marking of one slice leaves of the others: blocks that lie apart.
  Conditions: none; this text names no law.
-/
namespace Go.Proofs.Ytlohpphmamapeaa
open Go.RowKit
set_option linter.unusedVariables false

theorem cellGrown {w w' : World} {row : Option Nat} {b o : Nat} {u : Value} (hg : w.grownBy w' row) (h : w.cell? ⟨b, o, none⟩ = some u) (hne : some b ≠ row) : w'.cell? ⟨b, o, none⟩ = some u :=
  (World.cell?_of_block (a := ⟨b, o, none⟩) (hg.block b (World.block_lt_of_cell? w _ h) hne)).trans h
/-- Where the block of a slice lies. -/
def BlkIn (A : Option Addr) (n lo hi : Nat) : Prop := ∀ g, blk A n = some g → lo ≤ g ∧ g < hi
theorem Own.blkIn {w : World} {base size n : Nat} {A : Option Addr} {xs : List Value} (h : Own w base size A n xs) : BlkIn A n base w.heap.size := h.lt
theorem Rd.blkIn {w : World} {size n : Nat} {A : Option Addr} {xs : List Value} (h : Rd w size A n xs) (hs : 0 < size) : BlkIn A n 0 w.heap.size := fun g hg => by
  obtain ⟨hn, ad, rfl, rfl⟩ := blk_some hg
  exact ⟨Nat.zero_le _, h.lt hs hn rfl⟩
theorem blk_ne {A A' : Option Addr} {n n' lo hi lo' hi' : Nat} (h : BlkIn A n lo hi) (h' : BlkIn A' n' lo' hi') (hd : hi ≤ lo' ∨ hi' ≤ lo) : ∀ g, blk A n = some g → some g ≠ blk A' n' := fun g hg e => by
  have h1 := h g hg
  have h2 := h' g e.symm
  omega
theorem blk_off {A : Option Addr} {n lo hi b : Nat} (h : BlkIn A n lo hi) (hd : b < lo ∨ hi ≤ b) : some b ≠ blk A n := fun e => by
  have := h b e.symm
  omega
theorem Rd.grown' {w w' : World} {size n : Nat} {A : Option Addr} {xs : List Value} {row : Option Nat} (h : Rd w size A n xs) (hg : w.grownBy w' row) (hne : ∀ g, blk A n = some g → some g ≠ row) : Rd w' size A n xs :=
  h.grown hg fun hn ad ha => hne ad.block (by unfold blk; rw [if_neg (by omega), ha]; rfl)
theorem below_grown {B : Nat} {w0 w w' : World} {A : Option Addr} {n lo hi : Nat} (ht : Below B w0 w) (hB : B ≤ w.heap.size) (hg : w.grownBy w' (blk A n)) (hi' : BlkIn A n lo hi) (hl : B ≤ lo) : Below B w0 w' :=
  ht.grown hg hB (fun k hk => Nat.le_trans hl (hi' k hk).1)
set_option maxRecDepth 100000 in
set_option maxHeartbeats 1000000 in
theorem markTable_c (k : Int) (A : Option Addr) (n c base : Nat) (cs : List Value) (q : Int) (w : World) (hA : Own w base 1 A n cs) (hn : n ≤ 1099511627776) (hq0 : 0 ≤ q) (hq : q ≤ 1099511627776) :
    Calls Try.prog 28 #[.agg #[.int .i64 k, .slice A n c], .int .i64 q] w fun e w' => e = .returned (.int .i64 (q + n)) ∧ Own w' base 1 A n (ints (marked q n)) ∧ w.grownBy w' (blk A n) := by
  have hp := fun (o : Obj) => (Below.refl w.heap.size w).alloc (Nat.le_refl _) o
  have h1 := Lib.hid (fun o => markIntS_c A n c base cs q (w.alloc o) (hA.below (hp o)) hn hq0 hq)
  have HP := Lib.hid (fun o => grown_of_below (hp o) (blk A n))
  clear hA hp
  go_enter Try.func28, Try.ntmps28
  go_wp2_with fail
  refine (h1.out _).mono ?_
  rintro e w1 ⟨rfl, ho, hg⟩
  have HO := Lib.hid ho
  have HG := Lib.hid ((HP.out _).trans hg)
  clear ho hg
  go_wp2_with fail
  go_ret
  exact ⟨rfl, HO.out, HG.out⟩

end Go.Proofs.Ytlohpphmamapeaa
/-
  Contracts of markText and of the marking of slices of strings.
  Conditions: at most 2^40 elements.
-/
namespace Go.Proofs.Ytlohpphmamapeaa
open Go.RowKit
set_option linter.unusedVariables false

/-- 'string([]byte{x})', the slice just laid. -/
theorem oneByte (W : World) (x : Int) (h0 : 0 ≤ x) (h : x < 256) : (convert 75 9 (.slice (some ⟨W.heap.size, 0, none⟩) 1 1)).run Try.prog (W.alloc (.cells #[.int .u8 x] 5)) =
    .ok (.string ⟨[UInt8.ofNat x.toNat].toArray⟩) (W.alloc (.cells #[.int .u8 x] 5)) := by
  have hx : ((UInt8.ofNat x.toNat).toNat : Int) = x := by
    rw [UInt8.toNat_ofNat']
    omega
  exact run_convert_bytes_back (P := Try.prog) (W.alloc (.cells #[.int .u8 x] 5)) 75 9 5 ⟨W.heap.size, 0, none⟩ 1 [UInt8.ofNat x.toNat] Try.underlying75 Try.underlying5 Try.underlying9 (fun j hj => by
    obtain rfl : j = 0 := by simpa using hj
    have ha : (⟨W.heap.size, 0, none⟩ : Addr).add 0 = ⟨W.heap.size, 0, none⟩ := rfl
    rw [ha, World.cell?_alloc_at _ _ _ _ rfl]
    simp only [List.getElem_cons_zero]
    rw [hx]
    rfl)

/-- The decimal digits of n ahead of what stands there. -/
def digs : Nat → Nat → List UInt8 → List UInt8
  | 0, _, acc => acc
  | _ + 1, 0, acc => acc
  | f + 1, n + 1, acc => digs f ((n + 1) / 10) (UInt8.ofNat (48 + (n + 1) % 10) :: acc)
def markT (k : Int) : List UInt8 := 109 :: digs k.toNat k.toNat []
theorem digs_zero (f : Nat) (acc : List UInt8) : digs f 0 acc = acc := by cases f <;> rfl
theorem digs_len : ∀ (f n : Nat) (acc : List UInt8), (digs f n acc).length ≤ acc.length + f
  | 0, _, acc => by simp [digs]
  | f + 1, 0, acc => by simp [digs]
  | f + 1, n + 1, acc => by rw [digs]; have := digs_len f ((n + 1) / 10) (UInt8.ofNat (48 + (n + 1) % 10) :: acc); rw [List.length_cons] at this; omega
/-- More fuel than the number changes nothing. -/
theorem digs_fuel : ∀ (f g n : Nat) (acc : List UInt8), n ≤ f → n ≤ g → digs f n acc = digs g n acc
  | 0, g, n, acc, hf, _ => by obtain rfl : n = 0 := by omega
                              simp [digs_zero]
  | f + 1, 0, n, acc, _, hg => by obtain rfl : n = 0 := by omega
                                  simp [digs_zero]
  | f + 1, g + 1, 0, acc, _, _ => rfl
  | f + 1, g + 1, n + 1, acc, hf, hg => by
    rw [digs, digs]
    exact digs_fuel f g _ _ (by omega) (by omega)
theorem digs_step (n : Nat) (acc : List UInt8) (h : 0 < n) : digs n n acc = digs (n / 10) (n / 10) (UInt8.ofNat (48 + n % 10) :: acc) := by
  obtain ⟨m, rfl⟩ : ∃ m, n = m + 1 := ⟨n - 1, by omega⟩
  rw [digs]
  exact digs_fuel _ _ _ _ (by omega) (Nat.le_refl _)

set_option maxRecDepth 100000 in
set_option maxHeartbeats 1000000 in
theorem markText_c (k : Int) (w : World) (h0 : 1 ≤ k) (h1 : k ≤ 1099511627776) : Calls Try.prog 111 #[.int .i64 k] w fun e w' => e = .returned (.string ⟨(markT k).toArray⟩) ∧ Below w.heap.size w w' := by
  obtain ⟨K, rfl⟩ := Int.eq_ofNat_of_zero_le (show 0 ≤ k by omega)
  go_enter Try.func111, Try.ntmps111
  go_wp2
  go_loopw [0, 3] (fun a s wr => ∃ (n : Nat) (acc : List UInt8), n ≤ K ∧ a = .int .i64 n ∧ s = .string ⟨acc.toArray⟩ ∧ digs n n acc = digs K K [] ∧ acc.length + n ≤ K ∧ Below w.heap.size w wr) (fun a _ _ => (intOf a).toNat)
  case atStart => exact ⟨K, [], by omega, rfl, rfl, rfl, by simp, Below.refl _ _⟩
  case round =>
    obtain ⟨n, acc, hn, rfl, rfl, hd, hlen, hb⟩ := hrel
    have HD := Lib.hid hd
    have HB := Lib.hid hb
    clear hd hb
    by_cases hlt : 0 < n
    · have hc := oneByte wr (48 + (n : Int) % 10) (by omega) (by omega)
      have hal : acc.length ≤ 1099511627776 := by omega
      obtain ⟨x, hx⟩ : ∃ x : UInt8, x = UInt8.ofNat (48 + (n : Int) % 10).toNat := ⟨_, rfl⟩
      rw [← hx] at hc
      have hx' : x = UInt8.ofNat (48 + n % 10) := by rw [hx]; congr 1
      have HX := Lib.hid hx'
      clear hx hx'
      go_wp2
      go_roundw
      case rel => exact ⟨n / 10, x :: acc, by omega, by go_num, rfl, by rw [HX.out, ← digs_step n acc hlt]; exact HD.out, by rw [List.length_cons]; omega, HB.out.alloc HB.out.size _⟩
      case measure => simp [intOf]; omega
    · obtain rfl : n = 0 := by omega
      go_wp2
      go_ret
      exact ⟨ret_str (by rw [markT, Int.toNat_natCast, ← HD.out, digs_zero]), HB.out⟩


end Go.Proofs.Ytlohpphmamapeaa
/-
  The marking of slices of rules and of steps, and of systems.
  Conditions: at most 2^30 elements.
-/
namespace Go.Proofs.Ytlohpphmamapeaa
open Go.RowKit
set_option linter.unusedVariables false

theorem set_two {xs cs : List Value} {a b u v : Value} {k : Nat} (h : xs.length = k) : ((xs ++ a :: b :: cs).set k u).set (k + 1) v = xs ++ u :: v :: cs := by
  subst h
  rw [List.set_append_right _ _ (Nat.le_refl _), Nat.sub_self, List.set_cons_zero, List.set_append_right _ _ (by omega), show xs.length + 1 - xs.length = 1 by omega]
  rfl
theorem drop_two {cs : List Value} {k : Nat} (h : k + 1 < cs.length) : ∃ a b, cs.drop k = a :: b :: cs.drop (k + 2) := by
  refine ⟨cs[k], cs[k + 1], ?_⟩
  rw [List.drop_eq_getElem_cons (by omega), List.drop_eq_getElem_cons (i := k + 1) h]
def markedRule (q : Int) (n : Nat) : List M.Rule := (List.range n).map fun k => ⟨markT (q + ((k : Nat) : Int) * 2), markT (q + ((k : Nat) : Int) * 2 + 1)⟩
theorem markedRule_len (q : Int) (n : Nat) : (markedRule q n).length = n := by simp [markedRule]
theorem markedRule_succ (q : Int) (k : Nat) : markedRule q (k + 1) = markedRule q k ++ [⟨markT (q + ((k : Nat) : Int) * 2), markT (q + ((k : Nat) : Int) * 2 + 1)⟩] := by simp [markedRule, List.range_succ]
def markRuleTo (cs : List Value) (q : Int) (k : Nat) : List Value := ruls (markedRule q k) ++ cs.drop (k * 2)
theorem markRuleTo_set {cs : List Value} {q : Int} {k n : Nat} (h : k < n) (hl : cs.length = n * 2) : ((markRuleTo cs q k).set (k * 2) (.string ⟨(markT (q + (k : Int) * 2)).toArray⟩)).set (k * 2 + 1) (.string ⟨(markT (q + (k : Int) * 2 + 1)).toArray⟩) = markRuleTo cs q (k + 1) := by
  unfold markRuleTo
  obtain ⟨a, b, e⟩ := drop_two (cs := cs) (k := k * 2) (by omega)
  rw [e, set_two (by rw [ruls_len, markedRule_len]), markedRule_succ]
  simp [ruls, rule2, Nat.add_mul]
set_option maxRecDepth 100000 in
set_option maxHeartbeats 2000000 in
theorem markRuleS_c (A : Option Addr) (n c base : Nat) (cs : List Value) (q : Int) (w : World) (hA : Own w base 2 A n cs) (hn : n ≤ 13000000) (hq0 : 1 ≤ q) (hq : q ≤ 1048578) :
    Calls Try.prog 53 #[.slice A n c, .int .i64 q] w fun e w' => e = .returned (.int .i64 (q + (n : Int) * 2)) ∧ Own w' base 2 A n (ruls (markedRule q n)) ∧ w.grownBy w' (blk A n) := by
  have hlen : cs.length = n * 2 := by simpa using hA.1
  have HL := Lib.hid hlen
  have HA := Lib.hid hA
  clear hlen hA
  go_enter Try.func53, Try.ntmps53
  go_wp2
  go_loopw [1, 5] (fun q' i wr => ∃ k : Nat, k ≤ n ∧ i = .int .i64 k ∧ q' = .int .i64 (q + (k : Int) * 2) ∧ Own wr base 2 A n (markRuleTo cs q k) ∧ w.grownBy wr (blk A n)) (fun _ i _ => n - (intOf i).toNat)
  case atStart => exact ⟨0, by omega, rfl, by simp, by simpa [markRuleTo, markedRule, ruls] using HA.out, World.grownBy.refl w _⟩
  case round =>
    obtain ⟨k, hk, rfl, rfl, hown, hg⟩ := hrel
    by_cases hlt : k < n
    · have HO := Lib.hid hown
      have HG := Lib.hid hg
      have HSET := Lib.hid (markRuleTo_set (q := q) hlt HL.out)
      obtain ⟨b, o, rfl, _⟩ := HO.out.cells (by omega)
      have HROW := Lib.hid (show blk (some ⟨b, o, none⟩) n = some b by unfold blk; rw [if_neg (by omega)]; rfl)
      have hlm := HO.out.1
      generalize markRuleTo cs q k = pr at *
      clear hown hg
      go_wp2_with fail
      refine (markText_c _ _ (by omega) (by omega)).mono ?_
      rintro e w1 ⟨rfl, hb1⟩
      have HO1 := Lib.hid (HO.out.below hb1)
      have HB1 := Lib.hid hb1
      clear hb1
      obtain ⟨b', o', e1, _, _, hz, hf, hst⟩ := (HO1.out).cells (by omega)
      injection e1 with e1
      injection e1 with e1 e2
      subst e1 e2
      obtain ⟨u0a, hu0a⟩ : ∃ u, (w1).cell? ⟨b, o + k * 2, none⟩ = some u := ⟨_, hz (k * 2) _ (List.getElem?_eq_getElem (by first | omega | (simp; omega)))⟩
      have hf0a : (w1).frozen? ⟨b, o + k * 2, none⟩ = false := hf (k * 2)
      have H1 := Lib.hid (hst (k * 2) (.string ⟨(markT (q + (k : Int) * 2)).toArray⟩))
      clear hz hf hst
      go_wp2_with fail
      refine (markText_c _ _ (by omega) (by omega)).mono ?_
      rintro e w2 ⟨rfl, hb2⟩
      have HO2 := Lib.hid (H1.out.1.below hb2)
      have HB2 := Lib.hid hb2
      clear hb2
      obtain ⟨b', o', e1, _, _, hz, hf, hst⟩ := (HO2.out).cells (by omega)
      injection e1 with e1
      injection e1 with e1 e2
      subst e1 e2
      obtain ⟨u1b, hu1b⟩ : ∃ u, (w2).cell? ⟨b, o + k * 2 + 1, none⟩ = some u := ⟨_, hz (k * 2 + 1) _ (List.getElem?_eq_getElem (by first | omega | (simp; omega)))⟩
      have hf1b : (w2).frozen? ⟨b, o + k * 2 + 1, none⟩ = false := hf (k * 2 + 1)
      have H2 := Lib.hid (hst (k * 2 + 1) (.string ⟨(markT (q + (k : Int) * 2 + 1)).toArray⟩))
      clear hz hf hst
      go_wp2_with fail
      go_roundw
      case rel => exact ⟨k + 1, by omega, by go_num, by go_num, by rw [← HSET.out]; exact H2.out.1, (HG.out.trans (grown_of_below HB1.out _)).trans (by rw [HROW.out]; exact (H1.out.2.trans (grown_of_below HB2.out _)).trans H2.out.2)⟩
      case measure => simp [intOf] <;> omega
    · obtain rfl : k = n := by omega
      have HO := Lib.hid hown
      have HG := Lib.hid hg
      clear hown hg
      go_wp2
      go_ret
      exact ⟨rfl, by have h := HO.out; unfold markRuleTo at h; rw [List.drop_of_length_le (by have := HL.out; omega), List.append_nil] at h; exact h, HG.out⟩
theorem markedRule_at (q : Int) (n k : Nat) (h : k < (markedRule q n).length) : (markedRule q n)[k] = ⟨markT (q + (k : Int) * 2), markT (q + (k : Int) * 2 + 1)⟩ := by simp [markedRule]
set_option maxRecDepth 100000 in
set_option maxHeartbeats 2000000 in
theorem heldRuleS_c (A : Option Addr) (n c : Nat) (q : Int) (w : World) (hA : Rd w 2 A n (ruls (markedRule q n))) (hn : n ≤ 13000000) (hq0 : 1 ≤ q) (hq : q ≤ 1048578) :
    Calls Try.prog 66 #[.slice A n c, .int .i64 q] w fun e w' => e = .returned (.int .i64 (q + (n : Int) * 2)) ∧ Below w.heap.size w w' := by
  have HA := Lib.hid hA
  clear hA
  go_enter Try.func66, Try.ntmps66
  go_wp2
  go_loopw [1, 5] (fun q' i wr => ∃ k : Nat, k ≤ n ∧ i = .int .i64 k ∧ q' = .int .i64 (q + (k : Int) * 2) ∧ Below w.heap.size w wr) (fun _ i _ => n - (intOf i).toNat)
  case atStart => exact ⟨0, by omega, rfl, by simp, Below.refl _ _⟩
  case round =>
    obtain ⟨k, hk, rfl, rfl, hb⟩ := hrel
    have HB := Lib.hid hb
    clear hb
    by_cases hlt : k < n
    · obtain ⟨b, o, rfl, hz, hc1, hc2⟩ := (HA.out.below HB.out).ruleAt hlt
      rw [markedRule_at] at hc1 hc2
      simp only at hc1 hc2
      have HC1 := Lib.hid hc1
      have HC2 := Lib.hid hc2
      have HM1 := Lib.hid (fun W => markText_c (q + (k : Int) * 2) W (by omega) (by omega))
      have HM2 := Lib.hid (fun W => markText_c (q + (k : Int) * 2 + 1) W (by omega) (by omega))
      go_wp2_with fail
      go_region_with (go_at_call 111; refine (HM1.out _).mono ?_; rintro e w1 ⟨rfl, hb1⟩; have hd1 := cellKeep hb1 HC1.out)
      all_goals
        have HB1 := Lib.hid ((HB.out.drew).trans (hb1.mono HB.out.size))
        have he2 := cellKeep hb1 HC2.out
        have HE2 := Lib.hid he2
        clear hb1
        go_wp2_with fail
        go_region_with (go_at_call 111; refine (HM2.out _).mono ?_; rintro e w2 ⟨rfl, hb2⟩; have hd2 := cellKeep hb2 HE2.out)
        all_goals
          go_wp2
          go_roundw
          case rel => exact ⟨k + 1, by omega, by go_num, by go_num, (HB1.out.drew).trans (hb2.mono HB1.out.size)⟩
          case measure => simp [intOf] <;> omega
    · obtain rfl : k = n := by omega
      go_wp2
      go_ret
      exact ⟨rfl, HB.out⟩
set_option maxRecDepth 100000 in
set_option maxHeartbeats 1000000 in
theorem markSystem_c (k : Int) (A : Option Addr) (n c base : Nat) (cs : List Value) (q : Int) (w : World) (hA : Own w base 2 A n cs) (hn : n ≤ 13000000) (hq0 : 1 ≤ q) (hq : q ≤ 1048578) :
    Calls Try.prog 19 #[.agg #[.int .i64 k, .slice A n c], .int .i64 q] w fun e w' => e = .returned (.int .i64 (q + (n : Int) * 2)) ∧ Own w' base 2 A n (ruls (markedRule q n)) ∧ w.grownBy w' (blk A n) := by
  have hp := fun (o : Obj) => (Below.refl w.heap.size w).alloc (Nat.le_refl _) o
  have h1 := Lib.hid (fun o => markRuleS_c A n c base cs q (w.alloc o) (hA.below (hp o)) hn hq0 hq)
  have HP := Lib.hid (fun o => grown_of_below (hp o) (blk A n))
  clear hA hp
  go_enter Try.func19, Try.ntmps19
  go_wp2_with fail
  refine (h1.out _).mono ?_
  rintro e w1 ⟨rfl, ho, hg⟩
  have HO := Lib.hid ho
  have HG := Lib.hid ((HP.out _).trans hg)
  clear ho hg
  go_wp2_with fail
  go_ret
  exact ⟨rfl, HO.out, HG.out⟩
set_option maxRecDepth 100000 in
set_option maxHeartbeats 1000000 in
theorem heldSystem_c (k : Int) (A : Option Addr) (n c : Nat) (q : Int) (w : World) (hA : Rd w 2 A n (ruls (markedRule q n))) (hn : n ≤ 13000000) (hq0 : 1 ≤ q) (hq : q ≤ 1048578) :
    Calls Try.prog 20 #[.agg #[.int .i64 k, .slice A n c], .int .i64 q] w fun e w' => e = .returned (.int .i64 (q + (n : Int) * 2)) ∧ Below w.heap.size w w' := by
  have hp := fun (o : Obj) => (Below.refl w.heap.size w).alloc (Nat.le_refl _) o
  have h1 := Lib.hid (fun o => heldRuleS_c A n c q (w.alloc o) (hA.below (hp o)) hn hq0 hq)
  have hneg : ¬ (q + (n : Int) * 2 < 0) := by omega
  clear hA hp
  go_enter Try.func20, Try.ntmps20
  go_wp2_with fail
  refine (h1.out _).mono ?_
  rintro e w1 ⟨rfl, hb⟩
  go_wp2_with fail
  go_ret
  exact ⟨rfl, below_alloc1 hb⟩

end Go.Proofs.Ytlohpphmamapeaa
/-
  The laws' helpers on Work; contracts of WorkOk.
  Conditions: at most 2^20 rules.
-/
namespace Go.Proofs.Ytlohpphmamapeaa
open Go.ChangeShapes Go.WideShapes Go.ChangeAt Go.RowKit Go.Joins Go.Deep
set_option linter.unusedVariables false
set_option linter.unusedSimpArgs false

theorem held8 {a w w1 : World} {b0 o0 : Nat} {u0 : Value} {b1 o1 : Nat} {u1 : Value} {b2 o2 : Nat} {u2 : Value} {b3 o3 : Nat} {u3 : Value} {b4 o4 : Nat} {u4 : Value} {b5 o5 : Nat} {u5 : Value} {b6 o6 : Nat} {u6 : Value} {b7 o7 : Nat} {u7 : Value} (h : w.cell? ⟨b0, o0, none⟩ = some u0 ∧ w.cell? ⟨b1, o1, none⟩ = some u1 ∧ w.cell? ⟨b2, o2, none⟩ = some u2 ∧ w.cell? ⟨b3, o3, none⟩ = some u3 ∧ w.cell? ⟨b4, o4, none⟩ = some u4 ∧ w.cell? ⟨b5, o5, none⟩ = some u5 ∧ w.cell? ⟨b6, o6, none⟩ = some u6 ∧ w.cell? ⟨b7, o7, none⟩ = some u7 ∧ Below a.heap.size a w) (hb : Below w.heap.size w w1) :
    w1.cell? ⟨b0, o0, none⟩ = some u0 ∧ w1.cell? ⟨b1, o1, none⟩ = some u1 ∧ w1.cell? ⟨b2, o2, none⟩ = some u2 ∧ w1.cell? ⟨b3, o3, none⟩ = some u3 ∧ w1.cell? ⟨b4, o4, none⟩ = some u4 ∧ w1.cell? ⟨b5, o5, none⟩ = some u5 ∧ w1.cell? ⟨b6, o6, none⟩ = some u6 ∧ w1.cell? ⟨b7, o7, none⟩ = some u7 ∧ Below a.heap.size a w1 :=
  ⟨cellKeep hb h.1, cellKeep hb h.2.1, cellKeep hb h.2.2.1, cellKeep hb h.2.2.2.1, cellKeep hb h.2.2.2.2.1, cellKeep hb h.2.2.2.2.2.1, cellKeep hb h.2.2.2.2.2.2.1, cellKeep hb h.2.2.2.2.2.2.2.1, below_then h.2.2.2.2.2.2.2.2 hb⟩
theorem held8_below {a w : World} {p0 p1 p2 p3 p4 p5 p6 p7 : Prop} (h : p0 ∧ p1 ∧ p2 ∧ p3 ∧ p4 ∧ p5 ∧ p6 ∧ p7 ∧ Below a.heap.size a w) : Below a.heap.size a w := h.2.2.2.2.2.2.2.2
/-- A call that returns a work with both of its slices in memory of its own. -/
def RetWork (k : Int) (rs qs : List M.Rule) (t : Int) (w : World) (x : Ending) (w' : World) : Prop :=
  ∃ A c B d, x = .returned (.agg #[.int .i64 k, .slice A rs.length c, .slice B qs.length d, .int .i64 t]) ∧ Own w' w.heap.size 2 A rs.length (ruls rs) ∧ Own w' w.heap.size 2 B qs.length (ruls qs) ∧ Below w.heap.size w w'
set_option maxRecDepth 100000 in
set_option maxHeartbeats 2000000 in
theorem szWork_c (k : Int) (A : Option Addr) (c : Nat) (rs : List M.Rule) (B : Option Addr) (d : Nat) (qs : List M.Rule) (t n : Int) (w : World) (hA : Rd w 2 A rs.length (ruls rs)) (hB : Rd w 2 B qs.length (ruls qs)) (hl : rs.length ≤ 9223372036854775807) (hql : qs.length ≤ 9223372036854775807) (hs : ∀ r ∈ rs, r.left.length ≤ 9223372036854775807 ∧ r.right.length ≤ 9223372036854775807) (hqs : ∀ r ∈ qs, r.left.length ≤ 9223372036854775807 ∧ r.right.length ≤ 9223372036854775807) (hn : n ≤ 1048576) (hn0 : 0 ≤ n) :
    Calls Try.prog 41 #[.agg #[.int .i64 k, .slice A rs.length c, .slice B qs.length d, .int .i64 t], .int .i64 n] w fun e w' => e = .returned (.int .i64 (if M.szRules rs n < 0 then -1 else if M.szRules qs (M.szRules rs n) < 0 then -1 else M.szRules qs (M.szRules rs n))) ∧ Below w.heap.size w w' := by
  have h1 := Lib.hid (fun W h => szSystem_c k A c rs n W h hl hs hn hn0)
  have HA := Lib.hid hA
  have HB := Lib.hid hB
  clear hA hB
  by_cases h0 : M.szRules rs n < 0
  case pos =>
    rw [if_pos h0]
    rw [if_pos h0] at h1
    clear h0 hs hqs
    go_enter Try.func41, Try.ntmps41
    go_wp2_with fail
    refine (h1.out _ (HA.out.below ((Below.refl _ _).alloc (Nat.le_refl _) _))).mono ?_
    rintro e w1 ⟨rfl, hb⟩
    go_wp2_with fail
    go_ret
    exact ⟨rfl, below_alloc1 hb⟩
  case neg =>
  rw [if_neg h0]
  rw [if_neg h0] at h1
  obtain ⟨_, _, hle⟩ := M.szRules_ok h0
  obtain ⟨z, hz⟩ : ∃ z, z = M.szRules rs n := ⟨_, rfl⟩
  rw [← hz] at h1 h0 hle ⊢
  have h2 := Lib.hid (fun W h => szRuleS_c B d qs z W h hql hqs (by omega) (by omega))
  clear hz hs hqs
  generalize M.szRules qs z = y at *
  by_cases h3 : y < 0
  all_goals
    first | rw [if_pos h3] | rw [if_neg h3]
    go_enter Try.func41, Try.ntmps41
    go_wp2_with fail
    refine (h1.out _ (HA.out.below ((Below.refl _ _).alloc (Nat.le_refl _) _))).mono ?_
    rintro e w1 ⟨rfl, hb⟩
    have c2 : w1.cell? ⟨w.heap.size, 2, none⟩ = some (.slice B qs.length d) := cellKeep hb (by simp [go_sem])
    have HB1 := Lib.hid (below_alloc1 hb)
    clear hb
    go_wp2_with fail
    refine (h2.out _ (HB.out.below HB1.out)).mono ?_
    rintro e w2 ⟨rfl, hb2⟩
    go_wp2_with fail
    go_ret
    exact ⟨rfl, HB1.out.trans (hb2.mono HB1.out.size)⟩
set_option maxRecDepth 100000 in
set_option maxHeartbeats 4000000 in
theorem toWork_c (k : Int) (A : Option Addr) (c : Nat) (rs : List M.Rule) (B : Option Addr) (d : Nat) (qs : List M.Rule) (t : Int) (w : World) (hA : Rd w 2 A rs.length (ruls rs)) (hB : Rd w 2 B qs.length (ruls qs)) (hl : rs.length ≤ 1048576) (hql : qs.length ≤ 1048576) :
    Calls Try.prog 43 #[.agg #[.int .i64 k, .slice A rs.length c, .slice B qs.length d, .int .i64 t]] w (RetWork k rs qs t w) := by
  have h1 := Lib.hid (fun W h => toSystem_c k A c rs W h hl)
  have h2 := Lib.hid (fun W h => toRuleS_c B d qs W h hql)
  have HA := Lib.hid hA
  have HB := Lib.hid hB
  clear hA hB
  go_enter Try.func43, Try.ntmps43
  go_wp2_with fail
  refine (h1.out _ (HA.out.below (by repeat (first | exact Below.refl _ _ | refine Below.setCell ?_ (by simp <;> omega) _ | refine Below.alloc ?_ (by simp <;> omega) _ | refine below_drewN ?_ _ | refine Below.drew ?_)))).mono ?_
  rintro e w1 ⟨A1, c1, rfl, ho, hb⟩
  have b0 : w1.cell? ⟨w.heap.size, 0, none⟩ = some (.int .i64 k) := cellKeep hb (by simp [go_sem])
  have b1 : w1.cell? ⟨w.heap.size, 1, none⟩ = some (.slice A rs.length c) := cellKeep hb (by simp [go_sem])
  have b2 : w1.cell? ⟨w.heap.size, 2, none⟩ = some (.slice B qs.length d) := cellKeep hb (by simp [go_sem])
  have b3 : w1.cell? ⟨w.heap.size, 3, none⟩ = some (.int .i64 t) := cellKeep hb (by simp [go_sem])
  have r0 : w1.cell? ⟨w.heap.size + 1, 0, none⟩ = some (.int .i64 0) := cellKeep hb (by simp [go_sem])
  have r1 : w1.cell? ⟨w.heap.size + 1, 1, none⟩ = some (.slice none 0 0) := cellKeep hb (by simp [go_sem])
  have r2 : w1.cell? ⟨w.heap.size + 1, 2, none⟩ = some (.slice none 0 0) := cellKeep hb (by simp [go_sem])
  have r3 : w1.cell? ⟨w.heap.size + 1, 3, none⟩ = some (.int .i64 0) := cellKeep hb (by simp [go_sem])
  have fr0 : w1.frozen? ⟨w.heap.size + 1, 0, none⟩ = false := ((bcell hb).2 _ _ (by simp)).trans (by simp [go_sem])
  have fr1 : w1.frozen? ⟨w.heap.size + 1, 1, none⟩ = false := ((bcell hb).2 _ _ (by simp)).trans (by simp [go_sem])
  have fr2 : w1.frozen? ⟨w.heap.size + 1, 2, none⟩ = false := ((bcell hb).2 _ _ (by simp)).trans (by simp [go_sem])
  have fr3 : w1.frozen? ⟨w.heap.size + 1, 3, none⟩ = false := ((bcell hb).2 _ _ (by simp)).trans (by simp [go_sem])
  have x0 : w1.cell? ⟨w.heap.size + 1 + 1, 0, none⟩ = some (.int .i64 0) := cellKeep hb (by simp [go_sem])
  have x1 : w1.cell? ⟨w.heap.size + 1 + 1, 1, none⟩ = some (.slice none 0 0) := cellKeep hb (by simp [go_sem])
  have x2 : w1.cell? ⟨w.heap.size + 1 + 1, 2, none⟩ = some (.slice none 0 0) := cellKeep hb (by simp [go_sem])
  have x3 : w1.cell? ⟨w.heap.size + 1 + 1, 3, none⟩ = some (.int .i64 0) := cellKeep hb (by simp [go_sem])
  have fx0 : w1.frozen? ⟨w.heap.size + 1 + 1, 0, none⟩ = false := ((bcell hb).2 _ _ (by simp)).trans (by simp [go_sem])
  have fx1 : w1.frozen? ⟨w.heap.size + 1 + 1, 1, none⟩ = false := ((bcell hb).2 _ _ (by simp)).trans (by simp [go_sem])
  have fx2 : w1.frozen? ⟨w.heap.size + 1 + 1, 2, none⟩ = false := ((bcell hb).2 _ _ (by simp)).trans (by simp [go_sem])
  have fx3 : w1.frozen? ⟨w.heap.size + 1 + 1, 3, none⟩ = false := ((bcell hb).2 _ _ (by simp)).trans (by simp [go_sem])
  have HB1 := Lib.hid (below_then (a := w) (by repeat (first | exact Below.refl _ _ | refine Below.setCell ?_ (by simp <;> omega) _ | refine Below.alloc ?_ (by simp <;> omega) _ | refine below_drewN ?_ _ | refine Below.drew ?_)) hb)
  have HS1 := Lib.hid (show w.heap.size + 3 ≤ w1.heap.size by have h := hb.size; (try simp at h); omega)
  have HO := Lib.hid (ho.mono (base' := w.heap.size + 3) (by simp <;> omega))
  clear hb ho
  obtain ⟨S, hS⟩ : ∃ S, S = Value.slice A1 rs.length c1 := ⟨_, rfl⟩
  have y2 : ((w1.setCell ⟨w.heap.size + 1 + 1, 0, none⟩ (.int .i64 k)).setCell ⟨w.heap.size + 1 + 1, 1, none⟩ S).cell? ⟨w.heap.size, 2, none⟩ = some (.slice B qs.length d) := by simp [cell_set_ne, b2]
  have y3 : ((w1.setCell ⟨w.heap.size + 1 + 1, 0, none⟩ (.int .i64 k)).setCell ⟨w.heap.size + 1 + 1, 1, none⟩ S).cell? ⟨w.heap.size, 3, none⟩ = some (.int .i64 t) := by simp [cell_set_ne, b3]
  subst hS
  go_wp2_with fail
  refine (h2.out _ (HB.out.below ((HB1.out.setCell (by simp <;> omega) _).setCell (by simp <;> omega) _))).mono ?_
  rintro e w2 ⟨B1, d1, rfl, ho2, hb2⟩
  have d3 : w2.cell? ⟨w.heap.size, 3, none⟩ = some (.int .i64 t) := cellKeep hb2 (by simp [cell_set_ne, b3])
  have s0 : w2.cell? ⟨w.heap.size + 1, 0, none⟩ = some (.int .i64 0) := cellKeep hb2 (by simp [cell_set_ne, r0])
  have s1 : w2.cell? ⟨w.heap.size + 1, 1, none⟩ = some (.slice none 0 0) := cellKeep hb2 (by simp [cell_set_ne, r1])
  have s2 : w2.cell? ⟨w.heap.size + 1, 2, none⟩ = some (.slice none 0 0) := cellKeep hb2 (by simp [cell_set_ne, r2])
  have s3 : w2.cell? ⟨w.heap.size + 1, 3, none⟩ = some (.int .i64 0) := cellKeep hb2 (by simp [cell_set_ne, r3])
  have z0 : w2.cell? ⟨w.heap.size + 1 + 1, 0, none⟩ = some (.int .i64 k) := cellKeep hb2 (by simp [cell_set_ne, set_some, isSome_keep, some_of x0, x0])
  have z1 : w2.cell? ⟨w.heap.size + 1 + 1, 1, none⟩ = some (.slice A1 rs.length c1) := cellKeep hb2 (by simp [cell_set_ne, set_some, isSome_keep, some_of x1, x1])
  have z2 : w2.cell? ⟨w.heap.size + 1 + 1, 2, none⟩ = some (.slice none 0 0) := cellKeep hb2 (by simp [cell_set_ne, set_some, isSome_keep, some_of x2, x2])
  have z3 : w2.cell? ⟨w.heap.size + 1 + 1, 3, none⟩ = some (.int .i64 0) := cellKeep hb2 (by simp [cell_set_ne, set_some, isSome_keep, some_of x3, x3])
  have gr0 : w2.frozen? ⟨w.heap.size + 1, 0, none⟩ = false := ((bcell hb2).2 _ _ (by have := World.block_lt_of_cell? w1 _ r0; simp; omega)).trans (by simpa using fr0)
  have gr1 : w2.frozen? ⟨w.heap.size + 1, 1, none⟩ = false := ((bcell hb2).2 _ _ (by have := World.block_lt_of_cell? w1 _ r1; simp; omega)).trans (by simpa using fr1)
  have gr2 : w2.frozen? ⟨w.heap.size + 1, 2, none⟩ = false := ((bcell hb2).2 _ _ (by have := World.block_lt_of_cell? w1 _ r2; simp; omega)).trans (by simpa using fr2)
  have gr3 : w2.frozen? ⟨w.heap.size + 1, 3, none⟩ = false := ((bcell hb2).2 _ _ (by have := World.block_lt_of_cell? w1 _ r3; simp; omega)).trans (by simpa using fr3)
  have gx0 : w2.frozen? ⟨w.heap.size + 1 + 1, 0, none⟩ = false := ((bcell hb2).2 _ _ (by have := World.block_lt_of_cell? w1 _ x0; simp; omega)).trans (by simpa using fx0)
  have gx1 : w2.frozen? ⟨w.heap.size + 1 + 1, 1, none⟩ = false := ((bcell hb2).2 _ _ (by have := World.block_lt_of_cell? w1 _ x1; simp; omega)).trans (by simpa using fx1)
  have gx2 : w2.frozen? ⟨w.heap.size + 1 + 1, 2, none⟩ = false := ((bcell hb2).2 _ _ (by have := World.block_lt_of_cell? w1 _ x2; simp; omega)).trans (by simpa using fx2)
  have gx3 : w2.frozen? ⟨w.heap.size + 1 + 1, 3, none⟩ = false := ((bcell hb2).2 _ _ (by have := World.block_lt_of_cell? w1 _ x3; simp; omega)).trans (by simpa using fx3)
  have HB2 := Lib.hid (below_then ((HB1.out.setCell (by simp <;> omega) _).setCell (by simp <;> omega) _) hb2)
  have HO1 := Lib.hid (((HO.out.setLow (b := w.heap.size + 1 + 1) (o := 0) (u := .int .i64 k) (by omega)).setLow (b := w.heap.size + 1 + 1) (o := 1) (u := .slice A1 rs.length c1) (by omega)).below hb2)
  have HO2 := Lib.hid (ho2.mono (base' := w.heap.size + 3) (by have := HS1.out; simp; omega))
  clear hb2 ho2
  clear b0 r0 x0 fr0 fx0 b1 r1 x1 fr1 fx1 b2 r2 x2 fr2 fx2 b3 r3 x3 fr3 fx3
  have u3 : (w2.setCell ⟨w.heap.size + 1 + 1, 2, none⟩ (.slice B1 qs.length d1)).cell? ⟨w.heap.size, 3, none⟩ = some (.int .i64 t) := by simp [cell_set_ne, d3]
  have v0 : ((w2.setCell ⟨w.heap.size + 1 + 1, 2, none⟩ (.slice B1 qs.length d1)).setCell ⟨w.heap.size + 1 + 1, 3, none⟩ (.int .i64 t)).cell? ⟨w.heap.size + 1 + 1, 0, none⟩ = some (.int .i64 k) := by simp [cell_set_ne, set_some, isSome_keep, some_of z0, z0]
  have v1 : ((w2.setCell ⟨w.heap.size + 1 + 1, 2, none⟩ (.slice B1 qs.length d1)).setCell ⟨w.heap.size + 1 + 1, 3, none⟩ (.int .i64 t)).cell? ⟨w.heap.size + 1 + 1, 1, none⟩ = some (.slice A1 rs.length c1) := by simp [cell_set_ne, set_some, isSome_keep, some_of z1, z1]
  have v2 : ((w2.setCell ⟨w.heap.size + 1 + 1, 2, none⟩ (.slice B1 qs.length d1)).setCell ⟨w.heap.size + 1 + 1, 3, none⟩ (.int .i64 t)).cell? ⟨w.heap.size + 1 + 1, 2, none⟩ = some (.slice B1 qs.length d1) := by simp [cell_set_ne, set_some, isSome_keep, some_of z2, z2]
  have v3 : ((w2.setCell ⟨w.heap.size + 1 + 1, 2, none⟩ (.slice B1 qs.length d1)).setCell ⟨w.heap.size + 1 + 1, 3, none⟩ (.int .i64 t)).cell? ⟨w.heap.size + 1 + 1, 3, none⟩ = some (.int .i64 t) := by simp [cell_set_ne, set_some, isSome_keep, some_of z3, z3]
  have m0 := some_of s0
  have m1 := some_of s1
  have m2 := some_of s2
  have m3 := some_of s3
  go_wp2_with fail
  refine bodyPost_ret (v := .agg #[.int .i64 k, .slice A1 rs.length c1, .slice B1 qs.length d1, .int .i64 t]) ?_ rfl ⟨_, _, _, _, rfl, ?_, ?_, ?_⟩
  · simp [results, Try.results43, go_sem, cell_set_ne, set_some, isSome_keep, m0, m1, m2, m3]
  · exact (((((((HO1.out.setLow (by omega)).setLow (by omega)).setLow (by omega)).setLow (by omega)).setLow (by omega)).setLow (by omega))).mono (by omega)
  · exact (((((((HO2.out.setLow (by omega)).setLow (by omega)).setLow (by omega)).setLow (by omega)).setLow (by omega)).setLow (by omega))).mono (by omega)
  · exact ((((((HB2.out.setCell (by simp <;> omega) _).setCell (by simp <;> omega) _).setCell (by simp <;> omega) _).setCell (by simp <;> omega) _).setCell (by simp <;> omega) _).setCell (by simp <;> omega) _)
set_option maxRecDepth 100000 in
set_option maxHeartbeats 2000000 in
theorem eqWork_t (k : Int) (A : Option Addr) (c : Nat) (rs : List M.Rule) (B : Option Addr) (d : Nat) (qs : List M.Rule) (t : Int) (A' : Option Addr) (c' : Nat) (B' : Option Addr) (d' : Nat) (w : World) (hA : Rd w 2 A rs.length (ruls rs)) (hB : Rd w 2 B qs.length (ruls qs)) (hA' : Rd w 2 A' rs.length (ruls rs)) (hB' : Rd w 2 B' qs.length (ruls qs)) (hl : rs.length ≤ 1099511627776) (hql : qs.length ≤ 1099511627776) :
    Calls Try.prog 45 #[.agg #[.int .i64 k, .slice A rs.length c, .slice B qs.length d, .int .i64 t], .agg #[.int .i64 k, .slice A' rs.length c', .slice B' qs.length d', .int .i64 t]] w fun e w' => e = .returned (.bool true) ∧ Below w.heap.size w w' := by
  have h1 := Lib.hid (fun W h h' => eqSystem_t k A A' c c' rs W h h' hl)
  have h2 := Lib.hid (fun W h h' => eqRuleS_t B B' d d' qs W h h' hql)
  have HP := Lib.hid (fun (o p : Obj) => ((Below.refl w.heap.size w).alloc (Nat.le_refl _) o).alloc (by simp) p)
  have HA := Lib.hid hA
  have HB := Lib.hid hB
  have HA' := Lib.hid hA'
  have HB' := Lib.hid hB'
  clear hA hB hA' hB'
  go_enter Try.func45, Try.ntmps45
  go_wp2_with fail
  refine (h1.out _ (HA.out.below (HP.out _ _)) (HA'.out.below (HP.out _ _))).mono ?_
  rintro e w1 ⟨rfl, hb⟩
  have a2 : w1.cell? ⟨w.heap.size, 2, none⟩ = some (.slice B qs.length d) := cellKeep hb (by simp [go_sem])
  have a3 : w1.cell? ⟨w.heap.size, 3, none⟩ = some (.int .i64 t) := cellKeep hb (by simp [go_sem])
  have b2 : w1.cell? ⟨w.heap.size + 1, 2, none⟩ = some (.slice B' qs.length d') := cellKeep hb (by simp [go_sem])
  have b3 : w1.cell? ⟨w.heap.size + 1, 3, none⟩ = some (.int .i64 t) := cellKeep hb (by simp [go_sem])
  have HW := Lib.hid (below_alloc2 hb)
  clear hb
  go_wp2_with fail
  refine (h2.out _ (HB.out.below HW.out) (HB'.out.below HW.out)).mono ?_
  rintro e w2 ⟨rfl, hb2⟩
  replace a3 := cellKeep hb2 a3
  replace b3 := cellKeep hb2 b3
  have HW2 := Lib.hid (HW.out.trans (hb2.mono HW.out.size))
  clear hb2 a2 b2
  go_wp2_with fail
  go_ret
  exact ⟨rfl, HW2.out⟩
def M.queueBad (k : Int) (r : M.Rule) : Bool := !(M.WordOk k r.left && M.WordOk k r.right)
def M.WorkOk (k : Int) (rs qs : List M.Rule) (t : Int) : Bool := M.SystemOk k rs && (decide (qs.length ≤ 400) && (M.within t 0 200 && !qs.any (M.queueBad k)))
theorem work_no1 {k : Int} {rs qs : List M.Rule} {t : Int} (h : M.SystemOk k rs = false) : M.WorkOk k rs qs t = false := by unfold M.WorkOk; rw [h]; rfl
theorem work_no2 {k : Int} {rs qs : List M.Rule} {t : Int} (h : ¬ qs.length ≤ 400) : M.WorkOk k rs qs t = false := by unfold M.WorkOk; rw [decide_eq_false h, Bool.false_and, Bool.and_false]
theorem work_no3 {k : Int} {rs qs : List M.Rule} {t : Int} (h : M.within t 0 200 = false) : M.WorkOk k rs qs t = false := by unfold M.WorkOk; rw [h, Bool.false_and, Bool.and_false, Bool.and_false]
theorem work_yes {k : Int} {rs qs : List M.Rule} {t : Int} (h1 : M.SystemOk k rs = true) (h2 : qs.length ≤ 400) (h3 : M.within t 0 200 = true) : M.WorkOk k rs qs t = !qs.any (M.queueBad k) := by unfold M.WorkOk; rw [h1, decide_eq_true h2, h3]; rfl
set_option maxRecDepth 100000 in
set_option maxHeartbeats 2000000 in
theorem WorkOk1_c (k : Int) (b : Nat) (r : M.Rule) (w : World) (h0 : w.cell? ⟨b, 0, none⟩ = some (.int .i64 k)) (hr : r.left.length ≤ 1048576 ∧ r.right.length ≤ 1048576) :
    Calls Try.prog 117 #[.agg #[.string ⟨r.left.toArray⟩, .string ⟨r.right.toArray⟩], .pointer (some ⟨b, 0, none⟩)] w fun e w' => e = .returned (.bool (M.queueBad k r)) ∧ Below w.heap.size w w' := by
  obtain ⟨rl, rr⟩ := r
  have h1 := Lib.hid (fun W => impl_WordOk_c k rl W hr.1)
  have h2 := Lib.hid (fun W => impl_WordOk_c k rr W hr.2)
  unfold M.queueBad
  have k0 := allocKeep1 h0
  simp only
  generalize M.WordOk k rl = x at *
  generalize M.WordOk k rr = y at *
  clear hr
  cases x
  case false =>
    go_enter Try.func117, Try.ntmps117
    go_wp2_with fail
    refine (h1.out _).mono ?_
    rintro e w1 ⟨rfl, rfl⟩
    go_wp2_with fail
    go_ret
    exact ⟨rfl, (Below.refl _ _).alloc (Nat.le_refl _) _⟩
  case true =>
    cases y
    all_goals
      go_enter Try.func117, Try.ntmps117
      go_wp2_with fail
      refine (h1.out _).mono ?_
      rintro e w1 ⟨rfl, rfl⟩
      go_wp2_with fail
      refine (h2.out _).mono ?_
      rintro e w1 ⟨rfl, rfl⟩
      go_wp2_with fail
      go_ret
      exact ⟨rfl, (Below.refl _ _).alloc (Nat.le_refl _) _⟩

abbrev RuleWorkOk1C (b : Nat) (p : M.Rule → Bool) (rs : List M.Rule) (w : World) : Prop := ∀ W, Below w.heap.size w W → ∀ r ∈ rs, Calls Try.prog 117 #[.agg #[.string ⟨r.left.toArray⟩, .string ⟨r.right.toArray⟩], .pointer (some ⟨b, 0, none⟩)] W fun e w' => e = .returned (.bool (p r)) ∧ Below W.heap.size W w'
set_option maxRecDepth 100000 in
set_option maxHeartbeats 2000000 in
theorem IndexFuncWorkOk1_c (b0 : Nat) (p : M.Rule → Bool) (A : Option Addr) (c : Nat) (rs : List M.Rule) (w : World) (hA : Rd w 2 A rs.length (ruls rs)) (hl : rs.length ≤ 1048576) (hc : RuleWorkOk1C b0 p rs w) :
    Calls Try.prog 162 #[.slice A rs.length c, .func (.func 117) #[] #[.pointer (some ⟨b0, 0, none⟩)]] w fun e w' => (∃ z : Int, e = .returned (.int .i64 z) ∧ decide (0 ≤ z) = rs.any p) ∧ Below w.heap.size w w' := by
  have HA := Lib.hid hA
  have HCC := Lib.hid hc
  obtain ⟨q, hq⟩ : ∃ q, q = rs.any p := ⟨_, rfl⟩
  rw [← hq]
  have HQ := Lib.hid hq
  obtain ⟨m, hm⟩ : ∃ m, m = rs.length := ⟨_, rfl⟩
  have hmb : m ≤ 1048576 := by omega
  rw [← hm]
  have HM := Lib.hid hm
  clear hA hc hq hm hl
  go_enter Try.func162, Try.ntmps162
  go_wp2
  go_loopw [8] (fun i wr => ∃ (k : Nat), k ≤ m ∧ i = .int .i64 k ∧ (rs.drop k).any p = q ∧ Below w.heap.size w wr) (fun i _ => m - (intOf i).toNat)
  case atStart => exact ⟨0, by omega, rfl, by rw [List.drop_zero, HQ.out], Below.refl _ _⟩
  case round =>
    obtain ⟨k, hk, rfl, hf, hb⟩ := hrel
    have HB := Lib.hid hb
    have HF := Lib.hid hf
    clear hb hf
    by_cases hlt : k < m
    · obtain ⟨b, o, rfl, hz, hc1, hc2⟩ := (HA.out.below HB.out).ruleAt (k := k) (by have := HM.out; omega)
      have hd : (rs.drop k).any p = (p rs[k] || (rs.drop (k + 1)).any p) := by rw [List.drop_eq_getElem_cons hz, List.any_cons]
      have HC := Lib.hid (HCC.out wr HB.out rs[k] (List.getElem_mem hz))
      have HF2 := Lib.hid (hd.symm.trans HF.out)
      clear hd
      generalize rs[k] = r at *
      obtain ⟨rl, rr⟩ := r
      simp only at hc1 hc2 HC
      generalize p ⟨rl, rr⟩ = v at *
      cases v
      case true =>
        go_wp2_with fail
        refine HC.out.mono ?_
        rintro e w1 ⟨rfl, hb1⟩
        go_wp2_with fail
        go_ret
        exact ⟨⟨k, rfl, by have := HF2.out; rw [← this]; simp⟩, HB.out.trans (hb1.mono HB.out.size)⟩
      case false =>
        go_wp2_with fail
        refine HC.out.mono ?_
        rintro e w1 ⟨rfl, hb1⟩
        go_wp2_with fail
        go_roundw
        case rel => exact ⟨k + 1, by omega, by go_num, by have := HF2.out; rw [← this]; simp, HB.out.trans (hb1.mono HB.out.size)⟩
        case measure => simp [intOf] <;> omega
    · have e : q = false := by have := HF.out; rw [List.drop_eq_nil_of_le (by have := HM.out; omega)] at this; exact this.symm
      go_wp2
      go_ret
      exact ⟨⟨-1, rfl, by rw [e]; rfl⟩, HB.out⟩
set_option maxRecDepth 100000 in
set_option maxHeartbeats 1000000 in
theorem ContainsFuncWorkOk1_c (b0 : Nat) (p : M.Rule → Bool) (A : Option Addr) (c : Nat) (rs : List M.Rule) (w : World) (hA : Rd w 2 A rs.length (ruls rs)) (hl : rs.length ≤ 1048576) (hc : RuleWorkOk1C b0 p rs w) :
    Calls Try.prog 114 #[.slice A rs.length c, .func (.func 117) #[] #[.pointer (some ⟨b0, 0, none⟩)]] w fun e w' => e = .returned (.bool (rs.any p)) ∧ Below w.heap.size w w' := by
  have h1 := Lib.hid (IndexFuncWorkOk1_c b0 p A c rs w hA hl hc)
  clear hA hc
  generalize rs.any p = q at *
  go_enter Try.func114, Try.ntmps114
  go_wp2_with fail
  refine h1.out.mono ?_
  rintro e w1 ⟨⟨z, rfl, hz⟩, hb⟩
  go_wp2_with fail
  go_ret
  exact ⟨rfl, hb⟩

set_option maxRecDepth 100000 in
set_option maxHeartbeats 4000000 in
theorem spec_WorkOk_c (k : Int) (A : Option Addr) (c : Nat) (rs : List M.Rule) (B : Option Addr) (d : Nat) (qs : List M.Rule) (t : Int) (w : World) (hA : Rd w 2 A rs.length (ruls rs)) (hB : Rd w 2 B qs.length (ruls qs)) (hl : rs.length ≤ 1048576) (hs : ∀ r ∈ rs, r.left.length ≤ 1048576 ∧ r.right.length ≤ 1048576) (hql : qs.length ≤ 1048576) (hqs : ∀ r ∈ qs, r.left.length ≤ 1048576 ∧ r.right.length ≤ 1048576) :
    Calls Try.prog 94 #[.agg #[.int .i64 k, .slice A rs.length c, .slice B qs.length d, .int .i64 t]] w fun e w' => e = .returned (.bool (M.WorkOk k rs qs t)) ∧ Below w.heap.size w w' := by
  have h1 := Lib.hid (fun W hA => spec_SystemOk_c k A c rs W hA hl hs)
  have h2 := Lib.hid (fun W => l01In_c t 0 200 W)
  have HA := Lib.hid hA
  have HB := Lib.hid hB
  have HQ := Lib.hid hqs
  have HP := Lib.hid (fun (o : Obj) => (Below.refl w.heap.size w).alloc (Nat.le_refl _) o)
  obtain ⟨x, hx⟩ : ∃ x, x = M.SystemOk k rs := ⟨_, rfl⟩
  rw [← hx] at h1
  clear hA hB hs hqs
  cases x
  case false =>
    rw [work_no1 hx.symm]
    clear hx
    go_enter Try.func94, Try.ntmps94
    go_wp2_with fail
    refine (h1.out _ (HA.out.below (HP.out _))).mono ?_
    rintro e w1 ⟨rfl, hb⟩
    go_wp2_with fail
    go_ret
    exact ⟨rfl, below_alloc1 hb⟩
  case true =>
  have HX := Lib.hid hx.symm
  clear hx
  by_cases hq4 : qs.length ≤ 400
  case neg =>
    rw [work_no2 hq4]
    have hq4' : (400 : Int) < (qs.length : Int) := by omega
    go_enter Try.func94, Try.ntmps94
    go_wp2_with fail
    refine (h1.out _ (HA.out.below (HP.out _))).mono ?_
    rintro e w1 ⟨rfl, hb⟩
    have a2 : w1.cell? ⟨w.heap.size, 2, none⟩ = some (.slice B qs.length d) := cellKeep hb (by simp [go_sem])
    have HB1 := Lib.hid (below_alloc1 hb)
    clear hb
    go_wp2_with fail
    go_ret
    exact ⟨rfl, HB1.out⟩
  case pos =>
  have hq4' : ¬ ((400 : Int) < (qs.length : Int)) := by omega
  obtain ⟨y, hy⟩ : ∃ y, y = M.within t 0 200 := ⟨_, rfl⟩
  rw [← hy] at h2
  cases y
  case false =>
    rw [work_no3 hy.symm]
    clear hy
    go_enter Try.func94, Try.ntmps94
    go_wp2_with fail
    refine (h1.out _ (HA.out.below (HP.out _))).mono ?_
    rintro e w1 ⟨rfl, hb⟩
    have a2 : w1.cell? ⟨w.heap.size, 2, none⟩ = some (.slice B qs.length d) := cellKeep hb (by simp [go_sem])
    have a3 : w1.cell? ⟨w.heap.size, 3, none⟩ = some (.int .i64 t) := cellKeep hb (by simp [go_sem])
    have HB1 := Lib.hid (below_alloc1 hb)
    clear hb
    go_wp2_with fail
    refine (h2.out _).mono ?_
    rintro e w2 ⟨rfl, rfl⟩
    go_wp2_with fail
    go_ret
    exact ⟨rfl, HB1.out⟩
  case true =>
  rw [work_yes HX.out hq4 hy.symm]
  clear hy
  obtain ⟨q, hqq⟩ : ∃ q, q = qs.any (M.queueBad k) := ⟨_, rfl⟩
  rw [← hqq]
  have HQQ := Lib.hid hqq
  obtain ⟨m, hm⟩ : ∃ m, m = qs.length := ⟨_, rfl⟩
  have HM := Lib.hid hm
  have hmb : m ≤ 400 := by omega
  rw [← hm] at HB hq4' ⊢
  clear hqq hq4 hm
  go_enter Try.func94, Try.ntmps94
  go_wp2_with fail
  refine (h1.out _ (HA.out.below (HP.out _))).mono ?_
  rintro e w1 ⟨rfl, hb⟩
  have a0 : w1.cell? ⟨w.heap.size, 0, none⟩ = some (.int .i64 k) := cellKeep hb (by simp [go_sem])
  have a2 : w1.cell? ⟨w.heap.size, 2, none⟩ = some (.slice B m d) := cellKeep hb (by simp [go_sem])
  have a3 : w1.cell? ⟨w.heap.size, 3, none⟩ = some (.int .i64 t) := cellKeep hb (by simp [go_sem])
  have A0 := Lib.hid a0
  have HB1 := Lib.hid (below_alloc1 hb)
  clear hb a0
  go_wp2_with fail
  refine (h2.out _).mono ?_
  rintro e w2 ⟨rfl, rfl⟩
  go_wp2_with fail
  clear a2 a3
  go_loopw [24] (fun i wr => ∃ (j : Nat), j ≤ m ∧ i = .int .i64 j ∧ (qs.drop j).any (M.queueBad k) = q ∧ Below w1.heap.size w1 wr) (fun i _ => m - (intOf i).toNat)
  case atStart => exact ⟨0, by omega, rfl, by rw [List.drop_zero, HQQ.out], Below.refl _ _⟩
  case round =>
    obtain ⟨j, hj, rfl, hf, hb⟩ := hrel
    have a0 := cellKeep hb A0.out
    have a1 := allocKeep1 a0
    have HW := Lib.hid hb
    have HF := Lib.hid hf
    by_cases hlt : j < m
    case neg =>
      have e : q = false := by rw [List.drop_eq_nil_of_le (by have := HM.out; omega)] at hf; exact hf.symm
      clear hf hb a1
      go_wp2
      go_ret
      exact ⟨by rw [e]; rfl, HB1.out.trans (HW.out.mono HB1.out.size)⟩
    case pos =>
      obtain ⟨b, o, rfl, hz, hc1, hc2⟩ := ((HB.out.below HB1.out).below hb).ruleAt (k := j) hlt
      have hd : (qs.drop j).any (M.queueBad k) = (M.queueBad k qs[j] || (qs.drop (j + 1)).any (M.queueBad k)) := by rw [List.drop_eq_getElem_cons hz, List.any_cons]
      have hsz := HQ.out qs[j] (List.getElem_mem hz)
      have HF2 := Lib.hid (hd.symm.trans hf)
      clear hd hf hb
      generalize qs[j] = r at *
      obtain ⟨rl, rr⟩ := r
      simp only at hc1 hc2 hsz
      have HC1 := Lib.hid (fun W => spec_WordOk_c k rl W hsz.1)
      have HC2 := Lib.hid (fun W => spec_WordOk_c k rr W hsz.2)
      unfold M.queueBad at HF2
      simp only at HF2
      generalize M.WordOk k rl = x at *
      generalize M.WordOk k rr = y at *
      clear hsz
      cases x
      case false =>
        have HE := Lib.hid (show true = q by rw [← HF2.out]; rfl)
        go_wp2_with fail
        refine (HC1.out _).mono ?_
        rintro e w2 ⟨rfl, rfl⟩
        go_wp2_with fail
        go_ret
        exact ⟨by rw [← HE.out]; rfl, HB1.out.trans ((HW.out.trans (((Below.refl wr.heap.size wr).alloc (Nat.le_refl _) _).mono HW.out.size)).mono HB1.out.size)⟩
      case true =>
      cases y
      case false =>
        have HE := Lib.hid (show true = q by rw [← HF2.out]; rfl)
        go_wp2_with fail
        refine (HC1.out _).mono ?_
        rintro e w2 ⟨rfl, rfl⟩
        go_wp2_with fail
        refine (HC2.out _).mono ?_
        rintro e w2 ⟨rfl, rfl⟩
        go_wp2_with fail
        go_ret
        exact ⟨by rw [← HE.out]; rfl, HB1.out.trans ((HW.out.trans (((Below.refl wr.heap.size wr).alloc (Nat.le_refl _) _).mono HW.out.size)).mono HB1.out.size)⟩
      case true =>
        have HE := Lib.hid (show (qs.drop (j + 1)).any (fun r => !(M.WordOk k r.left && M.WordOk k r.right)) = q from HF2.out)
        go_wp2_with fail
        refine (HC1.out _).mono ?_
        rintro e w2 ⟨rfl, rfl⟩
        go_wp2_with fail
        refine (HC2.out _).mono ?_
        rintro e w2 ⟨rfl, rfl⟩
        go_wp2_with fail
        go_roundw
        case rel => exact ⟨j + 1, by omega, by go_num, HE.out, HW.out.trans (((Below.refl wr.heap.size wr).alloc (Nat.le_refl _) _).mono HW.out.size)⟩
        case measure => simp [intOf] <;> omega

set_option maxRecDepth 100000 in
set_option maxHeartbeats 4000000 in
theorem impl_WorkOk_c (k : Int) (A : Option Addr) (c : Nat) (rs : List M.Rule) (B : Option Addr) (d : Nat) (qs : List M.Rule) (t : Int) (w : World) (hA : Rd w 2 A rs.length (ruls rs)) (hB : Rd w 2 B qs.length (ruls qs)) (hl : rs.length ≤ 1048576) (hs : ∀ r ∈ rs, r.left.length ≤ 1048576 ∧ r.right.length ≤ 1048576) (hql : qs.length ≤ 1048576) (hqs : ∀ r ∈ qs, r.left.length ≤ 1048576 ∧ r.right.length ≤ 1048576) :
    Calls Try.prog 58 #[.agg #[.int .i64 k, .slice A rs.length c, .slice B qs.length d, .int .i64 t]] w fun e w' => e = .returned (.bool (M.WorkOk k rs qs t)) ∧ Below w.heap.size w w' := by
  have h1 := Lib.hid (fun W hA => impl_SystemOk_c k A c rs W hA hl hs)
  have h2 := Lib.hid (fun W => within_c t 0 200 W)
  have HA := Lib.hid hA
  have HB := Lib.hid hB
  have HQ := Lib.hid hqs
  have HP := Lib.hid (fun (o : Obj) => (Below.refl w.heap.size w).alloc (Nat.le_refl _) o)
  obtain ⟨x, hx⟩ : ∃ x, x = M.SystemOk k rs := ⟨_, rfl⟩
  rw [← hx] at h1
  clear hA hB hs hqs
  cases x
  case false =>
    rw [work_no1 hx.symm]
    clear hx
    go_enter Try.func58, Try.ntmps58
    go_wp2_with fail
    refine (h1.out _ (HA.out.below (HP.out _))).mono ?_
    rintro e w1 ⟨rfl, hb⟩
    go_wp2_with fail
    go_ret
    exact ⟨rfl, below_alloc1 hb⟩
  case true =>
  have HX := Lib.hid hx.symm
  clear hx
  by_cases hq4 : qs.length ≤ 400
  case neg =>
    rw [work_no2 hq4]
    have hq4' : (400 : Int) < (qs.length : Int) := by omega
    go_enter Try.func58, Try.ntmps58
    go_wp2_with fail
    refine (h1.out _ (HA.out.below (HP.out _))).mono ?_
    rintro e w1 ⟨rfl, hb⟩
    have a2 : w1.cell? ⟨w.heap.size, 2, none⟩ = some (.slice B qs.length d) := cellKeep hb (by simp [go_sem])
    have HB1 := Lib.hid (below_alloc1 hb)
    clear hb
    go_wp2_with fail
    go_ret
    exact ⟨rfl, HB1.out⟩
  case pos =>
  have hq4' : ¬ ((400 : Int) < (qs.length : Int)) := by omega
  obtain ⟨y, hy⟩ : ∃ y, y = M.within t 0 200 := ⟨_, rfl⟩
  rw [← hy] at h2
  cases y
  case false =>
    rw [work_no3 hy.symm]
    clear hy
    go_enter Try.func58, Try.ntmps58
    go_wp2_with fail
    refine (h1.out _ (HA.out.below (HP.out _))).mono ?_
    rintro e w1 ⟨rfl, hb⟩
    have a2 : w1.cell? ⟨w.heap.size, 2, none⟩ = some (.slice B qs.length d) := cellKeep hb (by simp [go_sem])
    have a3 : w1.cell? ⟨w.heap.size, 3, none⟩ = some (.int .i64 t) := cellKeep hb (by simp [go_sem])
    have HB1 := Lib.hid (below_alloc1 hb)
    clear hb
    go_wp2_with fail
    refine (h2.out _).mono ?_
    rintro e w2 ⟨rfl, rfl⟩
    go_wp2_with fail
    go_ret
    exact ⟨rfl, HB1.out⟩
  case true =>
  rw [work_yes HX.out hq4 hy.symm]
  clear hy
  have h3 := Lib.hid (fun b0 W h hc => ContainsFuncWorkOk1_c b0 (M.queueBad k) B d qs W h hql hc)
  generalize hqq : qs.any (M.queueBad k) = q at *
  have hmf : ∀ (fn : Fn) (first cap : Array Value) (w : World), (Instr.makeFunc fn first cap).run Try.prog w = .ok (.func fn first cap) w := fun _ _ _ _ => rfl
  clear hqq hq4
  go_enter Try.func58, Try.ntmps58
  go_wp2_with fail
  refine (h1.out _ (HA.out.below (HP.out _))).mono ?_
  rintro e w1 ⟨rfl, hb⟩
  have a0 : w1.cell? ⟨w.heap.size, 0, none⟩ = some (.int .i64 k) := cellKeep hb (by simp [go_sem])
  have a2 : w1.cell? ⟨w.heap.size, 2, none⟩ = some (.slice B qs.length d) := cellKeep hb (by simp [go_sem])
  have a3 : w1.cell? ⟨w.heap.size, 3, none⟩ = some (.int .i64 t) := cellKeep hb (by simp [go_sem])
  have A0 := Lib.hid a0
  have HB1 := Lib.hid (below_alloc1 hb)
  clear hb a0
  go_wp2_with fail
  refine (h2.out _).mono ?_
  rintro e w2 ⟨rfl, rfl⟩
  go_wp2_with fail
  refine (h3.out w.heap.size _ (HB.out.below HB1.out) (fun W hW r hr => WorkOk1_c k w.heap.size r W (cellKeep hW A0.out) (HQ.out r hr))).mono ?_
  rintro e w3 ⟨rfl, hb3⟩
  go_wp2_with fail
  go_ret
  exact ⟨rfl, HB1.out.trans (hb3.mono HB1.out.size)⟩

theorem Try.cellsLawWork : Try.prog.cellsOf 57 = 4 := by kernel_rfl
theorem Try.cellsLawRules : Try.prog.cellsOf 22 = 1 := by kernel_rfl
theorem Try.cellsLawInt : Try.prog.cellsOf 3 = 1 := by kernel_rfl
theorem list4 {cs : Array Value} (h : cs.size = 4) : ∃ a b c d, cs = #[a, b, c, d] := by
  obtain ⟨l⟩ := cs
  match l, h with
  | [a, b, c, d], _ => exact ⟨a, b, c, d, rfl⟩
section
variable {H : Type} {enc : TypeId × Value → H} {w : World} {b0 : Nat} {held : Bool} {spare : Nat → Bool} {v : Value} {d : DataW H} {p : List MemPlace}
set_option maxRecDepth 100000 in
theorem openWork (hv : Value.okWide Try.prog w .any b0 57 v) (h : DataW.Trod enc Try.prog w 0 spare held 57 v d p) :
    ∃ (k : Int) (A : Option Addr) (c : Nat) (rs : List M.Rule) (B : Option Addr) (d : Nat) (qs : List M.Rule) (t : Int), v = .agg #[.int .i64 k, .slice A rs.length c, .slice B qs.length d, .int .i64 t] ∧ ((rs.length ≤ 9223372036854775807 ∧ Rd w 2 A rs.length (ruls rs) ∧ ∀ r ∈ rs, r.left.length ≤ 9223372036854775807 ∧ r.right.length ≤ 9223372036854775807) ∧ (qs.length ≤ 9223372036854775807 ∧ Rd w 2 B qs.length (ruls qs) ∧ ∀ r ∈ qs, r.left.length ≤ 9223372036854775807 ∧ r.right.length ≤ 9223372036854775807)) := by
  obtain ⟨cs, rfl, hsz⟩ := okWide_struct Try.underlying57 hv
  obtain ⟨c0, c1, c2, c3, rfl⟩ := list4 (hsz.trans Try.cellsLawWork)
  obtain ⟨fuel, hf⟩ := h
  obtain ⟨xs, n, _, _, _, hx, hfi⟩ := DataW.trod_struct Try.underlying57 hf
  have h0 : DataW.trod enc Try.prog w 0 spare held n 24 (([c0, c1, c2, c3].drop 0).take (Try.prog.cellsOf 24)) = xs[0]? := hfi 0 _ rfl
  have h1 : DataW.trod enc Try.prog w 0 spare held n 22 (([c0, c1, c2, c3].drop 2).take (Try.prog.cellsOf 22)) = xs[1]? := hfi 1 _ rfl
  have h2 : DataW.trod enc Try.prog w 0 spare held n 3 (([c0, c1, c2, c3].drop 3).take (Try.prog.cellsOf 3)) = xs[2]? := hfi 2 _ rfl
  rw [List.getElem?_eq_getElem (by rw [hx]; decide)] at h0 h1 h2
  rw [Try.cellsLawSystem] at h0
  rw [Try.cellsLawRules] at h1
  rw [Try.cellsLawInt] at h2
  simp only [List.drop_zero, List.drop_succ_cons, List.take_succ_cons, List.take_zero] at h0 h1 h2
  obtain ⟨_, k', hk⟩ := structCells Try.underlying24 (by kernel_rfl) Try.cellsLawSystem h0
  obtain ⟨y0, g0⟩ := hk 0 _ c0 rfl rfl
  obtain ⟨y1, g1⟩ := hk 1 _ c1 rfl rfl
  obtain ⟨k, rfl, _⟩ := openOneInt g0
  obtain ⟨A, c, rs, rfl, r1, r2, r3⟩ := openRuleSlice g1
  obtain ⟨B, d, qs, rfl, q1, q2, q3⟩ := openRuleSlice h1
  obtain ⟨t, rfl, _⟩ := openOneInt h2
  exact ⟨k, A, c, rs, B, d, qs, t, rfl, ⟨r1, r2, r3⟩, ⟨q1, q2, q3⟩⟩
end

end Go.Proofs.Ytlohpphmamapeaa
/-
  Contracts of SidesOf.
  Conditions: at most 2^20 rules, words of at most 2^20 bytes.
-/
namespace Go.Proofs.Ytlohpphmamapeaa
open Go.RowKit
set_option linter.unusedVariables false

structure M.Sides where
  u : List UInt8
  v : List UInt8
  ok : Bool
def M.SidesOf (k : Int) (rs : List M.Rule) (l : List UInt8) (x y : M.Step) : M.Sides := if M.SystemOk k rs = true then (if (M.ApplyStep k rs l x).2 = true ∧ (M.ApplyStep k rs l y).2 = true then ⟨(M.ApplyStep k rs l x).1, (M.ApplyStep k rs l y).1, true⟩ else ⟨[], [], false⟩) else ⟨[], [], false⟩
set_option maxRecDepth 100000 in
set_option maxHeartbeats 4000000 in
theorem spec_SidesOf_c (k : Int) (A : Option Addr) (c : Nat) (rs : List M.Rule) (l : List UInt8) (ar ap br bp : Int) (w : World) (hA : Rd w 2 A rs.length (ruls rs)) (hl : rs.length ≤ 1048576) (hs : ∀ r ∈ rs, r.left.length ≤ 1048576 ∧ r.right.length ≤ 1048576) (hll : l.length ≤ 1048576) :
    Calls Try.prog 148 #[.agg #[.int .i64 k, .slice A rs.length c], .agg #[.string ⟨l.toArray⟩, .int .i64 ar, .int .i64 ap, .int .i64 br, .int .i64 bp]] w fun e w' => e = .returned (.tuple #[.string ⟨(M.SidesOf k rs l ⟨ar, ap⟩ ⟨br, bp⟩).u.toArray⟩, .string ⟨(M.SidesOf k rs l ⟨ar, ap⟩ ⟨br, bp⟩).v.toArray⟩, .bool (M.SidesOf k rs l ⟨ar, ap⟩ ⟨br, bp⟩).ok]) ∧ Below w.heap.size w w' := by
  have h1 := Lib.hid (fun W hA => spec_SystemOk_c k A c rs W hA hl hs)
  have h2 := Lib.hid (fun W hA => spec_ApplyStep_c k A c rs l ⟨ar, ap⟩ W hA hl hs hll)
  have h3 := Lib.hid (fun W hA => spec_ApplyStep_c k A c rs l ⟨br, bp⟩ W hA hl hs hll)
  have HA := Lib.hid hA
  have HP := Lib.hid (fun (o p : Obj) => ((Below.refl w.heap.size w).alloc (Nat.le_refl _) o).alloc (by simp) p)
  unfold M.SidesOf
  clear hA hs
  generalize M.SystemOk k rs = x at *
  generalize M.ApplyStep k rs l ⟨ar, ap⟩ = u at *
  generalize M.ApplyStep k rs l ⟨br, bp⟩ = v at *
  obtain ⟨ul, ub⟩ := u
  obtain ⟨vl, vb⟩ := v
  simp only at h2 h3 ⊢
  cases x
  case false =>
    rw [if_neg (by simp)]
    go_enter Try.func148, Try.ntmps148
    go_wp2_with fail
    refine (h1.out _ (HA.out.below (HP.out _ _))).mono ?_
    rintro e w1 ⟨rfl, hb⟩
    go_wp2_with fail
    refine bodyPost_ret (v := .tuple #[.string ⟨#[]⟩, .string ⟨#[]⟩, .bool false]) (by simp [results, Try.results148, go_sem]) rfl ⟨rfl, below_alloc2 hb⟩
  case true =>
  rw [if_pos rfl]
  cases ub
  all_goals
    cases vb
    all_goals
      first | rw [if_pos ⟨rfl, rfl⟩] | rw [if_neg (by simp)]
      go_enter Try.func148, Try.ntmps148
      go_wp2_with fail
      refine (h1.out _ (HA.out.below (HP.out _ _))).mono ?_
      rintro e w1 ⟨rfl, hb⟩
      have s0 : w1.cell? ⟨w.heap.size, 0, none⟩ = some (.int .i64 k) := cellKeep hb (by simp [go_sem])
      have s1 : w1.cell? ⟨w.heap.size, 1, none⟩ = some (.slice A rs.length c) := cellKeep hb (by simp [go_sem])
      have p0 : w1.cell? ⟨w.heap.size + 1, 0, none⟩ = some (.string ⟨l.toArray⟩) := cellKeep hb (by simp [go_sem])
      have p1 : w1.cell? ⟨w.heap.size + 1, 1, none⟩ = some (.int .i64 ar) := cellKeep hb (by simp [go_sem])
      have p2 : w1.cell? ⟨w.heap.size + 1, 2, none⟩ = some (.int .i64 ap) := cellKeep hb (by simp [go_sem])
      have p3 : w1.cell? ⟨w.heap.size + 1, 3, none⟩ = some (.int .i64 br) := cellKeep hb (by simp [go_sem])
      have p4 : w1.cell? ⟨w.heap.size + 1, 4, none⟩ = some (.int .i64 bp) := cellKeep hb (by simp [go_sem])
      have HB := Lib.hid (below_alloc2 hb)
      clear hb
      go_wp2_with fail
      refine (h2.out _ (HA.out.below HB.out)).mono ?_
      rintro e w2 ⟨rfl, hb2⟩
      replace s0 := cellKeep hb2 s0
      replace s1 := cellKeep hb2 s1
      replace p0 := cellKeep hb2 p0
      replace p3 := cellKeep hb2 p3
      replace p4 := cellKeep hb2 p4
      have HB2 := Lib.hid (HB.out.trans (hb2.mono HB.out.size))
      clear hb2 p1 p2
      go_wp2_with fail
      refine (h3.out _ (HA.out.below HB2.out)).mono ?_
      rintro e w3 ⟨rfl, hb3⟩
      have HB3 := Lib.hid (HB2.out.trans (hb3.mono HB2.out.size))
      clear hb3 s0 s1 p0 p3 p4
      go_wp2_with fail
      first
        | exact bodyPost_ret (v := .tuple #[.string ⟨ul.toArray⟩, .string ⟨vl.toArray⟩, .bool true]) (by simp [results, Try.results148, go_sem]; done) rfl ⟨rfl, HB3.out⟩
        | exact bodyPost_ret (v := .tuple #[.string ⟨#[]⟩, .string ⟨#[]⟩, .bool false]) (by simp [results, Try.results148, go_sem]; done) rfl ⟨rfl, HB3.out⟩

end Go.Proofs.Ytlohpphmamapeaa
/-
  The plain law of a turn of the completion: what a turn computes, and that a valid work stays valid.
  Conditions: none; no program in this text.
-/
namespace Go.Proofs.Ytlohpphmamapeaa
set_option linter.unusedVariables false
set_option linter.unusedSimpArgs false

/-- A rule of an ordered system. -/
def M.Good (k : Int) (r : M.Rule) : Prop := M.IsLess r.right r.left = true ∧ M.hasLetters k r.left = true ∧ M.hasLetters k r.right = true ∧ r.left.length ≤ 8 ∧ r.right.length ≤ 8
theorem good_pos {k : Int} {r : M.Rule} (h : M.Good k r) : r.left ≠ [] := fun e => by
  have := less_cases h.1
  rw [e] at this
  rcases this with h | ⟨h, h'⟩
  · simp at h
  · simp at h
    rw [h] at h'
    simp [Op.bytesLess] at h'
theorem word8 {k : Int} {l : List UInt8} (hk : 1 ≤ k ∧ k ≤ 4) (h : M.hasLetters k l = true) (hl : l.length ≤ 8) : M.WordOk k l = true := by rw [M.wordOk_short k l hk (by omega), h]
theorem sys_iff {k : Int} {rs : List M.Rule} : M.SystemOk k rs = true ↔ (1 ≤ k ∧ k ≤ 4) ∧ rs.length ≤ 12 ∧ ∀ r ∈ rs, M.Good k r := by
  unfold M.SystemOk M.RulesOk M.within
  simp only [Bool.and_eq_true, decide_eq_true_iff, Bool.not_eq_true', List.any_eq_false]
  constructor
  · rintro ⟨⟨hk, hl, hr⟩, ho⟩
    refine ⟨hk, hl, fun r hm => ?_⟩
    have h1 := hr r hm
    have h2 := ho r hm
    unfold M.ruleBad M.SidesOk at h1
    unfold M.notLess at h2
    simp only [Bool.or_eq_true, Bool.not_eq_true', decide_eq_true_iff, not_or, Bool.not_eq_false, Bool.and_eq_true] at h1 h2
    obtain ⟨⟨⟨⟨a, b⟩, c⟩, d⟩, e⟩ := h1
    exact ⟨h2, (wd_of a).2.1, (wd_of b).2.1, by omega, by omega⟩
  · rintro ⟨hk, hl, hg⟩
    refine ⟨⟨hk, hl, fun r hm => ?_⟩, fun r hm => ?_⟩
    · obtain ⟨a, b, c, d, e⟩ := hg r hm
      unfold M.ruleBad M.SidesOk
      rw [word8 hk b d, word8 hk c e, decide_eq_true (show (r.left.length : Int) ≤ 8 by omega), decide_eq_true (show (r.right.length : Int) ≤ 8 by omega), decide_eq_false (good_pos (hg r hm))]
      simp
    · have a := (hg r hm).1
      unfold M.notLess
      rw [a]
      simp
theorem good_ordered {k : Int} {rs : List M.Rule} (h : ∀ r ∈ rs, M.Good k r) : M.Ordered k rs := fun r hr => ⟨(h r hr).1, (h r hr).2.1, (h r hr).2.2.1⟩
theorem good_oriented {k : Int} {a b : List UInt8} (ha : M.Wd k a) (hb : M.Wd k b) (hne : a ≠ b) : M.IsLess (M.oriented ⟨a, b⟩).right (M.oriented ⟨a, b⟩).left = true ∧ M.Wd k (M.oriented ⟨a, b⟩).left ∧ M.Wd k (M.oriented ⟨a, b⟩).right := by
  unfold M.oriented
  cases h : M.IsLess a b with
  | true => rw [if_pos rfl]; exact ⟨h, hb, ha⟩
  | false =>
    rw [if_neg (by simp)]
    refine ⟨?_, ha, hb⟩
    cases h' : M.IsLess b a with
    | true => rfl
    | false => exact absurd (tless_total h h') hne

def M.kept (l : List UInt8) (rs : List M.Rule) : List M.Rule := rs.filter fun x => !M.occ x.left l
def M.gone (l : List UInt8) (rs : List M.Rule) : List M.Rule := rs.filter fun x => M.occ x.left l
theorem kept_snoc {l : List UInt8} {rs : List M.Rule} {i : Nat} (hi : i < rs.length) (h : M.occ rs[i].left l = false) : M.kept l (rs.take (i + 1)) = M.kept l (rs.take i) ++ [rs[i]] ∧ M.gone l (rs.take (i + 1)) = M.gone l (rs.take i) := by
  unfold M.kept M.gone
  rw [List.take_succ_eq_append_getElem hi, List.filter_append, List.filter_append]
  simp [h]
theorem gone_snoc {l : List UInt8} {rs : List M.Rule} {i : Nat} (hi : i < rs.length) (h : M.occ rs[i].left l = true) : M.kept l (rs.take (i + 1)) = M.kept l (rs.take i) ∧ M.gone l (rs.take (i + 1)) = M.gone l (rs.take i) ++ [rs[i]] := by
  unfold M.kept M.gone
  rw [List.take_succ_eq_append_getElem hi, List.filter_append, List.filter_append]
  simp [h]
theorem kept_len (l : List UInt8) (rs : List M.Rule) : (M.kept l rs).length ≤ rs.length := List.length_filter_le _ _
theorem gone_len (l : List UInt8) (rs : List M.Rule) : (M.gone l rs).length ≤ rs.length := List.length_filter_le _ _
def M.withRule (rs : List M.Rule) (r : M.Rule) : List M.Rule := M.kept r.left rs ++ [r]
def M.reduced (all rs : List M.Rule) : List M.Rule := rs.map fun x => ⟨x.left, M.normal all x.right⟩
theorem reduced_snoc {all rs : List M.Rule} {i : Nat} (hi : i < rs.length) : M.reduced all (rs.take (i + 1)) = M.reduced all (rs.take i) ++ [⟨rs[i].left, M.normal all rs[i].right⟩] := by
  unfold M.reduced
  rw [List.take_succ_eq_append_getElem hi, List.map_append]
  rfl
theorem reduced_len (all rs : List M.Rule) : (M.reduced all rs).length = rs.length := by simp [M.reduced]
def M.nextRules (rs : List M.Rule) (r : M.Rule) : List M.Rule := M.reduced (M.withRule rs r) (M.kept r.left rs) ++ [r]
theorem next_len (rs : List M.Rule) (r : M.Rule) : (M.nextRules rs r).length = (M.kept r.left rs).length + 1 := by simp [M.nextRules, M.reduced]
def M.pairEq (rs : List M.Rule) (p : M.Pair) : M.Rule := ⟨(M.replaced rs p.word ⟨p.r1, p.p1⟩).1, (M.replaced rs p.word ⟨p.r2, p.p2⟩).1⟩
def M.isNew (rs : List M.Rule) (p : M.Pair) : Bool := decide (p.r1 = (rs.length : Int) - 1) || decide (p.r2 = (rs.length : Int) - 1)
def M.newEqs (rs : List M.Rule) (ps : List M.Pair) : List M.Rule := (ps.filter (M.isNew rs)).map (M.pairEq rs)
theorem new_yes {rs : List M.Rule} {ps : List M.Pair} {i : Nat} (hi : i < ps.length) (h : M.isNew rs ps[i] = true) : M.newEqs rs (ps.take (i + 1)) = M.newEqs rs (ps.take i) ++ [M.pairEq rs ps[i]] := by
  unfold M.newEqs
  rw [List.take_succ_eq_append_getElem hi, List.filter_append]
  simp [h]
theorem new_no {rs : List M.Rule} {ps : List M.Pair} {i : Nat} (hi : i < ps.length) (h : M.isNew rs ps[i] = false) : M.newEqs rs (ps.take (i + 1)) = M.newEqs rs (ps.take i) := by
  unfold M.newEqs
  rw [List.take_succ_eq_append_getElem hi, List.filter_append]
  simp [h]
theorem new_len (rs : List M.Rule) (ps : List M.Pair) : (M.newEqs rs ps).length ≤ ps.length := by unfold M.newEqs; rw [List.length_map]; exact List.length_filter_le _ _
structure M.Wk where
  rs : List M.Rule
  qs : List M.Rule
  t : Int
  code : Int
def M.nextQueue (rs qt : List M.Rule) (r : M.Rule) : List M.Rule := qt ++ M.gone r.left rs ++ M.newEqs (M.nextRules rs r) (M.pairTo (M.nextRules rs r) (M.nextRules rs r).length)
def M.turnRule (rs qs qt : List M.Rule) (t : Int) (r : M.Rule) : M.Wk :=
  if 8 < r.left.length then ⟨rs, qs, t, 1⟩
  else if 12 < (M.nextRules rs r).length then ⟨rs, qs, t, 2⟩
  else if 400 < (M.nextQueue rs qt r).length then ⟨rs, qs, t, 2⟩
  else ⟨M.nextRules rs r, M.nextQueue rs qt r, t + 1, 0⟩
def M.turn (k : Int) (rs qs : List M.Rule) (t : Int) : M.Wk :=
  if M.WorkOk k rs qs t = false then ⟨rs, qs, t, 4⟩
  else match qs with
    | [] => ⟨rs, qs, t, 0⟩
    | q :: qt =>
      if t = 200 then ⟨rs, qs, t, 3⟩
      else if M.normal rs q.left = M.normal rs q.right then ⟨rs, qt, t + 1, 0⟩
      else M.turnRule rs qs qt t (M.oriented ⟨M.normal rs q.left, M.normal rs q.right⟩)
theorem work_iff {k : Int} {rs qs : List M.Rule} {t : Int} : M.WorkOk k rs qs t = true ↔ M.SystemOk k rs = true ∧ qs.length ≤ 400 ∧ (0 ≤ t ∧ t ≤ 200) ∧ ∀ q ∈ qs, M.Wd k q.left ∧ M.Wd k q.right := by
  unfold M.WorkOk M.within
  simp only [Bool.and_eq_true, decide_eq_true_iff, Bool.not_eq_true', List.any_eq_false]
  constructor
  · rintro ⟨hs, hl, ht, hq⟩
    refine ⟨hs, hl, ht, fun q hm => ?_⟩
    have h1 := hq q hm
    unfold M.queueBad at h1
    simp only [Bool.not_eq_true', Bool.not_eq_false, Bool.and_eq_true] at h1
    exact ⟨wd_of h1.1, wd_of h1.2⟩
  · rintro ⟨hs, hl, ht, hq⟩
    refine ⟨hs, hl, ht, fun q hm => ?_⟩
    unfold M.queueBad
    rw [ok_of_wd (hq q hm).1, ok_of_wd (hq q hm).2]
    simp

theorem kept_mem {l : List UInt8} {rs : List M.Rule} {x : M.Rule} (h : x ∈ M.kept l rs) : x ∈ rs := (List.mem_filter.1 h).1
theorem gone_mem {l : List UInt8} {rs : List M.Rule} {x : M.Rule} (h : x ∈ M.gone l rs) : x ∈ rs := (List.mem_filter.1 h).1
theorem with_good {k : Int} {rs : List M.Rule} {r : M.Rule} (hr : M.Good k r) (h : ∀ x ∈ rs, M.Good k x) : ∀ x ∈ M.withRule rs r, M.Good k x := fun x hx => by
  rcases List.mem_append.1 hx with hx | hx
  · exact h x (kept_mem hx)
  · rw [List.mem_singleton.1 hx]; exact hr
theorem good_wd {k : Int} {r : M.Rule} (hk : 1 ≤ k ∧ k ≤ 4) (h : M.Good k r) : M.Wd k r.left ∧ M.Wd k r.right := ⟨⟨hk, h.2.1, by have := h.2.2.2.1; omega⟩, ⟨hk, h.2.2.1, by have := h.2.2.2.2; omega⟩⟩
theorem next_good {k : Int} {rs : List M.Rule} {r : M.Rule} (hk : 1 ≤ k ∧ k ≤ 4) (hr : M.Good k r) (h : ∀ x ∈ rs, M.Good k x) : ∀ x ∈ M.nextRules rs r, M.Good k x := fun x hx => by
  rcases List.mem_append.1 hx with hx | hx
  · obtain ⟨y, hy, rfl⟩ := List.mem_map.1 hx
    have hg := h y (kept_mem hy)
    obtain ⟨a, b, c⟩ := normal_fit (good_ordered (with_good hr h)) _ y.right (Nat.le_refl _) (good_wd hk hg).2
    have h1 := rank_less (wd_low (good_wd hk hg).2) (wd_low (good_wd hk hg).1) hg.1
    exact ⟨less_of_rank (wd_low a) (wd_low (good_wd hk hg).1) (by simp only; omega), hg.2.1, a.2.1, hg.2.2.2.1, by have := hg.2.2.2.2; simp only; omega⟩
  · rw [List.mem_singleton.1 hx]; exact hr
theorem next_sys {k : Int} {rs : List M.Rule} {r : M.Rule} (hk : 1 ≤ k ∧ k ≤ 4) (hr : M.Good k r) (h : ∀ x ∈ rs, M.Good k x) (hl : ¬ 12 < (M.nextRules rs r).length) : M.SystemOk k (M.nextRules rs r) = true := sys_iff.2 ⟨hk, by omega, next_good hk hr h⟩

/-- Where the pairs of a system lie. -/
theorem row_in {rs : List M.Rule} {i : Nat} {p : M.Pair} : ∀ {j : Nat}, p ∈ M.pairRow rs i j → ∃ j', j' < j ∧ (p ∈ M.inside rs i j' ∨ p ∈ M.across rs i j')
  | 0, h => by simp [M.pairRow] at h
  | j + 1, h => by
    unfold M.pairRow at h
    rcases List.mem_append.1 h with h | h
    · rcases List.mem_append.1 h with h | h
      · obtain ⟨j', hj, h⟩ := row_in h
        exact ⟨j', by omega, h⟩
      · exact ⟨j, by omega, Or.inl h⟩
    · exact ⟨j, by omega, Or.inr h⟩
theorem to_in {rs : List M.Rule} {p : M.Pair} : ∀ {n : Nat}, p ∈ M.pairTo rs n → ∃ i j, i < n ∧ j < rs.length ∧ (p ∈ M.inside rs i j ∨ p ∈ M.across rs i j)
  | 0, h => by simp [M.pairTo] at h
  | n + 1, h => by
    unfold M.pairTo at h
    rcases List.mem_append.1 h with h | h
    · obtain ⟨i, j, hi, hj, h⟩ := to_in h
      exact ⟨i, j, by omega, hj, h⟩
    · obtain ⟨j, hj, h⟩ := row_in h
      exact ⟨n, j, by omega, hj, h⟩
theorem sel_true {q : Nat → Bool} {k : Nat} {z : Int} (h : z ∈ M.sel q k) : ∃ i : Nat, z = i ∧ i < k ∧ q i = true := by
  unfold M.sel at h
  obtain ⟨i, hi, rfl⟩ := List.mem_map.1 h
  exact ⟨i, rfl, List.mem_range.1 (List.mem_filter.1 hi).1, (List.mem_filter.1 hi).2⟩
/-- The word of a pair, and both of its places. -/
theorem pair_hits {rs : List M.Rule} (h1 : ∀ r ∈ rs, r.left ≠ []) (h8 : ∀ r ∈ rs, r.left.length ≤ 8) {p : M.Pair} (hp : p ∈ M.pairTo rs rs.length) :
    ∃ i j q : Nat, i < rs.length ∧ j < rs.length ∧ p.r1 = i ∧ p.p1 = 0 ∧ p.r2 = j ∧ p.p2 = q ∧ M.hit rs p.word 0 i = true ∧ M.hit rs p.word q j = true ∧ q < p.word.length ∧ p.word.length ≤ 16 ∧ (p.word = M.lft rs i ∨ ∃ n, p.word = M.lft rs i ++ (M.lft rs j).drop n) := by
  obtain ⟨i, j, hi, hj, h⟩ := to_in hp
  have hi8 := h8 _ (List.getElem_mem hi)
  have hj8 := h8 _ (List.getElem_mem hj)
  have hi0 := h1 _ (List.getElem_mem hi)
  have ei := lft_at hi
  have ej := lft_at hj
  rcases h with h | h
  · unfold M.inside at h
    split at h
    · simp at h
    · obtain ⟨z, hz, rfl⟩ := List.mem_map.1 h
      unfold M.PlacesOf at hz
      split at hz
      · simp at hz
      · obtain ⟨q, rfl, hq, hpre⟩ := sel_true hz
        refine ⟨i, j, q, hi, hj, rfl, rfl, rfl, rfl, ?_, ?_, hq, by simp only [M.inPair]; rw [ei]; omega, Or.inl rfl⟩
        · rw [M.hit_at hi]
          simp only [M.inPair]
          rw [ei, List.drop_zero, M.pre, List.take_length]
          exact decide_eq_true rfl
        · rw [M.hit_at hj]
          simp only [M.inPair]
          rw [← ej]
          exact hpre
  · unfold M.across at h
    obtain ⟨z, hz, rfl⟩ := List.mem_map.1 h
    unfold M.OverlapsOf at hz
    obtain ⟨n, rfl, hn, ho⟩ := sel_true hz
    unfold M.overlapAt at ho
    rw [Bool.and_eq_true, decide_eq_true_iff, decide_eq_true_iff] at ho
    obtain ⟨hn0, ho⟩ := ho
    rw [ei, ej] at ho hn
    have hw : M.lft rs i ++ (M.lft rs j).drop n = rs[i].left ++ rs[j].left.drop n := by rw [ei, ej]
    refine ⟨i, j, rs[i].left.length - n, hi, hj, rfl, rfl, rfl, ?_, ?_, ?_, ?_, ?_, Or.inr ⟨n, by simp [M.acPair]⟩⟩
    · simp only [M.acPair]
      rw [ei]
      omega
    · rw [M.hit_at hi]
      simp only [M.acPair, Int.toNat_natCast]
      rw [hw, List.drop_zero, M.pre, List.take_left]
      exact decide_eq_true rfl
    · rw [M.hit_at hj]
      simp only [M.acPair, Int.toNat_natCast]
      rw [hw, List.drop_append_of_le_length (by omega), ho, List.take_append_drop, M.pre, List.take_length]
      exact decide_eq_true rfl
    · simp only [M.acPair, Int.toNat_natCast]
      rw [hw]
      simp
      omega
    · simp only [M.acPair, Int.toNat_natCast]
      rw [hw]
      simp
      omega
theorem row_has {rs : List M.Rule} {l : List UInt8} {p i : Nat} (h : M.hit rs l p i = true) : ∀ {k : Nat}, i < k → (⟨i, p⟩ : M.Step) ∈ M.stepsRow rs l p k
  | 0, hk => by omega
  | k + 1, hk => by
    unfold M.stepsRow
    by_cases e : i = k
    · subst e
      rw [h]
      simp
    · exact List.mem_append.2 (Or.inl (row_has h (by omega)))
theorem to_has {rs : List M.Rule} {l : List UInt8} {p i : Nat} (h : M.hit rs l p i = true) (hi : i < rs.length) : ∀ {n : Nat}, p < n → (⟨i, p⟩ : M.Step) ∈ M.stepsTo rs l n
  | 0, hn => by omega
  | n + 1, hn => by
    unfold M.stepsTo
    by_cases e : p = n
    · subst e
      exact List.mem_append.2 (Or.inr (row_has h hi))
    · exact List.mem_append.2 (Or.inl (to_has h hi (by omega)))
theorem stepIn_mem {x : M.Step} {zs : List M.Step} (h : x ∈ zs) : M.stepIn x zs = true := List.any_eq_true.2 ⟨x, h, decide_eq_true ⟨rfl, rfl⟩⟩
theorem let_lft {k : Int} {rs : List M.Rule} (h : ∀ r ∈ rs, M.Good k r) (i : Nat) : M.hasLetters k (M.lft rs i) = true := by
  unfold M.lft
  cases hi : rs[i]? with
  | none => rfl
  | some r => exact (h r (List.mem_of_getElem? hi)).2.1
/-- Both steps of a pair can be made. -/
theorem pair_sides {k : Int} {rs : List M.Rule} (hs : M.SystemOk k rs = true) {p : M.Pair} (hp : p ∈ M.pairTo rs rs.length) :
    ∃ i j q : Nat, i < rs.length ∧ j < rs.length ∧ p.r1 = i ∧ p.p1 = 0 ∧ p.r2 = j ∧ p.p2 = q ∧ p.word.length ≤ 16 ∧ M.SidesOf k rs p.word ⟨p.r1, p.p1⟩ ⟨p.r2, p.p2⟩ = ⟨(M.pairEq rs p).left, (M.pairEq rs p).right, true⟩ ∧ M.Wd k (M.pairEq rs p).left ∧ M.Wd k (M.pairEq rs p).right := by
  obtain ⟨hk, h12, hg⟩ := sys_iff.1 hs
  obtain ⟨i, j, q, hi, hj, e1, e2, e3, e4, hh1, hh2, hq, h16, hw⟩ := pair_hits (fun r hr => good_pos (hg r hr)) (fun r hr => (hg r hr).2.2.2.1) hp
  have hfit : M.Wd k p.word := ⟨hk, by
    rcases hw with e | ⟨n, e⟩
    · rw [e]; exact let_lft hg i
    · rw [e, let_add, let_lft hg i, let_drop (let_lft hg j)]; rfl, h16⟩
  have m1 := to_has hh1 hi (n := p.word.length) (by omega)
  have m2 := to_has hh2 hj (n := p.word.length) hq
  have hro : M.RulesOk k rs = true := by
    unfold M.SystemOk at hs
    exact (Bool.and_eq_true_iff.1 hs).1
  have s1 := stepIn_mem m1
  have s2 := stepIn_mem m2
  obtain ⟨_, _, l1, _, _, _, r1, _, f1, _⟩ := step_does (good_ordered hg) hfit m1
  obtain ⟨_, _, l2, _, _, _, r2, _, f2, _⟩ := step_does (good_ordered hg) hfit m2
  rw [← steps_yes hro] at s1 s2
  refine ⟨i, j, q, hi, hj, e1, e2, e3, e4, h16, ?_⟩
  unfold M.pairEq
  rw [e1, e2, e3, e4]
  rw [show (0 : Int) = ((0 : Nat) : Int) from rfl]
  simp only [r1, r2]
  refine ⟨?_, f1, f2⟩
  unfold M.SidesOf
  rw [if_pos hs, apply_yes s1, apply_yes s2, r1, r2, if_pos ⟨rfl, rfl⟩]
theorem newEqs_fit {k : Int} {rs : List M.Rule} (hs : M.SystemOk k rs = true) : ∀ q ∈ M.newEqs rs (M.pairTo rs rs.length), M.Wd k q.left ∧ M.Wd k q.right := fun q hq => by
  obtain ⟨p, hp, rfl⟩ := List.mem_map.1 hq
  obtain ⟨i, j, z, _, _, _, _, _, _, _, _, f1, f2⟩ := pair_sides hs (List.mem_filter.1 hp).1
  exact ⟨f1, f2⟩
theorem turnRule_good {k : Int} {rs qs qt : List M.Rule} {t : Int} {q : M.Rule} (h : M.WorkOk k rs qs t = true) (hq : qs = q :: qt) (hne : M.normal rs q.left ≠ M.normal rs q.right) (h8 : ¬ 8 < (M.oriented ⟨M.normal rs q.left, M.normal rs q.right⟩).left.length) :
    M.Good k (M.oriented ⟨M.normal rs q.left, M.normal rs q.right⟩) := by
  obtain ⟨hs, hl, ht, hf⟩ := work_iff.1 h
  obtain ⟨hk, h12, hg⟩ := sys_iff.1 hs
  obtain ⟨fl, fr⟩ := hf q (by rw [hq]; simp)
  have nl := normal_fit (good_ordered hg) _ q.left (Nat.le_refl _) fl
  have nr := normal_fit (good_ordered hg) _ q.right (Nat.le_refl _) fr
  obtain ⟨a, b, c⟩ := good_oriented nl.1 nr.1 hne
  have hll := less_len a
  exact ⟨a, b.2.1, c.2.1, by omega, by omega⟩
/-- A valid work with a queue that is not empty stays valid where a turn does not fail, and its turns are one more. -/
theorem turn_ok {k : Int} {rs qs : List M.Rule} {t : Int} (hq : qs ≠ []) (hc : (M.turn k rs qs t).code = 0) : M.WorkOk k rs qs t = true ∧ t < 200 ∧ M.WorkOk k (M.turn k rs qs t).rs (M.turn k rs qs t).qs (M.turn k rs qs t).t = true ∧ (M.turn k rs qs t).t = t + 1 := by
  cases h : M.WorkOk k rs qs t with
  | false =>
    unfold M.turn at hc
    rw [if_pos h] at hc
    simp at hc
  | true =>
    obtain ⟨hs, hl, ht, hf⟩ := work_iff.1 h
    obtain ⟨hk, h12, hg⟩ := sys_iff.1 hs
    unfold M.turn at hc ⊢
    rw [if_neg (by rw [h]; simp)] at hc ⊢
    cases qs with
    | nil => exact absurd rfl hq
    | cons q qt =>
      simp only at hc ⊢
      by_cases h200 : t = 200
      · rw [if_pos h200] at hc
        simp at hc
      · rw [if_neg h200] at hc ⊢
        have hlq : qt.length ≤ 400 := by simp at hl; omega
        have hfq : ∀ x ∈ qt, M.Wd k x.left ∧ M.Wd k x.right := fun x hx => hf x (by simp [hx])
        refine ⟨by first | rfl | trivial, by omega, ?_⟩
        by_cases he : M.normal rs q.left = M.normal rs q.right
        · rw [if_pos he]
          exact ⟨work_iff.2 ⟨hs, hlq, by simp only; omega, hfq⟩, rfl⟩
        · rw [if_neg he] at hc ⊢
          have hgood := fun h8 => turnRule_good h rfl he h8
          generalize M.oriented ⟨M.normal rs q.left, M.normal rs q.right⟩ = r at *
          unfold M.turnRule at hc ⊢
          by_cases h8 : 8 < r.left.length
          · rw [if_pos h8] at hc
            simp at hc
          · rw [if_neg h8] at hc ⊢
            by_cases h13 : 12 < (M.nextRules rs r).length
            · rw [if_pos h13] at hc
              simp at hc
            · rw [if_neg h13] at hc ⊢
              by_cases h4 : 400 < (M.nextQueue rs qt r).length
              · rw [if_pos h4] at hc
                simp at hc
              · rw [if_neg h4]
                have hn := next_sys hk (hgood h8) hg h13
                refine ⟨work_iff.2 ⟨hn, by simp only; omega, by simp only; omega, fun x hx => ?_⟩, rfl⟩
                unfold M.nextQueue at hx
                rcases List.mem_append.1 hx with hx | hx
                · rcases List.mem_append.1 hx with hx | hx
                  · exact hfq x hx
                  · exact good_wd hk (hg x (gone_mem hx))
                · exact newEqs_fit hn x hx
end Go.Proofs.Ytlohpphmamapeaa
/-
  The laws' helpers on slices of integers and on tables: measured, copied, compared; openers.
  Conditions: at most 2^20 elements.
-/
namespace Go.Proofs.Ytlohpphmamapeaa
open Go.ChangeShapes Go.WideShapes Go.ChangeAt Go.RowKit Go.Joins Go.Deep
set_option linter.unusedVariables false

def int1 (z : Int) : List Value := [.int .i64 z]
theorem ints_flat : ∀ zs : List Int, zs.flatMap int1 = ints zs
  | [] => rfl
  | z :: zs => by rw [List.flatMap_cons, ints_flat zs]; rfl
theorem part1 {rs : List Int} {zs : List Value} {k : Nat} (hk : k < rs.length) (hz : zs.length = rs.length) : (part int1 rs zs 1 k).set k (.int .i64 rs[k]) = part int1 rs zs 1 (k + 1) := by
  have hl := part_len (f := int1) (s := 1) (fun _ => rfl) rs k
  rw [Nat.min_eq_left (by omega), Nat.mul_one] at hl
  unfold part
  rw [Nat.mul_one, List.drop_eq_getElem_cons (l := zs) (i := k) (by omega), set_here _ _ _ _ hl.symm, List.take_succ_eq_append_getElem hk, List.flatMap_append, Nat.mul_one]
  simp [int1]

set_option maxRecDepth 100000 in
theorem szIntS_c (A : Option Addr) (c m : Nat) (n : Int) (w : World) (hl : m ≤ 9223372036854775807) (hn : n ≤ 1048576) (hn0 : 0 ≤ n) :
    Calls Try.prog 67 #[.slice A m c, .int .i64 n] w fun e w' => e = .returned (.int .i64 (if n - m < 0 then -1 else n - m)) ∧ w = w' := by
  by_cases h : n - m < 0
  all_goals
    first | rw [if_pos h] | rw [if_neg h]
    go_enter Try.func67, Try.ntmps67
    go_wp2
    go_ret
    exact ⟨rfl, rfl⟩
set_option maxRecDepth 100000 in
set_option maxHeartbeats 1000000 in
theorem toIntS_c (A : Option Addr) (c : Nat) (rs : List Int) (w : World) (hA : Rd w 1 A rs.length (ints rs)) (hl : rs.length ≤ 1048576) :
    Calls Try.prog 24 #[.slice A rs.length c] w (RetRd (fun A c => .slice A rs.length c) 1 rs.length (ints rs) w) := by
  have HA := Lib.hid hA
  obtain ⟨n, hn⟩ : ∃ n, n = rs.length := ⟨_, rfl⟩
  have hnb : n ≤ 1048576 := by omega
  have HN := Lib.hid hn
  rw [← hn]
  clear hA hl hn
  go_enter Try.func24, Try.ntmps24
  go_wp2_with (at_make; refine make_law rfl _ rfl slInt rfl (by omega) ?_; intro zs w' hzl hown hb')
  obtain ⟨g, hg⟩ : ∃ g, g = w.heap.size := ⟨_, rfl⟩
  rw [← hg] at hown ⊢
  have HO := Lib.hid hown
  have HB := Lib.hid hb'
  have HL := Lib.hid hzl
  have HG := Lib.hid hg
  clear hown hb' hzl hg
  go_loopw [4] (fun i wr => ∃ k : Nat, k ≤ n ∧ i = .int .i64 k ∧ Own wr g 1 (some ⟨g, 0, none⟩) n (part int1 rs zs 1 k) ∧ Below w.heap.size w wr) (fun i _ => n - (intOf i).toNat)
  case atStart => exact ⟨0, by omega, rfl, by rw [part_zero]; exact HO.out, HB.out⟩
  case round =>
    obtain ⟨k, hk, rfl, hown, hb⟩ := hrel
    by_cases hlt : k < n
    · obtain ⟨b, o, rfl, hz, hc⟩ := (HA.out.below hb).intAt (k := k) (by have := HN.out; omega)
      have HP := Lib.hid (part1 (zs := zs) hz (by have h1 := HL.out; have h2 := HN.out; omega))
      obtain ⟨hgb, hcs, hfs, hset⟩ := hown.at0 (by omega)
      have hlm : k < (part int1 rs zs 1 k).length := by have := hown.len; omega
      have hv := hcs k _ (List.getElem?_eq_getElem hlm)
      have hf := hfs k
      have HS := Lib.hid (hset k (.int .i64 rs[k]))
      have HT := Lib.hid hb
      have HGG := Lib.hid hgb
      generalize (part int1 rs zs 1 k)[k] = v at hv
      rw [HP.out] at HS
      clear hcs hfs hset hown hb hgb HP
      generalize rs[k] = x at *
      go_wp2_with fail
      go_roundw
      case rel => exact ⟨k + 1, by omega, by go_num, HS.out, by have hgs := HG.out; have hts := HT.out; repeat (first | exact hts | refine Below.setCell ?_ (by simp; omega) _)⟩
      case measure => simp [intOf]; omega
    · obtain rfl : k = n := by omega
      have HO := Lib.hid hown
      have HB := Lib.hid hb
      clear hown hb
      go_wp2
      go_ret
      exact ⟨_, _, rfl, by have h1 := HO.out; have h2 := HN.out; subst h2; rw [part_all (by simpa using HL.out), ints_flat] at h1; have h3 := HG.out; subst h3; exact h1, HB.out⟩
section
variable {H : Type} {enc : TypeId × Value → H} {w : World} {b0 : Nat} {held : Bool} {spare : Nat → Bool} {v : Value} {d : DataW H} {p : List MemPlace}
theorem Try.cellsInt : Try.prog.cellsOf 3 = 1 := by kernel_rfl
set_option maxRecDepth 100000 in
theorem openIntSlice {n : Nat} {v : Value} {y : DataW H × List MemPlace} (h : DataW.trod enc Try.prog w 0 spare held n 35 [v] = some y) :
    ∃ (A : Option Addr) (c : Nat) (zs : List Int), v = .slice A zs.length c ∧ zs.length ≤ 9223372036854775807 ∧ Rd w 1 A zs.length (ints zs) ∧ ∀ z ∈ zs, -9223372036854775808 ≤ z ∧ z ≤ 9223372036854775807 := by
  obtain ⟨A, c, zs, e, h1, h2, h3⟩ := openElems int1 (fun z => -9223372036854775808 ≤ z ∧ z ≤ 9223372036854775807) (fun _ => rfl) (by decide) Try.underlying35 Try.cellsInt (fun m cs y hl hy => by
    match cs, hl with
    | [c0], _ =>
      obtain ⟨k, rfl, hk⟩ := openOneInt hy
      exact ⟨k, rfl, hk⟩) h
  exact ⟨A, c, zs, e, h1, by rwa [ints_flat] at h2, h3⟩
set_option maxRecDepth 100000 in
theorem openInts (hv : Value.okWide Try.prog w .any b0 35 v) (h : DataW.Trod enc Try.prog w 0 spare held 35 v d p) :
    ∃ (A : Option Addr) (c : Nat) (zs : List Int), v = .slice A zs.length c ∧ (zs.length ≤ 9223372036854775807 ∧ Rd w 1 A zs.length (ints zs) ∧ ∀ z ∈ zs, -9223372036854775808 ≤ z ∧ z ≤ 9223372036854775807) := by
  obtain ⟨a0, len, cap, rfl⟩ := okWide_slice Try.underlying35 hv
  obtain ⟨fuel, hf⟩ := h
  obtain ⟨A, c, xs, e, h1, h2, h3⟩ := openIntSlice (v := .slice a0 len cap) (by simpa [Value.cells] using hf)
  exact ⟨A, c, xs, e, h1, h2, h3⟩
theorem Try.cellsLawTable : Try.prog.cellsOf 37 = 2 := by kernel_rfl
set_option maxRecDepth 100000 in
theorem openTable (hv : Value.okWide Try.prog w .any b0 37 v) (h : DataW.Trod enc Try.prog w 0 spare held 37 v d p) :
    ∃ (k : Int) (A : Option Addr) (c : Nat) (zs : List Int), v = .agg #[.int .i64 k, .slice A zs.length c] ∧ ((-9223372036854775808 ≤ k ∧ k ≤ 9223372036854775807) ∧ zs.length ≤ 9223372036854775807 ∧ Rd w 1 A zs.length (ints zs) ∧ ∀ z ∈ zs, -9223372036854775808 ≤ z ∧ z ≤ 9223372036854775807) := by
  obtain ⟨c0, c1, y0, y1, m, rfl, rfl, rfl, hy0, hy1⟩ := open_agg2 Try.underlying37 (by kernel_rfl) Try.cellsLawTable hv h
  obtain ⟨k, rfl, hk⟩ := openOneInt hy0
  obtain ⟨A, c, rs, rfl, h1, h2, h3⟩ := openIntSlice hy1
  exact ⟨k, A, c, rs, rfl, hk, h1, h2, h3⟩
end
set_option maxRecDepth 100000 in
set_option maxHeartbeats 1000000 in
theorem szTable_c (k : Int) (A : Option Addr) (c : Nat) (rs : List Int) (n : Int) (w : World) (hA : Rd w 1 A rs.length (ints rs)) (hl : rs.length ≤ 9223372036854775807) (hn : n ≤ 1048576) (hn0 : 0 ≤ n) :
    Calls Try.prog 21 #[.agg #[.int .i64 k, .slice A rs.length c], .int .i64 n] w fun e w' => e = .returned (.int .i64 (if n - rs.length < 0 then -1 else n - rs.length)) ∧ Below w.heap.size w w' := by
  have h1 := Lib.hid (fun W => toBelow1 (szIntS_c A c rs.length n W hl hn hn0))
  have HA := Lib.hid hA
  by_cases hneg : n - rs.length < 0
  all_goals
    first | rw [if_pos hneg] | rw [if_neg hneg]
    first | rw [if_pos hneg] at h1 | rw [if_neg hneg] at h1
    clear hA
    obtain ⟨z, hz⟩ : ∃ z, z = n - (rs.length : Int) := ⟨_, rfl⟩
    rw [← hz] at hneg
    try rw [← hz] at h1
    try rw [← hz]
    clear hz
    go_enter Try.func21, Try.ntmps21
    go_wp2_with fail
    refine (h1.out _).mono ?_
    rintro e w1 ⟨rfl, hb1⟩
    go_wp2_with fail
    go_ret
    exact ⟨rfl, below_alloc1 hb1⟩
set_option maxRecDepth 100000 in
set_option maxHeartbeats 1000000 in
theorem toTable_c (k : Int) (A : Option Addr) (c : Nat) (rs : List Int) (w : World) (hA : Rd w 1 A rs.length (ints rs)) (hl : rs.length ≤ 1048576) :
    Calls Try.prog 23 #[.agg #[.int .i64 k, .slice A rs.length c]] w (RetRd (fun A c => .agg #[.int .i64 k, .slice A rs.length c]) 1 rs.length (ints rs) w) := by
  have h1 := Lib.hid (fun W h => toIntS_c A c rs W h hl)
  have HA := Lib.hid hA
  clear hA
  go_enter Try.func23, Try.ntmps23
  go_wp2_with fail
  refine (h1.out _ (HA.out.below (by repeat (first | exact Below.refl _ _ | refine Below.setCell ?_ (by simp <;> omega) _ | refine Below.alloc ?_ (by simp <;> omega) _)))).mono ?_
  rintro e w1 ⟨A1, c1, rfl, hr, hb1⟩
  have k1 : w1.cell? ⟨w.heap.size + 1 + 1, 0, none⟩ = some (.int .i64 k) := cellKeep hb1 (by simp [go_sem])
  have k2 : w1.cell? ⟨w.heap.size + 1 + 1, 1, none⟩ = some (.slice none 0 0) := cellKeep hb1 (by simp [go_sem])
  have d1 : w1.cell? ⟨w.heap.size + 1, 0, none⟩ = some (.int .i64 0) := cellKeep hb1 (by simp [go_sem])
  have d2 : w1.cell? ⟨w.heap.size + 1, 1, none⟩ = some (.slice none 0 0) := cellKeep hb1 (by simp [go_sem])
  have f1 : w1.frozen? ⟨w.heap.size + 1 + 1, 1, none⟩ = false := ((bcell hb1).2 _ _ (by simp)).trans (by simp [go_sem])
  have f2 : w1.frozen? ⟨w.heap.size + 1, 0, none⟩ = false := ((bcell hb1).2 _ _ (by simp)).trans (by simp [go_sem])
  have f3 : w1.frozen? ⟨w.heap.size + 1, 1, none⟩ = false := ((bcell hb1).2 _ _ (by simp)).trans (by simp [go_sem])
  have HO := Lib.hid (hr.mono (base' := w.heap.size + 3) (by simp))
  have HB := Lib.hid (below_alloc1 (below_alloc1 (below_alloc1 hb1)))
  clear hr hb1
  obtain ⟨S, hS⟩ : ∃ S, S = Value.slice A1 rs.length c1 := ⟨_, rfl⟩
  have e1 : (w1.setCell ⟨w.heap.size + 1 + 1, 1, none⟩ S).cell? ⟨w.heap.size + 1, 0, none⟩ = some (.int .i64 0) := (cell_set_ne _ (by omega)).trans d1
  have e2 : (w1.setCell ⟨w.heap.size + 1 + 1, 1, none⟩ S).cell? ⟨w.heap.size + 1, 1, none⟩ = some (.slice none 0 0) := (cell_set_ne _ (by omega)).trans d2
  have e3 : (w1.setCell ⟨w.heap.size + 1 + 1, 1, none⟩ S).cell? ⟨w.heap.size + 1 + 1, 1, none⟩ = some S := cell_set_eq _ k2
  have e4 : (w1.setCell ⟨w.heap.size + 1 + 1, 1, none⟩ S).cell? ⟨w.heap.size + 1 + 1, 0, none⟩ = some (.int .i64 k) := (cell_set_ne _ (by omega)).trans k1
  subst hS
  go_wp2_with fail
  refine bodyPost_ret (v := .agg #[.int .i64 k, .slice A1 rs.length c1]) ?_ rfl ⟨_, _, rfl, ?_, ?_⟩
  · simp [results, Try.results23, go_sem, cell_set_ne, cell_set_eq _ e1, cell_two' e2]
  · exact (((HO.out.setLow (by omega)).setLow (by omega)).setLow (by omega)).mono (by omega)
  · exact ((HB.out.setCell (by simp; omega) _).setCell (by simp) _).setCell (by simp) _
set_option maxRecDepth 100000 in
set_option maxHeartbeats 1000000 in
theorem eqTable_t (k : Int) (A B : Option Addr) (c d : Nat) (rs : List Int) (w : World) (hA : Rd w 1 A rs.length (ints rs)) (hB : Rd w 1 B rs.length (ints rs)) (hx : rs.length ≤ 1099511627776) :
    Calls Try.prog 27 #[.agg #[.int .i64 k, .slice A rs.length c], .agg #[.int .i64 k, .slice B rs.length d]] w fun e w' => e = .returned (.bool true) ∧ Below w.heap.size w w' := by
  have h1 := Lib.hid (fun W h h' => eqIntS_t A B c d rs W h h' hx)
  have HA := Lib.hid hA
  have HB := Lib.hid hB
  clear hA hB
  go_enter Try.func27, Try.ntmps27
  go_wp2_with fail
  have hp := fun (o p : Obj) => ((Below.refl w.heap.size w).alloc (Nat.le_refl _) o).alloc (by simp) p
  refine (h1.out _ (HA.out.below (hp _ _)) (HB.out.below (hp _ _))).mono ?_
  rintro e w1 ⟨rfl, hb1⟩
  go_wp2_with fail
  go_ret
  exact ⟨rfl, below_alloc2 hb1⟩

end Go.Proofs.Ytlohpphmamapeaa
/-
  What the functions on tables compute, in plain words.
  Conditions: none; this text names no law.
-/
namespace Go.Proofs.Ytlohpphmamapeaa.M
set_option linter.unusedVariables false

def tAt (xs : List Int) (i : Nat) : Int := xs.getD i 0
def tI (n : Nat) (xs : List Int) (x y : Int) : Int := tAt xs (x.toNat * n + y.toNat)
abbrev AssocP (n : Nat) (xs : List Int) (i j k : Nat) : Prop := tI n xs (tI n xs i j) k = tI n xs i (tI n xs j k)
abbrev UnitP (n : Nat) (xs : List Int) (i : Nat) : Prop := tAt xs i = (i : Int) ∧ tAt xs (i * n) = (i : Int)
abbrev RowP (n : Nat) (xs : List Int) (i : Nat) : Prop := UnitP n xs i ∧ ∀ j, j < n → ∀ k, k < n → AssocP n xs i j k
abbrev InP (n : Nat) (xs : List Int) : Prop := ∀ x ∈ xs, 0 ≤ x ∧ x ≤ (n : Int) - 1
abbrev TableP (n : Nat) (xs : List Int) : Prop := xs.length = n * n ∧ InP n xs ∧ ∀ i, i < n → RowP n xs i
abbrev TableQ (k : Int) (xs : List Int) : Prop := (1 ≤ k ∧ k ≤ 40) ∧ TableP k.toNat xs
def TableOk (k : Int) (xs : List Int) : Bool := decide (TableQ k xs)
theorem tableOk_no {k : Int} {xs : List Int} (h : ¬ TableQ k xs) : TableOk k xs = false := decide_eq_false h
theorem tableOk_yes {k : Int} {xs : List Int} (h : TableQ k xs) : TableOk k xs = true := decide_eq_true h
theorem tAt_eq {xs : List Int} {i : Nat} (h : i < xs.length) : tAt xs i = xs[i] := by simp [tAt, h]
theorem tAt_in {n : Nat} {xs : List Int} (h : InP n xs) {i : Nat} (hi : i < xs.length) : ∃ m : Nat, tAt xs i = (m : Int) ∧ m < n := by
  rw [tAt_eq hi]
  have := h xs[i] (List.getElem_mem hi)
  exact ⟨xs[i].toNat, by omega, by omega⟩
theorem idx_lt {n i j : Nat} (hi : i < n) (hj : j < n) : i * n + j < n * n := by
  have : (i + 1) * n ≤ n * n := Nat.mul_le_mul_right n hi
  rw [Nat.add_mul] at this
  omega
theorem sq_le {n : Nat} (h : n ≤ 40) : n * n ≤ 1600 := Nat.mul_le_mul h h

theorem tI_in {n : Nat} {xs : List Int} (h : InP n xs) (hl : xs.length = n * n) {x y : Int} (hx : 0 ≤ x ∧ x < n) (hy : 0 ≤ y ∧ y < n) : 0 ≤ tI n xs x y ∧ tI n xs x y < n := by
  have hlt : x.toNat * n + y.toNat < xs.length := by rw [hl]; exact idx_lt (by omega) (by omega)
  have := h _ (List.getElem_mem hlt)
  unfold tI
  rw [tAt_eq hlt]
  omega
theorem rowsOk {n : Nat} {xs : List Int} (hn : 1 ≤ n ∧ n ≤ 40) (hl : xs.length = n * n) (hi : InP n xs) (h : ∀ i, i < n → RowP n xs i) : TableOk n xs = true :=
  tableOk_yes ⟨by omega, by simpa using hl, by simpa using hi, by simpa using h⟩
theorem noLen {k : Int} {xs : List Int} (h : ¬ xs.length = k.toNat * k.toNat) : TableOk k xs = false := tableOk_no fun q => h q.2.1
theorem noSize {k : Int} {xs : List Int} (h : ¬ (1 ≤ k ∧ k ≤ 40)) : TableOk k xs = false := tableOk_no fun q => h q.1
theorem noIn {n : Nat} {xs : List Int} (h : ¬ InP n xs) : TableOk n xs = false := tableOk_no fun q => h (by simpa using q.2.2.1)
theorem noRow {n : Nat} {xs : List Int} {i : Nat} (hi : i < n) (h : ¬ RowP n xs i) : TableOk n xs = false := tableOk_no fun q => h (by simpa using q.2.2.2 i (by simpa using hi))
theorem noUnit {n : Nat} {xs : List Int} {i : Nat} (hi : i < n) (h : ¬ UnitP n xs i) : TableOk n xs = false := noRow hi fun r => h r.1
theorem noAssoc {n : Nat} {xs : List Int} {i j k : Nat} (hi : i < n) (hj : j < n) (hk : k < n) (h : ¬ AssocP n xs i j k) : TableOk n xs = false := noRow hi fun r => h (r.2 j hj k hk)
def outOf (lo hi : Int) (x : Int) : Bool := !within x lo hi
theorem inP_iff {n : Nat} {xs : List Int} : xs.any (outOf 0 (n - 1)) = !decide (InP n xs) := by
  by_cases h : InP n xs
  · rw [decide_eq_true h, Bool.not_true, List.any_eq_false]
    intro x hx
    have := h x hx
    simp [outOf, within]
    omega
  · rw [decide_eq_false h, Bool.not_false, List.any_eq_true]
    have ⟨x, hx⟩ := Classical.not_forall.1 h
    obtain ⟨hm, hx⟩ := Classical.not_imp.1 hx
    refine ⟨x, hm, ?_⟩
    simp [outOf, within]
    omega

end Go.Proofs.Ytlohpphmamapeaa.M
/-
  Contracts of the product of two elements, and of allWithin.
  Conditions: tables of at most 40 elements.
-/
namespace Go.Proofs.Ytlohpphmamapeaa
open Go.RowKit
set_option linter.unusedVariables false

theorem tAt_cell {w : World} {A : Option Addr} {xs : List Int} (h : Rd w 1 A xs.length (ints xs)) {a : Nat} (ha : a < xs.length) : ∃ b o, A = some ⟨b, o, none⟩ ∧ w.cell? ⟨b, o + a, none⟩ = some (.int .i64 (M.tAt xs a)) := by
  obtain ⟨b, o, e, hz, hc⟩ := h.intAt (k := a) ha
  exact ⟨b, o, e, by rw [M.tAt_eq hz]; exact hc⟩
set_option maxRecDepth 100000 in
set_option maxHeartbeats 1000000 in
theorem times_c (n : Nat) (A : Option Addr) (c : Nat) (xs : List Int) (x y : Int) (w : World) (hA : Rd w 1 A xs.length (ints xs)) (hn : n ≤ 40) (hl : xs.length = n * n) (hx : 0 ≤ x ∧ x < n) (hy : 0 ≤ y ∧ y < n) :
    Calls Try.prog 129 #[.agg #[.int .i64 n, .slice A xs.length c], .int .i64 x, .int .i64 y] w fun e w' => e = .returned (.int .i64 (M.tI n xs x y)) ∧ Below w.heap.size w w' := by
  obtain ⟨i, rfl⟩ : ∃ i : Nat, x = i := ⟨x.toNat, by omega⟩
  obtain ⟨j, rfl⟩ : ∃ j : Nat, y = j := ⟨y.toNat, by omega⟩
  unfold M.tI
  simp only [Int.toNat_natCast]
  have hlt := M.idx_lt (n := n) (i := i) (j := j) (by omega) (by omega)
  have hsq := M.sq_le hn
  have hxl : xs.length ≤ 1600 := by omega
  obtain ⟨p, hp⟩ : ∃ p, p = i * n := ⟨_, rfl⟩
  have hpp : (i : Int) * (n : Int) = (p : Int) := by rw [hp]; simp
  rw [← hp] at hlt ⊢
  obtain ⟨a, ha⟩ : ∃ a, a = p + j := ⟨_, rfl⟩
  have haa : (p : Int) + (j : Int) = (a : Int) := by rw [ha]; simp
  rw [← ha] at hlt ⊢
  have hap : p ≤ a := by omega
  have hal : a < xs.length := by omega
  obtain ⟨b, o, rfl, hc⟩ := tAt_cell hA hal
  have hc' := fun x => allocKeep1 hc x
  generalize M.tAt xs a = z at *
  generalize xs.length = m at *
  have hab : a ≤ 1600 := by omega
  have hpb : p ≤ 1600 := by omega
  clear hp ha hA hl hlt hsq
  go_enter Try.func129, Try.ntmps129
  go_wp2_with fail
  go_ret
  exact ⟨rfl, (Below.refl _ _).alloc (Nat.le_refl _) _⟩
set_option maxRecDepth 100000 in
set_option maxHeartbeats 1000000 in
theorem l08Times_c (n : Nat) (A : Option Addr) (c : Nat) (xs : List Int) (x y : Int) (w : World) (hA : Rd w 1 A xs.length (ints xs)) (hn : n ≤ 40) (hl : xs.length = n * n) (hx : 0 ≤ x ∧ x < n) (hy : 0 ≤ y ∧ y < n) :
    Calls Try.prog 126 #[.agg #[.int .i64 n, .slice A xs.length c], .int .i64 x, .int .i64 y] w fun e w' => e = .returned (.int .i64 (M.tI n xs x y)) ∧ Below w.heap.size w w' := by
  obtain ⟨i, rfl⟩ : ∃ i : Nat, x = i := ⟨x.toNat, by omega⟩
  obtain ⟨j, rfl⟩ : ∃ j : Nat, y = j := ⟨y.toNat, by omega⟩
  unfold M.tI
  simp only [Int.toNat_natCast]
  have hlt := M.idx_lt (n := n) (i := i) (j := j) (by omega) (by omega)
  have hsq := M.sq_le hn
  have hxl : xs.length ≤ 1600 := by omega
  obtain ⟨p, hp⟩ : ∃ p, p = i * n := ⟨_, rfl⟩
  have hpp : (i : Int) * (n : Int) = (p : Int) := by rw [hp]; simp
  rw [← hp] at hlt ⊢
  obtain ⟨a, ha⟩ : ∃ a, a = p + j := ⟨_, rfl⟩
  have haa : (p : Int) + (j : Int) = (a : Int) := by rw [ha]; simp
  rw [← ha] at hlt ⊢
  have hap : p ≤ a := by omega
  have hal : a < xs.length := by omega
  obtain ⟨b, o, rfl, hc⟩ := tAt_cell hA hal
  have hc' := fun x => allocKeep1 hc x
  generalize M.tAt xs a = z at *
  generalize xs.length = m at *
  have hab : a ≤ 1600 := by omega
  have hpb : p ≤ 1600 := by omega
  clear hp ha hA hl hlt hsq
  go_enter Try.func126, Try.ntmps126
  go_wp2_with fail
  go_ret
  exact ⟨rfl, (Below.refl _ _).alloc (Nat.le_refl _) _⟩
set_option maxRecDepth 100000 in
set_option maxHeartbeats 1000000 in
theorem allWithin1_c (lo hi x : Int) (b1 b2 : Nat) (w : World) (h1 : w.cell? ⟨b1, 0, none⟩ = some (.int .i64 lo)) (h2 : w.cell? ⟨b2, 0, none⟩ = some (.int .i64 hi)) : Calls Try.prog 167 #[.int .i64 x, .pointer (some ⟨b1, 0, none⟩), .pointer (some ⟨b2, 0, none⟩)] w fun e w' => e = .returned (.bool (M.outOf lo hi x)) ∧ w = w' := by
  unfold M.outOf
  have h3 := Lib.hid (fun W => within_c x lo hi W)
  generalize M.within x lo hi = v at *
  go_enter Try.func167, Try.ntmps167
  go_wp2_with fail
  refine (h3.out _).mono ?_
  rintro e w1 ⟨rfl, rfl⟩
  go_wp2_with fail
  go_ret
  exact ⟨rfl, rfl⟩
set_option maxRecDepth 100000 in
set_option maxHeartbeats 1000000 in
theorem IndexFuncInt_c (lo hi : Int) (b1 b2 : Nat) (A : Option Addr) (c : Nat) (rs : List Int) (w : World) (h1 : w.cell? ⟨b1, 0, none⟩ = some (.int .i64 lo)) (h2 : w.cell? ⟨b2, 0, none⟩ = some (.int .i64 hi)) (hA : Rd w 1 A rs.length (ints rs)) (hl : rs.length ≤ 1048576) :
    Calls Try.prog 141 #[.slice A rs.length c, .func (.func 167) #[] #[.pointer (some ⟨b1, 0, none⟩), .pointer (some ⟨b2, 0, none⟩)]] w fun e w' => (∃ z : Int, e = .returned (.int .i64 z) ∧ decide (0 ≤ z) = rs.any (M.outOf lo hi)) ∧ w = w' := by
  have HA := Lib.hid hA
  have H1 := Lib.hid h1
  have H2 := Lib.hid h2
  obtain ⟨q, hq⟩ : ∃ q, q = rs.any (M.outOf lo hi) := ⟨_, rfl⟩
  rw [← hq]
  have HQ := Lib.hid hq
  obtain ⟨m, hm⟩ : ∃ m, m = rs.length := ⟨_, rfl⟩
  have hmb : m ≤ 1048576 := by omega
  rw [← hm]
  have HM := Lib.hid hm
  clear hA hq hm hl h1 h2
  go_enter Try.func141, Try.ntmps141
  go_wp2
  go_loop [8] (fun i => ∃ (k : Nat), k ≤ m ∧ i = .int .i64 k ∧ (rs.drop k).any (M.outOf lo hi) = q) (fun i => m - (intOf i).toNat)
  case atStart => exact ⟨0, by omega, rfl, by rw [List.drop_zero, HQ.out]⟩
  case round =>
    obtain ⟨k, hk, rfl, hf⟩ := hrel
    have HF := Lib.hid hf
    clear hf
    by_cases hlt : k < m
    · obtain ⟨b, o, rfl, hz, hc⟩ := HA.out.intAt (k := k) (by have := HM.out; omega)
      have hd : (rs.drop k).any (M.outOf lo hi) = (M.outOf lo hi rs[k] || (rs.drop (k + 1)).any (M.outOf lo hi)) := by rw [List.drop_eq_getElem_cons hz, List.any_cons]
      have HC := Lib.hid (allWithin1_c lo hi rs[k] b1 b2 w H1.out H2.out)
      have HF2 := Lib.hid (hd.symm.trans HF.out)
      clear hd
      generalize rs[k] = r at *
      generalize M.outOf lo hi r = v at *
      cases v
      case true =>
        go_wp2_with fail
        refine HC.out.mono ?_
        rintro e w1 ⟨rfl, rfl⟩
        go_wp2_with fail
        go_ret
        exact ⟨⟨k, rfl, by have := HF2.out; rw [← this]; simp⟩, rfl⟩
      case false =>
        go_wp2_with fail
        refine HC.out.mono ?_
        rintro e w1 ⟨rfl, rfl⟩
        go_wp2_with fail
        go_round
        case rel => exact ⟨k + 1, by omega, by go_num, by have := HF2.out; rw [← this]; simp⟩
        case measure => simp [intOf]; omega
    · have e : q = false := by have := HF.out; rw [List.drop_eq_nil_of_le (by have := HM.out; omega)] at this; exact this.symm
      go_wp2
      go_ret
      exact ⟨⟨-1, rfl, by first | (rw [e]; rfl) | decide⟩, rfl⟩
set_option maxRecDepth 100000 in
set_option maxHeartbeats 1000000 in
theorem ContainsFuncInt_c (lo hi : Int) (b1 b2 : Nat) (A : Option Addr) (c : Nat) (rs : List Int) (w : World) (h1 : w.cell? ⟨b1, 0, none⟩ = some (.int .i64 lo)) (h2 : w.cell? ⟨b2, 0, none⟩ = some (.int .i64 hi)) (hA : Rd w 1 A rs.length (ints rs)) (hl : rs.length ≤ 1048576) :
    Calls Try.prog 166 #[.slice A rs.length c, .func (.func 167) #[] #[.pointer (some ⟨b1, 0, none⟩), .pointer (some ⟨b2, 0, none⟩)]] w fun e w' => e = .returned (.bool (rs.any (M.outOf lo hi))) ∧ w = w' := by
  have h := Lib.hid (IndexFuncInt_c lo hi b1 b2 A c rs w h1 h2 hA hl)
  clear hA h1 h2
  generalize rs.any (M.outOf lo hi) = q at *
  go_enter Try.func166, Try.ntmps166
  go_wp2_with fail
  refine h.out.mono ?_
  rintro e w1 ⟨⟨z, rfl, hz⟩, rfl⟩
  go_wp2_with fail
  go_ret
  exact ⟨rfl, rfl⟩
set_option maxRecDepth 100000 in
set_option maxHeartbeats 1000000 in
theorem allWithin_c (A : Option Addr) (c : Nat) (rs : List Int) (lo hi : Int) (w : World) (hA : Rd w 1 A rs.length (ints rs)) (hl : rs.length ≤ 1048576) :
    Calls Try.prog 127 #[.slice A rs.length c, .int .i64 lo, .int .i64 hi] w fun e w' => e = .returned (.bool (!rs.any (M.outOf lo hi))) ∧ Below w.heap.size w w' := by
  have HA := Lib.hid hA
  have h := Lib.hid (fun b1 b2 W h1 h2 hA => ContainsFuncInt_c lo hi b1 b2 A c rs W h1 h2 hA hl)
  have hmf : ∀ (fn : Fn) (first cap : Array Value) (w : World), (Instr.makeFunc fn first cap).run Try.prog w = .ok (.func fn first cap) w := fun _ _ _ _ => rfl
  have hp := fun (o p : Obj) => ((Below.refl w.heap.size w).alloc (Nat.le_refl _) o).alloc (by simp) p
  clear hA
  generalize rs.any (M.outOf lo hi) = q at *
  go_enter Try.func127, Try.ntmps127
  go_wp2_with fail
  refine (h.out _ _ _ (by simp [go_sem]) (by simp [go_sem]) (HA.out.below (hp _ _))).mono ?_
  rintro e w1 ⟨rfl, rfl⟩
  go_wp2_with fail
  go_ret
  exact ⟨rfl, hp _ _⟩

end Go.Proofs.Ytlohpphmamapeaa
/-
  Contracts of TableOk.
  Conditions: at most 2^20 entries.
-/
namespace Go.Proofs.Ytlohpphmamapeaa
open Go.RowKit
set_option linter.unusedVariables false

theorem held2 {a w w1 : World} {b1 o1 b2 o2 : Nat} {u1 u2 : Value} (h : w.cell? ⟨b1, o1, none⟩ = some u1 ∧ w.cell? ⟨b2, o2, none⟩ = some u2 ∧ Below a.heap.size a w) (hb : Below w.heap.size w w1) :
    w1.cell? ⟨b1, o1, none⟩ = some u1 ∧ w1.cell? ⟨b2, o2, none⟩ = some u2 ∧ Below a.heap.size a w1 := ⟨cellKeep hb h.1, cellKeep hb h.2.1, below_then h.2.2 hb⟩
theorem held2_below {a w : World} {p1 p2 : Prop} (h : p1 ∧ p2 ∧ Below a.heap.size a w) : Below a.heap.size a w := h.2.2
theorem held2_of {a w : World} {b1 o1 b2 o2 : Nat} {u1 u2 : Value} (h1 : a.cell? ⟨b1, o1, none⟩ = some u1) (h2 : a.cell? ⟨b2, o2, none⟩ = some u2) (h : Below a.heap.size a w) : w.cell? ⟨b1, o1, none⟩ = some u1 ∧ w.cell? ⟨b2, o2, none⟩ = some u2 ∧ Below a.heap.size a w := ⟨cellKeep h h1, cellKeep h h2, h⟩
theorem within_size {k : Int} (h : ¬ (1 ≤ k ∧ k ≤ 40)) : M.within k 1 40 = false := by unfold M.within; simp; omega
theorem within_size' {k : Int} (h : 1 ≤ k ∧ k ≤ 40) : M.within k 1 40 = true := by unfold M.within; simp; omega
theorem tI_zero {n : Nat} {xs : List Int} (i : Nat) : M.tI n xs 0 i = M.tAt xs i := by unfold M.tI; simp
theorem tI_row {n : Nat} {xs : List Int} (i : Nat) : M.tI n xs i 0 = M.tAt xs (i * n) := by unfold M.tI; simp

set_option maxRecDepth 100000 in
set_option maxHeartbeats 4000000 in
theorem impl_TableOk_c (k : Int) (A : Option Addr) (c : Nat) (xs : List Int) (w : World) (hA : Rd w 1 A xs.length (ints xs)) (hl : xs.length ≤ 1048576) :
    Calls Try.prog 85 #[.agg #[.int .i64 k, .slice A xs.length c]] w fun e w' => e = .returned (.bool (M.TableOk k xs)) ∧ Below w.heap.size w w' := by
  have h1 := Lib.hid (fun W => within_c k 1 40 W)
  by_cases hk : 1 ≤ k ∧ k ≤ 40
  case neg =>
    rw [M.noSize hk]
    rw [within_size hk] at h1
    clear hA hk
    go_enter Try.func85, Try.ntmps85
    go_wp2_with fail
    refine (h1.out _).mono ?_
    rintro e w1 ⟨rfl, rfl⟩
    go_wp2_with fail
    go_ret
    exact ⟨rfl, (Below.refl _ _).alloc (Nat.le_refl _) _⟩
  case pos =>
  rw [within_size' hk] at h1
  obtain ⟨n, rfl⟩ : ∃ n : Nat, k = n := ⟨k.toNat, by omega⟩
  have hn1 : 1 ≤ n := by omega
  have hn : n ≤ 40 := by omega
  have hsq := M.sq_le hn
  obtain ⟨s, hs⟩ : ∃ s, s = n * n := ⟨_, rfl⟩
  have hss : (n : Int) * (n : Int) = (s : Int) := by rw [hs]; simp
  rw [← hs] at hsq
  by_cases hlen : xs.length = s
  case neg =>
    rw [M.noLen (by simpa [← hs] using hlen)]
    have hlen' : ((xs.length : Int) != (s : Int)) = true := by rw [bne_iff_ne]; omega
    clear hA hk hs hlen
    go_enter Try.func85, Try.ntmps85
    go_wp2_with fail
    refine (h1.out _).mono ?_
    rintro e w1 ⟨rfl, rfl⟩
    go_wp2_with fail
    go_ret
    exact ⟨rfl, (Below.refl _ _).alloc (Nat.le_refl _) _⟩
  case pos =>
  have hlen' : ((xs.length : Int) != (s : Int)) = false := by rw [hlen]; simp
  have HA := Lib.hid (show Rd w 1 A s (ints xs) from hlen ▸ hA)
  have HL : xs.length = n * n := hlen.trans hs
  have h2 := Lib.hid (fun W h => allWithin_c A c xs 0 ((n : Int) - 1) W h hl)
  rw [M.inP_iff] at h2
  by_cases hin : M.InP n xs
  case neg =>
    rw [M.noIn hin]
    rw [decide_eq_false hin] at h2
    have HLL := Lib.hid HL
    clear hA hk hs hin HL
    rw [hlen] at *
    go_enter Try.func85, Try.ntmps85
    go_wp2_with fail
    refine (h1.out _).mono ?_
    rintro e w1 ⟨rfl, rfl⟩
    go_wp2_with fail
    refine (h2.out _ (HA.out.below ((Below.refl _ _).alloc (Nat.le_refl _) _))).mono ?_
    rintro e w1 ⟨rfl, hb⟩
    go_wp2_with fail
    go_ret
    exact ⟨rfl, below_alloc1 hb⟩
  case pos =>
  rw [decide_eq_true hin] at h2
  have HIN := Lib.hid hin
  have HLL := Lib.hid HL
  have HT := Lib.hid (fun x y W h hx hy => times_c n A c xs x y W h hn HL hx hy)
  have HI := Lib.hid (fun x y hx hy => M.tI_in (n := n) (xs := xs) hin HL (x := x) (y := y) hx hy)
  have HOK := Lib.hid (fun (h : ∀ i, i < n → M.RowP n xs i) => M.rowsOk ⟨hn1, hn⟩ HL hin h)
  clear hA hk hs hin HL
  rw [hlen] at *
  go_enter Try.func85, Try.ntmps85
  go_wp2_with fail
  refine (h1.out _).mono ?_
  rintro e w1 ⟨rfl, rfl⟩
  go_wp2_with fail
  refine (h2.out _ (HA.out.below ((Below.refl _ _).alloc (Nat.le_refl _) _))).mono ?_
  rintro e w1 ⟨rfl, hb⟩
  have d0 : w1.cell? ⟨w.heap.size, 0, none⟩ = some (.int .i64 n) := cellKeep hb (by simp [go_sem])
  have d1 : w1.cell? ⟨w.heap.size, 1, none⟩ = some (.slice A s c) := cellKeep hb (by simp [go_sem])
  have HB := Lib.hid (below_alloc1 hb)
  clear hb
  go_wp2_with fail
  go_loopw [32] (fun z wr => ∃ i : Nat, i ≤ n ∧ z = .int .i64 i ∧ (∀ i', i' < i → M.RowP n xs i') ∧ wr.cell? ⟨w.heap.size, 0, none⟩ = some (.int .i64 n) ∧ wr.cell? ⟨w.heap.size, 1, none⟩ = some (.slice A s c) ∧ Below w.heap.size w wr) (fun z _ => n - (intOf z).toNat)
  case atStart => exact ⟨0, by omega, rfl, fun i' h => absurd h (by omega), d0, d1, HB.out⟩
  case round =>
    clear d0 d1 HB
    obtain ⟨i, hi, rfl, hrow, c0, c1, hb⟩ := hrel
    have HROW := Lib.hid hrow
    have HB := Lib.hid hb
    clear hrow hb
    by_cases hlt : i < n
    case neg =>
      go_wp2
      go_ret
      exact ⟨ret_bool (HOK.out (fun j hj => HROW.out j (by omega))).symm, HB.out⟩
    case pos =>
    have hi0 : 0 ≤ (i : Int) ∧ (i : Int) < n := by omega
    have h00 : 0 ≤ (0 : Int) ∧ (0 : Int) < n := by omega
    have ht1 := Lib.hid (fun W h => HT.out 0 i W h h00 hi0)
    have ht2 := Lib.hid (fun W h => HT.out i 0 W h hi0 h00)
    rw [tI_zero] at ht1
    rw [tI_row] at ht2
    have HU := Lib.hid (fun h => M.noUnit (n := n) (xs := xs) (i := i) hlt h)
    by_cases hu1 : M.tAt xs i = i
    case neg =>
      have HNO := Lib.hid (HU.out (fun h => hu1 h.1))
      have hu1' : (M.tAt xs i != (i : Int)) = true := by rw [bne_iff_ne]; exact hu1
      generalize M.tAt xs i = u1 at *
      clear hu1
      go_wp2_with fail
      refine (ht1.out _ (HA.out.below HB.out)).mono ?_
      rintro e w2 ⟨rfl, hb2⟩
      go_wp2_with fail
      go_ret
      exact ⟨ret_bool HNO.out.symm, HB.out.trans (hb2.mono HB.out.size)⟩
    case pos =>
    by_cases hu2 : M.tAt xs (i * n) = i
    case neg =>
      have HNO := Lib.hid (HU.out (fun h => hu2 h.2))
      have hu2' : (M.tAt xs (i * n) != (i : Int)) = true := by rw [bne_iff_ne]; exact hu2
      rw [hu1] at ht1
      generalize M.tAt xs (i * n) = u2 at *
      clear hu1 hu2
      go_wp2_with fail
      refine (ht1.out _ (HA.out.below HB.out)).mono ?_
      rintro e w2 ⟨rfl, hb2⟩
      have c0' := cellKeep hb2 c0
      have c1' := cellKeep hb2 c1
      have HB2 := Lib.hid (HB.out.trans (hb2.mono HB.out.size))
      clear hb2
      go_wp2_with fail
      refine (ht2.out _ (HA.out.below HB2.out)).mono ?_
      rintro e w3 ⟨rfl, hb3⟩
      go_wp2_with fail
      go_ret
      exact ⟨ret_bool HNO.out.symm, HB2.out.trans (hb3.mono HB2.out.size)⟩
    case pos =>
      have HUP := Lib.hid (show M.UnitP n xs i from ⟨hu1, hu2⟩)
      rw [hu1] at ht1
      rw [hu2] at ht2
      clear hu1 hu2
      go_wp2_with fail
      refine (ht1.out _ (HA.out.below HB.out)).mono ?_
      rintro e w2 ⟨rfl, hb2⟩
      have c0' := cellKeep hb2 c0
      have c1' := cellKeep hb2 c1
      have HB2 := Lib.hid (HB.out.trans (hb2.mono HB.out.size))
      clear hb2
      go_wp2_with fail
      refine (ht2.out _ (HA.out.below HB2.out)).mono ?_
      rintro e w3 ⟨rfl, hb3⟩
      have c0'' := cellKeep hb3 c0'
      have c1'' := cellKeep hb3 c1'
      have HB3 := Lib.hid (HB2.out.trans (hb3.mono HB2.out.size))
      clear hb3 c0 c1 c0' c1' HB HB2
      go_wp2_with fail
      go_loopw [49] (fun z wr => ∃ j : Nat, j ≤ n ∧ z = .int .i64 j ∧ (∀ j', j' < j → ∀ l, l < n → M.AssocP n xs i j' l) ∧ wr.cell? ⟨w.heap.size, 0, none⟩ = some (.int .i64 n) ∧ wr.cell? ⟨w.heap.size, 1, none⟩ = some (.slice A s c) ∧ Below w.heap.size w wr) (fun z _ => n - (intOf z).toNat)
      case atStart => exact ⟨0, by omega, rfl, fun i' h => absurd h (by omega), c0'', c1'', HB3.out⟩
      case round =>
        clear c0'' c1'' HB3
        obtain ⟨j, hj, rfl, hcol, c0, c1, hb⟩ := hrel
        have HCOL := Lib.hid hcol
        have HB := Lib.hid hb
        clear hcol hb
        by_cases hltj : j < n
        case neg =>
          go_wp2
          go_roundw
          case rel => exact ⟨i + 1, by omega, by go_num, fun i' h => by
            by_cases he : i' = i
            · subst he; exact ⟨HUP.out, fun j' hj' => HCOL.out j' (by omega)⟩
            · exact HROW.out i' (by omega), c0, c1, HB.out⟩
          case measure => simp [intOf]; omega
        case pos =>
        go_wp2
        go_loopw [54] (fun z wr => ∃ l : Nat, l ≤ n ∧ z = .int .i64 l ∧ (∀ l', l' < l → M.AssocP n xs i j l') ∧ wr.cell? ⟨w.heap.size, 0, none⟩ = some (.int .i64 n) ∧ wr.cell? ⟨w.heap.size, 1, none⟩ = some (.slice A s c) ∧ Below w.heap.size w wr) (fun z _ => n - (intOf z).toNat)
        case atStart => exact ⟨0, by omega, rfl, fun i' h => absurd h (by omega), c0, c1, HB.out⟩
        case round =>
          clear c0 c1 HB
          obtain ⟨l, hl, rfl, hlast, c0, c1, hb⟩ := hrel
          have HLAST := Lib.hid hlast
          have HB := Lib.hid hb
          clear hlast hb
          by_cases hltl : l < n
          case neg =>
            go_wp2
            go_roundw
            case rel => exact ⟨j + 1, by omega, by go_num, fun j' h l' hl' => by
              by_cases he : j' = j
              · subst he; exact HLAST.out l' (by omega)
              · exact HCOL.out j' (by omega) l' hl', c0, c1, HB.out⟩
            case measure => simp [intOf]; omega
          case pos =>
          have hj0 : 0 ≤ (j : Int) ∧ (j : Int) < n := by omega
          have hl0 : 0 ≤ (l : Int) ∧ (l : Int) < n := by omega
          have hij := HI.out i j hi0 hj0
          have hjl := HI.out j l hj0 hl0
          obtain ⟨wo, hwo⟩ : ∃ wo : World, wo = wr := ⟨_, rfl⟩
          by_cases has : M.AssocP n xs i j l
          case neg =>
            have has' : (M.tI n xs (M.tI n xs i j) l != M.tI n xs i (M.tI n xs j l)) = true := by rw [bne_iff_ne]; exact has
            have HNO := Lib.hid (M.noAssoc hlt hltj hltl has)
            clear has hwo
            go_wp2_with fail
            go_region_held3 (fun w' => w'.cell? ⟨w.heap.size, 0, none⟩ = some (.int .i64 n) ∧ w'.cell? ⟨w.heap.size, 1, none⟩ = some (.slice A s c) ∧ Below wr.heap.size wr w') (first | exact ⟨c0, c1, (Below.refl _ _).drew⟩ | assumption | exact held2 (by assumption) hbt) (first | (go_simp; go_at_call 129; refine (HT.out _ _ _ ((HA.out.below HB.out).below (held2_below (by assumption))) (by assumption) (by assumption)).mono ?_; rintro e wt ⟨rfl, hbt⟩))
            all_goals
              have hh := held2_below (a := wr) (by assumption)
              go_wp2
              go_ret
              exact ⟨ret_bool HNO.out.symm, HB.out.trans (hh.mono HB.out.size)⟩
          case pos =>
            have has' : (M.tI n xs (M.tI n xs i j) l != M.tI n xs i (M.tI n xs j l)) = false := by rw [bne_eq_false_iff_eq]; exact has
            have HAS := Lib.hid has
            clear has hwo
            go_wp2_with fail
            go_region_held3 (fun w' => w'.cell? ⟨w.heap.size, 0, none⟩ = some (.int .i64 n) ∧ w'.cell? ⟨w.heap.size, 1, none⟩ = some (.slice A s c) ∧ Below wr.heap.size wr w') (first | exact ⟨c0, c1, (Below.refl _ _).drew⟩ | assumption | exact held2 (by assumption) hbt) (first | (go_simp; go_at_call 129; refine (HT.out _ _ _ ((HA.out.below HB.out).below (held2_below (by assumption))) (by assumption) (by assumption)).mono ?_; rintro e wt ⟨rfl, hbt⟩))
            all_goals
              have hS : wt.cell? ⟨w.heap.size, 0, none⟩ = some (.int .i64 n) ∧ wt.cell? ⟨w.heap.size, 1, none⟩ = some (.slice A s c) ∧ Below wr.heap.size wr wt := by assumption
              go_wp2
              go_roundw
              case rel => exact ⟨l + 1, by omega, by go_num, fun l' h => by
                by_cases he : l' = l
                · subst he; exact HAS.out
                · exact HLAST.out l' (by omega), hS.1, hS.2.1, HB.out.trans (hS.2.2.mono HB.out.size)⟩
              case measure => simp [intOf]; omega

end Go.Proofs.Ytlohpphmamapeaa
/-
  Contracts of the reference's TableOk.
  Conditions: at most 2^20 entries.
-/
namespace Go.Proofs.Ytlohpphmamapeaa
open Go.RowKit
set_option linter.unusedVariables false

theorem inP_drop {n : Nat} {xs : List Int} {k : Nat} (hk : k < xs.length) (h : M.InP n (xs.take k)) (hx : 0 ≤ xs[k] ∧ xs[k] ≤ (n : Int) - 1) : M.InP n (xs.take (k + 1)) := by
  rw [List.take_succ_eq_append_getElem hk]
  intro x hm
  rcases List.mem_append.1 hm with hm | hm
  · exact h x hm
  · simp at hm; subst hm; exact hx
set_option maxRecDepth 100000 in
set_option maxHeartbeats 4000000 in
theorem spec_TableOk_c (k : Int) (A : Option Addr) (c : Nat) (xs : List Int) (w : World) (hA : Rd w 1 A xs.length (ints xs)) (hl : xs.length ≤ 1048576) :
    Calls Try.prog 83 #[.agg #[.int .i64 k, .slice A xs.length c]] w fun e w' => e = .returned (.bool (M.TableOk k xs)) ∧ Below w.heap.size w w' := by
  have h1 := Lib.hid (fun W => l01In_c k 1 40 W)
  by_cases hk : 1 ≤ k ∧ k ≤ 40
  case neg =>
    rw [M.noSize hk]
    rw [within_size hk] at h1
    clear hA hk
    go_enter Try.func83, Try.ntmps83
    go_wp2_with fail
    refine (h1.out _).mono ?_
    rintro e w1 ⟨rfl, rfl⟩
    go_wp2_with fail
    go_ret
    exact ⟨rfl, (Below.refl _ _).alloc (Nat.le_refl _) _⟩
  case pos =>
  rw [within_size' hk] at h1
  obtain ⟨n, rfl⟩ : ∃ n : Nat, k = n := ⟨k.toNat, by omega⟩
  have hn1 : 1 ≤ n := by omega
  have hn : n ≤ 40 := by omega
  have hsq := M.sq_le hn
  obtain ⟨s, hs⟩ : ∃ s, s = n * n := ⟨_, rfl⟩
  have hss : (n : Int) * (n : Int) = (s : Int) := by rw [hs]; simp
  rw [← hs] at hsq
  by_cases hlen : xs.length = s
  case neg =>
    rw [M.noLen (by simpa [← hs] using hlen)]
    have hlen' : ((xs.length : Int) != (s : Int)) = true := by rw [bne_iff_ne]; omega
    clear hA hk hs hlen
    go_enter Try.func83, Try.ntmps83
    go_wp2_with fail
    refine (h1.out _).mono ?_
    rintro e w1 ⟨rfl, rfl⟩
    go_wp2_with fail
    go_ret
    exact ⟨rfl, (Below.refl _ _).alloc (Nat.le_refl _) _⟩
  case pos =>
  have hlen' : ((xs.length : Int) != (s : Int)) = false := by rw [hlen]; simp
  have HA := Lib.hid (show Rd w 1 A s (ints xs) from hlen ▸ hA)
  have HLN := Lib.hid hlen
  have HL := Lib.hid (hlen.trans hs)
  have hln : (n : Int) - 1 + 1 = n := by omega
  clear hA hk hs hl
  rw [hlen]
  clear hlen
  go_enter Try.func83, Try.ntmps83
  go_wp2_with fail
  refine (h1.out _).mono ?_
  rintro e w1 ⟨rfl, rfl⟩
  go_wp2_with fail
  go_loopw [26] (fun z wr => ∃ i : Nat, i ≤ s ∧ z = .int .i64 i ∧ M.InP n (xs.take i) ∧ wr.cell? ⟨w.heap.size, 0, none⟩ = some (.int .i64 n) ∧ wr.cell? ⟨w.heap.size, 1, none⟩ = some (.slice A s c) ∧ Below w.heap.size w wr) (fun z _ => s - (intOf z).toNat)
  case atStart => exact ⟨0, by omega, rfl, by intro x hx; simp at hx, by simp [go_sem], by simp [go_sem], (Below.refl _ _).alloc (Nat.le_refl _) _⟩
  case round =>
    obtain ⟨i, hi, rfl, hin, c0, c1, hb⟩ := hrel
    have HIN := Lib.hid hin
    have HB := Lib.hid hb
    clear hin hb
    by_cases hlt : i < s
    case pos =>
      obtain ⟨b, o, rfl, hz, hc⟩ := (HA.out.below HB.out).intAt (k := i) (by omega)
      have h2 := Lib.hid (fun W => l01In_c xs[i] 0 ((n : Int) - 1) W)
      by_cases hx : 0 ≤ xs[i] ∧ xs[i] ≤ (n : Int) - 1
      case pos =>
        have HN := Lib.hid (inP_drop hz HIN.out hx)
        have hw : M.within xs[i] 0 ((n : Int) - 1) = true := by unfold M.within; simp; omega
        rw [hw] at h2
        generalize xs[i] = x at *
        clear hw hx
        go_wp2_with fail
        refine (h2.out _).mono ?_
        rintro e w1 ⟨rfl, rfl⟩
        go_wp2_with fail
        go_roundw
        case rel => exact ⟨i + 1, by omega, by go_num, HN.out, c0, c1, HB.out⟩
        case measure => simp [intOf]; omega
      case neg =>
        have HNO := Lib.hid (M.noIn (n := n) (xs := xs) (fun h => hx (h _ (List.getElem_mem hz))))
        have hw : M.within xs[i] 0 ((n : Int) - 1) = false := by unfold M.within; simp; omega
        rw [hw] at h2
        generalize xs[i] = x at *
        clear hw hx
        go_wp2_with fail
        refine (h2.out _).mono ?_
        rintro e w1 ⟨rfl, rfl⟩
        go_wp2_with fail
        go_ret
        exact ⟨ret_bool HNO.out.symm, HB.out⟩
    case neg =>
    have hin : M.InP n xs := by have h1 := HIN.out; rwa [List.take_of_length_le (by have := HLN.out; omega)] at h1
    have HOK := Lib.hid (fun (h : ∀ i, i < n → M.RowP n xs i) => M.rowsOk ⟨hn1, hn⟩ HL.out hin h)
    have HI := Lib.hid (fun a (ha : a < s) => M.tAt_in (n := n) (xs := xs) hin (i := a) (by have := HLN.out; omega))
    have HQ := Lib.hid (fun (W : World) (h : Rd W 1 A s (ints xs)) a (ha : a < s) => tAt_cell (w := W) (A := A) (xs := xs) (by rw [HLN.out]; exact h) (a := a) (by have := HLN.out; omega))
    have HX := Lib.hid (fun (i j : Nat) (h : i < n) (h' : j < n) => show i * n + j < s by have h1 := M.idx_lt h h'; have h2 := HL.out; have h3 := HLN.out; omega)
    clear hin HIN
    go_wp2
    go_loopw [6] (fun z wr => ∃ i : Nat, i ≤ n ∧ z = .int .i64 i ∧ (∀ i', i' < i → M.RowP n xs i') ∧ wr.cell? ⟨w.heap.size, 0, none⟩ = some (.int .i64 n) ∧ wr.cell? ⟨w.heap.size, 1, none⟩ = some (.slice A s c) ∧ Below w.heap.size w wr) (fun z _ => n - (intOf z).toNat)
    case atStart => exact ⟨0, by omega, rfl, fun i' h => absurd h (by omega), c0, c1, HB.out⟩
    case round =>
      clear c0 c1 HB hi hlt
      obtain ⟨i, hi, rfl, hrow, c0, c1, hb⟩ := hrel
      have HROW := Lib.hid hrow
      have HB := Lib.hid hb
      clear hrow hb
      by_cases hlt : i < n
      case neg =>
        go_wp2
        go_ret
        exact ⟨ret_bool (HOK.out (fun j hj => HROW.out j (by omega))).symm, HB.out⟩
      case pos =>
      have hnn : n ≤ s := by have h1 := HX.out 0 (n - 1) (by omega) (by omega); omega
      obtain ⟨p, hp⟩ : ∃ p, p = i * n := ⟨_, rfl⟩
      have hpp : (i : Int) * (n : Int) = (p : Int) := by rw [hp]; simp
      have hps : p + n ≤ s := by have h1 := HX.out i (n - 1) hlt (by omega); omega
      have his : i < s := by omega
      have hps' : p < s := by omega
      obtain ⟨b, o, rfl, hci⟩ := HQ.out wr (HA.out.below HB.out) i his
      obtain ⟨b', o', he, hcp⟩ := HQ.out wr (HA.out.below HB.out) p hps'
      simp only [Option.some.injEq, Addr.mk.injEq, and_true] at he
      obtain ⟨rfl, rfl⟩ := he
      have HU := Lib.hid (fun h => M.noUnit (n := n) (xs := xs) (i := i) hlt h)
      have HP := Lib.hid hp
      by_cases hu1 : M.tAt xs i = i
      case neg =>
        have HNO := Lib.hid (HU.out (fun h => hu1 h.1))
        have hu1' : (M.tAt xs i != (i : Int)) = true := by rw [bne_iff_ne]; exact hu1
        generalize M.tAt xs i = u1 at *
        generalize M.tAt xs p = u2 at *
        clear hu1 hp
        go_wp2
        go_ret
        exact ⟨ret_bool HNO.out.symm, HB.out⟩
      case pos =>
      by_cases hu2 : M.tAt xs p = i
      case neg =>
        have HNO := Lib.hid (HU.out (fun h => hu2 (by rw [hp]; exact h.2)))
        have hu2' : (M.tAt xs p != (i : Int)) = true := by rw [bne_iff_ne]; exact hu2
        rw [hu1] at hci
        generalize M.tAt xs p = u2 at *
        clear hu1 hu2 hp
        go_wp2
        go_ret
        exact ⟨ret_bool HNO.out.symm, HB.out⟩
      case pos =>
        have HUP := Lib.hid (show M.UnitP n xs i from ⟨hu1, by rw [← hp]; exact hu2⟩)
        rw [hu1] at hci
        rw [hu2] at hcp
        clear hu1 hu2 hp
        go_wp2
        go_loopw [7] (fun z wr => ∃ j : Nat, j ≤ n ∧ z = .int .i64 j ∧ (∀ j', j' < j → ∀ l, l < n → M.AssocP n xs i j' l) ∧ wr.cell? ⟨w.heap.size, 0, none⟩ = some (.int .i64 n) ∧ wr.cell? ⟨w.heap.size, 1, none⟩ = some (.slice (some ⟨b, o, none⟩) s c) ∧ Below w.heap.size w wr) (fun z _ => n - (intOf z).toNat)
        case atStart => exact ⟨0, by omega, rfl, fun i' h => absurd h (by omega), c0, c1, HB.out⟩
        case round =>
          clear c0 c1 HB hci hcp
          obtain ⟨j, hj, rfl, hcol, c0, c1, hb⟩ := hrel
          have HCOL := Lib.hid hcol
          have HB := Lib.hid hb
          clear hcol hb
          by_cases hltj : j < n
          case neg =>
            go_wp2
            go_roundw
            case rel => exact ⟨i + 1, by omega, by go_num, fun i' h => by
              by_cases he : i' = i
              · subst he; exact ⟨HUP.out, fun j' hj' => HCOL.out j' (by omega)⟩
              · exact HROW.out i' (by omega), c0, c1, HB.out⟩
            case measure => simp [intOf]; omega
          case pos =>
          go_wp2
          go_loopw [8] (fun z wr => ∃ l : Nat, l ≤ n ∧ z = .int .i64 l ∧ (∀ l', l' < l → M.AssocP n xs i j l') ∧ wr.cell? ⟨w.heap.size, 0, none⟩ = some (.int .i64 n) ∧ wr.cell? ⟨w.heap.size, 1, none⟩ = some (.slice (some ⟨b, o, none⟩) s c) ∧ Below w.heap.size w wr) (fun z _ => n - (intOf z).toNat)
          case atStart => exact ⟨0, by omega, rfl, fun i' h => absurd h (by omega), c0, c1, HB.out⟩
          case round =>
            clear c0 c1 HB
            obtain ⟨l, hl, rfl, hlast, c0, c1, hb⟩ := hrel
            have HLAST := Lib.hid hlast
            have HB := Lib.hid hb
            clear hlast hb
            by_cases hltl : l < n
            case neg =>
              go_wp2
              go_roundw
              case rel => exact ⟨j + 1, by omega, by go_num, fun j' h l' hl' => by
                by_cases he : j' = j
                · subst he; exact HLAST.out l' (by omega)
                · exact HCOL.out j' (by omega) l' hl', c0, c1, HB.out⟩
              case measure => simp [intOf]; omega
            case pos =>
            obtain ⟨a1, ha1⟩ : ∃ a, a = p + j := ⟨_, rfl⟩
            have ha1' : (p : Int) + (j : Int) = (a1 : Int) := by rw [ha1]; simp
            have ha1s : a1 < s := by have h1 := HX.out i j hlt hltj; have h2 := HP.out; omega
            obtain ⟨m1, hm1, hm1n⟩ := HI.out a1 ha1s
            obtain ⟨q, hq⟩ : ∃ q, q = m1 * n := ⟨_, rfl⟩
            have hqq : (m1 : Int) * (n : Int) = (q : Int) := by rw [hq]; simp
            obtain ⟨a2, ha2⟩ : ∃ a, a = q + l := ⟨_, rfl⟩
            have ha2' : (q : Int) + (l : Int) = (a2 : Int) := by rw [ha2]; simp
            have ha2s : a2 < s := by have h1 := HX.out m1 l hm1n hltl; omega
            obtain ⟨r, hr⟩ : ∃ r, r = j * n := ⟨_, rfl⟩
            have hrr : (j : Int) * (n : Int) = (r : Int) := by rw [hr]; simp
            obtain ⟨a3, ha3⟩ : ∃ a, a = r + l := ⟨_, rfl⟩
            have ha3' : (r : Int) + (l : Int) = (a3 : Int) := by rw [ha3]; simp
            have ha3s : a3 < s := by have h1 := HX.out j l hltj hltl; omega
            obtain ⟨m2, hm2, hm2n⟩ := HI.out a3 ha3s
            obtain ⟨a4, ha4⟩ : ∃ a, a = p + m2 := ⟨_, rfl⟩
            have ha4' : (p : Int) + (m2 : Int) = (a4 : Int) := by rw [ha4]; simp
            have ha4s : a4 < s := by have h1 := HX.out i m2 hlt hm2n; have h2 := HP.out; omega
            have HAS := Lib.hid (show M.AssocP n xs i j l ↔ M.tAt xs a2 = M.tAt xs a4 by
              have e1 : M.tI n xs i j = (m1 : Int) := by unfold M.tI; simp only [Int.toNat_natCast]; rw [← HP.out, ← ha1]; exact hm1
              have e2 : M.tI n xs j l = (m2 : Int) := by unfold M.tI; simp only [Int.toNat_natCast]; rw [← hr, ← ha3]; exact hm2
              unfold M.AssocP
              rw [e1, e2]
              unfold M.tI
              simp only [Int.toNat_natCast]
              rw [← hq, ← ha2, ← HP.out, ← ha4])
            have hcell : ∀ a, a < s → wr.cell? ⟨b, o + a, none⟩ = some (.int .i64 (M.tAt xs a)) := fun a ha => by
              obtain ⟨b', o', he, hcp⟩ := HQ.out wr (HA.out.below HB.out) a ha
              simp only [Option.some.injEq, Addr.mk.injEq, and_true] at he
              obtain ⟨rfl, rfl⟩ := he
              exact hcp
            have g1 := hcell a1 ha1s
            have g2 := hcell a2 ha2s
            have g3 := hcell a3 ha3s
            have g4 := hcell a4 ha4s
            rw [hm1] at g1
            rw [hm2] at g3
            have hqs : q ≤ 1600 := by omega
            have hrs : r ≤ 1600 := by omega
            clear hcell hm1 hm2 ha1 ha2 ha3 ha4 hq hr
            have HNA := Lib.hid (fun h => M.noAssoc (n := n) (xs := xs) hlt hltj hltl h)
            generalize M.tAt xs a2 = z2 at *
            generalize M.tAt xs a4 = z4 at *
            by_cases has : z2 = z4
            case neg =>
              have has' : (z2 != z4) = true := by rw [bne_iff_ne]; exact has
              have HNO := Lib.hid (HNA.out (fun h => has (HAS.out.1 h)))
              clear has
              go_wp2_with fail
              go_quiet (fail)
              go_wp2
              go_ret
              exact ⟨ret_bool HNO.out.symm, below_drewN HB.out _⟩
            case pos =>
              have HAA := Lib.hid (HAS.out.2 has)
              clear HAS HNA
              subst has
              go_wp2_with fail
              go_quiet (fail)
              go_wp2
              go_roundw
              case rel => exact ⟨l + 1, by omega, by go_num, fun l' h => by
                by_cases he : l' = l
                · subst he; exact HAA.out
                · exact HLAST.out l' (by omega), c0, c1, below_drewN HB.out _⟩
              case measure => simp [intOf]; omega

end Go.Proofs.Ytlohpphmamapeaa
/-
  Contracts of ImagesOk.
  Conditions: at most 2^20 entries.
-/
namespace Go.Proofs.Ytlohpphmamapeaa
open Go.RowKit
set_option linter.unusedVariables false

def M.ImagesOk (k : Int) (xs ys : List Int) : Bool := M.TableOk k xs && (M.within ys.length 1 4 && !ys.any (M.outOf 0 (k - 1)))
theorem size_of {k : Int} {xs : List Int} (h : M.TableOk k xs = true) : 1 ≤ k ∧ k ≤ 40 := (of_decide_eq_true h : M.TableQ k xs).1
set_option maxRecDepth 100000 in
set_option maxHeartbeats 4000000 in
theorem impl_ImagesOk_c (k : Int) (A : Option Addr) (c : Nat) (xs : List Int) (B : Option Addr) (d : Nat) (ys : List Int) (w : World) (hA : Rd w 1 A xs.length (ints xs)) (hB : Rd w 1 B ys.length (ints ys)) (hl : xs.length ≤ 1048576) (hl2 : ys.length ≤ 1048576) :
    Calls Try.prog 71 #[.agg #[.int .i64 k, .slice A xs.length c], .slice B ys.length d] w fun e w' => e = .returned (.bool (M.ImagesOk k xs ys)) ∧ Below w.heap.size w w' := by
  unfold M.ImagesOk
  have h1 := Lib.hid (fun W h => impl_TableOk_c k A c xs W h hl)
  have HA := Lib.hid hA
  have HB := Lib.hid hB
  clear hA hB
  obtain ⟨x, hx⟩ : ∃ x, x = M.TableOk k xs := ⟨_, rfl⟩
  rw [← hx] at h1 ⊢
  cases x
  case false =>
    clear hx
    go_enter Try.func71, Try.ntmps71
    go_wp2_with fail
    refine (h1.out _ (HA.out.below ((Below.refl _ _).alloc (Nat.le_refl _) _))).mono ?_
    rintro e w1 ⟨rfl, hb⟩
    go_wp2_with fail
    go_ret
    exact ⟨rfl, below_alloc1 hb⟩
  case true =>
  have hk := size_of hx.symm
  clear hx
  have h2 := Lib.hid (fun W => within_c (ys.length : Int) 1 4 W)
  have h3 := Lib.hid (fun W h => allWithin_c B d ys 0 (k - 1) W h hl2)
  generalize M.within ys.length 1 4 = y at *
  generalize ys.any (M.outOf 0 (k - 1)) = z at *
  cases y
  case false =>
    go_enter Try.func71, Try.ntmps71
    go_wp2_with fail
    refine (h1.out _ (HA.out.below ((Below.refl _ _).alloc (Nat.le_refl _) _))).mono ?_
    rintro e w1 ⟨rfl, hb⟩
    go_wp2_with fail
    refine (h2.out _).mono ?_
    rintro e w2 ⟨rfl, rfl⟩
    go_wp2_with fail
    go_ret
    exact ⟨rfl, below_alloc1 hb⟩
  case true =>
    go_enter Try.func71, Try.ntmps71
    go_wp2_with fail
    refine (h1.out _ (HA.out.below ((Below.refl _ _).alloc (Nat.le_refl _) _))).mono ?_
    rintro e w1 ⟨rfl, hb⟩
    have d0 : w1.cell? ⟨w.heap.size, 0, none⟩ = some (.int .i64 k) := cellKeep hb (by simp [go_sem])
    have HW := Lib.hid (below_alloc1 hb)
    clear hb
    go_wp2_with fail
    refine (h2.out _).mono ?_
    rintro e w2 ⟨rfl, rfl⟩
    go_wp2_with fail
    refine (h3.out _ (HB.out.below HW.out)).mono ?_
    rintro e w2 ⟨rfl, hb⟩
    go_wp2_with fail
    go_ret
    exact ⟨rfl, HW.out.trans (hb.mono HW.out.size)⟩
set_option maxRecDepth 100000 in
set_option maxHeartbeats 4000000 in
theorem spec_ImagesOk_c (k : Int) (A : Option Addr) (c : Nat) (xs : List Int) (B : Option Addr) (d : Nat) (ys : List Int) (w : World) (hA : Rd w 1 A xs.length (ints xs)) (hB : Rd w 1 B ys.length (ints ys)) (hl : xs.length ≤ 1048576) (hl2 : ys.length ≤ 1048576) :
    Calls Try.prog 68 #[.agg #[.int .i64 k, .slice A xs.length c], .slice B ys.length d] w fun e w' => e = .returned (.bool (M.ImagesOk k xs ys)) ∧ Below w.heap.size w w' := by
  unfold M.ImagesOk
  have h1 := Lib.hid (fun W h => spec_TableOk_c k A c xs W h hl)
  have HA := Lib.hid hA
  have HB := Lib.hid hB
  clear hA hB
  obtain ⟨x, hx⟩ : ∃ x, x = M.TableOk k xs := ⟨_, rfl⟩
  rw [← hx] at h1 ⊢
  cases x
  case false =>
    clear hx
    go_enter Try.func68, Try.ntmps68
    go_wp2_with fail
    refine (h1.out _ (HA.out.below ((Below.refl _ _).alloc (Nat.le_refl _) _))).mono ?_
    rintro e w1 ⟨rfl, hb⟩
    go_wp2_with fail
    go_ret
    exact ⟨rfl, below_alloc1 hb⟩
  case true =>
  have hk := size_of hx.symm
  clear hx
  have h2 := Lib.hid (fun W => l01In_c (ys.length : Int) 1 4 W)
  generalize M.within ys.length 1 4 = y at *
  cases y
  case false =>
    go_enter Try.func68, Try.ntmps68
    go_wp2_with fail
    refine (h1.out _ (HA.out.below ((Below.refl _ _).alloc (Nat.le_refl _) _))).mono ?_
    rintro e w1 ⟨rfl, hb⟩
    go_wp2_with fail
    refine (h2.out _).mono ?_
    rintro e w2 ⟨rfl, rfl⟩
    go_wp2_with fail
    go_ret
    exact ⟨rfl, below_alloc1 hb⟩
  case true =>
    obtain ⟨q, hq⟩ : ∃ q, q = ys.any (M.outOf 0 (k - 1)) := ⟨_, rfl⟩
    rw [← hq]
    have HQ := Lib.hid hq
    obtain ⟨m, hm⟩ : ∃ m, m = ys.length := ⟨_, rfl⟩
    have hmb : m ≤ 1048576 := by omega
    rw [← hm]
    rw [← hm] at h2
    have HM := Lib.hid hm
    clear hq hm hl2
    go_enter Try.func68, Try.ntmps68
    go_wp2_with fail
    refine (h1.out _ (HA.out.below ((Below.refl _ _).alloc (Nat.le_refl _) _))).mono ?_
    rintro e w1 ⟨rfl, hb⟩
    have d0 : w1.cell? ⟨w.heap.size, 0, none⟩ = some (.int .i64 k) := cellKeep hb (by simp [go_sem])
    have HW := Lib.hid (below_alloc1 hb)
    clear hb
    go_wp2_with fail
    refine (h2.out _).mono ?_
    rintro e w2 ⟨rfl, rfl⟩
    go_wp2_with fail
    go_loop [18] (fun z => ∃ i : Nat, i ≤ m ∧ z = .int .i64 i ∧ (ys.drop i).any (M.outOf 0 (k - 1)) = q) (fun z => m - (intOf z).toNat)
    case atStart => exact ⟨0, by omega, rfl, by rw [List.drop_zero, HQ.out]⟩
    case round =>
      obtain ⟨i, hi, rfl, hf⟩ := hrel
      have HF := Lib.hid hf
      clear hf
      by_cases hlt : i < m
      · obtain ⟨b, o, rfl, hz, hc⟩ := (HB.out.below HW.out).intAt (k := i) (by have := HM.out; omega)
        have hd : (ys.drop i).any (M.outOf 0 (k - 1)) = (M.outOf 0 (k - 1) ys[i] || (ys.drop (i + 1)).any (M.outOf 0 (k - 1))) := by rw [List.drop_eq_getElem_cons hz, List.any_cons]
        have HF2 := Lib.hid (hd.symm.trans HF.out)
        have h3 := Lib.hid (fun W => l01In_c ys[i] 0 (k - 1) W)
        clear hd
        generalize ys[i] = r at *
        unfold M.outOf at HF2
        generalize M.within r 0 (k - 1) = v at *
        cases v
        case false =>
          go_wp2_with fail
          refine (h3.out _).mono ?_
          rintro e w2 ⟨rfl, rfl⟩
          go_wp2_with fail
          go_ret
          exact ⟨ret_bool (by have := HF2.out; rw [← this]; rfl), HW.out⟩
        case true =>
          go_wp2_with fail
          refine (h3.out _).mono ?_
          rintro e w2 ⟨rfl, rfl⟩
          go_wp2_with fail
          go_round
          case rel => exact ⟨i + 1, by omega, by go_num, by have := HF2.out; rw [← this]; rfl⟩
          case measure => simp [intOf]; omega
      · have e : q = false := by have := HF.out; rw [List.drop_eq_nil_of_le (by have := HM.out; omega)] at this; exact this.symm
        go_wp2
        go_ret
        exact ⟨ret_bool (by first | rw [e]; rfl | rfl), HW.out⟩

end Go.Proofs.Ytlohpphmamapeaa
/-
  Contracts of the value of a word.
  Conditions: tables of at most 40 elements; words of at most 2^20 bytes.
-/
namespace Go.Proofs.Ytlohpphmamapeaa
open Go.RowKit
set_option linter.unusedVariables false

def M.valFrom (n : Nat) (xs ys : List Int) (x : Int) (l : List UInt8) : Int := l.foldl (fun x c => M.tI n xs x (M.tAt ys (c.toNat - 97))) x
theorem valFrom_drop {n : Nat} {xs ys : List Int} {x : Int} {l : List UInt8} {i : Nat} (h : i < l.length) : M.valFrom n xs ys x (l.drop i) = M.valFrom n xs ys (M.tI n xs x (M.tAt ys (l[i].toNat - 97))) (l.drop (i + 1)) := by
  unfold M.valFrom; rw [List.drop_eq_getElem_cons h, List.foldl_cons]
theorem letter_at {k : Int} {l : List UInt8} (h : M.hasLetters k l = true) {i : Nat} (hi : i < l.length) : (97 : Int) ≤ (l[i].toNat : Int) ∧ (l[i].toNat : Int) ≤ 97 + k - 1 := by
  have := List.all_eq_true.1 h l[i] (List.getElem_mem hi)
  simpa [M.isLetter] using this
theorem held3 {a w w1 : World} {b1 o1 b2 o2 b3 o3 : Nat} {u1 u2 u3 : Value} (h : w.cell? ⟨b1, o1, none⟩ = some u1 ∧ w.cell? ⟨b2, o2, none⟩ = some u2 ∧ w.cell? ⟨b3, o3, none⟩ = some u3 ∧ Below a.heap.size a w) (hb : Below w.heap.size w w1) :
    w1.cell? ⟨b1, o1, none⟩ = some u1 ∧ w1.cell? ⟨b2, o2, none⟩ = some u2 ∧ w1.cell? ⟨b3, o3, none⟩ = some u3 ∧ Below a.heap.size a w1 := ⟨cellKeep hb h.1, cellKeep hb h.2.1, cellKeep hb h.2.2.1, below_then h.2.2.2 hb⟩
theorem held3_below {a w : World} {p1 p2 p3 : Prop} (h : p1 ∧ p2 ∧ p3 ∧ Below a.heap.size a w) : Below a.heap.size a w := h.2.2.2
set_option maxRecDepth 100000 in
set_option maxHeartbeats 2000000 in
theorem value_c (n : Nat) (A : Option Addr) (c : Nat) (xs : List Int) (B : Option Addr) (d : Nat) (ys : List Int) (l : List UInt8) (w : World) (hA : Rd w 1 A xs.length (ints xs)) (hB : Rd w 1 B ys.length (ints ys)) (hn1 : 1 ≤ n) (hn : n ≤ 40) (hl : xs.length = n * n) (hin : M.InP n xs) (hy : ys.length ≤ 4) (hyin : M.InP n ys) (hlet : M.hasLetters ys.length l = true) (hll : l.length ≤ 1048576) :
    Calls Try.prog 137 #[.agg #[.int .i64 n, .slice A xs.length c], .slice B ys.length d, .string ⟨l.toArray⟩] w fun e w' => e = .returned (.int .i64 (M.valFrom n xs ys 0 l)) ∧ Below w.heap.size w w' := by
  have HA := Lib.hid hA
  have HB := Lib.hid hB
  have HT := Lib.hid (fun x y W h hx hy => times_c n A c xs x y W h hn hl hx hy)
  have HI := Lib.hid (fun x y hx hy => M.tI_in (n := n) (xs := xs) hin hl (x := x) (y := y) hx hy)
  have HY := Lib.hid (fun a (ha : a < ys.length) => show 0 ≤ M.tAt ys a ∧ M.tAt ys a < n by rw [M.tAt_eq ha]; have := hyin ys[a] (List.getElem_mem ha); omega)
  have HLE := Lib.hid (fun i (h : i < l.length) => letter_at hlet h)
  obtain ⟨q, hq⟩ : ∃ q, q = M.valFrom n xs ys 0 l := ⟨_, rfl⟩
  rw [← hq]
  have HQ := Lib.hid hq
  clear hA hB hl hin hyin hlet hq
  go_enter Try.func137, Try.ntmps137
  go_wp2
  go_loopw [7, 11] (fun v z wr => ∃ (i : Nat) (x : Int), i ≤ l.length ∧ z = .int .i64 i ∧ v = .int .i64 x ∧ 0 ≤ x ∧ x < n ∧ M.valFrom n xs ys x (l.drop i) = q ∧ wr.cell? ⟨w.heap.size, 0, none⟩ = some (.int .i64 n) ∧ wr.cell? ⟨w.heap.size, 1, none⟩ = some (.slice A xs.length c) ∧ Below w.heap.size w wr) (fun _ z _ => l.length - (intOf z).toNat)
  case atStart => exact ⟨0, 0, by omega, rfl, rfl, by omega, by omega, by rw [List.drop_zero, HQ.out], by simp [go_sem], by simp [go_sem], (Below.refl _ _).alloc (Nat.le_refl _) _⟩
  case round =>
    obtain ⟨i, x, hi, rfl, rfl, hx0, hxn, hf, c0, c1, hb⟩ := hrel
    have HW := Lib.hid hb
    have HF := Lib.hid hf
    clear hb hf
    by_cases hlt : i < l.length
    · have hlb := HLE.out i hlt
      have HF2 := Lib.hid ((valFrom_drop (n := n) (xs := xs) (ys := ys) (x := x) hlt).symm.trans HF.out)
      have hu := u8_lt l[i]
      obtain ⟨a, ha⟩ : ∃ a, a = l[i].toNat - 97 := ⟨_, rfl⟩
      have haa : (l[i].toNat : Int) - 97 = (a : Int) := by omega
      have hay : a < ys.length := by omega
      have haw : IntKind.u8.wrap (a : Int) = (a : Int) := by
        have h4 : a < 4 := by omega
        match a, h4 with
        | 0, _ => decide
        | 1, _ => decide
        | 2, _ => decide
        | 3, _ => decide
      have haw2 := wrap_nat (q := a) (by omega)
      have han : ¬ (a : Int) < 0 := by omega
      have hay' : (a : Int) < (ys.length : Int) := by omega
      rw [← ha] at HF2
      obtain ⟨b, o, rfl, hc⟩ := tAt_cell (HB.out.below HW.out) hay
      have hyr := HY.out a hay
      have hxr : 0 ≤ x ∧ x < n := ⟨hx0, hxn⟩
      have HN := Lib.hid (HI.out x (M.tAt ys a) hxr hyr)
      generalize M.tAt ys a = y at *
      clear ha
      go_wp2_with fail
      go_region_held3 (fun w' => w'.cell? ⟨w.heap.size, 0, none⟩ = some (.int .i64 n) ∧ w'.cell? ⟨w.heap.size, 1, none⟩ = some (.slice A xs.length c) ∧ w'.cell? ⟨b, o + a, none⟩ = some (.int .i64 y) ∧ Below wr.heap.size wr w') (first | exact ⟨c0, c1, hc, (Below.refl _ _).drew⟩ | assumption | exact held3 (by assumption) hbt) (first | (go_simp; go_at_call 129; refine (HT.out _ _ _ ((HA.out.below HW.out).below (held3_below (by assumption))) (by assumption) (by assumption)).mono ?_; rintro e wt ⟨rfl, hbt⟩))
      all_goals
        have hS : wt.cell? ⟨w.heap.size, 0, none⟩ = some (.int .i64 n) ∧ wt.cell? ⟨w.heap.size, 1, none⟩ = some (.slice A xs.length c) ∧ wt.cell? ⟨b, o + a, none⟩ = some (.int .i64 y) ∧ Below wr.heap.size wr wt := by assumption
        go_wp2
        go_roundw
        case rel => exact ⟨i + 1, _, by omega, by go_num, rfl, HN.out.1, HN.out.2, HF2.out, hS.1, hS.2.1, HW.out.trans (hS.2.2.2.mono HW.out.size)⟩
        case measure => simp [intOf]; omega
    · have e : x = q := by have := HF.out; rw [List.drop_eq_nil_of_le (by omega)] at this; exact this
      go_wp2
      go_ret
      exact ⟨ret_int (by first | exact e | rfl), HW.out⟩
set_option maxRecDepth 100000 in
set_option maxHeartbeats 2000000 in
theorem l11Value_c (n : Nat) (A : Option Addr) (c : Nat) (xs : List Int) (B : Option Addr) (d : Nat) (ys : List Int) (l : List UInt8) (w : World) (hA : Rd w 1 A xs.length (ints xs)) (hB : Rd w 1 B ys.length (ints ys)) (hn1 : 1 ≤ n) (hn : n ≤ 40) (hl : xs.length = n * n) (hin : M.InP n xs) (hy : ys.length ≤ 4) (hyin : M.InP n ys) (hlet : M.hasLetters ys.length l = true) (hll : l.length ≤ 1048576) :
    Calls Try.prog 134 #[.agg #[.int .i64 n, .slice A xs.length c], .slice B ys.length d, .string ⟨l.toArray⟩] w fun e w' => e = .returned (.int .i64 (M.valFrom n xs ys 0 l)) ∧ Below w.heap.size w w' := by
  have HA := Lib.hid hA
  have HB := Lib.hid hB
  have HT := Lib.hid (fun x y W h hx hy => l08Times_c n A c xs x y W h hn hl hx hy)
  have HI := Lib.hid (fun x y hx hy => M.tI_in (n := n) (xs := xs) hin hl (x := x) (y := y) hx hy)
  have HY := Lib.hid (fun a (ha : a < ys.length) => show 0 ≤ M.tAt ys a ∧ M.tAt ys a < n by rw [M.tAt_eq ha]; have := hyin ys[a] (List.getElem_mem ha); omega)
  have HLE := Lib.hid (fun i (h : i < l.length) => letter_at hlet h)
  obtain ⟨q, hq⟩ : ∃ q, q = M.valFrom n xs ys 0 l := ⟨_, rfl⟩
  rw [← hq]
  have HQ := Lib.hid hq
  clear hA hB hl hin hyin hlet hq
  go_enter Try.func134, Try.ntmps134
  go_wp2
  go_loopw [7, 8] (fun v z wr => ∃ (i : Nat) (x : Int), i ≤ l.length ∧ z = .int .i64 i ∧ v = .int .i64 x ∧ 0 ≤ x ∧ x < n ∧ M.valFrom n xs ys x (l.drop i) = q ∧ wr.cell? ⟨w.heap.size, 0, none⟩ = some (.int .i64 n) ∧ wr.cell? ⟨w.heap.size, 1, none⟩ = some (.slice A xs.length c) ∧ Below w.heap.size w wr) (fun _ z _ => l.length - (intOf z).toNat)
  case atStart => exact ⟨0, 0, by omega, rfl, rfl, by omega, by omega, by rw [List.drop_zero, HQ.out], by simp [go_sem], by simp [go_sem], (Below.refl _ _).alloc (Nat.le_refl _) _⟩
  case round =>
    obtain ⟨i, x, hi, rfl, rfl, hx0, hxn, hf, c0, c1, hb⟩ := hrel
    have HW := Lib.hid hb
    have HF := Lib.hid hf
    clear hb hf
    by_cases hlt : i < l.length
    · have hlb := HLE.out i hlt
      have HF2 := Lib.hid ((valFrom_drop (n := n) (xs := xs) (ys := ys) (x := x) hlt).symm.trans HF.out)
      have hu := u8_lt l[i]
      obtain ⟨a, ha⟩ : ∃ a, a = l[i].toNat - 97 := ⟨_, rfl⟩
      have haa : (l[i].toNat : Int) - 97 = (a : Int) := by omega
      have hay : a < ys.length := by omega
      have haw : IntKind.u8.wrap (a : Int) = (a : Int) := by
        have h4 : a < 4 := by omega
        match a, h4 with
        | 0, _ => decide
        | 1, _ => decide
        | 2, _ => decide
        | 3, _ => decide
      have haw2 := wrap_nat (q := a) (by omega)
      have han : ¬ (a : Int) < 0 := by omega
      have hay' : (a : Int) < (ys.length : Int) := by omega
      rw [← ha] at HF2
      obtain ⟨b, o, rfl, hc⟩ := tAt_cell (HB.out.below HW.out) hay
      have hyr := HY.out a hay
      have hxr : 0 ≤ x ∧ x < n := ⟨hx0, hxn⟩
      have HN := Lib.hid (HI.out x (M.tAt ys a) hxr hyr)
      generalize M.tAt ys a = y at *
      clear ha
      go_wp2_with fail
      go_region_held3 (fun w' => w'.cell? ⟨w.heap.size, 0, none⟩ = some (.int .i64 n) ∧ w'.cell? ⟨w.heap.size, 1, none⟩ = some (.slice A xs.length c) ∧ w'.cell? ⟨b, o + a, none⟩ = some (.int .i64 y) ∧ Below wr.heap.size wr w') (first | exact ⟨c0, c1, hc, (Below.refl _ _).drew⟩ | assumption | exact held3 (by assumption) hbt) (first | (go_simp; go_at_call 126; refine (HT.out _ _ _ ((HA.out.below HW.out).below (held3_below (by assumption))) (by assumption) (by assumption)).mono ?_; rintro e wt ⟨rfl, hbt⟩))
      all_goals
        have hS : wt.cell? ⟨w.heap.size, 0, none⟩ = some (.int .i64 n) ∧ wt.cell? ⟨w.heap.size, 1, none⟩ = some (.slice A xs.length c) ∧ wt.cell? ⟨b, o + a, none⟩ = some (.int .i64 y) ∧ Below wr.heap.size wr wt := by assumption
        go_wp2
        go_roundw
        case rel => exact ⟨i + 1, _, by omega, by go_num, rfl, HN.out.1, HN.out.2, HF2.out, hS.1, hS.2.1, HW.out.trans (hS.2.2.2.mono HW.out.size)⟩
        case measure => simp [intOf]; omega
    · have e : x = q := by have := HF.out; rw [List.drop_eq_nil_of_le (by omega)] at this; exact this
      go_wp2
      go_ret
      exact ⟨ret_int (by first | exact e | rfl), HW.out⟩

end Go.Proofs.Ytlohpphmamapeaa
/-
  Contracts of PairsOf.
  Conditions: at most 2^20 rules.
-/
namespace Go.Proofs.Ytlohpphmamapeaa
open Go.RowKit
set_option linter.unusedVariables false
set_option linter.unusedSimpArgs false

set_option maxRecDepth 100000 in
set_option maxHeartbeats 4000000 in
theorem inside_c (k : Int) (A : Option Addr) (c : Nat) (rs : List M.Rule) (i j : Nat) (w : World) (hA : Rd w 2 A rs.length (ruls rs)) (hl : rs.length ≤ 1048576) (hi : i < rs.length) (hj : j < rs.length) (h8 : ∀ i, (M.lft rs i).length ≤ 8) :
    Calls Try.prog 173 #[.agg #[.int .i64 k, .slice A rs.length c], .int .i64 i, .int .i64 j] w (RetPairs (M.inside rs i j) w) := by
  unfold M.inside
  by_cases hij : i = j
  case pos =>
    rw [if_pos hij]
    have hij' : ((i : Int) == (j : Int)) = true := by rw [beq_iff_eq]; omega
    clear hA hij
    go_enter Try.func173, Try.ntmps173
    go_wp2_with fail
    go_ret
    exact ⟨⟨w.heap.size + 1, 0, none⟩, 0, by simp, own_base (own_empty w _) (by omega), ((Below.refl _ _).alloc (Nat.le_refl _) _).alloc (by simp) _⟩
  case neg =>
  rw [if_neg hij]
  have hij' : ((i : Int) == (j : Int)) = false := by rw [beq_eq_false_iff_ne]; omega
  have HA := Lib.hid hA
  obtain ⟨b, o, hA0, hzi, hc1, _⟩ := hA.ruleAt (k := i) hi
  obtain ⟨b', o', e1, hzj, hd1, _⟩ := hA.ruleAt (k := j) hj
  subst hA0
  injection e1 with e1
  injection e1 with e1 e2
  subst e1 e2
  rw [← lft_at hzi] at hc1
  rw [← lft_at hzj] at hd1
  have hli := h8 i
  have hlj := h8 j
  have k1 := fun x y => allocKeep2 hc1 x y
  have k2 := fun x y => allocKeep2 hd1 x y
  obtain ⟨m0, hm0⟩ : ∃ m0, m0 = rs.length := ⟨_, rfl⟩
  rw [← hm0] at HA hl hi hj ⊢
  obtain ⟨f, hf⟩ : ∃ f, f = M.inPair rs i j := ⟨_, rfl⟩
  have HF := Lib.hid (show ∀ p, f p = ⟨M.lft rs i, i, 0, j, p⟩ from fun p => by rw [hf]; rfl)
  rw [← hf]
  obtain ⟨li, hlieq⟩ : ∃ l, l = M.lft rs i := ⟨_, rfl⟩
  obtain ⟨lj, hljeq⟩ : ∃ l, l = M.lft rs j := ⟨_, rfl⟩
  rw [← hlieq] at k1 hli HF ⊢
  rw [← hljeq] at k2 hlj ⊢
  
  have HC := Lib.hid (fun W => spec_PlacesOf_c li lj W (by omega) (by omega))
  have HIN := Lib.hid (fun z (h : z ∈ M.PlacesOf li lj) => places_mem h)
  have hnb := places_len li lj
  generalize M.PlacesOf li lj = ps at *
  obtain ⟨n, hn⟩ : ∃ n, n = ps.length := ⟨_, rfl⟩
  have HN := Lib.hid hn
  rw [← hn] at HC hnb
  rw [← hlieq] at hc1
  clear hA hd1 hm0 hf hlieq hljeq hn hij h8
  go_enter Try.func173, Try.ntmps173
  obtain ⟨ws, hws⟩ : ∃ ws, ws = (w.alloc (.cells #[.int .i64 k, .slice (some ⟨b, o, none⟩) m0 c] 28)).alloc (.cells #[] 131) := ⟨_, rfl⟩
  have HWS := Lib.hid (show ws.heap.size = w.heap.size + 2 by rw [hws]; simp)
  have c1 : ws.cell? ⟨w.heap.size, 1, none⟩ = some (.slice (some ⟨b, o, none⟩) m0 c) := by rw [hws]; simp [go_sem]
  have c2 : ws.cell? ⟨b, o + i * 2, none⟩ = some (.string ⟨li.toArray⟩) := by rw [hws]; exact k1 _ _
  have c3 : ws.cell? ⟨b, o + j * 2, none⟩ = some (.string ⟨lj.toArray⟩) := by rw [hws]; exact k2 _ _
  have HOE := Lib.hid (show ws.ownsRow (w.heap.size + 1) 131 5 (.slice (some ⟨w.heap.size + 1, 0, none⟩) 0 0) 0 [] by rw [hws]; exact own_empty w _)
  have HWSE := Lib.hid hws
  go_wp2_with fail
  rw [← hws]
  clear hws k1 k2
  go_region_held3 (fun w' => w'.cell? ⟨w.heap.size, 1, none⟩ = some (.slice (some ⟨b, o, none⟩) m0 c) ∧ w'.cell? ⟨b, o + i * 2, none⟩ = some (.string ⟨li.toArray⟩) ∧ w'.cell? ⟨b, o + j * 2, none⟩ = some (.string ⟨lj.toArray⟩) ∧ Below ws.heap.size ws w') (first | exact ⟨c1, c2, c3, (Below.refl _ _).drew⟩ | assumption | exact held3 (by assumption) hb) (first | (go_simp; go_at_call 146; refine (HC.out _).mono ?_; rintro e w1 ⟨A1, c1, rfl, hown, hb⟩))
  all_goals
  have hS : w1.cell? ⟨w.heap.size, 1, none⟩ = some (.slice (some ⟨b, o, none⟩) m0 c) ∧ w1.cell? ⟨b, o + i * 2, none⟩ = some (.string ⟨li.toArray⟩) ∧ w1.cell? ⟨b, o + j * 2, none⟩ = some (.string ⟨lj.toArray⟩) ∧ Below ws.heap.size ws w1 := by assumption
  obtain ⟨D1', G1', _, hB⟩ := hS
  have D1 := Lib.hid D1'
  have G1 := Lib.hid G1'
  have HO1 := Lib.hid (Rd.of_own hown)
  have HS1 := Lib.hid (show w.heap.size + 2 ≤ w1.heap.size by have h := hB.size; have := HWS.out; omega)
  have HE := Lib.hid (own_below HOE.out hB)
  have HOI := Lib.hid (show w1.ownsRow w.heap.size 3 1 (.slice A1 n c1) n (ints ps) from own_base hown (by have h1 := HWS.out; simp; omega))
  obtain ⟨wb, hwb⟩ : ∃ wb : World, wb = w.alloc (.cells #[.int .i64 k, .slice (some ⟨b, o, none⟩) m0 c] 28) := ⟨_, rfl⟩
  have HB1 := Lib.hid (show Below (w.heap.size + 1) wb w1 by have h := hB; rw [HWSE.out, ← hwb] at h; refine ((Below.refl _ _).alloc (by rw [hwb]; simp) _).trans (h.mono ?_); rw [hwb]; simp)
  clear hown hB
  have HWB := Lib.hid (show wb.heap.size = w.heap.size + 1 by rw [hwb]; simp)
  have HBW := Lib.hid (show Below w.heap.size w wb by rw [hwb]; exact (Below.refl _ _).alloc (Nat.le_refl _) _)
  have DB := Lib.hid (show wb.cell? ⟨w.heap.size, 1, none⟩ = some (.slice (some ⟨b, o, none⟩) m0 c) by rw [hwb]; simp [go_sem])
  have GB := Lib.hid (show wb.cell? ⟨b, o + i * 2, none⟩ = some (.string ⟨li.toArray⟩) by rw [hwb]; exact allocKeep1 hc1 _)
  have HBL := Lib.hid (World.block_lt_of_cell? w _ hc1)
  clear hwb hc1
  have d1 := D1.out
  have g1 := G1.out
  go_wp2_with fail
  clear d1 g1
  go_loopw [7, 29] (fun s z wr => ∃ (q : Nat) (ad : Addr) (m c2 : Nat), q ≤ n ∧ z = .int .i64 q ∧ s = .slice (some ad) m c2 ∧ m = q ∧ wr.ownsRow (w.heap.size + 1) 131 5 (.slice (some ad) m c2) m (pairs_ ((ps.take q).map f)) ∧ Below (w.heap.size + 1) wb wr ∧ wr.ownsRow w.heap.size 3 1 (.slice A1 n c1) n (ints ps)) (fun _ z _ => n - (intOf z).toNat)
  case atStart => exact ⟨0, _, 0, 0, by omega, rfl, rfl, rfl, HE.out, HB1.out, HOI.out⟩
  case round =>
    obtain ⟨q, ad, m, c2, hq, rfl, rfl, rfl, hown, hb, hoi⟩ := hrel
    have HO := Lib.hid hown
    have HB := Lib.hid hb
    have HI := Lib.hid hoi
    have d1 := cellBelow hb (by omega) DB.out
    have g1 := cellBelow hb (by have := HBL.out; omega) GB.out
    by_cases hlt : m < n
    case neg =>
      obtain rfl : m = n := by omega
      have HT := Lib.hid (show (ps.take m).map f = ps.map f by rw [List.take_of_length_le (by have := HN.out; omega)])
      clear hown hb hoi
      go_wp2
      go_ret
      exact ⟨ad, c2, by rw [List.length_map, ← HN.out]; rfl, by rw [List.length_map, ← HN.out, ← HT.out]; exact own_base HO.out (by omega), HBW.out.trans (HB.out.mono (by omega))⟩
    case pos =>
      obtain ⟨a1, o1, hA1, hz, hv⟩ := (Rd.of_own hoi).intAt hlt
      subst hA1
      obtain ⟨z, hzz, hzb⟩ := HIN.out ps[m] (List.getElem_mem hz)
      have HT := Lib.hid (show (ps.take (m + 1)).map f = (ps.take m).map f ++ [f ps[m]] by rw [List.take_succ_eq_append_getElem hz, List.map_append]; rfl)
      have HFZ := Lib.hid (HF.out ps[m])
      rw [hzz] at HT HFZ hv
      generalize f (z : Int) = fz at *
      clear hown hb hoi hzz
      
      go_wp2_with (at_builtin; (first | (refine push_law_g rfl _ _ rfl slPair rfl HO.out (us := [.string ⟨li.toArray⟩, .int .i64 i, .int .i64 0, .int .i64 j, .int .i64 z]) rfl rfl (by simp [Value.oneCell']) HB.out HWB.out.symm (by omega) ?_) | (refine push_law_gd rfl _ _ rfl slPair rfl HO.out (us := [.string ⟨li.toArray⟩, .int .i64 i, .int .i64 0, .int .i64 j, .int .i64 z]) rfl rfl (by simp [Value.oneCell']) HB.out HWB.out.symm (by omega) ?_)); intro A3 c3 w3 hown3 hb3 hg3)
      obtain ⟨ad3, rfl⟩ := own_some hown3 (by omega)
      go_roundw
      case rel => exact ⟨m + 1, ad3, m + 1, c3, by omega, by go_num, rfl, rfl, by rw [HT.out, pairs_add, HFZ.out]; exact hown3, hb3, (HI.out.alloc _).kept hg3 (own_apart HI.out HO.out (by decide))⟩
      case measure => simp [intOf] <;> omega

set_option maxRecDepth 100000 in
set_option maxHeartbeats 4000000 in
theorem across_c (k : Int) (A : Option Addr) (c : Nat) (rs : List M.Rule) (i j : Nat) (w : World) (hA : Rd w 2 A rs.length (ruls rs)) (hl : rs.length ≤ 1048576) (hi : i < rs.length) (hj : j < rs.length) (h8 : ∀ i, (M.lft rs i).length ≤ 8) :
    Calls Try.prog 174 #[.agg #[.int .i64 k, .slice A rs.length c], .int .i64 i, .int .i64 j] w (RetPairs (M.across rs i j) w) := by
  unfold M.across
  have HA := Lib.hid hA
  obtain ⟨b, o, hA0, hzi, hc1, _⟩ := hA.ruleAt (k := i) hi
  obtain ⟨b', o', e1, hzj, hd1, _⟩ := hA.ruleAt (k := j) hj
  subst hA0
  injection e1 with e1
  injection e1 with e1 e2
  subst e1 e2
  rw [← lft_at hzi] at hc1
  rw [← lft_at hzj] at hd1
  have hli := h8 i
  have hlj := h8 j
  have k1 := fun x y => allocKeep2 hc1 x y
  have k2 := fun x y => allocKeep2 hd1 x y
  obtain ⟨m0, hm0⟩ : ∃ m0, m0 = rs.length := ⟨_, rfl⟩
  rw [← hm0] at HA hl hi hj ⊢
  obtain ⟨f, hf⟩ : ∃ f, f = M.acPair rs i j := ⟨_, rfl⟩
  have HF := Lib.hid (show ∀ p, f p = ⟨M.lft rs i ++ (M.lft rs j).drop p.toNat, i, 0, j, (M.lft rs i).length - p⟩ from fun p => by rw [hf]; rfl)
  rw [← hf]
  obtain ⟨li, hlieq⟩ : ∃ l, l = M.lft rs i := ⟨_, rfl⟩
  obtain ⟨lj, hljeq⟩ : ∃ l, l = M.lft rs j := ⟨_, rfl⟩
  rw [← hlieq] at k1 hli HF ⊢
  rw [← hljeq] at k2 hlj ⊢
  rw [← hljeq] at HF
  have HC := Lib.hid (fun W => spec_OverlapsOf_c li lj W (by omega) (by omega))
  have HIN := Lib.hid (fun z (h : z ∈ M.OverlapsOf li lj) => overlaps_mem h)
  have hnb := overlaps_len li lj
  generalize M.OverlapsOf li lj = ps at *
  obtain ⟨n, hn⟩ : ∃ n, n = ps.length := ⟨_, rfl⟩
  have HN := Lib.hid hn
  rw [← hn] at HC hnb
  rw [← hlieq] at hc1
  clear hA hd1 hm0 hf hlieq hljeq hn h8
  go_enter Try.func174, Try.ntmps174
  go_wp2_with fail
  refine (HC.out _).mono ?_
  rintro e w1 ⟨A1, c1, rfl, hown, hb⟩
  have D1 := Lib.hid (show w1.cell? ⟨w.heap.size, 1, none⟩ = some (.slice (some ⟨b, o, none⟩) m0 c) from cellKeep hb (by simp [go_sem]))
  have G1 := Lib.hid (cellKeep hb (k1 _ _))
  have HO1 := Lib.hid (Rd.of_own hown)
  have HS1 := Lib.hid (show w.heap.size + 2 ≤ w1.heap.size by have h := hb.size; simp at h; omega)
  have HE := Lib.hid (own_below (own_empty w (.cells #[.int .i64 k, .slice (some ⟨b, o, none⟩) m0 c] 28)) hb)
  have HOI := Lib.hid (show w1.ownsRow w.heap.size 3 1 (.slice A1 n c1) n (ints ps) from own_base hown (by simp; omega))
  obtain ⟨wb, hwb⟩ : ∃ wb : World, wb = w.alloc (.cells #[.int .i64 k, .slice (some ⟨b, o, none⟩) m0 c] 28) := ⟨_, rfl⟩
  have HB1 := Lib.hid (show Below (w.heap.size + 1) wb w1 by rw [hwb]; exact ((Below.refl _ _).alloc (by simp) _).trans (hb.mono (by simp)))
  clear hb hown k1 k2
  have HWB := Lib.hid (show wb.heap.size = w.heap.size + 1 by rw [hwb]; simp)
  have HBW := Lib.hid (show Below w.heap.size w wb by rw [hwb]; exact (Below.refl _ _).alloc (Nat.le_refl _) _)
  have DB := Lib.hid (show wb.cell? ⟨w.heap.size, 1, none⟩ = some (.slice (some ⟨b, o, none⟩) m0 c) by rw [hwb]; simp [go_sem])
  have GB := Lib.hid (show wb.cell? ⟨b, o + i * 2, none⟩ = some (.string ⟨li.toArray⟩) by rw [hwb]; exact allocKeep1 hc1 _)
  have HBL := Lib.hid (World.block_lt_of_cell? w _ hc1)
  clear hwb hc1
  have d1 := D1.out
  have g1 := G1.out
  go_wp2_with fail
  clear d1 g1
  go_loopw [7, 29] (fun s z wr => ∃ (q : Nat) (ad : Addr) (m c2 : Nat), q ≤ n ∧ z = .int .i64 q ∧ s = .slice (some ad) m c2 ∧ m = q ∧ wr.ownsRow (w.heap.size + 1) 131 5 (.slice (some ad) m c2) m (pairs_ ((ps.take q).map f)) ∧ Below (w.heap.size + 1) wb wr ∧ wr.ownsRow w.heap.size 3 1 (.slice A1 n c1) n (ints ps)) (fun _ z _ => n - (intOf z).toNat)
  case atStart => exact ⟨0, _, 0, 0, by omega, rfl, rfl, rfl, HE.out, HB1.out, HOI.out⟩
  case round =>
    obtain ⟨q, ad, m, c2, hq, rfl, rfl, rfl, hown, hb, hoi⟩ := hrel
    have HO := Lib.hid hown
    have HB := Lib.hid hb
    have HI := Lib.hid hoi
    have d1 := cellBelow hb (by omega) DB.out
    have g1 := cellBelow hb (by have := HBL.out; omega) GB.out
    by_cases hlt : m < n
    case neg =>
      obtain rfl : m = n := by omega
      have HT := Lib.hid (show (ps.take m).map f = ps.map f by rw [List.take_of_length_le (by have := HN.out; omega)])
      clear hown hb hoi
      go_wp2
      go_ret
      exact ⟨ad, c2, by rw [List.length_map, ← HN.out]; rfl, by rw [List.length_map, ← HN.out, ← HT.out]; exact own_base HO.out (by omega), HBW.out.trans (HB.out.mono (by omega))⟩
    case pos =>
      obtain ⟨a1, o1, hA1, hz, hv⟩ := (Rd.of_own hoi).intAt hlt
      subst hA1
      obtain ⟨z, hzz, hzb, hzc⟩ := HIN.out ps[m] (List.getElem_mem hz)
      have HT := Lib.hid (show (ps.take (m + 1)).map f = (ps.take m).map f ++ [f ps[m]] by rw [List.take_succ_eq_append_getElem hz, List.map_append]; rfl)
      have HFZ := Lib.hid (HF.out ps[m])
      rw [hzz] at HT HFZ hv
      generalize f (z : Int) = fz at *
      clear hown hb hoi hzz
      have hsub : (li.length : Int) - (z : Int) = ((li.length - z : Nat) : Int) := by omega
      go_wp2_with (at_builtin; (first | (refine push_law_g rfl _ _ rfl slPair rfl HO.out (us := [.string ⟨(li ++ lj.drop z).toArray⟩, .int .i64 i, .int .i64 0, .int .i64 j, .int .i64 ((li.length - z : Nat) : Int)]) rfl rfl (by simp [Value.oneCell']) HB.out HWB.out.symm (by omega) ?_) | (refine push_law_gd rfl _ _ rfl slPair rfl HO.out (us := [.string ⟨(li ++ lj.drop z).toArray⟩, .int .i64 i, .int .i64 0, .int .i64 j, .int .i64 ((li.length - z : Nat) : Int)]) rfl rfl (by simp [Value.oneCell']) HB.out HWB.out.symm (by omega) ?_)); intro A3 c3 w3 hown3 hb3 hg3)
      obtain ⟨ad3, rfl⟩ := own_some hown3 (by omega)
      go_roundw
      case rel => exact ⟨m + 1, ad3, m + 1, c3, by omega, by go_num, rfl, rfl, by rw [HT.out, pairs_add, HFZ.out, hsub]; exact hown3, hb3, (HI.out.alloc _).kept hg3 (own_apart HI.out HO.out (by decide))⟩
      case measure => simp [intOf] <;> omega


end Go.Proofs.Ytlohpphmamapeaa
