/-
  DERIVED: THE SHELF's CONTRACTS AT THIS DUMP, IN PLAIN WORDS (tools/lay-plain.mjs out of 'TryzShelf.lean', which tools/lay-shelf.mjs wrote): THE SAME DECLARATIONS UNDER THE SAME NAMES: 'import', 'namespace', 'open', 'def', 'theorem' AND NOTHING ELSE: no command of the shelf's: FOR A HAND-IN. Each laying: the table of numbers ('.._ren') and one theorem, a field a fact of the dump's own or the kernel's comparison; each contract: ONE APPLICATION.
-/
import Derived.Shelf.Strings.Builder1
import Derived.Shelf.Strings.Builder2
import Derived.Shelf.Strings.OnBuilder
import Derived.Shelf.Small.Strs
import Derived.Shelf.Strconv.Itoa0
import Derived.Shelf.Strconv.Itoa1
import Derived.Shelf.LaysM
import Derived.Shelf.Strconv.Itoa2
import Derived.Shelf.Strconv.Itoa3
import Derived.Shelf.Strconv.Itoa4
import Derived.Shelf.Strconv.ParseIntEmpty
import Derived.Shelf.Strconv.Clone
import Derived.Shelf.Strconv.SyntaxError
import Derived.Shelf.LaysC
import Derived.Shelf.Strconv.ToError
import Derived.Shelf.Strconv.Lower
import Derived.Shelf.Strconv.ParseUint10
import Derived.Shelf.Strconv.ParseUint10Empty
import Derived.Shelf.Strconv.ParseUint10Any
import Derived.Shelf.Strconv.ParseInt10
import Derived.Shelf.Strconv.RangeError
import Derived.Shelf.Strconv.ToErrorRange
import Derived.Shelf.Strconv.ParseUintEmpty
import Derived.Shelf.Strconv.ParseUint10b64
import Derived.Shelf.Strconv.ParseUint10b32
import Derived.Shelf.Strconv.ParseUint10b16
import Derived.Shelf.Strconv.ParseUint10b8
import Derived.Shelf.Strconv.ParseUint10At
import Derived.Shelf.Strconv.ParseInt10At64
import Derived.Shelf.Strconv.ParseInt10At32
import Derived.Shelf.Strconv.ParseInt10At16
import Derived.Shelf.Strconv.ParseInt10At8
import Derived.Shelf.Strconv.ParseInt10All
import Derived.Shelf.Strconv.ParseIntPublic10
import Derived.Shelf.Strconv.ErrVarParseInt
import Derived.Shelf.Strings.Search1
import Derived.Shelf.Sort.Plain
import Derived.Shelf.Slices.CompactS
import Derived.Shelf.Slices.In.SortNone
import Derived.Test.YtjhkihkiebnpaaaGreatDoorProg
import Derived.Test.YtjhkihkiebnpaaaGreatDoorMp4
import Derived.Test.YtjhkihkiebnpaaaGreatDoorMp1
import Derived.Test.YtjhkihkiebnpaaaGreatDoorMp5
import Derived.Test.YtjhkihkiebnpaaaGreatDoorMp6
import Derived.BigQuiet
import Derived.Laws.StructEq
import Derived.Deep.DeepCutAuto
import Derived.Lib.SlicesCompact
import Derived.IntWalk
import Derived.KernelRfl
import Derived.Test.YtjhkihkiebnpaaaGreatDoorMp0
import Derived.ScopeJumps
import Derived.WalkMore
set_option linter.unusedVariables false
set_option linter.unusedSimpArgs false
namespace Go.Proofs
open Go.Shelf
def Tryz.lays169_ren : Go.Shelf.Ren := ⟨fun | 169 => 109 | n => n, fun | 70 => 158 | 9 => 9 | 0 => 0 | 72 => 160 | 37 => 151 | 127 => 193 | 3 => 3 | 5 => 5 | n => n, fun | n => n⟩
theorem Tryz.lays169 : Go.Proofs.Lays.n169 Tryz.prog Tryz.lays169_ren := {
  mixed := by kernel_rfl
  f169 := Tryz.func109.trans (congrArg some (by kernel_rfl))
  t0 := Tryz.underlying0
  a0 := Tryz.isAgg0
  z0 := Tryz.sizeOf0
  v0 := Tryz.zeroValue0
  t3 := Tryz.underlying3
  a3 := Tryz.isAgg3
  z3 := Tryz.sizeOf3
  v3 := Tryz.zeroValue3
  t9 := Tryz.underlying9
  a9 := Tryz.isAgg9
  z9 := Tryz.sizeOf9
  v9 := Tryz.zeroValue9
  t37 := Tryz.underlying151
  a37 := Tryz.isAgg151
  z37 := Tryz.sizeOf151
  v37 := Tryz.zeroValue151
  t70 := Tryz.underlying158
  a70 := Tryz.isAgg158
  z70 := Tryz.sizeOf158
  v70 := Tryz.zeroValue158
  t72 := Tryz.underlying160
  a72 := Tryz.isAgg160
  z72 := Tryz.sizeOf160
  v72 := Tryz.zeroValue160
  t127 := Tryz.underlying193
  a127 := Tryz.isAgg193
  z127 := Tryz.sizeOf193
  v127 := Tryz.zeroValue193 }
theorem Tryz.Builder_Extra_169 : Builder.Extra Tryz.prog Tryz.lays169_ren := {
  sizeBuilder := by kernel_rfl
  liesBuilder := by kernel_rfl
  t5 := Tryz.underlying5
  a5 := Tryz.isAgg5
  z5 := Tryz.sizeOf5
  v5 := Tryz.zeroValue5
  infoByte := by kernel_rfl
  cellsByte := by kernel_rfl
  sizeByte := by kernel_rfl
  neB5 := by decide }
open Go.RowKit in
/-- (*strings.Builder).String: "String returns the accumulated string.": OF A BUILDER THAT HOLDS AT LEAST ONE BYTE. ✋ THE MODEL FREEZES THOSE BYTES IN THE BUFFER (unsafe.String): a later write INTO them ends the model's run without an answer; a later append BEHIND them goes on. The statement's order of evaluation is drawn: one draw. (LAID: no walk: one application.) -/
theorem Tryz.Builder_String (B b : Nat) (l : List UInt8) (w : World) (h : Lib.IsBuilder 160 5 B b (Lib.byteCells l) w) (h0 : l ≠ []) :
    Calls Tryz.prog 109 #[.pointer (some ⟨b, 0, none⟩)] w fun e w' => e = .returned (.string ⟨l.toArray⟩) ∧ Below B w w' := Any.Builder_String Tryz.lays169 Tryz.Builder_Extra_169 B b l w h h0
open Go.RowKit in
/-- (*strings.Builder).String OF A BUILDER THAT HOLDS NO BYTE: the empty string. (Its buffer is nil, or a row of which it has taken nothing yet; where that row has NO capacity the model lays one new block for unsafe.SliceData's 'some address'.) One draw. (LAID: no walk: one application.) -/
theorem Tryz.Builder_String_empty (B b : Nat) (w : World) (h : Lib.IsBuilder 160 5 B b [] w) (hBw : B ≤ w.heap.size) :
    Calls Tryz.prog 109 #[.pointer (some ⟨b, 0, none⟩)] w fun e w' => e = .returned (.string ⟨#[]⟩) ∧ Below B w w' := Any.Builder_String_empty Tryz.lays169 Tryz.Builder_Extra_169 B b w h hBw
open Go.RowKit in
/-- (*strings.Builder).String: "String returns the accumulated string.": WHATEVER THE BUILDER HOLDS. (LAID: no walk: one application.) -/
theorem Tryz.Builder_String_any (B b : Nat) (l : List UInt8) (w : World) (h : Lib.IsBuilder 160 5 B b (Lib.byteCells l) w) (hBw : B ≤ w.heap.size) :
    Calls Tryz.prog 109 #[.pointer (some ⟨b, 0, none⟩)] w fun e w' => e = .returned (.string ⟨l.toArray⟩) ∧ Below B w w' := Any.Builder_String_any Tryz.lays169 Tryz.Builder_Extra_169 B b l w h hBw
def Tryz.lays241_ren : Go.Shelf.Ren := ⟨fun | 241 => 143 | 277 => 163 | n => n, fun | 70 => 158 | 3 => 3 | 0 => 0 | 72 => 160 | 37 => 151 | 5 => 5 | n => n, fun | n => n⟩
theorem Tryz.lays241 : Go.Proofs.Lays.n241 Tryz.prog Tryz.lays241_ren := {
  mixed := by kernel_rfl
  f241 := Tryz.func143.trans (congrArg some (by kernel_rfl))
  f277 := Tryz.func163.trans (congrArg some (by kernel_rfl))
  t0 := Tryz.underlying0
  a0 := Tryz.isAgg0
  z0 := Tryz.sizeOf0
  v0 := Tryz.zeroValue0
  t3 := Tryz.underlying3
  a3 := Tryz.isAgg3
  z3 := Tryz.sizeOf3
  v3 := Tryz.zeroValue3
  t37 := Tryz.underlying151
  a37 := Tryz.isAgg151
  z37 := Tryz.sizeOf151
  v37 := Tryz.zeroValue151
  t70 := Tryz.underlying158
  a70 := Tryz.isAgg158
  z70 := Tryz.sizeOf158
  v70 := Tryz.zeroValue158
  t72 := Tryz.underlying160
  a72 := Tryz.isAgg160
  z72 := Tryz.sizeOf160
  v72 := Tryz.zeroValue160 }
theorem Tryz.Builder_Extra_241 : Builder.Extra Tryz.prog Tryz.lays241_ren := {
  sizeBuilder := by kernel_rfl
  liesBuilder := by kernel_rfl
  t5 := Tryz.underlying5
  a5 := Tryz.isAgg5
  z5 := Tryz.sizeOf5
  v5 := Tryz.zeroValue5
  infoByte := by kernel_rfl
  cellsByte := by kernel_rfl
  sizeByte := by kernel_rfl
  neB5 := by decide }
open Go.RowKit in
/-- (*strings.Builder).grow (no doc but "grow copies the buffer to a new, larger buffer so that there are at least n bytes of capacity beyond len(b.buf)."): AT A BUILDER WITHOUT A BUFFER: a new row of whatever bytes for its buffer, none of them its own yet. Three draws. (LAID: no walk: one application.) -/
theorem Tryz.Builder_grow_fresh (B b n : Nat) (w : World) (hB : B ≤ b) (hbk : w.heap[b]? = some (.cells #[.pointer (some ⟨b, 0, none⟩), .slice none 0 0] 160 (0, 0))) (hBw : B ≤ w.heap.size) (hn : n ≤ 281474976710656) :
    Calls Tryz.prog 143 #[.pointer (some ⟨b, 0, none⟩), .int .i64 n] w fun e w' => e = .returned (.tuple #[]) ∧ (Lib.BuilderAt 160 5 B b (.pointer (some ⟨b, 0, none⟩)) [] w' ∧ Below B w w') := Any.Builder_grow_fresh Tryz.lays241 Tryz.Builder_Extra_241 B b n w hB hbk hBw hn
def Tryz.lays165_ren : Go.Shelf.Ren := ⟨fun | 165 => 107 | 240 => 142 | 241 => 143 | 276 => 162 | 277 => 163 | n => n, fun | 70 => 158 | 3 => 3 | 0 => 0 | 4 => 4 | 9 => 9 | 20 => 20 | 72 => 160 | 37 => 151 | 164 => 210 | 5 => 5 | n => n, fun | n => n⟩
theorem Tryz.lays165 : Go.Proofs.Lays.n165 Tryz.prog Tryz.lays165_ren := {
  mixed := by kernel_rfl
  f165 := Tryz.func107.trans (congrArg some (by kernel_rfl))
  f240 := Tryz.func142.trans (congrArg some (by kernel_rfl))
  f241 := Tryz.func143.trans (congrArg some (by kernel_rfl))
  f276 := Tryz.func162.trans (congrArg some (by kernel_rfl))
  f277 := Tryz.func163.trans (congrArg some (by kernel_rfl))
  t0 := Tryz.underlying0
  a0 := Tryz.isAgg0
  z0 := Tryz.sizeOf0
  v0 := Tryz.zeroValue0
  t3 := Tryz.underlying3
  a3 := Tryz.isAgg3
  z3 := Tryz.sizeOf3
  v3 := Tryz.zeroValue3
  t4 := Tryz.underlying4
  a4 := Tryz.isAgg4
  z4 := Tryz.sizeOf4
  v4 := Tryz.zeroValue4
  t9 := Tryz.underlying9
  a9 := Tryz.isAgg9
  z9 := Tryz.sizeOf9
  v9 := Tryz.zeroValue9
  t20 := Tryz.underlying20
  a20 := Tryz.isAgg20
  z20 := Tryz.sizeOf20
  v20 := Tryz.zeroValue20
  t37 := Tryz.underlying151
  a37 := Tryz.isAgg151
  z37 := Tryz.sizeOf151
  v37 := Tryz.zeroValue151
  t70 := Tryz.underlying158
  a70 := Tryz.isAgg158
  z70 := Tryz.sizeOf158
  v70 := Tryz.zeroValue158
  t72 := Tryz.underlying160
  a72 := Tryz.isAgg160
  z72 := Tryz.sizeOf160
  v72 := Tryz.zeroValue160
  t164 := Tryz.underlying210
  a164 := Tryz.isAgg210
  z164 := Tryz.sizeOf210
  v164 := Tryz.zeroValue210 }
theorem Tryz.Builder_Extra_165 : Builder.Extra Tryz.prog Tryz.lays165_ren := {
  sizeBuilder := by kernel_rfl
  liesBuilder := by kernel_rfl
  t5 := Tryz.underlying5
  a5 := Tryz.isAgg5
  z5 := Tryz.sizeOf5
  v5 := Tryz.zeroValue5
  infoByte := by kernel_rfl
  cellsByte := by kernel_rfl
  sizeByte := by kernel_rfl
  neB5 := by decide }
open Go.RowKit in
/-- (*strings.Builder).Grow AT A BUILDER THAT HAS NOT BEEN WRITTEN ('var b strings.Builder; b.Grow(n)'): "Grow grows b's capacity, if necessary, to guarantee space for another n bytes.": it holds no byte behind it as before it. (LAID: no walk: one application.) -/
theorem Tryz.Builder_Grow_fresh (B b n : Nat) (w : World) (hB : B ≤ b) (hbk : w.heap[b]? = some (.cells #[.pointer none, .slice none 0 0] 160 (0, 0))) (hBw : B ≤ w.heap.size) (hn : n ≤ 281474976710656) :
    Calls Tryz.prog 107 #[.pointer (some ⟨b, 0, none⟩), .int .i64 n] w fun e w' => e = .returned (.tuple #[]) ∧ (Lib.BuilderAt 160 5 B b (.pointer (some ⟨b, 0, none⟩)) [] w' ∧ Below B w w') := Any.Builder_Grow_fresh Tryz.lays165 Tryz.Builder_Extra_165 B b n w hB hbk hBw hn
def Tryz.lays156_ren : Go.Shelf.Ren := ⟨fun | 156 => 61 | 165 => 107 | 166 => 108 | 169 => 109 | 240 => 142 | 241 => 143 | 276 => 162 | 277 => 163 | n => n, fun | 31 => 23 | 9 => 9 | 3 => 3 | 4 => 4 | 0 => 0 | 20 => 20 | 72 => 160 | 76 => 164 | 70 => 158 | 37 => 151 | 75 => 163 | 127 => 193 | 164 => 210 | 5 => 5 | 80 => 166 | n => n, fun | n => n⟩
theorem Tryz.lays156 : Go.Proofs.Lays.n156 Tryz.prog Tryz.lays156_ren := {
  mixed := by kernel_rfl
  f156 := Tryz.func61.trans (congrArg some (by kernel_rfl))
  f165 := Tryz.func107.trans (congrArg some (by kernel_rfl))
  f166 := Tryz.func108.trans (congrArg some (by kernel_rfl))
  f169 := Tryz.func109.trans (congrArg some (by kernel_rfl))
  f240 := Tryz.func142.trans (congrArg some (by kernel_rfl))
  f241 := Tryz.func143.trans (congrArg some (by kernel_rfl))
  f276 := Tryz.func162.trans (congrArg some (by kernel_rfl))
  f277 := Tryz.func163.trans (congrArg some (by kernel_rfl))
  t0 := Tryz.underlying0
  a0 := Tryz.isAgg0
  z0 := Tryz.sizeOf0
  v0 := Tryz.zeroValue0
  t3 := Tryz.underlying3
  a3 := Tryz.isAgg3
  z3 := Tryz.sizeOf3
  v3 := Tryz.zeroValue3
  t4 := Tryz.underlying4
  a4 := Tryz.isAgg4
  z4 := Tryz.sizeOf4
  v4 := Tryz.zeroValue4
  t9 := Tryz.underlying9
  a9 := Tryz.isAgg9
  z9 := Tryz.sizeOf9
  v9 := Tryz.zeroValue9
  t20 := Tryz.underlying20
  a20 := Tryz.isAgg20
  z20 := Tryz.sizeOf20
  v20 := Tryz.zeroValue20
  t31 := Tryz.underlying23
  a31 := Tryz.isAgg23
  z31 := Tryz.sizeOf23
  v31 := Tryz.zeroValue23
  t37 := Tryz.underlying151
  a37 := Tryz.isAgg151
  z37 := Tryz.sizeOf151
  v37 := Tryz.zeroValue151
  t70 := Tryz.underlying158
  a70 := Tryz.isAgg158
  z70 := Tryz.sizeOf158
  v70 := Tryz.zeroValue158
  t72 := Tryz.underlying160
  a72 := Tryz.isAgg160
  z72 := Tryz.sizeOf160
  v72 := Tryz.zeroValue160
  t75 := Tryz.underlying163
  a75 := Tryz.isAgg163
  z75 := Tryz.sizeOf163
  v75 := Tryz.zeroValue163
  t76 := Tryz.underlying164
  a76 := Tryz.isAgg164
  z76 := Tryz.sizeOf164
  v76 := Tryz.zeroValue164
  t127 := Tryz.underlying193
  a127 := Tryz.isAgg193
  z127 := Tryz.sizeOf193
  v127 := Tryz.zeroValue193
  t164 := Tryz.underlying210
  a164 := Tryz.isAgg210
  z164 := Tryz.sizeOf210
  v164 := Tryz.zeroValue210 }
theorem Tryz.Builder_Extra_156 : Builder.Extra Tryz.prog Tryz.lays156_ren := {
  sizeBuilder := by kernel_rfl
  liesBuilder := by kernel_rfl
  t5 := Tryz.underlying5
  a5 := Tryz.isAgg5
  z5 := Tryz.sizeOf5
  v5 := Tryz.zeroValue5
  infoByte := by kernel_rfl
  cellsByte := by kernel_rfl
  sizeByte := by kernel_rfl
  neB5 := by decide }
open Go.RowKit in
/-- No element: the empty string; the world is as it was. (Whatever the slice's address and capacity: a nil slice too.) (LAID: no walk: one application.) -/
theorem Tryz.strings_Join_none (a : Option Addr) (c : Nat) (sep : ByteArray) (w : World) :
    Calls Tryz.prog 61 #[.slice a 0 c, .string sep] w fun e w' => e = .returned (.string ⟨#[]⟩) ∧ w' = w := Any.strings_Join_none Tryz.lays156 Tryz.Builder_Extra_156 a c sep w
open Go.RowKit in
/-- strings.Join: "Join concatenates the elements of its first argument to create a single string. The separator string sep is placed between elements in the resulting string.": HOWEVER MANY ELEMENTS. Below the heap's end the world is as it was. (LAID: no walk: one application.) -/
theorem Tryz.strings_Join (bk o c : Nat) (xs : List ByteArray) (sep : ByteArray) (w : World) (hcells : ∀ (j : Nat) x, xs[j]? = some x → w.cell? ⟨bk, o + j, none⟩ = some (.string x)) (hbk : bk < w.heap.size) (hN : xs.length ≤ 140737488355328) (hcap : xs.length ≤ c) (hlen : (Lib.join (xs.map (·.data.toList)) sep.data.toList).length ≤ 140737488355328) :
    Calls Tryz.prog 61 #[.slice (some ⟨bk, o, none⟩) xs.length c, .string sep] w fun e w' => e = .returned (.string ⟨(Lib.join (xs.map (·.data.toList)) sep.data.toList).toArray⟩) ∧ Below w.heap.size w w' := Any.strings_Join Tryz.lays156 Tryz.Builder_Extra_156 bk o c xs sep w hcells hbk hN hcap hlen
def Tryz.lays137_ren : Go.Shelf.Ren := ⟨fun | 137 => 160 | 217 => 178 | 266 => 187 | n => n, fun | 9 => 9 | 5 => 5 | 3 => 3 | n => n, fun | n => n⟩
theorem Tryz.lays137 : Go.Proofs.Lays.n137 Tryz.prog Tryz.lays137_ren := {
  mixed := by kernel_rfl
  f137 := Tryz.func160.trans (congrArg some (by kernel_rfl))
  f217 := Tryz.func178.trans (congrArg some (by kernel_rfl))
  f266 := Tryz.func187.trans (congrArg some (by kernel_rfl))
  t3 := Tryz.underlying3
  a3 := Tryz.isAgg3
  z3 := Tryz.sizeOf3
  v3 := Tryz.zeroValue3
  t5 := Tryz.underlying5
  a5 := Tryz.isAgg5
  z5 := Tryz.sizeOf5
  v5 := Tryz.zeroValue5
  t9 := Tryz.underlying9
  a9 := Tryz.isAgg9
  z9 := Tryz.sizeOf9
  v9 := Tryz.zeroValue9 }
open Go.RowKit in
/-- strings.IndexByte: "IndexByte returns the index of the first instance of c in s, or -1 if c is not present in s.": IT RETURNS 'Lib.indexByte s c'; the world is as it was. (LAID: no walk: one application.) -/
theorem Tryz.strings_IndexByte (s : ByteArray) (c : Int) (w : World) :
    Calls Tryz.prog 160 #[.string s, .int .u8 c] w fun e w' => e = .returned (.int .i64 (Lib.indexByte s.data.toList c.toNat.toUInt8)) ∧ w' = w := Any.strings_IndexByte Tryz.lays137 s c w
def Tryz.lays129_ren : Go.Shelf.Ren := ⟨fun | 129 => 122 | n => n, fun | 53 => 178 | 3 => 3 | 4 => 4 | 46 => 127 | 5 => 5 | 9 => 9 | n => n, fun | n => n⟩
theorem Tryz.lays129 : Go.Proofs.Lays.n129 Tryz.prog Tryz.lays129_ren := {
  mixed := by kernel_rfl
  f129 := Tryz.func122.trans (congrArg some (by kernel_rfl))
  t3 := Tryz.underlying3
  a3 := Tryz.isAgg3
  z3 := Tryz.sizeOf3
  v3 := Tryz.zeroValue3
  t4 := Tryz.underlying4
  a4 := Tryz.isAgg4
  z4 := Tryz.sizeOf4
  v4 := Tryz.zeroValue4
  t5 := Tryz.underlying5
  a5 := Tryz.isAgg5
  z5 := Tryz.sizeOf5
  v5 := Tryz.zeroValue5
  t9 := Tryz.underlying9
  a9 := Tryz.isAgg9
  z9 := Tryz.sizeOf9
  v9 := Tryz.zeroValue9
  t46 := Tryz.underlying127
  a46 := Tryz.isAgg127
  z46 := Tryz.sizeOf127
  v46 := Tryz.zeroValue127
  t53 := Tryz.underlying178
  a53 := Tryz.isAgg178
  z53 := Tryz.sizeOf178
  v53 := Tryz.zeroValue178 }
/-- bits.Len64: "Len64 returns the minimum number of bits required to represent x; the result is 0 for x == 0.": IT RETURNS 'Lib.bitLen x'; the world is as it was. ('h0', 'h1': x is a uint64.) (LAID: no walk: one application.) -/
theorem Tryz.bits_Len64 (x : Int) (w : World) (h0 : 0 ≤ x) (h1 : x ≤ 18446744073709551615) :
    Calls Tryz.prog 122 #[.int .u64 x] w fun e w' => e = .returned (.int .i64 (Lib.bitLen x.toNat)) ∧ w' = w := Any.bits_Len64 Tryz.lays129 x w h0 h1
def Tryz.lays317_ren : Go.Shelf.Ren := ⟨fun | 317 => 164 | n => n, fun | 3 => 3 | 46 => 127 | n => n, fun | n => n⟩
theorem Tryz.lays317 : Go.Proofs.Lays.n317 Tryz.prog Tryz.lays317_ren := {
  mixed := by kernel_rfl
  f317 := Tryz.func164.trans (congrArg some (by kernel_rfl))
  t3 := Tryz.underlying3
  a3 := Tryz.isAgg3
  z3 := Tryz.sizeOf3
  v3 := Tryz.zeroValue3
  t46 := Tryz.underlying127
  a46 := Tryz.isAgg127
  z46 := Tryz.sizeOf127
  v46 := Tryz.zeroValue127 }
open Go.Lib in
/-- internal/strconv.log10Pow2: "log10Pow2(x) returns ⌊log₁₀ 2**x⌋ = ⌊x * log₁₀ 2⌋.": '(x * 78913) >> 18', at an x up to 64 (a length in bits). The world is as it was. (LAID: no walk: one application.) -/
theorem Tryz.internal_strconv_log10Pow2 (x : Nat) (h : x ≤ 64) (w : World) :
    Calls Tryz.prog 164 #[.int .i64 x] w fun e w' => e = .returned (.int .i64 (Lib.l10 x)) ∧ w' = w := Any.internal_strconv_log10Pow2 Tryz.lays317 x h w
def Tryz.lays318_ren : Go.Shelf.Ren := ⟨fun | 318 => 165 | n => n, fun | 3 => 3 | 4 => 4 | n => n, fun | n => n⟩
theorem Tryz.lays318 : Go.Proofs.Lays.n318 Tryz.prog Tryz.lays318_ren := {
  mixed := by kernel_rfl
  f318 := Tryz.func165.trans (congrArg some (by kernel_rfl))
  t3 := Tryz.underlying3
  a3 := Tryz.isAgg3
  z3 := Tryz.sizeOf3
  v3 := Tryz.zeroValue3
  t4 := Tryz.underlying4
  a4 := Tryz.isAgg4
  z4 := Tryz.sizeOf4
  v4 := Tryz.zeroValue4 }
open Go.Lib in
/-- internal/strconv.bool2: "bool2 converts b to an integer: 1 for true, 0 for false." The world is as it was. (LAID: no walk: one application.) -/
theorem Tryz.internal_strconv_bool2_int (b : Bool) (w : World) :
    Calls Tryz.prog 165 #[.bool b] w fun e w' => e = .returned (.int .i64 (if b then 1 else 0)) ∧ w' = w := Any.internal_strconv_bool2_int Tryz.lays318 b w
def Tryz.lays283_ren : Go.Shelf.Ren := ⟨fun | 283 => 144 | n => n, fun | 3 => 3 | 9 => 9 | 4 => 4 | n => n, fun | n => n⟩
theorem Tryz.lays283 : Go.Proofs.Lays.n283 Tryz.prog Tryz.lays283_ren := {
  mixed := by kernel_rfl
  f283 := Tryz.func144.trans (congrArg some (by kernel_rfl))
  t3 := Tryz.underlying3
  a3 := Tryz.isAgg3
  z3 := Tryz.sizeOf3
  v3 := Tryz.zeroValue3
  t4 := Tryz.underlying4
  a4 := Tryz.isAgg4
  z4 := Tryz.sizeOf4
  v4 := Tryz.zeroValue4
  t9 := Tryz.underlying9
  a9 := Tryz.isAgg9
  z9 := Tryz.sizeOf9
  v9 := Tryz.zeroValue9 }
open Go.Lib in
/-- internal/strconv.small: "small returns the string for an i with 0 <= i < nSmalls.": i's decimal numeral. The world is as it was. (LAID: no walk: one application.) -/
theorem Tryz.internal_strconv_small (i : Nat) (h : i < 100) (w : World) :
    Calls Tryz.prog 144 #[.int .i64 i] w fun e w' => e = .returned (.string ⟨(Lib.decDigits i).toArray⟩) ∧ w' = w := Any.internal_strconv_small Tryz.lays283 i h w
def Tryz.laysM284_ren : Go.Shelf.Ren := ⟨fun | 284 => 145 | 129 => 122 | 317 => 164 | 318 => 165 | n => n, fun | 53 => 178 | 3 => 3 | 212 => 215 | 0 => 0 | 4 => 4 | 46 => 127 | 5 => 5 | 9 => 9 | n => n, fun | 17 => 0 | n => n⟩
theorem Tryz.laysM284 : Go.Proofs.LaysM.n284 Tryz.prog Tryz.laysM284_ren := {
  mixed := by kernel_rfl
  f129 := Tryz.func122.trans (congrArg some (by kernel_rfl))
  f284 := Tryz.func145.trans (congrArg some (by kernel_rfl))
  f317 := Tryz.func164.trans (congrArg some (by kernel_rfl))
  f318 := Tryz.func165.trans (congrArg some (by kernel_rfl))
  t0 := Tryz.underlying0
  a0 := Tryz.isAgg0
  z0 := Tryz.sizeOf0
  v0 := Tryz.zeroValue0
  t3 := Tryz.underlying3
  a3 := Tryz.isAgg3
  z3 := Tryz.sizeOf3
  v3 := Tryz.zeroValue3
  t4 := Tryz.underlying4
  a4 := Tryz.isAgg4
  z4 := Tryz.sizeOf4
  v4 := Tryz.zeroValue4
  t5 := Tryz.underlying5
  a5 := Tryz.isAgg5
  z5 := Tryz.sizeOf5
  v5 := Tryz.zeroValue5
  t9 := Tryz.underlying9
  a9 := Tryz.isAgg9
  z9 := Tryz.sizeOf9
  v9 := Tryz.zeroValue9
  t46 := Tryz.underlying127
  a46 := Tryz.isAgg127
  z46 := Tryz.sizeOf127
  v46 := Tryz.zeroValue127
  t53 := Tryz.underlying178
  a53 := Tryz.isAgg178
  z53 := Tryz.sizeOf178
  v53 := Tryz.zeroValue178
  t212 := Tryz.underlying215
  a212 := Tryz.isAgg215
  z212 := Tryz.sizeOf215
  v212 := Tryz.zeroValue215
  g17 := by kernel_rfl
  i0 := by kernel_rfl
  i3 := by kernel_rfl
  i4 := by kernel_rfl
  i5 := by kernel_rfl
  i9 := by kernel_rfl
  i46 := by kernel_rfl
  i53 := by kernel_rfl
  i212 := by kernel_rfl
  m17 := by kernel_rfl }
open Go.Lib in
/-- internal/strconv.numDigits, at a d that is not 0: THE NUMBER OF d's DECIMAL DIGITS. The world is as it was. (LAID: no walk: one application.) -/
theorem Tryz.internal_strconv_numDigits (u : Nat) (h1 : 1 ≤ u) (h2 : u < 18446744073709551616) (w : World) (htab : Lib.TabIs Tryz.prog w "internal/strconv.uint64pow10" .u64 Lib.pow10Tab) :
    Calls Tryz.prog 145 #[.int .u64 u] w fun e w' => e = .returned (.int .i64 (Lib.nDigits u)) ∧ w' = w := Any.internal_strconv_numDigits Tryz.laysM284 u h1 h2 w htab
def Tryz.lays285_ren : Go.Shelf.Ren := ⟨fun | 285 => 146 | n => n, fun | 37 => 151 | 53 => 178 | 3 => 3 | 4 => 4 | 51 => 176 | 9 => 9 | 5 => 5 | 0 => 0 | n => n, fun | n => n⟩
theorem Tryz.lays285 : Go.Proofs.Lays.n285 Tryz.prog Tryz.lays285_ren := {
  mixed := by kernel_rfl
  f285 := Tryz.func146.trans (congrArg some (by kernel_rfl))
  t0 := Tryz.underlying0
  a0 := Tryz.isAgg0
  z0 := Tryz.sizeOf0
  v0 := Tryz.zeroValue0
  t3 := Tryz.underlying3
  a3 := Tryz.isAgg3
  z3 := Tryz.sizeOf3
  v3 := Tryz.zeroValue3
  t4 := Tryz.underlying4
  a4 := Tryz.isAgg4
  z4 := Tryz.sizeOf4
  v4 := Tryz.zeroValue4
  t5 := Tryz.underlying5
  a5 := Tryz.isAgg5
  z5 := Tryz.sizeOf5
  v5 := Tryz.zeroValue5
  t9 := Tryz.underlying9
  a9 := Tryz.isAgg9
  z9 := Tryz.sizeOf9
  v9 := Tryz.zeroValue9
  t37 := Tryz.underlying151
  a37 := Tryz.isAgg151
  z37 := Tryz.sizeOf151
  v37 := Tryz.zeroValue151
  t51 := Tryz.underlying176
  a51 := Tryz.isAgg176
  z51 := Tryz.sizeOf176
  v51 := Tryz.zeroValue176
  t53 := Tryz.underlying178
  a53 := Tryz.isAgg178
  z53 := Tryz.sizeOf178
  v53 := Tryz.zeroValue178 }
open Go.RowKit Go.Sort Go.Lib in
/-- internal/strconv.formatBase10: "formatBase10 formats the decimal representation of u into a. The caller is responsible for ensuring that a is big enough to hold u. If a is too big, leading zeros will be filled in as needed.": THE ROW HOLDS u's DIGITS ('FmtInv .. 0 ..': every place t holds 'dg u (len - 1 - t)'); all else is as it was but for the count of draws. (LAID: no walk: one application.) -/
theorem Tryz.internal_strconv_formatBase10 (blk off cap : Nat) (u : Nat) (d : Array UInt8) (w : World) (hH : Holds (fun (b : UInt8) => Value.int .u8 (b.toNat : Int)) w blk off d) (hu : u < 10 ^ d.size) (hu64 : u < 18446744073709551616) (hsz : d.size < 4611686018427387904) :
    Calls Tryz.prog 146 #[.slice (some ⟨blk, off, none⟩) d.size cap, .int .u64 u] w fun e w' =>
      e = .returned (.tuple #[]) ∧ ∃ (n v' : Nat) (dk : Array UInt8), w' = (putRow (fun (b : UInt8) => Value.int .u8 (b.toNat : Int)) w blk off dk).drewN n ∧ FmtInv d.size u 0 v' dk := Any.internal_strconv_formatBase10 Tryz.lays285 blk off cap u d w hH hu hu64 hsz
def Tryz.laysM246_ren : Go.Shelf.Ren := ⟨fun | 246 => 110 | 283 => 144 | 284 => 145 | 285 => 146 | 286 => 147 | 129 => 122 | 317 => 164 | 318 => 165 | 319 => 166 | 320 => 167 | 337 => 179 | 338 => 180 | n => n, fun | 2 => 2 | 3 => 3 | 9 => 9 | 4 => 4 | 171 => 195 | 0 => 0 | 53 => 178 | 37 => 151 | 5 => 5 | 173 => 197 | 212 => 215 | 51 => 176 | 20 => 20 | 213 => 216 | 46 => 127 | 232 => 233 | 233 => 234 | n => n, fun | 17 => 0 | 18 => 4 | 19 => 5 | n => n⟩
theorem Tryz.laysM246 : Go.Proofs.LaysM.n246 Tryz.prog Tryz.laysM246_ren := {
  mixed := by kernel_rfl
  f129 := Tryz.func122.trans (congrArg some (by kernel_rfl))
  f246 := Tryz.func110.trans (congrArg some (by kernel_rfl))
  f283 := Tryz.func144.trans (congrArg some (by kernel_rfl))
  f284 := Tryz.func145.trans (congrArg some (by kernel_rfl))
  f285 := Tryz.func146.trans (congrArg some (by kernel_rfl))
  f286 := Tryz.func147.trans (congrArg some (by kernel_rfl))
  f317 := Tryz.func164.trans (congrArg some (by kernel_rfl))
  f318 := Tryz.func165.trans (congrArg some (by kernel_rfl))
  f319 := Tryz.func166.trans (congrArg some (by kernel_rfl))
  f320 := Tryz.func167.trans (congrArg some (by kernel_rfl))
  f337 := Tryz.func179.trans (congrArg some (by kernel_rfl))
  f338 := Tryz.func180.trans (congrArg some (by kernel_rfl))
  t0 := Tryz.underlying0
  a0 := Tryz.isAgg0
  z0 := Tryz.sizeOf0
  v0 := Tryz.zeroValue0
  t2 := Tryz.underlying2
  a2 := Tryz.isAgg2
  z2 := Tryz.sizeOf2
  v2 := Tryz.zeroValue2
  t3 := Tryz.underlying3
  a3 := Tryz.isAgg3
  z3 := Tryz.sizeOf3
  v3 := Tryz.zeroValue3
  t4 := Tryz.underlying4
  a4 := Tryz.isAgg4
  z4 := Tryz.sizeOf4
  v4 := Tryz.zeroValue4
  t5 := Tryz.underlying5
  a5 := Tryz.isAgg5
  z5 := Tryz.sizeOf5
  v5 := Tryz.zeroValue5
  t9 := Tryz.underlying9
  a9 := Tryz.isAgg9
  z9 := Tryz.sizeOf9
  v9 := Tryz.zeroValue9
  t20 := Tryz.underlying20
  a20 := Tryz.isAgg20
  z20 := Tryz.sizeOf20
  v20 := Tryz.zeroValue20
  t37 := Tryz.underlying151
  a37 := Tryz.isAgg151
  z37 := Tryz.sizeOf151
  v37 := Tryz.zeroValue151
  t46 := Tryz.underlying127
  a46 := Tryz.isAgg127
  z46 := Tryz.sizeOf127
  v46 := Tryz.zeroValue127
  t51 := Tryz.underlying176
  a51 := Tryz.isAgg176
  z51 := Tryz.sizeOf176
  v51 := Tryz.zeroValue176
  t53 := Tryz.underlying178
  a53 := Tryz.isAgg178
  z53 := Tryz.sizeOf178
  v53 := Tryz.zeroValue178
  t171 := Tryz.underlying195
  a171 := Tryz.isAgg195
  z171 := Tryz.sizeOf195
  v171 := Tryz.zeroValue195
  t173 := Tryz.underlying197
  a173 := Tryz.isAgg197
  z173 := Tryz.sizeOf197
  v173 := Tryz.zeroValue197
  t212 := Tryz.underlying215
  a212 := Tryz.isAgg215
  z212 := Tryz.sizeOf215
  v212 := Tryz.zeroValue215
  t213 := Tryz.underlying216
  a213 := Tryz.isAgg216
  z213 := Tryz.sizeOf216
  t232 := Tryz.underlying233
  a232 := Tryz.isAgg233
  z232 := Tryz.sizeOf233
  v232 := Tryz.zeroValue233
  t233 := Tryz.underlying234
  a233 := Tryz.isAgg234
  z233 := Tryz.sizeOf234
  v233 := Tryz.zeroValue234
  g17 := by kernel_rfl
  g18 := by kernel_rfl
  g19 := by kernel_rfl
  i0 := by kernel_rfl
  i2 := by kernel_rfl
  i3 := by kernel_rfl
  i4 := by kernel_rfl
  i5 := by kernel_rfl
  i9 := by kernel_rfl
  i20 := by kernel_rfl
  i37 := by kernel_rfl
  i46 := by kernel_rfl
  i51 := by kernel_rfl
  i53 := by kernel_rfl
  i171 := by kernel_rfl
  i173 := by kernel_rfl
  i212 := by kernel_rfl
  i232 := by kernel_rfl
  i233 := by kernel_rfl
  m17 := by kernel_rfl
  m18 := by kernel_rfl
  m19 := by kernel_rfl }
open Go.RowKit Go.Sort Go.Lib in
/-- internal/strconv.FormatInt: "FormatInt returns the string representation of i in the given base": AT BASE 10: i's decimal numeral, for every int64. The world behind the call: the world before it, new blocks behind the heap, draws. (LAID: no walk: one application.) -/
theorem Tryz.internal_strconv_FormatInt_10 (n : Int) (h0 : -9223372036854775808 ≤ n) (h1 : n ≤ 9223372036854775807) (w : World) (htab : Lib.TabIs Tryz.prog w "internal/strconv.uint64pow10" .u64 Lib.pow10Tab) :
    Calls Tryz.prog 110 #[.int .i64 n, .int .i64 10] w fun e w' => e = .returned (.string ⟨(Lib.itoa n).toArray⟩) ∧ ∃ k os, w' = grow (w.drewN k) os := Any.internal_strconv_FormatInt_10 Tryz.laysM246 n h0 h1 w htab
def Tryz.lays246_ren : Go.Shelf.Ren := ⟨fun | 246 => 110 | 283 => 144 | 284 => 145 | 285 => 146 | 286 => 147 | 129 => 122 | 317 => 164 | 318 => 165 | 319 => 166 | 320 => 167 | 337 => 179 | 338 => 180 | n => n, fun | 2 => 2 | 3 => 3 | 9 => 9 | 4 => 4 | 171 => 195 | 0 => 0 | 53 => 178 | 37 => 151 | 5 => 5 | 173 => 197 | 212 => 215 | 51 => 176 | 20 => 20 | 213 => 216 | 46 => 127 | 232 => 233 | 233 => 234 | n => n, fun | 17 => 0 | 18 => 4 | 19 => 5 | n => n⟩
theorem Tryz.lays246 : Go.Proofs.Lays.n246 Tryz.prog Tryz.lays246_ren := {
  mixed := by kernel_rfl
  f129 := Tryz.func122.trans (congrArg some (by kernel_rfl))
  f246 := Tryz.func110.trans (congrArg some (by kernel_rfl))
  f283 := Tryz.func144.trans (congrArg some (by kernel_rfl))
  f284 := Tryz.func145.trans (congrArg some (by kernel_rfl))
  f285 := Tryz.func146.trans (congrArg some (by kernel_rfl))
  f286 := Tryz.func147.trans (congrArg some (by kernel_rfl))
  f317 := Tryz.func164.trans (congrArg some (by kernel_rfl))
  f318 := Tryz.func165.trans (congrArg some (by kernel_rfl))
  f319 := Tryz.func166.trans (congrArg some (by kernel_rfl))
  f320 := Tryz.func167.trans (congrArg some (by kernel_rfl))
  f337 := Tryz.func179.trans (congrArg some (by kernel_rfl))
  f338 := Tryz.func180.trans (congrArg some (by kernel_rfl))
  t0 := Tryz.underlying0
  a0 := Tryz.isAgg0
  z0 := Tryz.sizeOf0
  v0 := Tryz.zeroValue0
  t2 := Tryz.underlying2
  a2 := Tryz.isAgg2
  z2 := Tryz.sizeOf2
  v2 := Tryz.zeroValue2
  t3 := Tryz.underlying3
  a3 := Tryz.isAgg3
  z3 := Tryz.sizeOf3
  v3 := Tryz.zeroValue3
  t4 := Tryz.underlying4
  a4 := Tryz.isAgg4
  z4 := Tryz.sizeOf4
  v4 := Tryz.zeroValue4
  t5 := Tryz.underlying5
  a5 := Tryz.isAgg5
  z5 := Tryz.sizeOf5
  v5 := Tryz.zeroValue5
  t9 := Tryz.underlying9
  a9 := Tryz.isAgg9
  z9 := Tryz.sizeOf9
  v9 := Tryz.zeroValue9
  t20 := Tryz.underlying20
  a20 := Tryz.isAgg20
  z20 := Tryz.sizeOf20
  v20 := Tryz.zeroValue20
  t37 := Tryz.underlying151
  a37 := Tryz.isAgg151
  z37 := Tryz.sizeOf151
  v37 := Tryz.zeroValue151
  t46 := Tryz.underlying127
  a46 := Tryz.isAgg127
  z46 := Tryz.sizeOf127
  v46 := Tryz.zeroValue127
  t51 := Tryz.underlying176
  a51 := Tryz.isAgg176
  z51 := Tryz.sizeOf176
  v51 := Tryz.zeroValue176
  t53 := Tryz.underlying178
  a53 := Tryz.isAgg178
  z53 := Tryz.sizeOf178
  v53 := Tryz.zeroValue178
  t171 := Tryz.underlying195
  a171 := Tryz.isAgg195
  z171 := Tryz.sizeOf195
  v171 := Tryz.zeroValue195
  t173 := Tryz.underlying197
  a173 := Tryz.isAgg197
  z173 := Tryz.sizeOf197
  v173 := Tryz.zeroValue197
  t212 := Tryz.underlying215
  a212 := Tryz.isAgg215
  z212 := Tryz.sizeOf215
  v212 := Tryz.zeroValue215
  t213 := Tryz.underlying216
  a213 := Tryz.isAgg216
  z213 := Tryz.sizeOf216
  t232 := Tryz.underlying233
  a232 := Tryz.isAgg233
  z232 := Tryz.sizeOf233
  v232 := Tryz.zeroValue233
  t233 := Tryz.underlying234
  a233 := Tryz.isAgg234
  z233 := Tryz.sizeOf234
  v233 := Tryz.zeroValue234
  g17 := by kernel_rfl
  g18 := by kernel_rfl
  g19 := by kernel_rfl }
open Go.RowKit Go.Sort Go.Lib in
/-- THE ROAD WITHOUT THE TABLE: 0 <= i < 100: two constants are read, nothing is laid: no premise on the world, and the world is as it was. (LAID: no walk: one application.) -/
theorem Tryz.internal_strconv_FormatInt_10_small (i : Nat) (hi : i < 100) (w : World) :
    Calls Tryz.prog 110 #[.int .i64 i, .int .i64 10] w fun e w' => e = .returned (.string ⟨(Lib.decDigits i).toArray⟩) ∧ w' = w := Any.internal_strconv_FormatInt_10_small Tryz.lays246 i hi w
def Tryz.laysM243_ren : Go.Shelf.Ren := ⟨fun | 243 => 188 | 246 => 110 | 283 => 144 | 284 => 145 | 285 => 146 | 286 => 147 | 129 => 122 | 317 => 164 | 318 => 165 | 319 => 166 | 320 => 167 | 337 => 179 | 338 => 180 | n => n, fun | 3 => 3 | 9 => 9 | 2 => 2 | 4 => 4 | 171 => 195 | 0 => 0 | 53 => 178 | 37 => 151 | 5 => 5 | 173 => 197 | 212 => 215 | 51 => 176 | 20 => 20 | 213 => 216 | 46 => 127 | 232 => 233 | 233 => 234 | n => n, fun | 17 => 0 | 18 => 4 | 19 => 5 | n => n⟩
theorem Tryz.laysM243 : Go.Proofs.LaysM.n243 Tryz.prog Tryz.laysM243_ren := {
  mixed := by kernel_rfl
  f129 := Tryz.func122.trans (congrArg some (by kernel_rfl))
  f243 := Tryz.func188.trans (congrArg some (by kernel_rfl))
  f246 := Tryz.func110.trans (congrArg some (by kernel_rfl))
  f283 := Tryz.func144.trans (congrArg some (by kernel_rfl))
  f284 := Tryz.func145.trans (congrArg some (by kernel_rfl))
  f285 := Tryz.func146.trans (congrArg some (by kernel_rfl))
  f286 := Tryz.func147.trans (congrArg some (by kernel_rfl))
  f317 := Tryz.func164.trans (congrArg some (by kernel_rfl))
  f318 := Tryz.func165.trans (congrArg some (by kernel_rfl))
  f319 := Tryz.func166.trans (congrArg some (by kernel_rfl))
  f320 := Tryz.func167.trans (congrArg some (by kernel_rfl))
  f337 := Tryz.func179.trans (congrArg some (by kernel_rfl))
  f338 := Tryz.func180.trans (congrArg some (by kernel_rfl))
  t0 := Tryz.underlying0
  a0 := Tryz.isAgg0
  z0 := Tryz.sizeOf0
  v0 := Tryz.zeroValue0
  t2 := Tryz.underlying2
  a2 := Tryz.isAgg2
  z2 := Tryz.sizeOf2
  v2 := Tryz.zeroValue2
  t3 := Tryz.underlying3
  a3 := Tryz.isAgg3
  z3 := Tryz.sizeOf3
  v3 := Tryz.zeroValue3
  t4 := Tryz.underlying4
  a4 := Tryz.isAgg4
  z4 := Tryz.sizeOf4
  v4 := Tryz.zeroValue4
  t5 := Tryz.underlying5
  a5 := Tryz.isAgg5
  z5 := Tryz.sizeOf5
  v5 := Tryz.zeroValue5
  t9 := Tryz.underlying9
  a9 := Tryz.isAgg9
  z9 := Tryz.sizeOf9
  v9 := Tryz.zeroValue9
  t20 := Tryz.underlying20
  a20 := Tryz.isAgg20
  z20 := Tryz.sizeOf20
  v20 := Tryz.zeroValue20
  t37 := Tryz.underlying151
  a37 := Tryz.isAgg151
  z37 := Tryz.sizeOf151
  v37 := Tryz.zeroValue151
  t46 := Tryz.underlying127
  a46 := Tryz.isAgg127
  z46 := Tryz.sizeOf127
  v46 := Tryz.zeroValue127
  t51 := Tryz.underlying176
  a51 := Tryz.isAgg176
  z51 := Tryz.sizeOf176
  v51 := Tryz.zeroValue176
  t53 := Tryz.underlying178
  a53 := Tryz.isAgg178
  z53 := Tryz.sizeOf178
  v53 := Tryz.zeroValue178
  t171 := Tryz.underlying195
  a171 := Tryz.isAgg195
  z171 := Tryz.sizeOf195
  v171 := Tryz.zeroValue195
  t173 := Tryz.underlying197
  a173 := Tryz.isAgg197
  z173 := Tryz.sizeOf197
  v173 := Tryz.zeroValue197
  t212 := Tryz.underlying215
  a212 := Tryz.isAgg215
  z212 := Tryz.sizeOf215
  v212 := Tryz.zeroValue215
  t213 := Tryz.underlying216
  a213 := Tryz.isAgg216
  z213 := Tryz.sizeOf216
  t232 := Tryz.underlying233
  a232 := Tryz.isAgg233
  z232 := Tryz.sizeOf233
  v232 := Tryz.zeroValue233
  t233 := Tryz.underlying234
  a233 := Tryz.isAgg234
  z233 := Tryz.sizeOf234
  v233 := Tryz.zeroValue234
  g17 := by kernel_rfl
  g18 := by kernel_rfl
  g19 := by kernel_rfl
  i0 := by kernel_rfl
  i2 := by kernel_rfl
  i3 := by kernel_rfl
  i4 := by kernel_rfl
  i5 := by kernel_rfl
  i9 := by kernel_rfl
  i20 := by kernel_rfl
  i37 := by kernel_rfl
  i46 := by kernel_rfl
  i51 := by kernel_rfl
  i53 := by kernel_rfl
  i171 := by kernel_rfl
  i173 := by kernel_rfl
  i212 := by kernel_rfl
  i232 := by kernel_rfl
  i233 := by kernel_rfl
  m17 := by kernel_rfl
  m18 := by kernel_rfl
  m19 := by kernel_rfl }
open Go.RowKit Go.Sort Go.Lib in
/-- internal/strconv.Itoa: "Itoa is equivalent to FormatInt(int64(i), 10).": i's decimal numeral, for every int. (LAID: no walk: one application.) -/
theorem Tryz.internal_strconv_Itoa (n : Int) (h0 : -9223372036854775808 ≤ n) (h1 : n ≤ 9223372036854775807) (w : World) (htab : Lib.TabIs Tryz.prog w "internal/strconv.uint64pow10" .u64 Lib.pow10Tab) :
    Calls Tryz.prog 188 #[.int .i64 n] w fun e w' => e = .returned (.string ⟨(Lib.itoa n).toArray⟩) ∧ ∃ k os, w' = grow (w.drewN k) os := Any.internal_strconv_Itoa Tryz.laysM243 n h0 h1 w htab
def Tryz.lays243_ren : Go.Shelf.Ren := ⟨fun | 243 => 188 | 246 => 110 | 283 => 144 | 284 => 145 | 285 => 146 | 286 => 147 | 129 => 122 | 317 => 164 | 318 => 165 | 319 => 166 | 320 => 167 | 337 => 179 | 338 => 180 | n => n, fun | 3 => 3 | 9 => 9 | 2 => 2 | 4 => 4 | 171 => 195 | 0 => 0 | 53 => 178 | 37 => 151 | 5 => 5 | 173 => 197 | 212 => 215 | 51 => 176 | 20 => 20 | 213 => 216 | 46 => 127 | 232 => 233 | 233 => 234 | n => n, fun | 17 => 0 | 18 => 4 | 19 => 5 | n => n⟩
theorem Tryz.lays243 : Go.Proofs.Lays.n243 Tryz.prog Tryz.lays243_ren := {
  mixed := by kernel_rfl
  f129 := Tryz.func122.trans (congrArg some (by kernel_rfl))
  f243 := Tryz.func188.trans (congrArg some (by kernel_rfl))
  f246 := Tryz.func110.trans (congrArg some (by kernel_rfl))
  f283 := Tryz.func144.trans (congrArg some (by kernel_rfl))
  f284 := Tryz.func145.trans (congrArg some (by kernel_rfl))
  f285 := Tryz.func146.trans (congrArg some (by kernel_rfl))
  f286 := Tryz.func147.trans (congrArg some (by kernel_rfl))
  f317 := Tryz.func164.trans (congrArg some (by kernel_rfl))
  f318 := Tryz.func165.trans (congrArg some (by kernel_rfl))
  f319 := Tryz.func166.trans (congrArg some (by kernel_rfl))
  f320 := Tryz.func167.trans (congrArg some (by kernel_rfl))
  f337 := Tryz.func179.trans (congrArg some (by kernel_rfl))
  f338 := Tryz.func180.trans (congrArg some (by kernel_rfl))
  t0 := Tryz.underlying0
  a0 := Tryz.isAgg0
  z0 := Tryz.sizeOf0
  v0 := Tryz.zeroValue0
  t2 := Tryz.underlying2
  a2 := Tryz.isAgg2
  z2 := Tryz.sizeOf2
  v2 := Tryz.zeroValue2
  t3 := Tryz.underlying3
  a3 := Tryz.isAgg3
  z3 := Tryz.sizeOf3
  v3 := Tryz.zeroValue3
  t4 := Tryz.underlying4
  a4 := Tryz.isAgg4
  z4 := Tryz.sizeOf4
  v4 := Tryz.zeroValue4
  t5 := Tryz.underlying5
  a5 := Tryz.isAgg5
  z5 := Tryz.sizeOf5
  v5 := Tryz.zeroValue5
  t9 := Tryz.underlying9
  a9 := Tryz.isAgg9
  z9 := Tryz.sizeOf9
  v9 := Tryz.zeroValue9
  t20 := Tryz.underlying20
  a20 := Tryz.isAgg20
  z20 := Tryz.sizeOf20
  v20 := Tryz.zeroValue20
  t37 := Tryz.underlying151
  a37 := Tryz.isAgg151
  z37 := Tryz.sizeOf151
  v37 := Tryz.zeroValue151
  t46 := Tryz.underlying127
  a46 := Tryz.isAgg127
  z46 := Tryz.sizeOf127
  v46 := Tryz.zeroValue127
  t51 := Tryz.underlying176
  a51 := Tryz.isAgg176
  z51 := Tryz.sizeOf176
  v51 := Tryz.zeroValue176
  t53 := Tryz.underlying178
  a53 := Tryz.isAgg178
  z53 := Tryz.sizeOf178
  v53 := Tryz.zeroValue178
  t171 := Tryz.underlying195
  a171 := Tryz.isAgg195
  z171 := Tryz.sizeOf195
  v171 := Tryz.zeroValue195
  t173 := Tryz.underlying197
  a173 := Tryz.isAgg197
  z173 := Tryz.sizeOf197
  v173 := Tryz.zeroValue197
  t212 := Tryz.underlying215
  a212 := Tryz.isAgg215
  z212 := Tryz.sizeOf215
  v212 := Tryz.zeroValue215
  t213 := Tryz.underlying216
  a213 := Tryz.isAgg216
  z213 := Tryz.sizeOf216
  t232 := Tryz.underlying233
  a232 := Tryz.isAgg233
  z232 := Tryz.sizeOf233
  v232 := Tryz.zeroValue233
  t233 := Tryz.underlying234
  a233 := Tryz.isAgg234
  z233 := Tryz.sizeOf234
  v233 := Tryz.zeroValue234
  g17 := by kernel_rfl
  g18 := by kernel_rfl
  g19 := by kernel_rfl }
open Go.RowKit Go.Sort Go.Lib in
/-- THE ROAD WITHOUT THE TABLE: 0 <= i < 100. (LAID: no walk: one application.) -/
theorem Tryz.internal_strconv_Itoa_small (i : Nat) (hi : i < 100) (w : World) :
    Calls Tryz.prog 188 #[.int .i64 i] w fun e w' => e = .returned (.string ⟨(Lib.decDigits i).toArray⟩) ∧ w' = w := Any.internal_strconv_Itoa_small Tryz.lays243 i hi w
def Tryz.laysM171_ren : Go.Shelf.Ren := ⟨fun | 171 => 186 | 243 => 188 | 246 => 110 | 283 => 144 | 284 => 145 | 285 => 146 | 286 => 147 | 129 => 122 | 317 => 164 | 318 => 165 | 319 => 166 | 320 => 167 | 337 => 179 | 338 => 180 | n => n, fun | 3 => 3 | 9 => 9 | 2 => 2 | 4 => 4 | 171 => 195 | 0 => 0 | 53 => 178 | 37 => 151 | 5 => 5 | 173 => 197 | 212 => 215 | 51 => 176 | 20 => 20 | 213 => 216 | 46 => 127 | 232 => 233 | 233 => 234 | n => n, fun | 17 => 0 | 18 => 4 | 19 => 5 | n => n⟩
theorem Tryz.laysM171 : Go.Proofs.LaysM.n171 Tryz.prog Tryz.laysM171_ren := {
  mixed := by kernel_rfl
  f129 := Tryz.func122.trans (congrArg some (by kernel_rfl))
  f171 := Tryz.func186.trans (congrArg some (by kernel_rfl))
  f243 := Tryz.func188.trans (congrArg some (by kernel_rfl))
  f246 := Tryz.func110.trans (congrArg some (by kernel_rfl))
  f283 := Tryz.func144.trans (congrArg some (by kernel_rfl))
  f284 := Tryz.func145.trans (congrArg some (by kernel_rfl))
  f285 := Tryz.func146.trans (congrArg some (by kernel_rfl))
  f286 := Tryz.func147.trans (congrArg some (by kernel_rfl))
  f317 := Tryz.func164.trans (congrArg some (by kernel_rfl))
  f318 := Tryz.func165.trans (congrArg some (by kernel_rfl))
  f319 := Tryz.func166.trans (congrArg some (by kernel_rfl))
  f320 := Tryz.func167.trans (congrArg some (by kernel_rfl))
  f337 := Tryz.func179.trans (congrArg some (by kernel_rfl))
  f338 := Tryz.func180.trans (congrArg some (by kernel_rfl))
  t0 := Tryz.underlying0
  a0 := Tryz.isAgg0
  z0 := Tryz.sizeOf0
  v0 := Tryz.zeroValue0
  t2 := Tryz.underlying2
  a2 := Tryz.isAgg2
  z2 := Tryz.sizeOf2
  v2 := Tryz.zeroValue2
  t3 := Tryz.underlying3
  a3 := Tryz.isAgg3
  z3 := Tryz.sizeOf3
  v3 := Tryz.zeroValue3
  t4 := Tryz.underlying4
  a4 := Tryz.isAgg4
  z4 := Tryz.sizeOf4
  v4 := Tryz.zeroValue4
  t5 := Tryz.underlying5
  a5 := Tryz.isAgg5
  z5 := Tryz.sizeOf5
  v5 := Tryz.zeroValue5
  t9 := Tryz.underlying9
  a9 := Tryz.isAgg9
  z9 := Tryz.sizeOf9
  v9 := Tryz.zeroValue9
  t20 := Tryz.underlying20
  a20 := Tryz.isAgg20
  z20 := Tryz.sizeOf20
  v20 := Tryz.zeroValue20
  t37 := Tryz.underlying151
  a37 := Tryz.isAgg151
  z37 := Tryz.sizeOf151
  v37 := Tryz.zeroValue151
  t46 := Tryz.underlying127
  a46 := Tryz.isAgg127
  z46 := Tryz.sizeOf127
  v46 := Tryz.zeroValue127
  t51 := Tryz.underlying176
  a51 := Tryz.isAgg176
  z51 := Tryz.sizeOf176
  v51 := Tryz.zeroValue176
  t53 := Tryz.underlying178
  a53 := Tryz.isAgg178
  z53 := Tryz.sizeOf178
  v53 := Tryz.zeroValue178
  t171 := Tryz.underlying195
  a171 := Tryz.isAgg195
  z171 := Tryz.sizeOf195
  v171 := Tryz.zeroValue195
  t173 := Tryz.underlying197
  a173 := Tryz.isAgg197
  z173 := Tryz.sizeOf197
  v173 := Tryz.zeroValue197
  t212 := Tryz.underlying215
  a212 := Tryz.isAgg215
  z212 := Tryz.sizeOf215
  v212 := Tryz.zeroValue215
  t213 := Tryz.underlying216
  a213 := Tryz.isAgg216
  z213 := Tryz.sizeOf216
  t232 := Tryz.underlying233
  a232 := Tryz.isAgg233
  z232 := Tryz.sizeOf233
  v232 := Tryz.zeroValue233
  t233 := Tryz.underlying234
  a233 := Tryz.isAgg234
  z233 := Tryz.sizeOf234
  v233 := Tryz.zeroValue234
  g17 := by kernel_rfl
  g18 := by kernel_rfl
  g19 := by kernel_rfl
  i0 := by kernel_rfl
  i2 := by kernel_rfl
  i3 := by kernel_rfl
  i4 := by kernel_rfl
  i5 := by kernel_rfl
  i9 := by kernel_rfl
  i20 := by kernel_rfl
  i37 := by kernel_rfl
  i46 := by kernel_rfl
  i51 := by kernel_rfl
  i53 := by kernel_rfl
  i171 := by kernel_rfl
  i173 := by kernel_rfl
  i212 := by kernel_rfl
  i232 := by kernel_rfl
  i233 := by kernel_rfl
  m17 := by kernel_rfl
  m18 := by kernel_rfl
  m19 := by kernel_rfl }
open Go.RowKit Go.Sort Go.Lib in
/-- strconv.Itoa: "Itoa is equivalent to FormatInt(int64(i), 10).": i's DECIMAL NUMERAL ('Lib.itoa': a '-' where i is negative, then the digits), FOR EVERY int. The world behind the call: the world before it, new blocks behind the heap (the library's 'var a [24]byte'), draws. (LAID: no walk: one application.) -/
theorem Tryz.strconv_Itoa (n : Int) (h0 : -9223372036854775808 ≤ n) (h1 : n ≤ 9223372036854775807) (w : World) (htab : Lib.TabIs Tryz.prog w "internal/strconv.uint64pow10" .u64 Lib.pow10Tab) :
    Calls Tryz.prog 186 #[.int .i64 n] w fun e w' => e = .returned (.string ⟨(Lib.itoa n).toArray⟩) ∧ ∃ k os, w' = grow (w.drewN k) os := Any.strconv_Itoa Tryz.laysM171 n h0 h1 w htab
def Tryz.lays171_ren : Go.Shelf.Ren := ⟨fun | 171 => 186 | 243 => 188 | 246 => 110 | 283 => 144 | 284 => 145 | 285 => 146 | 286 => 147 | 129 => 122 | 317 => 164 | 318 => 165 | 319 => 166 | 320 => 167 | 337 => 179 | 338 => 180 | n => n, fun | 3 => 3 | 9 => 9 | 2 => 2 | 4 => 4 | 171 => 195 | 0 => 0 | 53 => 178 | 37 => 151 | 5 => 5 | 173 => 197 | 212 => 215 | 51 => 176 | 20 => 20 | 213 => 216 | 46 => 127 | 232 => 233 | 233 => 234 | n => n, fun | 17 => 0 | 18 => 4 | 19 => 5 | n => n⟩
theorem Tryz.lays171 : Go.Proofs.Lays.n171 Tryz.prog Tryz.lays171_ren := {
  mixed := by kernel_rfl
  f129 := Tryz.func122.trans (congrArg some (by kernel_rfl))
  f171 := Tryz.func186.trans (congrArg some (by kernel_rfl))
  f243 := Tryz.func188.trans (congrArg some (by kernel_rfl))
  f246 := Tryz.func110.trans (congrArg some (by kernel_rfl))
  f283 := Tryz.func144.trans (congrArg some (by kernel_rfl))
  f284 := Tryz.func145.trans (congrArg some (by kernel_rfl))
  f285 := Tryz.func146.trans (congrArg some (by kernel_rfl))
  f286 := Tryz.func147.trans (congrArg some (by kernel_rfl))
  f317 := Tryz.func164.trans (congrArg some (by kernel_rfl))
  f318 := Tryz.func165.trans (congrArg some (by kernel_rfl))
  f319 := Tryz.func166.trans (congrArg some (by kernel_rfl))
  f320 := Tryz.func167.trans (congrArg some (by kernel_rfl))
  f337 := Tryz.func179.trans (congrArg some (by kernel_rfl))
  f338 := Tryz.func180.trans (congrArg some (by kernel_rfl))
  t0 := Tryz.underlying0
  a0 := Tryz.isAgg0
  z0 := Tryz.sizeOf0
  v0 := Tryz.zeroValue0
  t2 := Tryz.underlying2
  a2 := Tryz.isAgg2
  z2 := Tryz.sizeOf2
  v2 := Tryz.zeroValue2
  t3 := Tryz.underlying3
  a3 := Tryz.isAgg3
  z3 := Tryz.sizeOf3
  v3 := Tryz.zeroValue3
  t4 := Tryz.underlying4
  a4 := Tryz.isAgg4
  z4 := Tryz.sizeOf4
  v4 := Tryz.zeroValue4
  t5 := Tryz.underlying5
  a5 := Tryz.isAgg5
  z5 := Tryz.sizeOf5
  v5 := Tryz.zeroValue5
  t9 := Tryz.underlying9
  a9 := Tryz.isAgg9
  z9 := Tryz.sizeOf9
  v9 := Tryz.zeroValue9
  t20 := Tryz.underlying20
  a20 := Tryz.isAgg20
  z20 := Tryz.sizeOf20
  v20 := Tryz.zeroValue20
  t37 := Tryz.underlying151
  a37 := Tryz.isAgg151
  z37 := Tryz.sizeOf151
  v37 := Tryz.zeroValue151
  t46 := Tryz.underlying127
  a46 := Tryz.isAgg127
  z46 := Tryz.sizeOf127
  v46 := Tryz.zeroValue127
  t51 := Tryz.underlying176
  a51 := Tryz.isAgg176
  z51 := Tryz.sizeOf176
  v51 := Tryz.zeroValue176
  t53 := Tryz.underlying178
  a53 := Tryz.isAgg178
  z53 := Tryz.sizeOf178
  v53 := Tryz.zeroValue178
  t171 := Tryz.underlying195
  a171 := Tryz.isAgg195
  z171 := Tryz.sizeOf195
  v171 := Tryz.zeroValue195
  t173 := Tryz.underlying197
  a173 := Tryz.isAgg197
  z173 := Tryz.sizeOf197
  v173 := Tryz.zeroValue197
  t212 := Tryz.underlying215
  a212 := Tryz.isAgg215
  z212 := Tryz.sizeOf215
  v212 := Tryz.zeroValue215
  t213 := Tryz.underlying216
  a213 := Tryz.isAgg216
  z213 := Tryz.sizeOf216
  t232 := Tryz.underlying233
  a232 := Tryz.isAgg233
  z232 := Tryz.sizeOf233
  v232 := Tryz.zeroValue233
  t233 := Tryz.underlying234
  a233 := Tryz.isAgg234
  z233 := Tryz.sizeOf234
  v233 := Tryz.zeroValue234
  g17 := by kernel_rfl
  g18 := by kernel_rfl
  g19 := by kernel_rfl }
open Go.RowKit Go.Sort Go.Lib in
/-- THE ROAD WITHOUT THE TABLE: 0 <= i < 100: NO PREMISE ON THE WORLD, AND THE WORLD IS AS IT WAS: a row that keeps its argument in that range need list no table ('laid = []'). (LAID: no walk: one application.) -/
theorem Tryz.strconv_Itoa_small (i : Nat) (hi : i < 100) (w : World) :
    Calls Tryz.prog 186 #[.int .i64 i] w fun e w' => e = .returned (.string ⟨(Lib.decDigits i).toArray⟩) ∧ w' = w := Any.strconv_Itoa_small Tryz.lays171 i hi w
def Tryz.laysM173_ren : Go.Shelf.Ren := ⟨fun | 173 => 62 | 246 => 110 | 283 => 144 | 284 => 145 | 285 => 146 | 286 => 147 | 129 => 122 | 317 => 164 | 318 => 165 | 319 => 166 | 320 => 167 | 337 => 179 | 338 => 180 | n => n, fun | 2 => 2 | 3 => 3 | 9 => 9 | 4 => 4 | 171 => 195 | 0 => 0 | 53 => 178 | 37 => 151 | 5 => 5 | 173 => 197 | 212 => 215 | 51 => 176 | 20 => 20 | 213 => 216 | 46 => 127 | 232 => 233 | 233 => 234 | n => n, fun | 17 => 0 | 18 => 4 | 19 => 5 | n => n⟩
theorem Tryz.laysM173 : Go.Proofs.LaysM.n173 Tryz.prog Tryz.laysM173_ren := {
  mixed := by kernel_rfl
  f129 := Tryz.func122.trans (congrArg some (by kernel_rfl))
  f173 := Tryz.func62.trans (congrArg some (by kernel_rfl))
  f246 := Tryz.func110.trans (congrArg some (by kernel_rfl))
  f283 := Tryz.func144.trans (congrArg some (by kernel_rfl))
  f284 := Tryz.func145.trans (congrArg some (by kernel_rfl))
  f285 := Tryz.func146.trans (congrArg some (by kernel_rfl))
  f286 := Tryz.func147.trans (congrArg some (by kernel_rfl))
  f317 := Tryz.func164.trans (congrArg some (by kernel_rfl))
  f318 := Tryz.func165.trans (congrArg some (by kernel_rfl))
  f319 := Tryz.func166.trans (congrArg some (by kernel_rfl))
  f320 := Tryz.func167.trans (congrArg some (by kernel_rfl))
  f337 := Tryz.func179.trans (congrArg some (by kernel_rfl))
  f338 := Tryz.func180.trans (congrArg some (by kernel_rfl))
  t0 := Tryz.underlying0
  a0 := Tryz.isAgg0
  z0 := Tryz.sizeOf0
  v0 := Tryz.zeroValue0
  t2 := Tryz.underlying2
  a2 := Tryz.isAgg2
  z2 := Tryz.sizeOf2
  v2 := Tryz.zeroValue2
  t3 := Tryz.underlying3
  a3 := Tryz.isAgg3
  z3 := Tryz.sizeOf3
  v3 := Tryz.zeroValue3
  t4 := Tryz.underlying4
  a4 := Tryz.isAgg4
  z4 := Tryz.sizeOf4
  v4 := Tryz.zeroValue4
  t5 := Tryz.underlying5
  a5 := Tryz.isAgg5
  z5 := Tryz.sizeOf5
  v5 := Tryz.zeroValue5
  t9 := Tryz.underlying9
  a9 := Tryz.isAgg9
  z9 := Tryz.sizeOf9
  v9 := Tryz.zeroValue9
  t20 := Tryz.underlying20
  a20 := Tryz.isAgg20
  z20 := Tryz.sizeOf20
  v20 := Tryz.zeroValue20
  t37 := Tryz.underlying151
  a37 := Tryz.isAgg151
  z37 := Tryz.sizeOf151
  v37 := Tryz.zeroValue151
  t46 := Tryz.underlying127
  a46 := Tryz.isAgg127
  z46 := Tryz.sizeOf127
  v46 := Tryz.zeroValue127
  t51 := Tryz.underlying176
  a51 := Tryz.isAgg176
  z51 := Tryz.sizeOf176
  v51 := Tryz.zeroValue176
  t53 := Tryz.underlying178
  a53 := Tryz.isAgg178
  z53 := Tryz.sizeOf178
  v53 := Tryz.zeroValue178
  t171 := Tryz.underlying195
  a171 := Tryz.isAgg195
  z171 := Tryz.sizeOf195
  v171 := Tryz.zeroValue195
  t173 := Tryz.underlying197
  a173 := Tryz.isAgg197
  z173 := Tryz.sizeOf197
  v173 := Tryz.zeroValue197
  t212 := Tryz.underlying215
  a212 := Tryz.isAgg215
  z212 := Tryz.sizeOf215
  v212 := Tryz.zeroValue215
  t213 := Tryz.underlying216
  a213 := Tryz.isAgg216
  z213 := Tryz.sizeOf216
  t232 := Tryz.underlying233
  a232 := Tryz.isAgg233
  z232 := Tryz.sizeOf233
  v232 := Tryz.zeroValue233
  t233 := Tryz.underlying234
  a233 := Tryz.isAgg234
  z233 := Tryz.sizeOf234
  v233 := Tryz.zeroValue234
  g17 := by kernel_rfl
  g18 := by kernel_rfl
  g19 := by kernel_rfl
  i0 := by kernel_rfl
  i2 := by kernel_rfl
  i3 := by kernel_rfl
  i4 := by kernel_rfl
  i5 := by kernel_rfl
  i9 := by kernel_rfl
  i20 := by kernel_rfl
  i37 := by kernel_rfl
  i46 := by kernel_rfl
  i51 := by kernel_rfl
  i53 := by kernel_rfl
  i171 := by kernel_rfl
  i173 := by kernel_rfl
  i212 := by kernel_rfl
  i232 := by kernel_rfl
  i233 := by kernel_rfl
  m17 := by kernel_rfl
  m18 := by kernel_rfl
  m19 := by kernel_rfl }
open Go.RowKit Go.Sort Go.Lib in
/-- strconv.FormatInt: "FormatInt returns the string representation of i in the given base": AT BASE 10: i's decimal numeral, for every int64. (LAID: no walk: one application.) -/
theorem Tryz.strconv_FormatInt_10 (n : Int) (h0 : -9223372036854775808 ≤ n) (h1 : n ≤ 9223372036854775807) (w : World) (htab : Lib.TabIs Tryz.prog w "internal/strconv.uint64pow10" .u64 Lib.pow10Tab) :
    Calls Tryz.prog 62 #[.int .i64 n, .int .i64 10] w fun e w' => e = .returned (.string ⟨(Lib.itoa n).toArray⟩) ∧ ∃ k os, w' = grow (w.drewN k) os := Any.strconv_FormatInt_10 Tryz.laysM173 n h0 h1 w htab
def Tryz.lays173_ren : Go.Shelf.Ren := ⟨fun | 173 => 62 | 246 => 110 | 283 => 144 | 284 => 145 | 285 => 146 | 286 => 147 | 129 => 122 | 317 => 164 | 318 => 165 | 319 => 166 | 320 => 167 | 337 => 179 | 338 => 180 | n => n, fun | 2 => 2 | 3 => 3 | 9 => 9 | 4 => 4 | 171 => 195 | 0 => 0 | 53 => 178 | 37 => 151 | 5 => 5 | 173 => 197 | 212 => 215 | 51 => 176 | 20 => 20 | 213 => 216 | 46 => 127 | 232 => 233 | 233 => 234 | n => n, fun | 17 => 0 | 18 => 4 | 19 => 5 | n => n⟩
theorem Tryz.lays173 : Go.Proofs.Lays.n173 Tryz.prog Tryz.lays173_ren := {
  mixed := by kernel_rfl
  f129 := Tryz.func122.trans (congrArg some (by kernel_rfl))
  f173 := Tryz.func62.trans (congrArg some (by kernel_rfl))
  f246 := Tryz.func110.trans (congrArg some (by kernel_rfl))
  f283 := Tryz.func144.trans (congrArg some (by kernel_rfl))
  f284 := Tryz.func145.trans (congrArg some (by kernel_rfl))
  f285 := Tryz.func146.trans (congrArg some (by kernel_rfl))
  f286 := Tryz.func147.trans (congrArg some (by kernel_rfl))
  f317 := Tryz.func164.trans (congrArg some (by kernel_rfl))
  f318 := Tryz.func165.trans (congrArg some (by kernel_rfl))
  f319 := Tryz.func166.trans (congrArg some (by kernel_rfl))
  f320 := Tryz.func167.trans (congrArg some (by kernel_rfl))
  f337 := Tryz.func179.trans (congrArg some (by kernel_rfl))
  f338 := Tryz.func180.trans (congrArg some (by kernel_rfl))
  t0 := Tryz.underlying0
  a0 := Tryz.isAgg0
  z0 := Tryz.sizeOf0
  v0 := Tryz.zeroValue0
  t2 := Tryz.underlying2
  a2 := Tryz.isAgg2
  z2 := Tryz.sizeOf2
  v2 := Tryz.zeroValue2
  t3 := Tryz.underlying3
  a3 := Tryz.isAgg3
  z3 := Tryz.sizeOf3
  v3 := Tryz.zeroValue3
  t4 := Tryz.underlying4
  a4 := Tryz.isAgg4
  z4 := Tryz.sizeOf4
  v4 := Tryz.zeroValue4
  t5 := Tryz.underlying5
  a5 := Tryz.isAgg5
  z5 := Tryz.sizeOf5
  v5 := Tryz.zeroValue5
  t9 := Tryz.underlying9
  a9 := Tryz.isAgg9
  z9 := Tryz.sizeOf9
  v9 := Tryz.zeroValue9
  t20 := Tryz.underlying20
  a20 := Tryz.isAgg20
  z20 := Tryz.sizeOf20
  v20 := Tryz.zeroValue20
  t37 := Tryz.underlying151
  a37 := Tryz.isAgg151
  z37 := Tryz.sizeOf151
  v37 := Tryz.zeroValue151
  t46 := Tryz.underlying127
  a46 := Tryz.isAgg127
  z46 := Tryz.sizeOf127
  v46 := Tryz.zeroValue127
  t51 := Tryz.underlying176
  a51 := Tryz.isAgg176
  z51 := Tryz.sizeOf176
  v51 := Tryz.zeroValue176
  t53 := Tryz.underlying178
  a53 := Tryz.isAgg178
  z53 := Tryz.sizeOf178
  v53 := Tryz.zeroValue178
  t171 := Tryz.underlying195
  a171 := Tryz.isAgg195
  z171 := Tryz.sizeOf195
  v171 := Tryz.zeroValue195
  t173 := Tryz.underlying197
  a173 := Tryz.isAgg197
  z173 := Tryz.sizeOf197
  v173 := Tryz.zeroValue197
  t212 := Tryz.underlying215
  a212 := Tryz.isAgg215
  z212 := Tryz.sizeOf215
  v212 := Tryz.zeroValue215
  t213 := Tryz.underlying216
  a213 := Tryz.isAgg216
  z213 := Tryz.sizeOf216
  t232 := Tryz.underlying233
  a232 := Tryz.isAgg233
  z232 := Tryz.sizeOf233
  v232 := Tryz.zeroValue233
  t233 := Tryz.underlying234
  a233 := Tryz.isAgg234
  z233 := Tryz.sizeOf234
  v233 := Tryz.zeroValue234
  g17 := by kernel_rfl
  g18 := by kernel_rfl
  g19 := by kernel_rfl }
open Go.RowKit Go.Sort Go.Lib in
/-- THE ROAD WITHOUT THE TABLE: 0 <= i < 100. (LAID: no walk: one application.) -/
theorem Tryz.strconv_FormatInt_10_small (i : Nat) (hi : i < 100) (w : World) :
    Calls Tryz.prog 62 #[.int .i64 i, .int .i64 10] w fun e w' => e = .returned (.string ⟨(Lib.decDigits i).toArray⟩) ∧ w' = w := Any.strconv_FormatInt_10_small Tryz.lays173 i hi w
def Tryz.lays247_ren : Go.Shelf.Ren := ⟨fun | 247 => 158 | 287 => 173 | 321 => 182 | 322 => 183 | n => n, fun | 9 => 9 | 3 => 3 | 2 => 2 | 75 => 163 | 4 => 4 | 167 => 222 | 5 => 5 | 53 => 178 | 175 => 223 | 46 => 127 | 37 => 151 | 0 => 0 | 21 => 21 | 80 => 166 | n => n, fun | n => n⟩
theorem Tryz.lays247 : Go.Proofs.Lays.n247 Tryz.prog Tryz.lays247_ren := {
  mixed := by kernel_rfl
  f247 := Tryz.func158.trans (congrArg some (by kernel_rfl))
  f287 := Tryz.func173.trans (congrArg some (by kernel_rfl))
  f321 := Tryz.func182.trans (congrArg some (by kernel_rfl))
  f322 := Tryz.func183.trans (congrArg some (by kernel_rfl))
  t0 := Tryz.underlying0
  a0 := Tryz.isAgg0
  z0 := Tryz.sizeOf0
  v0 := Tryz.zeroValue0
  t2 := Tryz.underlying2
  a2 := Tryz.isAgg2
  z2 := Tryz.sizeOf2
  v2 := Tryz.zeroValue2
  t3 := Tryz.underlying3
  a3 := Tryz.isAgg3
  z3 := Tryz.sizeOf3
  v3 := Tryz.zeroValue3
  t4 := Tryz.underlying4
  a4 := Tryz.isAgg4
  z4 := Tryz.sizeOf4
  v4 := Tryz.zeroValue4
  t5 := Tryz.underlying5
  a5 := Tryz.isAgg5
  z5 := Tryz.sizeOf5
  v5 := Tryz.zeroValue5
  t9 := Tryz.underlying9
  a9 := Tryz.isAgg9
  z9 := Tryz.sizeOf9
  v9 := Tryz.zeroValue9
  t21 := Tryz.underlying21
  a21 := Tryz.isAgg21
  z21 := Tryz.sizeOf21
  v21 := Tryz.zeroValue21
  t37 := Tryz.underlying151
  a37 := Tryz.isAgg151
  z37 := Tryz.sizeOf151
  v37 := Tryz.zeroValue151
  t46 := Tryz.underlying127
  a46 := Tryz.isAgg127
  z46 := Tryz.sizeOf127
  v46 := Tryz.zeroValue127
  t53 := Tryz.underlying178
  a53 := Tryz.isAgg178
  z53 := Tryz.sizeOf178
  v53 := Tryz.zeroValue178
  t75 := Tryz.underlying163
  a75 := Tryz.isAgg163
  z75 := Tryz.sizeOf163
  v75 := Tryz.zeroValue163
  t167 := Tryz.underlying222
  a167 := Tryz.isAgg222
  z167 := Tryz.sizeOf222
  v167 := Tryz.zeroValue222
  t175 := Tryz.underlying223
  a175 := Tryz.isAgg223
  z175 := Tryz.sizeOf223
  v175 := Tryz.zeroValue223 }
open Go.RowKit in
/-- internal/strconv.ParseInt at "": 'if s == "" { return 0, ErrSyntax }'. The world is as it was. (LAID: no walk: one application.) -/
theorem Tryz.internal_strconv_ParseInt_empty (base bits : Int) (w : World) :
    Calls Tryz.prog 158 #[.string ⟨#[]⟩, .int .i64 base, .int .i64 bits] w fun e w' => e = .returned (.tuple #[.int .i64 0, (.iface 222 (.int .i64 2))]) ∧ w' = w := Any.internal_strconv_ParseInt_empty Tryz.lays247 base bits w
def Tryz.laysM316_ren : Go.Shelf.Ren := ⟨fun | 316 => 184 | n => n, fun | 9 => 9 | 3 => 3 | 4 => 4 | 37 => 151 | 0 => 0 | 127 => 193 | 5 => 5 | n => n, fun | n => n⟩
theorem Tryz.laysM316 : Go.Proofs.LaysM.n316 Tryz.prog Tryz.laysM316_ren := {
  mixed := by kernel_rfl
  f316 := Tryz.func184.trans (congrArg some (by kernel_rfl))
  t0 := Tryz.underlying0
  a0 := Tryz.isAgg0
  z0 := Tryz.sizeOf0
  v0 := Tryz.zeroValue0
  t3 := Tryz.underlying3
  a3 := Tryz.isAgg3
  z3 := Tryz.sizeOf3
  v3 := Tryz.zeroValue3
  t4 := Tryz.underlying4
  a4 := Tryz.isAgg4
  z4 := Tryz.sizeOf4
  v4 := Tryz.zeroValue4
  t9 := Tryz.underlying9
  a9 := Tryz.isAgg9
  z9 := Tryz.sizeOf9
  v9 := Tryz.zeroValue9
  t37 := Tryz.underlying151
  a37 := Tryz.isAgg151
  z37 := Tryz.sizeOf151
  v37 := Tryz.zeroValue151
  t127 := Tryz.underlying193
  a127 := Tryz.isAgg193
  z127 := Tryz.sizeOf193
  v127 := Tryz.zeroValue193
  t5 := Tryz.underlying5
  a5 := Tryz.isAgg5
  z5 := Tryz.sizeOf5
  v5 := Tryz.zeroValue5
  i0 := by kernel_rfl
  i3 := by kernel_rfl
  i4 := by kernel_rfl
  i5 := by kernel_rfl
  i9 := by kernel_rfl
  i37 := by kernel_rfl
  i127 := by kernel_rfl }
open Go.RowKit in
/-- internal/stringslite.Clone (what strings.Clone calls): "Clone returns a fresh copy of s.": THE SAME BYTES. Of what was there nothing has turned (a new row is laid, and frozen, where s is not empty). (LAID: no walk: one application.) -/
theorem Tryz.stringslite_Clone (s : ByteArray) (w : World) (hlim : s.size ≤ 281474976710656) :
    Calls Tryz.prog 184 #[.string s] w fun e w' => e = .returned (.string s) ∧ Below w.heap.size w w' := Any.stringslite_Clone Tryz.laysM316 s w hlim
def Tryz.laysM279_ren : Go.Shelf.Ren := ⟨fun | 279 => 174 | 316 => 184 | n => n, fun | 9 => 9 | 168 => 225 | 75 => 163 | 210 => 231 | 3 => 3 | 4 => 4 | 37 => 151 | 0 => 0 | 127 => 193 | 80 => 166 | 5 => 5 | n => n, fun | 15 => 2 | n => n⟩
theorem Tryz.laysM279 : Go.Proofs.LaysM.n279 Tryz.prog Tryz.laysM279_ren := {
  mixed := by kernel_rfl
  f279 := Tryz.func174.trans (congrArg some (by kernel_rfl))
  f316 := Tryz.func184.trans (congrArg some (by kernel_rfl))
  t0 := Tryz.underlying0
  a0 := Tryz.isAgg0
  z0 := Tryz.sizeOf0
  v0 := Tryz.zeroValue0
  t3 := Tryz.underlying3
  a3 := Tryz.isAgg3
  z3 := Tryz.sizeOf3
  v3 := Tryz.zeroValue3
  t4 := Tryz.underlying4
  a4 := Tryz.isAgg4
  z4 := Tryz.sizeOf4
  v4 := Tryz.zeroValue4
  t9 := Tryz.underlying9
  a9 := Tryz.isAgg9
  z9 := Tryz.sizeOf9
  v9 := Tryz.zeroValue9
  t37 := Tryz.underlying151
  a37 := Tryz.isAgg151
  z37 := Tryz.sizeOf151
  v37 := Tryz.zeroValue151
  t75 := Tryz.underlying163
  a75 := Tryz.isAgg163
  z75 := Tryz.sizeOf163
  v75 := Tryz.zeroValue163
  t127 := Tryz.underlying193
  a127 := Tryz.isAgg193
  z127 := Tryz.sizeOf193
  v127 := Tryz.zeroValue193
  t168 := Tryz.underlying225
  a168 := Tryz.isAgg225
  z168 := Tryz.sizeOf225
  v168 := Tryz.zeroValue225
  t210 := Tryz.underlying231
  a210 := Tryz.isAgg231
  z210 := Tryz.sizeOf231
  v210 := Tryz.zeroValue231
  g15 := by kernel_rfl
  t5 := Tryz.underlying5
  a5 := Tryz.isAgg5
  z5 := Tryz.sizeOf5
  v5 := Tryz.zeroValue5
  t80 := Tryz.underlying166
  a80 := Tryz.isAgg166
  z80 := Tryz.sizeOf166
  v80 := Tryz.zeroValue166
  i0 := by kernel_rfl
  i3 := by kernel_rfl
  i4 := by kernel_rfl
  i5 := by kernel_rfl
  i9 := by kernel_rfl
  i37 := by kernel_rfl
  i75 := by kernel_rfl
  i80 := by kernel_rfl
  i127 := by kernel_rfl
  i168 := by kernel_rfl
  i210 := by kernel_rfl
  m15 := by kernel_rfl }
open Go.RowKit in
/-- strconv.syntaxError: '&NumError{fn, stringslite.Clone(str), ErrSyntax}': A POINTER TO A NEW BLOCK that holds fn, str's bytes, and what the variable ErrSyntax holds. Of what was there nothing has turned. (LAID: no walk: one application.) -/
theorem Tryz.strconv_syntaxError (fn s : ByteArray) (ev : Value) (w : World) (hlim : s.size ≤ 281474976710656) (hv : w.cell? ⟨2, 0, none⟩ = some ev) (hev : ev = .nilIface ∨ ∃ te pe, ev = .iface te pe) :
    Calls Tryz.prog 174 #[.string fn, .string s] w fun e w' => ∃ N, e = .returned (.pointer (some ⟨N, 0, none⟩)) ∧ w.heap.size ≤ N ∧ w'.heap[N]? = some (.cells #[.string fn, .string s, ev] 231 (0, 0)) ∧ Below w.heap.size w w' := Any.strconv_syntaxError Tryz.laysM279 fn s ev w hlim hv hev
def Tryz.laysC245_ren : Go.Shelf.Ren := ⟨fun | 245 => 159 | 279 => 174 | 280 => 175 | 281 => 176 | 282 => 177 | 316 => 184 | 171 => 186 | 205 => 185 | 243 => 188 | 246 => 110 | 283 => 144 | 284 => 145 | 285 => 146 | 286 => 147 | 129 => 122 | 317 => 164 | 318 => 165 | 319 => 166 | 320 => 167 | 337 => 179 | 338 => 180 | n => n, fun | 9 => 9 | 3 => 3 | 75 => 163 | 167 => 222 | 4 => 4 | 168 => 225 | 210 => 231 | 37 => 151 | 0 => 0 | 127 => 193 | 145 => 237 | 143 => 235 | 2 => 2 | 171 => 195 | 53 => 178 | 5 => 5 | 173 => 197 | 212 => 215 | 51 => 176 | 20 => 20 | 213 => 216 | 46 => 127 | 232 => 233 | 233 => 234 | 80 => 166 | n => n, fun | 15 => 2 | 16 => 3 | 17 => 0 | 18 => 4 | 19 => 5 | n => n⟩
theorem Tryz.laysC245 : Go.Proofs.LaysC.n245 Tryz.prog Tryz.laysC245_ren := {
  mixed := by kernel_rfl
  f129 := Tryz.func122.trans (congrArg some (by kernel_rfl))
  f171 := Tryz.func186.trans (congrArg some (by kernel_rfl))
  f205 := Tryz.func185.trans (congrArg some (by kernel_rfl))
  f243 := Tryz.func188.trans (congrArg some (by kernel_rfl))
  f245 := Tryz.func159.trans (congrArg some (by kernel_rfl))
  f246 := Tryz.func110.trans (congrArg some (by kernel_rfl))
  f279 := Tryz.func174.trans (congrArg some (by kernel_rfl))
  f280 := Tryz.func175.trans (congrArg some (by kernel_rfl))
  f281 := Tryz.func176.trans (congrArg some (by kernel_rfl))
  f282 := Tryz.func177.trans (congrArg some (by kernel_rfl))
  f283 := Tryz.func144.trans (congrArg some (by kernel_rfl))
  f284 := Tryz.func145.trans (congrArg some (by kernel_rfl))
  f285 := Tryz.func146.trans (congrArg some (by kernel_rfl))
  f286 := Tryz.func147.trans (congrArg some (by kernel_rfl))
  f316 := Tryz.func184.trans (congrArg some (by kernel_rfl))
  f317 := Tryz.func164.trans (congrArg some (by kernel_rfl))
  f318 := Tryz.func165.trans (congrArg some (by kernel_rfl))
  f319 := Tryz.func166.trans (congrArg some (by kernel_rfl))
  f320 := Tryz.func167.trans (congrArg some (by kernel_rfl))
  f337 := Tryz.func179.trans (congrArg some (by kernel_rfl))
  f338 := Tryz.func180.trans (congrArg some (by kernel_rfl))
  t0 := Tryz.underlying0
  a0 := Tryz.isAgg0
  z0 := Tryz.sizeOf0
  v0 := Tryz.zeroValue0
  t2 := Tryz.underlying2
  a2 := Tryz.isAgg2
  z2 := Tryz.sizeOf2
  v2 := Tryz.zeroValue2
  t3 := Tryz.underlying3
  a3 := Tryz.isAgg3
  z3 := Tryz.sizeOf3
  v3 := Tryz.zeroValue3
  t4 := Tryz.underlying4
  a4 := Tryz.isAgg4
  z4 := Tryz.sizeOf4
  v4 := Tryz.zeroValue4
  t5 := Tryz.underlying5
  a5 := Tryz.isAgg5
  z5 := Tryz.sizeOf5
  v5 := Tryz.zeroValue5
  t9 := Tryz.underlying9
  a9 := Tryz.isAgg9
  z9 := Tryz.sizeOf9
  v9 := Tryz.zeroValue9
  t20 := Tryz.underlying20
  a20 := Tryz.isAgg20
  z20 := Tryz.sizeOf20
  v20 := Tryz.zeroValue20
  t37 := Tryz.underlying151
  a37 := Tryz.isAgg151
  z37 := Tryz.sizeOf151
  v37 := Tryz.zeroValue151
  t46 := Tryz.underlying127
  a46 := Tryz.isAgg127
  z46 := Tryz.sizeOf127
  v46 := Tryz.zeroValue127
  t51 := Tryz.underlying176
  a51 := Tryz.isAgg176
  z51 := Tryz.sizeOf176
  v51 := Tryz.zeroValue176
  t53 := Tryz.underlying178
  a53 := Tryz.isAgg178
  z53 := Tryz.sizeOf178
  v53 := Tryz.zeroValue178
  t75 := Tryz.underlying163
  a75 := Tryz.isAgg163
  z75 := Tryz.sizeOf163
  v75 := Tryz.zeroValue163
  t127 := Tryz.underlying193
  a127 := Tryz.isAgg193
  z127 := Tryz.sizeOf193
  v127 := Tryz.zeroValue193
  t143 := Tryz.underlying235
  a143 := Tryz.isAgg235
  z143 := Tryz.sizeOf235
  v143 := Tryz.zeroValue235
  t145 := Tryz.underlying237
  a145 := Tryz.isAgg237
  z145 := Tryz.sizeOf237
  v145 := Tryz.zeroValue237
  t167 := Tryz.underlying222
  a167 := Tryz.isAgg222
  z167 := Tryz.sizeOf222
  v167 := Tryz.zeroValue222
  t168 := Tryz.underlying225
  a168 := Tryz.isAgg225
  z168 := Tryz.sizeOf225
  v168 := Tryz.zeroValue225
  t171 := Tryz.underlying195
  a171 := Tryz.isAgg195
  z171 := Tryz.sizeOf195
  v171 := Tryz.zeroValue195
  t173 := Tryz.underlying197
  a173 := Tryz.isAgg197
  z173 := Tryz.sizeOf197
  v173 := Tryz.zeroValue197
  t210 := Tryz.underlying231
  a210 := Tryz.isAgg231
  z210 := Tryz.sizeOf231
  v210 := Tryz.zeroValue231
  t212 := Tryz.underlying215
  a212 := Tryz.isAgg215
  z212 := Tryz.sizeOf215
  v212 := Tryz.zeroValue215
  t213 := Tryz.underlying216
  a213 := Tryz.isAgg216
  z213 := Tryz.sizeOf216
  t232 := Tryz.underlying233
  a232 := Tryz.isAgg233
  z232 := Tryz.sizeOf233
  v232 := Tryz.zeroValue233
  t233 := Tryz.underlying234
  a233 := Tryz.isAgg234
  z233 := Tryz.sizeOf234
  v233 := Tryz.zeroValue234
  g15 := by kernel_rfl
  g16 := by kernel_rfl
  g17 := by kernel_rfl
  g18 := by kernel_rfl
  g19 := by kernel_rfl
  t80 := Tryz.underlying166
  a80 := Tryz.isAgg166
  z80 := Tryz.sizeOf166
  v80 := Tryz.zeroValue166
  i0 := by kernel_rfl
  i2 := by kernel_rfl
  i3 := by kernel_rfl
  i4 := by kernel_rfl
  i5 := by kernel_rfl
  i9 := by kernel_rfl
  i20 := by kernel_rfl
  i37 := by kernel_rfl
  i46 := by kernel_rfl
  i51 := by kernel_rfl
  i53 := by kernel_rfl
  i75 := by kernel_rfl
  i80 := by kernel_rfl
  i127 := by kernel_rfl
  i143 := by kernel_rfl
  i145 := by kernel_rfl
  i167 := by kernel_rfl
  i168 := by kernel_rfl
  i171 := by kernel_rfl
  i173 := by kernel_rfl
  i210 := by kernel_rfl
  i212 := by kernel_rfl
  i232 := by kernel_rfl
  i233 := by kernel_rfl
  m15 := by kernel_rfl
  m16 := by kernel_rfl
  m17 := by kernel_rfl
  m18 := by kernel_rfl
  m19 := by kernel_rfl
  c0 := by kernel_rfl
  c2 := by kernel_rfl
  c3 := by kernel_rfl
  c4 := by kernel_rfl
  c5 := by kernel_rfl
  c9 := by kernel_rfl
  c20 := by kernel_rfl
  c37 := by kernel_rfl
  c46 := by kernel_rfl
  c51 := by kernel_rfl
  c53 := by kernel_rfl
  c75 := by kernel_rfl
  c80 := by kernel_rfl
  c127 := by kernel_rfl
  c143 := by kernel_rfl
  c145 := by kernel_rfl
  c167 := by kernel_rfl
  c168 := by kernel_rfl
  c171 := by kernel_rfl
  c173 := by kernel_rfl
  c210 := by kernel_rfl
  c212 := by kernel_rfl
  c213 := by kernel_rfl
  c232 := by kernel_rfl
  c233 := by kernel_rfl }
open Go.RowKit in
/-- strconv.toError, at the inner package's ErrSyntax: 'syntaxError(fn, s)' as an error: A *NumError IN A NEW BLOCK. (LAID: no walk: one application.) -/
theorem Tryz.strconv_toError_syntax (fn s : ByteArray) (base bits : Int) (ev : Value) (w : World) (hlim : s.size ≤ 281474976710656) (hv : w.cell? ⟨2, 0, none⟩ = some ev) (hev : ev = .nilIface ∨ ∃ te pe, ev = .iface te pe) :
    Calls Tryz.prog 159 #[.string fn, .string s, .int .i64 base, .int .i64 bits, .iface 222 (.int .i64 2)] w fun e w' => ∃ N, e = .returned (.iface 225 (.pointer (some ⟨N, 0, none⟩))) ∧ w.heap.size ≤ N ∧ w'.heap[N]? = some (.cells #[.string fn, .string s, ev] 231 (0, 0)) ∧ Below w.heap.size w w' := Any.strconv_toError_syntax Tryz.laysC245 fn s base bits ev w hlim hv hev
def Tryz.lays321_ren : Go.Shelf.Ren := ⟨fun | 321 => 182 | n => n, fun | 5 => 5 | n => n, fun | n => n⟩
theorem Tryz.lays321 : Go.Proofs.Lays.n321 Tryz.prog Tryz.lays321_ren := {
  mixed := by kernel_rfl
  f321 := Tryz.func182.trans (congrArg some (by kernel_rfl))
  t5 := Tryz.underlying5
  a5 := Tryz.isAgg5
  z5 := Tryz.sizeOf5
  v5 := Tryz.zeroValue5 }
open Go.RowKit in
/-- internal/strconv.lower: 'c | ('x' - 'X')': the bit 32 set. The world is as it was. (LAID: no walk: one application.) -/
theorem Tryz.internal_strconv_lower (c : Int) (w : World) :
    Calls Tryz.prog 182 #[.int .u8 c] w fun e w' => e = .returned (.int .u8 (bits .or .u8 c 32)) ∧ w' = w := Any.internal_strconv_lower Tryz.lays321 c w
def Tryz.lays287_ren : Go.Shelf.Ren := ⟨fun | 287 => 173 | 321 => 182 | 322 => 183 | n => n, fun | 9 => 9 | 3 => 3 | 53 => 178 | 75 => 163 | 4 => 4 | 167 => 222 | 5 => 5 | 46 => 127 | 37 => 151 | 0 => 0 | 21 => 21 | 80 => 166 | n => n, fun | n => n⟩
theorem Tryz.lays287 : Go.Proofs.Lays.n287 Tryz.prog Tryz.lays287_ren := {
  mixed := by kernel_rfl
  f287 := Tryz.func173.trans (congrArg some (by kernel_rfl))
  f321 := Tryz.func182.trans (congrArg some (by kernel_rfl))
  f322 := Tryz.func183.trans (congrArg some (by kernel_rfl))
  t0 := Tryz.underlying0
  a0 := Tryz.isAgg0
  z0 := Tryz.sizeOf0
  v0 := Tryz.zeroValue0
  t3 := Tryz.underlying3
  a3 := Tryz.isAgg3
  z3 := Tryz.sizeOf3
  v3 := Tryz.zeroValue3
  t4 := Tryz.underlying4
  a4 := Tryz.isAgg4
  z4 := Tryz.sizeOf4
  v4 := Tryz.zeroValue4
  t5 := Tryz.underlying5
  a5 := Tryz.isAgg5
  z5 := Tryz.sizeOf5
  v5 := Tryz.zeroValue5
  t9 := Tryz.underlying9
  a9 := Tryz.isAgg9
  z9 := Tryz.sizeOf9
  v9 := Tryz.zeroValue9
  t21 := Tryz.underlying21
  a21 := Tryz.isAgg21
  z21 := Tryz.sizeOf21
  v21 := Tryz.zeroValue21
  t37 := Tryz.underlying151
  a37 := Tryz.isAgg151
  z37 := Tryz.sizeOf151
  v37 := Tryz.zeroValue151
  t46 := Tryz.underlying127
  a46 := Tryz.isAgg127
  z46 := Tryz.sizeOf127
  v46 := Tryz.zeroValue127
  t53 := Tryz.underlying178
  a53 := Tryz.isAgg178
  z53 := Tryz.sizeOf178
  v53 := Tryz.zeroValue178
  t75 := Tryz.underlying163
  a75 := Tryz.isAgg163
  z75 := Tryz.sizeOf163
  v75 := Tryz.zeroValue163
  t167 := Tryz.underlying222
  a167 := Tryz.isAgg222
  z167 := Tryz.sizeOf222
  v167 := Tryz.zeroValue222 }
open Go.RowKit in
/-- internal/strconv.ParseUint(s, 10, 0), s NOT EMPTY: 'Lib.parseUint10 0' OF ITS BYTES: the number; or (0, ErrSyntax); or (the greatest uint64, ErrRange). The world behind the call: the one new row that '[]byte(s)' lays. (LAID: no walk: one application.) -/
theorem Tryz.internal_strconv_ParseUint_10 (t : ByteArray) (hne : t.size ≠ 0) (hmax : t.size ≤ 9223372036854775806) (w : World) :
    Calls Tryz.prog 173 #[.string t, .int .i64 10, .int .i64 0] w fun e w' => e = .returned (Lib.uintTuple 222 (Lib.parseUint10 0 t.data.toList)) ∧ w' = Lib.bytesWorld w 5 t := Any.internal_strconv_ParseUint_10 Tryz.lays287 t hne hmax w
open Go.RowKit in
/-- internal/strconv.ParseUint("", 10, 0): (0, ErrSyntax). The world is as it was. (LAID: no walk: one application.) -/
theorem Tryz.internal_strconv_ParseUint_10_empty (w : World) :
    Calls Tryz.prog 173 #[.string ⟨#[]⟩, .int .i64 10, .int .i64 0] w fun e w' => e = .returned (Lib.uintTuple 222 .syntax) ∧ w' = w := Any.internal_strconv_ParseUint_10_empty Tryz.lays287 w
open Go.RowKit in
/-- internal/strconv.ParseUint(s, 10, 0): 'Lib.parseMag' OF ITS BYTES. The world: as it was (the empty string), or with the one new row that '[]byte(s)' lays. (LAID: no walk: one application.) -/
theorem Tryz.internal_strconv_ParseUint_10_any (t : ByteArray) (hmax : t.size ≤ 9223372036854775806) (w : World) :
    Calls Tryz.prog 173 #[.string t, .int .i64 10, .int .i64 0] w fun e w' => e = .returned (Lib.uintTuple 222 (Lib.parseMag t.data.toList)) ∧ (w' = w ∨ w' = Lib.bytesWorld w 5 t) := Any.internal_strconv_ParseUint_10_any Tryz.lays287 t hmax w
def Tryz.laysC247_ren : Go.Shelf.Ren := ⟨fun | 247 => 158 | 287 => 173 | 321 => 182 | 322 => 183 | n => n, fun | 9 => 9 | 3 => 3 | 2 => 2 | 75 => 163 | 4 => 4 | 167 => 222 | 5 => 5 | 53 => 178 | 175 => 223 | 46 => 127 | 37 => 151 | 0 => 0 | 21 => 21 | 80 => 166 | n => n, fun | n => n⟩
theorem Tryz.laysC247 : Go.Proofs.LaysC.n247 Tryz.prog Tryz.laysC247_ren := {
  mixed := by kernel_rfl
  f247 := Tryz.func158.trans (congrArg some (by kernel_rfl))
  f287 := Tryz.func173.trans (congrArg some (by kernel_rfl))
  f321 := Tryz.func182.trans (congrArg some (by kernel_rfl))
  f322 := Tryz.func183.trans (congrArg some (by kernel_rfl))
  t0 := Tryz.underlying0
  a0 := Tryz.isAgg0
  z0 := Tryz.sizeOf0
  v0 := Tryz.zeroValue0
  t2 := Tryz.underlying2
  a2 := Tryz.isAgg2
  z2 := Tryz.sizeOf2
  v2 := Tryz.zeroValue2
  t3 := Tryz.underlying3
  a3 := Tryz.isAgg3
  z3 := Tryz.sizeOf3
  v3 := Tryz.zeroValue3
  t4 := Tryz.underlying4
  a4 := Tryz.isAgg4
  z4 := Tryz.sizeOf4
  v4 := Tryz.zeroValue4
  t5 := Tryz.underlying5
  a5 := Tryz.isAgg5
  z5 := Tryz.sizeOf5
  v5 := Tryz.zeroValue5
  t9 := Tryz.underlying9
  a9 := Tryz.isAgg9
  z9 := Tryz.sizeOf9
  v9 := Tryz.zeroValue9
  t21 := Tryz.underlying21
  a21 := Tryz.isAgg21
  z21 := Tryz.sizeOf21
  v21 := Tryz.zeroValue21
  t37 := Tryz.underlying151
  a37 := Tryz.isAgg151
  z37 := Tryz.sizeOf151
  v37 := Tryz.zeroValue151
  t46 := Tryz.underlying127
  a46 := Tryz.isAgg127
  z46 := Tryz.sizeOf127
  v46 := Tryz.zeroValue127
  t53 := Tryz.underlying178
  a53 := Tryz.isAgg178
  z53 := Tryz.sizeOf178
  v53 := Tryz.zeroValue178
  t75 := Tryz.underlying163
  a75 := Tryz.isAgg163
  z75 := Tryz.sizeOf163
  v75 := Tryz.zeroValue163
  t167 := Tryz.underlying222
  a167 := Tryz.isAgg222
  z167 := Tryz.sizeOf222
  v167 := Tryz.zeroValue222
  t175 := Tryz.underlying223
  a175 := Tryz.isAgg223
  z175 := Tryz.sizeOf223
  v175 := Tryz.zeroValue223
  t80 := Tryz.underlying166
  a80 := Tryz.isAgg166
  z80 := Tryz.sizeOf166
  v80 := Tryz.zeroValue166
  i0 := by kernel_rfl
  i2 := by kernel_rfl
  i3 := by kernel_rfl
  i4 := by kernel_rfl
  i5 := by kernel_rfl
  i9 := by kernel_rfl
  i21 := by kernel_rfl
  i37 := by kernel_rfl
  i46 := by kernel_rfl
  i53 := by kernel_rfl
  i75 := by kernel_rfl
  i80 := by kernel_rfl
  i167 := by kernel_rfl
  i175 := by kernel_rfl
  c0 := by kernel_rfl
  c2 := by kernel_rfl
  c3 := by kernel_rfl
  c4 := by kernel_rfl
  c5 := by kernel_rfl
  c9 := by kernel_rfl
  c21 := by kernel_rfl
  c37 := by kernel_rfl
  c46 := by kernel_rfl
  c53 := by kernel_rfl
  c75 := by kernel_rfl
  c80 := by kernel_rfl
  c167 := by kernel_rfl
  c175 := by kernel_rfl }
open Go.RowKit in
/-- internal/strconv.ParseInt(s, 10, 0), s NOT EMPTY: 'Lib.atoiAll' OF ITS BYTES: (the number, nil); (0, ErrSyntax); (the greatest or the least int64 by the sign, ErrRange). The world: as it was, or with the one new row that '[]byte(..)' lays. (LAID: no walk: one application.) -/
theorem Tryz.internal_strconv_ParseInt_10 (s : ByteArray) (hne : s.size ≠ 0) (hmax : s.size ≤ 9223372036854775806) (w : World) :
    Calls Tryz.prog 158 #[.string s, .int .i64 10, .int .i64 0] w fun e w' => e = .returned (Lib.intTuple 222 (Lib.atoiSat s.data.toList) (Lib.atoiAll s.data.toList)) ∧ (w' = w ∨ ∃ t, w' = Lib.bytesWorld w 5 t) := Any.internal_strconv_ParseInt_10 Tryz.laysC247 s hne hmax w
def Tryz.laysM280_ren : Go.Shelf.Ren := ⟨fun | 280 => 175 | 316 => 184 | n => n, fun | 9 => 9 | 168 => 225 | 75 => 163 | 210 => 231 | 3 => 3 | 4 => 4 | 37 => 151 | 0 => 0 | 127 => 193 | 80 => 166 | 5 => 5 | n => n, fun | 16 => 3 | n => n⟩
theorem Tryz.laysM280 : Go.Proofs.LaysM.n280 Tryz.prog Tryz.laysM280_ren := {
  mixed := by kernel_rfl
  f280 := Tryz.func175.trans (congrArg some (by kernel_rfl))
  f316 := Tryz.func184.trans (congrArg some (by kernel_rfl))
  t0 := Tryz.underlying0
  a0 := Tryz.isAgg0
  z0 := Tryz.sizeOf0
  v0 := Tryz.zeroValue0
  t3 := Tryz.underlying3
  a3 := Tryz.isAgg3
  z3 := Tryz.sizeOf3
  v3 := Tryz.zeroValue3
  t4 := Tryz.underlying4
  a4 := Tryz.isAgg4
  z4 := Tryz.sizeOf4
  v4 := Tryz.zeroValue4
  t9 := Tryz.underlying9
  a9 := Tryz.isAgg9
  z9 := Tryz.sizeOf9
  v9 := Tryz.zeroValue9
  t37 := Tryz.underlying151
  a37 := Tryz.isAgg151
  z37 := Tryz.sizeOf151
  v37 := Tryz.zeroValue151
  t75 := Tryz.underlying163
  a75 := Tryz.isAgg163
  z75 := Tryz.sizeOf163
  v75 := Tryz.zeroValue163
  t127 := Tryz.underlying193
  a127 := Tryz.isAgg193
  z127 := Tryz.sizeOf193
  v127 := Tryz.zeroValue193
  t168 := Tryz.underlying225
  a168 := Tryz.isAgg225
  z168 := Tryz.sizeOf225
  v168 := Tryz.zeroValue225
  t210 := Tryz.underlying231
  a210 := Tryz.isAgg231
  z210 := Tryz.sizeOf231
  v210 := Tryz.zeroValue231
  g16 := by kernel_rfl
  t5 := Tryz.underlying5
  a5 := Tryz.isAgg5
  z5 := Tryz.sizeOf5
  v5 := Tryz.zeroValue5
  t80 := Tryz.underlying166
  a80 := Tryz.isAgg166
  z80 := Tryz.sizeOf166
  v80 := Tryz.zeroValue166
  i0 := by kernel_rfl
  i3 := by kernel_rfl
  i4 := by kernel_rfl
  i5 := by kernel_rfl
  i9 := by kernel_rfl
  i37 := by kernel_rfl
  i75 := by kernel_rfl
  i80 := by kernel_rfl
  i127 := by kernel_rfl
  i168 := by kernel_rfl
  i210 := by kernel_rfl
  m16 := by kernel_rfl }
open Go.RowKit in
/-- strconv.rangeError: '&NumError{fn, stringslite.Clone(str), ErrRange}': A POINTER TO A NEW BLOCK that holds fn, str's bytes, and what the variable ErrRange holds. Of what was there nothing has turned. (LAID: no walk: one application.) -/
theorem Tryz.strconv_rangeError (fn s : ByteArray) (ev : Value) (w : World) (hlim : s.size ≤ 281474976710656) (hv : w.cell? ⟨3, 0, none⟩ = some ev) (hev : ev = .nilIface ∨ ∃ te pe, ev = .iface te pe) :
    Calls Tryz.prog 175 #[.string fn, .string s] w fun e w' => ∃ N, e = .returned (.pointer (some ⟨N, 0, none⟩)) ∧ w.heap.size ≤ N ∧ w'.heap[N]? = some (.cells #[.string fn, .string s, ev] 231 (0, 0)) ∧ Below w.heap.size w w' := Any.strconv_rangeError Tryz.laysM280 fn s ev w hlim hv hev
open Go.RowKit in
/-- strconv.toError, at the inner package's ErrRange: 'rangeError(fn, s)' as an error: A *NumError IN A NEW BLOCK. (LAID: no walk: one application.) -/
theorem Tryz.strconv_toError_range (fn s : ByteArray) (base bits : Int) (ev : Value) (w : World) (hlim : s.size ≤ 281474976710656) (hv : w.cell? ⟨3, 0, none⟩ = some ev) (hev : ev = .nilIface ∨ ∃ te pe, ev = .iface te pe) :
    Calls Tryz.prog 159 #[.string fn, .string s, .int .i64 base, .int .i64 bits, .iface 222 (.int .i64 1)] w fun e w' => ∃ N, e = .returned (.iface 225 (.pointer (some ⟨N, 0, none⟩))) ∧ w.heap.size ≤ N ∧ w'.heap[N]? = some (.cells #[.string fn, .string s, ev] 231 (0, 0)) ∧ Below w.heap.size w w' := Any.strconv_toError_range Tryz.laysC245 fn s base bits ev w hlim hv hev
open Go.RowKit in
/-- internal/strconv.ParseUint("", base, bitSize): (0, ErrSyntax): the first test of the text. The world is as it was. (LAID: no walk: one application.) -/
theorem Tryz.internal_strconv_ParseUint_empty (base bits : Int) (w : World) :
    Calls Tryz.prog 173 #[.string ⟨#[]⟩, .int .i64 base, .int .i64 bits] w fun e w' => e = .returned (.tuple #[.int .u64 0, .iface 222 (.int .i64 2)]) ∧ w' = w := Any.internal_strconv_ParseUint_empty Tryz.lays287 base bits w
open Go.RowKit in
/-- internal/strconv.ParseUint(s, 10, 64), s NOT EMPTY: 'Lib.parseUint10 0' OF ITS BYTES: the number; or (0, ErrSyntax); or (the greatest uint64, ErrRange). The world behind the call: the one new row that '[]byte(s)' lays. (LAID: no walk: one application.) -/
theorem Tryz.internal_strconv_ParseUint_10_b64 (t : ByteArray) (hne : t.size ≠ 0) (hmax : t.size ≤ 9223372036854775806) (w : World) :
    Calls Tryz.prog 173 #[.string t, .int .i64 10, .int .i64 64] w fun e w' => e = .returned (Lib.uintTuple 222 (Lib.parseUint10 0 t.data.toList)) ∧ w' = Lib.bytesWorld w 5 t := Any.internal_strconv_ParseUint_10_b64 Tryz.lays287 t hne hmax w
open Go.RowKit in
/-- internal/strconv.ParseUint(s, 10, 32), s NOT EMPTY: 'Lib.parseUintM 4294967295 0' OF ITS BYTES: the number; or (0, ErrSyntax); or (the greatest uint32, ErrRange). The world behind the call: the one new row that '[]byte(s)' lays. (LAID: no walk: one application.) -/
theorem Tryz.internal_strconv_ParseUint_10_b32 (t : ByteArray) (hne : t.size ≠ 0) (hmax : t.size ≤ 9223372036854775806) (w : World) :
    Calls Tryz.prog 173 #[.string t, .int .i64 10, .int .i64 32] w fun e w' => e = .returned (Lib.uintTupleM 222 4294967295 (Lib.parseUintM 4294967295 0 t.data.toList)) ∧ w' = Lib.bytesWorld w 5 t := Any.internal_strconv_ParseUint_10_b32 Tryz.lays287 t hne hmax w
open Go.RowKit in
/-- internal/strconv.ParseUint(s, 10, 16), s NOT EMPTY: 'Lib.parseUintM 65535 0' OF ITS BYTES: the number; or (0, ErrSyntax); or (the greatest uint16, ErrRange). The world behind the call: the one new row that '[]byte(s)' lays. (LAID: no walk: one application.) -/
theorem Tryz.internal_strconv_ParseUint_10_b16 (t : ByteArray) (hne : t.size ≠ 0) (hmax : t.size ≤ 9223372036854775806) (w : World) :
    Calls Tryz.prog 173 #[.string t, .int .i64 10, .int .i64 16] w fun e w' => e = .returned (Lib.uintTupleM 222 65535 (Lib.parseUintM 65535 0 t.data.toList)) ∧ w' = Lib.bytesWorld w 5 t := Any.internal_strconv_ParseUint_10_b16 Tryz.lays287 t hne hmax w
open Go.RowKit in
/-- internal/strconv.ParseUint(s, 10, 8), s NOT EMPTY: 'Lib.parseUintM 255 0' OF ITS BYTES: the number; or (0, ErrSyntax); or (the greatest uint8, ErrRange). The world behind the call: the one new row that '[]byte(s)' lays. (LAID: no walk: one application.) -/
theorem Tryz.internal_strconv_ParseUint_10_b8 (t : ByteArray) (hne : t.size ≠ 0) (hmax : t.size ≤ 9223372036854775806) (w : World) :
    Calls Tryz.prog 173 #[.string t, .int .i64 10, .int .i64 8] w fun e w' => e = .returned (Lib.uintTupleM 222 255 (Lib.parseUintM 255 0 t.data.toList)) ∧ w' = Lib.bytesWorld w 5 t := Any.internal_strconv_ParseUint_10_b8 Tryz.lays287 t hne hmax w
open Go.RowKit in
/-- internal/strconv.ParseUint(s, 10, 0): 'Lib.parseUintB 64' OF ITS BYTES. The world: as it was (the empty string), or with the one new row that '[]byte(s)' lays. (LAID: no walk: one application.) -/
theorem Tryz.internal_strconv_ParseUint_10_at0 (t : ByteArray) (hmax : t.size ≤ 9223372036854775806) (w : World) :
    Calls Tryz.prog 173 #[.string t, .int .i64 10, .int .i64 0] w fun e w' => e = .returned (Lib.uintTupleM 222 18446744073709551615 (Lib.parseUintB 64 t.data.toList)) ∧ (w' = w ∨ w' = Lib.bytesWorld w 5 t) := Any.internal_strconv_ParseUint_10_at0 Tryz.lays287 t hmax w
open Go.RowKit in
/-- internal/strconv.ParseUint(s, 10, 64): 'Lib.parseUintB 64' OF ITS BYTES. The world: as it was (the empty string), or with the one new row that '[]byte(s)' lays. (LAID: no walk: one application.) -/
theorem Tryz.internal_strconv_ParseUint_10_at64 (t : ByteArray) (hmax : t.size ≤ 9223372036854775806) (w : World) :
    Calls Tryz.prog 173 #[.string t, .int .i64 10, .int .i64 64] w fun e w' => e = .returned (Lib.uintTupleM 222 18446744073709551615 (Lib.parseUintB 64 t.data.toList)) ∧ (w' = w ∨ w' = Lib.bytesWorld w 5 t) := Any.internal_strconv_ParseUint_10_at64 Tryz.lays287 t hmax w
open Go.RowKit in
/-- internal/strconv.ParseUint(s, 10, 32): 'Lib.parseUintB 32' OF ITS BYTES. The world: as it was (the empty string), or with the one new row that '[]byte(s)' lays. (LAID: no walk: one application.) -/
theorem Tryz.internal_strconv_ParseUint_10_at32 (t : ByteArray) (hmax : t.size ≤ 9223372036854775806) (w : World) :
    Calls Tryz.prog 173 #[.string t, .int .i64 10, .int .i64 32] w fun e w' => e = .returned (Lib.uintTupleM 222 4294967295 (Lib.parseUintB 32 t.data.toList)) ∧ (w' = w ∨ w' = Lib.bytesWorld w 5 t) := Any.internal_strconv_ParseUint_10_at32 Tryz.lays287 t hmax w
open Go.RowKit in
/-- internal/strconv.ParseUint(s, 10, 16): 'Lib.parseUintB 16' OF ITS BYTES. The world: as it was (the empty string), or with the one new row that '[]byte(s)' lays. (LAID: no walk: one application.) -/
theorem Tryz.internal_strconv_ParseUint_10_at16 (t : ByteArray) (hmax : t.size ≤ 9223372036854775806) (w : World) :
    Calls Tryz.prog 173 #[.string t, .int .i64 10, .int .i64 16] w fun e w' => e = .returned (Lib.uintTupleM 222 65535 (Lib.parseUintB 16 t.data.toList)) ∧ (w' = w ∨ w' = Lib.bytesWorld w 5 t) := Any.internal_strconv_ParseUint_10_at16 Tryz.lays287 t hmax w
open Go.RowKit in
/-- internal/strconv.ParseUint(s, 10, 8): 'Lib.parseUintB 8' OF ITS BYTES. The world: as it was (the empty string), or with the one new row that '[]byte(s)' lays. (LAID: no walk: one application.) -/
theorem Tryz.internal_strconv_ParseUint_10_at8 (t : ByteArray) (hmax : t.size ≤ 9223372036854775806) (w : World) :
    Calls Tryz.prog 173 #[.string t, .int .i64 10, .int .i64 8] w fun e w' => e = .returned (Lib.uintTupleM 222 255 (Lib.parseUintB 8 t.data.toList)) ∧ (w' = w ∨ w' = Lib.bytesWorld w 5 t) := Any.internal_strconv_ParseUint_10_at8 Tryz.lays287 t hmax w
open Go.RowKit in
/-- internal/strconv.ParseInt(s, 10, 64), s NOT EMPTY: 'Lib.parseIntB 64' OF ITS BYTES: (the number, nil); (0, ErrSyntax); (the greatest or the least int64 by the sign, ErrRange). The world: as it was, or with the one new row that '[]byte(..)' lays. (LAID: no walk: one application.) -/
theorem Tryz.internal_strconv_ParseInt_10_at64 (s : ByteArray) (hne : s.size ≠ 0) (hmax : s.size ≤ 9223372036854775806) (w : World) :
    Calls Tryz.prog 158 #[.string s, .int .i64 10, .int .i64 64] w fun e w' => e = .returned (Lib.intTuple 222 (Lib.intSat 64 s.data.toList) (Lib.parseIntB 64 s.data.toList)) ∧ (w' = w ∨ ∃ t, w' = Lib.bytesWorld w 5 t) := Any.internal_strconv_ParseInt_10_at64 Tryz.laysC247 s hne hmax w
open Go.RowKit in
/-- internal/strconv.ParseInt(s, 10, 32), s NOT EMPTY: 'Lib.parseIntB 32' OF ITS BYTES: (the number, nil); (0, ErrSyntax); (the greatest or the least int32 by the sign, ErrRange). The world: as it was, or with the one new row that '[]byte(..)' lays. (LAID: no walk: one application.) -/
theorem Tryz.internal_strconv_ParseInt_10_at32 (s : ByteArray) (hne : s.size ≠ 0) (hmax : s.size ≤ 9223372036854775806) (w : World) :
    Calls Tryz.prog 158 #[.string s, .int .i64 10, .int .i64 32] w fun e w' => e = .returned (Lib.intTuple 222 (Lib.intSat 32 s.data.toList) (Lib.parseIntB 32 s.data.toList)) ∧ (w' = w ∨ ∃ t, w' = Lib.bytesWorld w 5 t) := Any.internal_strconv_ParseInt_10_at32 Tryz.laysC247 s hne hmax w
open Go.RowKit in
/-- internal/strconv.ParseInt(s, 10, 16), s NOT EMPTY: 'Lib.parseIntB 16' OF ITS BYTES: (the number, nil); (0, ErrSyntax); (the greatest or the least int16 by the sign, ErrRange). The world: as it was, or with the one new row that '[]byte(..)' lays. (LAID: no walk: one application.) -/
theorem Tryz.internal_strconv_ParseInt_10_at16 (s : ByteArray) (hne : s.size ≠ 0) (hmax : s.size ≤ 9223372036854775806) (w : World) :
    Calls Tryz.prog 158 #[.string s, .int .i64 10, .int .i64 16] w fun e w' => e = .returned (Lib.intTuple 222 (Lib.intSat 16 s.data.toList) (Lib.parseIntB 16 s.data.toList)) ∧ (w' = w ∨ ∃ t, w' = Lib.bytesWorld w 5 t) := Any.internal_strconv_ParseInt_10_at16 Tryz.laysC247 s hne hmax w
open Go.RowKit in
/-- internal/strconv.ParseInt(s, 10, 8), s NOT EMPTY: 'Lib.parseIntB 8' OF ITS BYTES: (the number, nil); (0, ErrSyntax); (the greatest or the least int8 by the sign, ErrRange). The world: as it was, or with the one new row that '[]byte(..)' lays. (LAID: no walk: one application.) -/
theorem Tryz.internal_strconv_ParseInt_10_at8 (s : ByteArray) (hne : s.size ≠ 0) (hmax : s.size ≤ 9223372036854775806) (w : World) :
    Calls Tryz.prog 158 #[.string s, .int .i64 10, .int .i64 8] w fun e w' => e = .returned (Lib.intTuple 222 (Lib.intSat 8 s.data.toList) (Lib.parseIntB 8 s.data.toList)) ∧ (w' = w ∨ ∃ t, w' = Lib.bytesWorld w 5 t) := Any.internal_strconv_ParseInt_10_at8 Tryz.laysC247 s hne hmax w
open Go.RowKit in
/-- internal/strconv.ParseInt(s, 10, 0), AT EVERY STRING: 'Lib.parseIntB 64' OF ITS BYTES. (LAID: no walk: one application.) -/
theorem Tryz.internal_strconv_ParseInt_10_all0 (s : ByteArray) (hmax : s.size ≤ 9223372036854775806) (w : World) :
    Calls Tryz.prog 158 #[.string s, .int .i64 10, .int .i64 0] w fun e w' => e = .returned (Lib.intTuple 222 (Lib.intSat 64 s.data.toList) (Lib.parseIntB 64 s.data.toList)) ∧ (w' = w ∨ ∃ t, w' = Lib.bytesWorld w 5 t) := Any.internal_strconv_ParseInt_10_all0 Tryz.laysC247 s hmax w
open Go.RowKit in
/-- internal/strconv.ParseInt(s, 10, 64), AT EVERY STRING: 'Lib.parseIntB 64' OF ITS BYTES. (LAID: no walk: one application.) -/
theorem Tryz.internal_strconv_ParseInt_10_all64 (s : ByteArray) (hmax : s.size ≤ 9223372036854775806) (w : World) :
    Calls Tryz.prog 158 #[.string s, .int .i64 10, .int .i64 64] w fun e w' => e = .returned (Lib.intTuple 222 (Lib.intSat 64 s.data.toList) (Lib.parseIntB 64 s.data.toList)) ∧ (w' = w ∨ ∃ t, w' = Lib.bytesWorld w 5 t) := Any.internal_strconv_ParseInt_10_all64 Tryz.laysC247 s hmax w
open Go.RowKit in
/-- internal/strconv.ParseInt(s, 10, 32), AT EVERY STRING: 'Lib.parseIntB 32' OF ITS BYTES. (LAID: no walk: one application.) -/
theorem Tryz.internal_strconv_ParseInt_10_all32 (s : ByteArray) (hmax : s.size ≤ 9223372036854775806) (w : World) :
    Calls Tryz.prog 158 #[.string s, .int .i64 10, .int .i64 32] w fun e w' => e = .returned (Lib.intTuple 222 (Lib.intSat 32 s.data.toList) (Lib.parseIntB 32 s.data.toList)) ∧ (w' = w ∨ ∃ t, w' = Lib.bytesWorld w 5 t) := Any.internal_strconv_ParseInt_10_all32 Tryz.laysC247 s hmax w
open Go.RowKit in
/-- internal/strconv.ParseInt(s, 10, 16), AT EVERY STRING: 'Lib.parseIntB 16' OF ITS BYTES. (LAID: no walk: one application.) -/
theorem Tryz.internal_strconv_ParseInt_10_all16 (s : ByteArray) (hmax : s.size ≤ 9223372036854775806) (w : World) :
    Calls Tryz.prog 158 #[.string s, .int .i64 10, .int .i64 16] w fun e w' => e = .returned (Lib.intTuple 222 (Lib.intSat 16 s.data.toList) (Lib.parseIntB 16 s.data.toList)) ∧ (w' = w ∨ ∃ t, w' = Lib.bytesWorld w 5 t) := Any.internal_strconv_ParseInt_10_all16 Tryz.laysC247 s hmax w
open Go.RowKit in
/-- internal/strconv.ParseInt(s, 10, 8), AT EVERY STRING: 'Lib.parseIntB 8' OF ITS BYTES. (LAID: no walk: one application.) -/
theorem Tryz.internal_strconv_ParseInt_10_all8 (s : ByteArray) (hmax : s.size ≤ 9223372036854775806) (w : World) :
    Calls Tryz.prog 158 #[.string s, .int .i64 10, .int .i64 8] w fun e w' => e = .returned (Lib.intTuple 222 (Lib.intSat 8 s.data.toList) (Lib.parseIntB 8 s.data.toList)) ∧ (w' = w ∨ ∃ t, w' = Lib.bytesWorld w 5 t) := Any.internal_strconv_ParseInt_10_all8 Tryz.laysC247 s hmax w
def Tryz.laysC174_ren : Go.Shelf.Ren := ⟨fun | 174 => 136 | 247 => 158 | 245 => 159 | 287 => 173 | 279 => 174 | 280 => 175 | 281 => 176 | 282 => 177 | 321 => 182 | 322 => 183 | 316 => 184 | 171 => 186 | 205 => 185 | 243 => 188 | 246 => 110 | 283 => 144 | 284 => 145 | 285 => 146 | 286 => 147 | 129 => 122 | 317 => 164 | 318 => 165 | 319 => 166 | 320 => 167 | 337 => 179 | 338 => 180 | n => n, fun | 9 => 9 | 3 => 3 | 2 => 2 | 75 => 163 | 85 => 190 | 4 => 4 | 167 => 222 | 5 => 5 | 53 => 178 | 175 => 223 | 46 => 127 | 168 => 225 | 37 => 151 | 0 => 0 | 210 => 231 | 21 => 21 | 127 => 193 | 145 => 237 | 143 => 235 | 171 => 195 | 173 => 197 | 212 => 215 | 51 => 176 | 20 => 20 | 213 => 216 | 232 => 233 | 233 => 234 | 80 => 166 | n => n, fun | 15 => 2 | 16 => 3 | 17 => 0 | 18 => 4 | 19 => 5 | n => n⟩
theorem Tryz.laysC174 : Go.Proofs.LaysC.n174 Tryz.prog Tryz.laysC174_ren := {
  mixed := by kernel_rfl
  f129 := Tryz.func122.trans (congrArg some (by kernel_rfl))
  f171 := Tryz.func186.trans (congrArg some (by kernel_rfl))
  f174 := Tryz.func136.trans (congrArg some (by kernel_rfl))
  f205 := Tryz.func185.trans (congrArg some (by kernel_rfl))
  f243 := Tryz.func188.trans (congrArg some (by kernel_rfl))
  f245 := Tryz.func159.trans (congrArg some (by kernel_rfl))
  f246 := Tryz.func110.trans (congrArg some (by kernel_rfl))
  f247 := Tryz.func158.trans (congrArg some (by kernel_rfl))
  f279 := Tryz.func174.trans (congrArg some (by kernel_rfl))
  f280 := Tryz.func175.trans (congrArg some (by kernel_rfl))
  f281 := Tryz.func176.trans (congrArg some (by kernel_rfl))
  f282 := Tryz.func177.trans (congrArg some (by kernel_rfl))
  f283 := Tryz.func144.trans (congrArg some (by kernel_rfl))
  f284 := Tryz.func145.trans (congrArg some (by kernel_rfl))
  f285 := Tryz.func146.trans (congrArg some (by kernel_rfl))
  f286 := Tryz.func147.trans (congrArg some (by kernel_rfl))
  f287 := Tryz.func173.trans (congrArg some (by kernel_rfl))
  f316 := Tryz.func184.trans (congrArg some (by kernel_rfl))
  f317 := Tryz.func164.trans (congrArg some (by kernel_rfl))
  f318 := Tryz.func165.trans (congrArg some (by kernel_rfl))
  f319 := Tryz.func166.trans (congrArg some (by kernel_rfl))
  f320 := Tryz.func167.trans (congrArg some (by kernel_rfl))
  f321 := Tryz.func182.trans (congrArg some (by kernel_rfl))
  f322 := Tryz.func183.trans (congrArg some (by kernel_rfl))
  f337 := Tryz.func179.trans (congrArg some (by kernel_rfl))
  f338 := Tryz.func180.trans (congrArg some (by kernel_rfl))
  t0 := Tryz.underlying0
  a0 := Tryz.isAgg0
  z0 := Tryz.sizeOf0
  v0 := Tryz.zeroValue0
  t2 := Tryz.underlying2
  a2 := Tryz.isAgg2
  z2 := Tryz.sizeOf2
  v2 := Tryz.zeroValue2
  t3 := Tryz.underlying3
  a3 := Tryz.isAgg3
  z3 := Tryz.sizeOf3
  v3 := Tryz.zeroValue3
  t4 := Tryz.underlying4
  a4 := Tryz.isAgg4
  z4 := Tryz.sizeOf4
  v4 := Tryz.zeroValue4
  t5 := Tryz.underlying5
  a5 := Tryz.isAgg5
  z5 := Tryz.sizeOf5
  v5 := Tryz.zeroValue5
  t9 := Tryz.underlying9
  a9 := Tryz.isAgg9
  z9 := Tryz.sizeOf9
  v9 := Tryz.zeroValue9
  t20 := Tryz.underlying20
  a20 := Tryz.isAgg20
  z20 := Tryz.sizeOf20
  v20 := Tryz.zeroValue20
  t21 := Tryz.underlying21
  a21 := Tryz.isAgg21
  z21 := Tryz.sizeOf21
  v21 := Tryz.zeroValue21
  t37 := Tryz.underlying151
  a37 := Tryz.isAgg151
  z37 := Tryz.sizeOf151
  v37 := Tryz.zeroValue151
  t46 := Tryz.underlying127
  a46 := Tryz.isAgg127
  z46 := Tryz.sizeOf127
  v46 := Tryz.zeroValue127
  t51 := Tryz.underlying176
  a51 := Tryz.isAgg176
  z51 := Tryz.sizeOf176
  v51 := Tryz.zeroValue176
  t53 := Tryz.underlying178
  a53 := Tryz.isAgg178
  z53 := Tryz.sizeOf178
  v53 := Tryz.zeroValue178
  t75 := Tryz.underlying163
  a75 := Tryz.isAgg163
  z75 := Tryz.sizeOf163
  v75 := Tryz.zeroValue163
  t85 := Tryz.underlying190
  a85 := Tryz.isAgg190
  z85 := Tryz.sizeOf190
  v85 := Tryz.zeroValue190
  t127 := Tryz.underlying193
  a127 := Tryz.isAgg193
  z127 := Tryz.sizeOf193
  v127 := Tryz.zeroValue193
  t143 := Tryz.underlying235
  a143 := Tryz.isAgg235
  z143 := Tryz.sizeOf235
  v143 := Tryz.zeroValue235
  t145 := Tryz.underlying237
  a145 := Tryz.isAgg237
  z145 := Tryz.sizeOf237
  v145 := Tryz.zeroValue237
  t167 := Tryz.underlying222
  a167 := Tryz.isAgg222
  z167 := Tryz.sizeOf222
  v167 := Tryz.zeroValue222
  t168 := Tryz.underlying225
  a168 := Tryz.isAgg225
  z168 := Tryz.sizeOf225
  v168 := Tryz.zeroValue225
  t171 := Tryz.underlying195
  a171 := Tryz.isAgg195
  z171 := Tryz.sizeOf195
  v171 := Tryz.zeroValue195
  t173 := Tryz.underlying197
  a173 := Tryz.isAgg197
  z173 := Tryz.sizeOf197
  v173 := Tryz.zeroValue197
  t175 := Tryz.underlying223
  a175 := Tryz.isAgg223
  z175 := Tryz.sizeOf223
  v175 := Tryz.zeroValue223
  t210 := Tryz.underlying231
  a210 := Tryz.isAgg231
  z210 := Tryz.sizeOf231
  v210 := Tryz.zeroValue231
  t212 := Tryz.underlying215
  a212 := Tryz.isAgg215
  z212 := Tryz.sizeOf215
  v212 := Tryz.zeroValue215
  t213 := Tryz.underlying216
  a213 := Tryz.isAgg216
  z213 := Tryz.sizeOf216
  t232 := Tryz.underlying233
  a232 := Tryz.isAgg233
  z232 := Tryz.sizeOf233
  v232 := Tryz.zeroValue233
  t233 := Tryz.underlying234
  a233 := Tryz.isAgg234
  z233 := Tryz.sizeOf234
  v233 := Tryz.zeroValue234
  g15 := by kernel_rfl
  g16 := by kernel_rfl
  g17 := by kernel_rfl
  g18 := by kernel_rfl
  g19 := by kernel_rfl
  t80 := Tryz.underlying166
  a80 := Tryz.isAgg166
  z80 := Tryz.sizeOf166
  v80 := Tryz.zeroValue166
  i0 := by kernel_rfl
  i2 := by kernel_rfl
  i3 := by kernel_rfl
  i4 := by kernel_rfl
  i5 := by kernel_rfl
  i9 := by kernel_rfl
  i20 := by kernel_rfl
  i21 := by kernel_rfl
  i37 := by kernel_rfl
  i46 := by kernel_rfl
  i51 := by kernel_rfl
  i53 := by kernel_rfl
  i75 := by kernel_rfl
  i80 := by kernel_rfl
  i85 := by kernel_rfl
  i127 := by kernel_rfl
  i143 := by kernel_rfl
  i145 := by kernel_rfl
  i167 := by kernel_rfl
  i168 := by kernel_rfl
  i171 := by kernel_rfl
  i173 := by kernel_rfl
  i175 := by kernel_rfl
  i210 := by kernel_rfl
  i212 := by kernel_rfl
  i232 := by kernel_rfl
  i233 := by kernel_rfl
  m15 := by kernel_rfl
  m16 := by kernel_rfl
  m17 := by kernel_rfl
  m18 := by kernel_rfl
  m19 := by kernel_rfl
  c0 := by kernel_rfl
  c2 := by kernel_rfl
  c3 := by kernel_rfl
  c4 := by kernel_rfl
  c5 := by kernel_rfl
  c9 := by kernel_rfl
  c20 := by kernel_rfl
  c21 := by kernel_rfl
  c37 := by kernel_rfl
  c46 := by kernel_rfl
  c51 := by kernel_rfl
  c53 := by kernel_rfl
  c75 := by kernel_rfl
  c80 := by kernel_rfl
  c85 := by kernel_rfl
  c127 := by kernel_rfl
  c143 := by kernel_rfl
  c145 := by kernel_rfl
  c167 := by kernel_rfl
  c168 := by kernel_rfl
  c171 := by kernel_rfl
  c173 := by kernel_rfl
  c175 := by kernel_rfl
  c210 := by kernel_rfl
  c212 := by kernel_rfl
  c213 := by kernel_rfl
  c232 := by kernel_rfl
  c233 := by kernel_rfl }
open Go.RowKit in
/-- strconv.ParseInt(s, 10, 0), AT EVERY STRING THAT SPELLS AN int64 ('Lib.parseIntB 64 s.data.toList = .ok v'): v, AND NO ERROR. (LAID: no walk: one application.) -/
theorem Tryz.strconv_ParseInt_10_at0_ok (s : ByteArray) (hmax : s.size ≤ 9223372036854775806) (v : Int) (h : Lib.parseIntB 64 s.data.toList = .ok v) (w : World) :
    Calls Tryz.prog 136 #[.string s, .int .i64 10, .int .i64 0] w fun e w' => e = .returned (.tuple #[.int .i64 v, .nilIface]) ∧ (w' = w ∨ ∃ t, w' = Lib.bytesWorld w 5 t) := Any.strconv_ParseInt_10_at0_ok Tryz.laysC174 s hmax v h w
open Go.RowKit in
/-- strconv.ParseInt(s, 10, 0), AT EVERY STRING THAT IS NO DECIMAL NUMERAL: 0, AND AN ERROR THAT IS NOT nil: a *NumError in a new block N: {Func: "ParseInt", Num: s's bytes, Err: what the variable ErrSyntax holds}. Of what was there nothing has turned. (LAID: no walk: one application.) -/
theorem Tryz.strconv_ParseInt_10_at0_syntax (s : ByteArray) (hlim : s.size ≤ 281474976710656) (h : Lib.parseIntB 64 s.data.toList = .«syntax») (ev : Value) (w : World) (hv : w.cell? ⟨2, 0, none⟩ = some ev) (hev : ev = .nilIface ∨ ∃ te pe, ev = .iface te pe) :
    Calls Tryz.prog 136 #[.string s, .int .i64 10, .int .i64 0] w fun e w' => ∃ N, e = .returned (.tuple #[.int .i64 (0), .iface 225 (.pointer (some ⟨N, 0, none⟩))]) ∧ w.heap.size ≤ N ∧ w'.heap[N]? = some (.cells #[.string ⟨#[80, 97, 114, 115, 101, 73, 110, 116]⟩, .string s, ev] 231 (0, 0)) ∧ Below w.heap.size w w' := Any.strconv_ParseInt_10_at0_syntax Tryz.laysC174 s hlim h ev w hv hev
open Go.RowKit in
/-- strconv.ParseInt(s, 10, 0), AT EVERY NUMERAL THAT NO int64 HOLDS: THE GREATEST OR THE LEAST int64, BY THE SIGN ('Lib.intSat 64'), AND AN ERROR THAT IS NOT nil: a *NumError in a new block N: {Func: "ParseInt", Num: s's bytes, Err: what the variable ErrRange holds}. Of what was there nothing has turned. (LAID: no walk: one application.) -/
theorem Tryz.strconv_ParseInt_10_at0_range (s : ByteArray) (hlim : s.size ≤ 281474976710656) (h : Lib.parseIntB 64 s.data.toList = .range) (ev : Value) (w : World) (hv : w.cell? ⟨3, 0, none⟩ = some ev) (hev : ev = .nilIface ∨ ∃ te pe, ev = .iface te pe) :
    Calls Tryz.prog 136 #[.string s, .int .i64 10, .int .i64 0] w fun e w' => ∃ N, e = .returned (.tuple #[.int .i64 (Lib.intSat 64 s.data.toList), .iface 225 (.pointer (some ⟨N, 0, none⟩))]) ∧ w.heap.size ≤ N ∧ w'.heap[N]? = some (.cells #[.string ⟨#[80, 97, 114, 115, 101, 73, 110, 116]⟩, .string s, ev] 231 (0, 0)) ∧ Below w.heap.size w w' := Any.strconv_ParseInt_10_at0_range Tryz.laysC174 s hlim h ev w hv hev
open Go.RowKit in
/-- strconv.ParseInt(s, 10, 64), AT EVERY STRING THAT SPELLS AN int64 ('Lib.parseIntB 64 s.data.toList = .ok v'): v, AND NO ERROR. (LAID: no walk: one application.) -/
theorem Tryz.strconv_ParseInt_10_at64_ok (s : ByteArray) (hmax : s.size ≤ 9223372036854775806) (v : Int) (h : Lib.parseIntB 64 s.data.toList = .ok v) (w : World) :
    Calls Tryz.prog 136 #[.string s, .int .i64 10, .int .i64 64] w fun e w' => e = .returned (.tuple #[.int .i64 v, .nilIface]) ∧ (w' = w ∨ ∃ t, w' = Lib.bytesWorld w 5 t) := Any.strconv_ParseInt_10_at64_ok Tryz.laysC174 s hmax v h w
open Go.RowKit in
/-- strconv.ParseInt(s, 10, 64), AT EVERY STRING THAT IS NO DECIMAL NUMERAL: 0, AND AN ERROR THAT IS NOT nil: a *NumError in a new block N: {Func: "ParseInt", Num: s's bytes, Err: what the variable ErrSyntax holds}. Of what was there nothing has turned. (LAID: no walk: one application.) -/
theorem Tryz.strconv_ParseInt_10_at64_syntax (s : ByteArray) (hlim : s.size ≤ 281474976710656) (h : Lib.parseIntB 64 s.data.toList = .«syntax») (ev : Value) (w : World) (hv : w.cell? ⟨2, 0, none⟩ = some ev) (hev : ev = .nilIface ∨ ∃ te pe, ev = .iface te pe) :
    Calls Tryz.prog 136 #[.string s, .int .i64 10, .int .i64 64] w fun e w' => ∃ N, e = .returned (.tuple #[.int .i64 (0), .iface 225 (.pointer (some ⟨N, 0, none⟩))]) ∧ w.heap.size ≤ N ∧ w'.heap[N]? = some (.cells #[.string ⟨#[80, 97, 114, 115, 101, 73, 110, 116]⟩, .string s, ev] 231 (0, 0)) ∧ Below w.heap.size w w' := Any.strconv_ParseInt_10_at64_syntax Tryz.laysC174 s hlim h ev w hv hev
open Go.RowKit in
/-- strconv.ParseInt(s, 10, 64), AT EVERY NUMERAL THAT NO int64 HOLDS: THE GREATEST OR THE LEAST int64, BY THE SIGN ('Lib.intSat 64'), AND AN ERROR THAT IS NOT nil: a *NumError in a new block N: {Func: "ParseInt", Num: s's bytes, Err: what the variable ErrRange holds}. Of what was there nothing has turned. (LAID: no walk: one application.) -/
theorem Tryz.strconv_ParseInt_10_at64_range (s : ByteArray) (hlim : s.size ≤ 281474976710656) (h : Lib.parseIntB 64 s.data.toList = .range) (ev : Value) (w : World) (hv : w.cell? ⟨3, 0, none⟩ = some ev) (hev : ev = .nilIface ∨ ∃ te pe, ev = .iface te pe) :
    Calls Tryz.prog 136 #[.string s, .int .i64 10, .int .i64 64] w fun e w' => ∃ N, e = .returned (.tuple #[.int .i64 (Lib.intSat 64 s.data.toList), .iface 225 (.pointer (some ⟨N, 0, none⟩))]) ∧ w.heap.size ≤ N ∧ w'.heap[N]? = some (.cells #[.string ⟨#[80, 97, 114, 115, 101, 73, 110, 116]⟩, .string s, ev] 231 (0, 0)) ∧ Below w.heap.size w w' := Any.strconv_ParseInt_10_at64_range Tryz.laysC174 s hlim h ev w hv hev
open Go.RowKit in
/-- strconv.ParseInt(s, 10, 32), AT EVERY STRING THAT SPELLS AN int32 ('Lib.parseIntB 32 s.data.toList = .ok v'): v, AND NO ERROR. (LAID: no walk: one application.) -/
theorem Tryz.strconv_ParseInt_10_at32_ok (s : ByteArray) (hmax : s.size ≤ 9223372036854775806) (v : Int) (h : Lib.parseIntB 32 s.data.toList = .ok v) (w : World) :
    Calls Tryz.prog 136 #[.string s, .int .i64 10, .int .i64 32] w fun e w' => e = .returned (.tuple #[.int .i64 v, .nilIface]) ∧ (w' = w ∨ ∃ t, w' = Lib.bytesWorld w 5 t) := Any.strconv_ParseInt_10_at32_ok Tryz.laysC174 s hmax v h w
open Go.RowKit in
/-- strconv.ParseInt(s, 10, 32), AT EVERY STRING THAT IS NO DECIMAL NUMERAL: 0, AND AN ERROR THAT IS NOT nil: a *NumError in a new block N: {Func: "ParseInt", Num: s's bytes, Err: what the variable ErrSyntax holds}. Of what was there nothing has turned. (LAID: no walk: one application.) -/
theorem Tryz.strconv_ParseInt_10_at32_syntax (s : ByteArray) (hlim : s.size ≤ 281474976710656) (h : Lib.parseIntB 32 s.data.toList = .«syntax») (ev : Value) (w : World) (hv : w.cell? ⟨2, 0, none⟩ = some ev) (hev : ev = .nilIface ∨ ∃ te pe, ev = .iface te pe) :
    Calls Tryz.prog 136 #[.string s, .int .i64 10, .int .i64 32] w fun e w' => ∃ N, e = .returned (.tuple #[.int .i64 (0), .iface 225 (.pointer (some ⟨N, 0, none⟩))]) ∧ w.heap.size ≤ N ∧ w'.heap[N]? = some (.cells #[.string ⟨#[80, 97, 114, 115, 101, 73, 110, 116]⟩, .string s, ev] 231 (0, 0)) ∧ Below w.heap.size w w' := Any.strconv_ParseInt_10_at32_syntax Tryz.laysC174 s hlim h ev w hv hev
open Go.RowKit in
/-- strconv.ParseInt(s, 10, 32), AT EVERY NUMERAL THAT NO int32 HOLDS: THE GREATEST OR THE LEAST int32, BY THE SIGN ('Lib.intSat 32'), AND AN ERROR THAT IS NOT nil: a *NumError in a new block N: {Func: "ParseInt", Num: s's bytes, Err: what the variable ErrRange holds}. Of what was there nothing has turned. (LAID: no walk: one application.) -/
theorem Tryz.strconv_ParseInt_10_at32_range (s : ByteArray) (hlim : s.size ≤ 281474976710656) (h : Lib.parseIntB 32 s.data.toList = .range) (ev : Value) (w : World) (hv : w.cell? ⟨3, 0, none⟩ = some ev) (hev : ev = .nilIface ∨ ∃ te pe, ev = .iface te pe) :
    Calls Tryz.prog 136 #[.string s, .int .i64 10, .int .i64 32] w fun e w' => ∃ N, e = .returned (.tuple #[.int .i64 (Lib.intSat 32 s.data.toList), .iface 225 (.pointer (some ⟨N, 0, none⟩))]) ∧ w.heap.size ≤ N ∧ w'.heap[N]? = some (.cells #[.string ⟨#[80, 97, 114, 115, 101, 73, 110, 116]⟩, .string s, ev] 231 (0, 0)) ∧ Below w.heap.size w w' := Any.strconv_ParseInt_10_at32_range Tryz.laysC174 s hlim h ev w hv hev
open Go.RowKit in
/-- strconv.ParseInt(s, 10, 16), AT EVERY STRING THAT SPELLS AN int16 ('Lib.parseIntB 16 s.data.toList = .ok v'): v, AND NO ERROR. (LAID: no walk: one application.) -/
theorem Tryz.strconv_ParseInt_10_at16_ok (s : ByteArray) (hmax : s.size ≤ 9223372036854775806) (v : Int) (h : Lib.parseIntB 16 s.data.toList = .ok v) (w : World) :
    Calls Tryz.prog 136 #[.string s, .int .i64 10, .int .i64 16] w fun e w' => e = .returned (.tuple #[.int .i64 v, .nilIface]) ∧ (w' = w ∨ ∃ t, w' = Lib.bytesWorld w 5 t) := Any.strconv_ParseInt_10_at16_ok Tryz.laysC174 s hmax v h w
open Go.RowKit in
/-- strconv.ParseInt(s, 10, 16), AT EVERY STRING THAT IS NO DECIMAL NUMERAL: 0, AND AN ERROR THAT IS NOT nil: a *NumError in a new block N: {Func: "ParseInt", Num: s's bytes, Err: what the variable ErrSyntax holds}. Of what was there nothing has turned. (LAID: no walk: one application.) -/
theorem Tryz.strconv_ParseInt_10_at16_syntax (s : ByteArray) (hlim : s.size ≤ 281474976710656) (h : Lib.parseIntB 16 s.data.toList = .«syntax») (ev : Value) (w : World) (hv : w.cell? ⟨2, 0, none⟩ = some ev) (hev : ev = .nilIface ∨ ∃ te pe, ev = .iface te pe) :
    Calls Tryz.prog 136 #[.string s, .int .i64 10, .int .i64 16] w fun e w' => ∃ N, e = .returned (.tuple #[.int .i64 (0), .iface 225 (.pointer (some ⟨N, 0, none⟩))]) ∧ w.heap.size ≤ N ∧ w'.heap[N]? = some (.cells #[.string ⟨#[80, 97, 114, 115, 101, 73, 110, 116]⟩, .string s, ev] 231 (0, 0)) ∧ Below w.heap.size w w' := Any.strconv_ParseInt_10_at16_syntax Tryz.laysC174 s hlim h ev w hv hev
open Go.RowKit in
/-- strconv.ParseInt(s, 10, 16), AT EVERY NUMERAL THAT NO int16 HOLDS: THE GREATEST OR THE LEAST int16, BY THE SIGN ('Lib.intSat 16'), AND AN ERROR THAT IS NOT nil: a *NumError in a new block N: {Func: "ParseInt", Num: s's bytes, Err: what the variable ErrRange holds}. Of what was there nothing has turned. (LAID: no walk: one application.) -/
theorem Tryz.strconv_ParseInt_10_at16_range (s : ByteArray) (hlim : s.size ≤ 281474976710656) (h : Lib.parseIntB 16 s.data.toList = .range) (ev : Value) (w : World) (hv : w.cell? ⟨3, 0, none⟩ = some ev) (hev : ev = .nilIface ∨ ∃ te pe, ev = .iface te pe) :
    Calls Tryz.prog 136 #[.string s, .int .i64 10, .int .i64 16] w fun e w' => ∃ N, e = .returned (.tuple #[.int .i64 (Lib.intSat 16 s.data.toList), .iface 225 (.pointer (some ⟨N, 0, none⟩))]) ∧ w.heap.size ≤ N ∧ w'.heap[N]? = some (.cells #[.string ⟨#[80, 97, 114, 115, 101, 73, 110, 116]⟩, .string s, ev] 231 (0, 0)) ∧ Below w.heap.size w w' := Any.strconv_ParseInt_10_at16_range Tryz.laysC174 s hlim h ev w hv hev
open Go.RowKit in
/-- strconv.ParseInt(s, 10, 8), AT EVERY STRING THAT SPELLS AN int8 ('Lib.parseIntB 8 s.data.toList = .ok v'): v, AND NO ERROR. (LAID: no walk: one application.) -/
theorem Tryz.strconv_ParseInt_10_at8_ok (s : ByteArray) (hmax : s.size ≤ 9223372036854775806) (v : Int) (h : Lib.parseIntB 8 s.data.toList = .ok v) (w : World) :
    Calls Tryz.prog 136 #[.string s, .int .i64 10, .int .i64 8] w fun e w' => e = .returned (.tuple #[.int .i64 v, .nilIface]) ∧ (w' = w ∨ ∃ t, w' = Lib.bytesWorld w 5 t) := Any.strconv_ParseInt_10_at8_ok Tryz.laysC174 s hmax v h w
open Go.RowKit in
/-- strconv.ParseInt(s, 10, 8), AT EVERY STRING THAT IS NO DECIMAL NUMERAL: 0, AND AN ERROR THAT IS NOT nil: a *NumError in a new block N: {Func: "ParseInt", Num: s's bytes, Err: what the variable ErrSyntax holds}. Of what was there nothing has turned. (LAID: no walk: one application.) -/
theorem Tryz.strconv_ParseInt_10_at8_syntax (s : ByteArray) (hlim : s.size ≤ 281474976710656) (h : Lib.parseIntB 8 s.data.toList = .«syntax») (ev : Value) (w : World) (hv : w.cell? ⟨2, 0, none⟩ = some ev) (hev : ev = .nilIface ∨ ∃ te pe, ev = .iface te pe) :
    Calls Tryz.prog 136 #[.string s, .int .i64 10, .int .i64 8] w fun e w' => ∃ N, e = .returned (.tuple #[.int .i64 (0), .iface 225 (.pointer (some ⟨N, 0, none⟩))]) ∧ w.heap.size ≤ N ∧ w'.heap[N]? = some (.cells #[.string ⟨#[80, 97, 114, 115, 101, 73, 110, 116]⟩, .string s, ev] 231 (0, 0)) ∧ Below w.heap.size w w' := Any.strconv_ParseInt_10_at8_syntax Tryz.laysC174 s hlim h ev w hv hev
open Go.RowKit in
/-- strconv.ParseInt(s, 10, 8), AT EVERY NUMERAL THAT NO int8 HOLDS: THE GREATEST OR THE LEAST int8, BY THE SIGN ('Lib.intSat 8'), AND AN ERROR THAT IS NOT nil: a *NumError in a new block N: {Func: "ParseInt", Num: s's bytes, Err: what the variable ErrRange holds}. Of what was there nothing has turned. (LAID: no walk: one application.) -/
theorem Tryz.strconv_ParseInt_10_at8_range (s : ByteArray) (hlim : s.size ≤ 281474976710656) (h : Lib.parseIntB 8 s.data.toList = .range) (ev : Value) (w : World) (hv : w.cell? ⟨3, 0, none⟩ = some ev) (hev : ev = .nilIface ∨ ∃ te pe, ev = .iface te pe) :
    Calls Tryz.prog 136 #[.string s, .int .i64 10, .int .i64 8] w fun e w' => ∃ N, e = .returned (.tuple #[.int .i64 (Lib.intSat 8 s.data.toList), .iface 225 (.pointer (some ⟨N, 0, none⟩))]) ∧ w.heap.size ≤ N ∧ w'.heap[N]? = some (.cells #[.string ⟨#[80, 97, 114, 115, 101, 73, 110, 116]⟩, .string s, ev] 231 (0, 0)) ∧ Below w.heap.size w w' := Any.strconv_ParseInt_10_at8_range Tryz.laysC174 s hlim h ev w hv hev
open Go.RowKit in
theorem Tryz.strconv_ParseInt_10_at0_syntax_var (s : ByteArray) (hlim : s.size ≤ 281474976710656) (h : Lib.parseIntB 64 s.data.toList = .«syntax») (tp : TypeId) (p : Value) (w : World) (hvar : w.var? Tryz.prog "strconv.ErrSyntax" = some #[.iface tp p]) :
    Calls Tryz.prog 136 #[.string s, .int .i64 10, .int .i64 0] w fun e w' => ∃ N, e = .returned (.tuple #[.int .i64 (0), .iface 225 (.pointer (some ⟨N, 0, none⟩))]) ∧ w.heap.size ≤ N ∧ w'.heap[N]? = some (.cells #[.string ⟨#[80, 97, 114, 115, 101, 73, 110, 116]⟩, .string s, .iface tp p] 231 (0, 0)) ∧ Below w.heap.size w w' := Any.strconv_ParseInt_10_at0_syntax_var Tryz.laysC174 s hlim h tp p w hvar
open Go.RowKit in
theorem Tryz.strconv_ParseInt_10_at0_range_var (s : ByteArray) (hlim : s.size ≤ 281474976710656) (h : Lib.parseIntB 64 s.data.toList = .range) (tp : TypeId) (p : Value) (w : World) (hvar : w.var? Tryz.prog "strconv.ErrRange" = some #[.iface tp p]) :
    Calls Tryz.prog 136 #[.string s, .int .i64 10, .int .i64 0] w fun e w' => ∃ N, e = .returned (.tuple #[.int .i64 (Lib.intSat 64 s.data.toList), .iface 225 (.pointer (some ⟨N, 0, none⟩))]) ∧ w.heap.size ≤ N ∧ w'.heap[N]? = some (.cells #[.string ⟨#[80, 97, 114, 115, 101, 73, 110, 116]⟩, .string s, .iface tp p] 231 (0, 0)) ∧ Below w.heap.size w w' := Any.strconv_ParseInt_10_at0_range_var Tryz.laysC174 s hlim h tp p w hvar
open Go.RowKit in
theorem Tryz.strconv_ParseInt_10_at64_syntax_var (s : ByteArray) (hlim : s.size ≤ 281474976710656) (h : Lib.parseIntB 64 s.data.toList = .«syntax») (tp : TypeId) (p : Value) (w : World) (hvar : w.var? Tryz.prog "strconv.ErrSyntax" = some #[.iface tp p]) :
    Calls Tryz.prog 136 #[.string s, .int .i64 10, .int .i64 64] w fun e w' => ∃ N, e = .returned (.tuple #[.int .i64 (0), .iface 225 (.pointer (some ⟨N, 0, none⟩))]) ∧ w.heap.size ≤ N ∧ w'.heap[N]? = some (.cells #[.string ⟨#[80, 97, 114, 115, 101, 73, 110, 116]⟩, .string s, .iface tp p] 231 (0, 0)) ∧ Below w.heap.size w w' := Any.strconv_ParseInt_10_at64_syntax_var Tryz.laysC174 s hlim h tp p w hvar
open Go.RowKit in
theorem Tryz.strconv_ParseInt_10_at64_range_var (s : ByteArray) (hlim : s.size ≤ 281474976710656) (h : Lib.parseIntB 64 s.data.toList = .range) (tp : TypeId) (p : Value) (w : World) (hvar : w.var? Tryz.prog "strconv.ErrRange" = some #[.iface tp p]) :
    Calls Tryz.prog 136 #[.string s, .int .i64 10, .int .i64 64] w fun e w' => ∃ N, e = .returned (.tuple #[.int .i64 (Lib.intSat 64 s.data.toList), .iface 225 (.pointer (some ⟨N, 0, none⟩))]) ∧ w.heap.size ≤ N ∧ w'.heap[N]? = some (.cells #[.string ⟨#[80, 97, 114, 115, 101, 73, 110, 116]⟩, .string s, .iface tp p] 231 (0, 0)) ∧ Below w.heap.size w w' := Any.strconv_ParseInt_10_at64_range_var Tryz.laysC174 s hlim h tp p w hvar
open Go.RowKit in
theorem Tryz.strconv_ParseInt_10_at32_syntax_var (s : ByteArray) (hlim : s.size ≤ 281474976710656) (h : Lib.parseIntB 32 s.data.toList = .«syntax») (tp : TypeId) (p : Value) (w : World) (hvar : w.var? Tryz.prog "strconv.ErrSyntax" = some #[.iface tp p]) :
    Calls Tryz.prog 136 #[.string s, .int .i64 10, .int .i64 32] w fun e w' => ∃ N, e = .returned (.tuple #[.int .i64 (0), .iface 225 (.pointer (some ⟨N, 0, none⟩))]) ∧ w.heap.size ≤ N ∧ w'.heap[N]? = some (.cells #[.string ⟨#[80, 97, 114, 115, 101, 73, 110, 116]⟩, .string s, .iface tp p] 231 (0, 0)) ∧ Below w.heap.size w w' := Any.strconv_ParseInt_10_at32_syntax_var Tryz.laysC174 s hlim h tp p w hvar
open Go.RowKit in
theorem Tryz.strconv_ParseInt_10_at32_range_var (s : ByteArray) (hlim : s.size ≤ 281474976710656) (h : Lib.parseIntB 32 s.data.toList = .range) (tp : TypeId) (p : Value) (w : World) (hvar : w.var? Tryz.prog "strconv.ErrRange" = some #[.iface tp p]) :
    Calls Tryz.prog 136 #[.string s, .int .i64 10, .int .i64 32] w fun e w' => ∃ N, e = .returned (.tuple #[.int .i64 (Lib.intSat 32 s.data.toList), .iface 225 (.pointer (some ⟨N, 0, none⟩))]) ∧ w.heap.size ≤ N ∧ w'.heap[N]? = some (.cells #[.string ⟨#[80, 97, 114, 115, 101, 73, 110, 116]⟩, .string s, .iface tp p] 231 (0, 0)) ∧ Below w.heap.size w w' := Any.strconv_ParseInt_10_at32_range_var Tryz.laysC174 s hlim h tp p w hvar
open Go.RowKit in
theorem Tryz.strconv_ParseInt_10_at16_syntax_var (s : ByteArray) (hlim : s.size ≤ 281474976710656) (h : Lib.parseIntB 16 s.data.toList = .«syntax») (tp : TypeId) (p : Value) (w : World) (hvar : w.var? Tryz.prog "strconv.ErrSyntax" = some #[.iface tp p]) :
    Calls Tryz.prog 136 #[.string s, .int .i64 10, .int .i64 16] w fun e w' => ∃ N, e = .returned (.tuple #[.int .i64 (0), .iface 225 (.pointer (some ⟨N, 0, none⟩))]) ∧ w.heap.size ≤ N ∧ w'.heap[N]? = some (.cells #[.string ⟨#[80, 97, 114, 115, 101, 73, 110, 116]⟩, .string s, .iface tp p] 231 (0, 0)) ∧ Below w.heap.size w w' := Any.strconv_ParseInt_10_at16_syntax_var Tryz.laysC174 s hlim h tp p w hvar
open Go.RowKit in
theorem Tryz.strconv_ParseInt_10_at16_range_var (s : ByteArray) (hlim : s.size ≤ 281474976710656) (h : Lib.parseIntB 16 s.data.toList = .range) (tp : TypeId) (p : Value) (w : World) (hvar : w.var? Tryz.prog "strconv.ErrRange" = some #[.iface tp p]) :
    Calls Tryz.prog 136 #[.string s, .int .i64 10, .int .i64 16] w fun e w' => ∃ N, e = .returned (.tuple #[.int .i64 (Lib.intSat 16 s.data.toList), .iface 225 (.pointer (some ⟨N, 0, none⟩))]) ∧ w.heap.size ≤ N ∧ w'.heap[N]? = some (.cells #[.string ⟨#[80, 97, 114, 115, 101, 73, 110, 116]⟩, .string s, .iface tp p] 231 (0, 0)) ∧ Below w.heap.size w w' := Any.strconv_ParseInt_10_at16_range_var Tryz.laysC174 s hlim h tp p w hvar
open Go.RowKit in
theorem Tryz.strconv_ParseInt_10_at8_syntax_var (s : ByteArray) (hlim : s.size ≤ 281474976710656) (h : Lib.parseIntB 8 s.data.toList = .«syntax») (tp : TypeId) (p : Value) (w : World) (hvar : w.var? Tryz.prog "strconv.ErrSyntax" = some #[.iface tp p]) :
    Calls Tryz.prog 136 #[.string s, .int .i64 10, .int .i64 8] w fun e w' => ∃ N, e = .returned (.tuple #[.int .i64 (0), .iface 225 (.pointer (some ⟨N, 0, none⟩))]) ∧ w.heap.size ≤ N ∧ w'.heap[N]? = some (.cells #[.string ⟨#[80, 97, 114, 115, 101, 73, 110, 116]⟩, .string s, .iface tp p] 231 (0, 0)) ∧ Below w.heap.size w w' := Any.strconv_ParseInt_10_at8_syntax_var Tryz.laysC174 s hlim h tp p w hvar
open Go.RowKit in
theorem Tryz.strconv_ParseInt_10_at8_range_var (s : ByteArray) (hlim : s.size ≤ 281474976710656) (h : Lib.parseIntB 8 s.data.toList = .range) (tp : TypeId) (p : Value) (w : World) (hvar : w.var? Tryz.prog "strconv.ErrRange" = some #[.iface tp p]) :
    Calls Tryz.prog 136 #[.string s, .int .i64 10, .int .i64 8] w fun e w' => ∃ N, e = .returned (.tuple #[.int .i64 (Lib.intSat 8 s.data.toList), .iface 225 (.pointer (some ⟨N, 0, none⟩))]) ∧ w.heap.size ≤ N ∧ w'.heap[N]? = some (.cells #[.string ⟨#[80, 97, 114, 115, 101, 73, 110, 116]⟩, .string s, .iface tp p] 231 (0, 0)) ∧ Below w.heap.size w w' := Any.strconv_ParseInt_10_at8_range_var Tryz.laysC174 s hlim h tp p w hvar
def Tryz.lays217_ren : Go.Shelf.Ren := ⟨fun | 217 => 178 | 266 => 187 | n => n, fun | 9 => 9 | 5 => 5 | 3 => 3 | n => n, fun | n => n⟩
theorem Tryz.lays217 : Go.Proofs.Lays.n217 Tryz.prog Tryz.lays217_ren := {
  mixed := by kernel_rfl
  f217 := Tryz.func178.trans (congrArg some (by kernel_rfl))
  f266 := Tryz.func187.trans (congrArg some (by kernel_rfl))
  t3 := Tryz.underlying3
  a3 := Tryz.isAgg3
  z3 := Tryz.sizeOf3
  v3 := Tryz.zeroValue3
  t5 := Tryz.underlying5
  a5 := Tryz.isAgg5
  z5 := Tryz.sizeOf5
  v5 := Tryz.zeroValue5
  t9 := Tryz.underlying9
  a9 := Tryz.isAgg9
  z9 := Tryz.sizeOf9
  v9 := Tryz.zeroValue9 }
open Go.RowKit Go.Lib in
/-- internal/stringslite.IndexByte (what strings.IndexByte calls): IT RETURNS 'Lib.indexByte s c'; the world is as it was. (LAID: no walk: one application.) -/
theorem Tryz.stringslite_IndexByte (s : ByteArray) (c : Int) (w : World) :
    Calls Tryz.prog 178 #[.string s, .int .u8 c] w fun e w' => e = .returned (.int .i64 (Lib.indexByte s.data.toList c.toNat.toUInt8)) ∧ w' = w := Any.stringslite_IndexByte Tryz.lays217 s c w
def Tryz.lays190_ren : Go.Shelf.Ren := ⟨fun | 190 => 37 | 125 => 77 | 258 => 76 | 128 => 121 | 129 => 122 | 302 => 112 | 303 => 113 | 304 => 114 | 305 => 115 | 306 => 116 | 307 => 117 | 308 => 118 | 309 => 119 | 310 => 120 | 333 => 148 | 329 => 149 | 330 => 150 | 334 => 151 | 335 => 152 | 336 => 153 | 344 => 168 | n => n, fun | 31 => 23 | 9 => 9 | 3 => 3 | 46 => 127 | 0 => 0 | 51 => 176 | 53 => 178 | 4 => 4 | 183 => 170 | 182 => 169 | 131 => 43 | 5 => 5 | 218 => 199 | 222 => 203 | 228 => 218 | 229 => 219 | n => n, fun | n => n⟩
theorem Tryz.lays190 : Go.Proofs.Lays.n190 Tryz.prog Tryz.lays190_ren := {
  mixed := by kernel_rfl
  f125 := Tryz.func77.trans (congrArg some (by kernel_rfl))
  f128 := Tryz.func121.trans (congrArg some (by kernel_rfl))
  f129 := Tryz.func122.trans (congrArg some (by kernel_rfl))
  f190 := Tryz.func37.trans (congrArg some (by kernel_rfl))
  f258 := Tryz.func76.trans (congrArg some (by kernel_rfl))
  f302 := Tryz.func112.trans (congrArg some (by kernel_rfl))
  f303 := Tryz.func113.trans (congrArg some (by kernel_rfl))
  f304 := Tryz.func114.trans (congrArg some (by kernel_rfl))
  f305 := Tryz.func115.trans (congrArg some (by kernel_rfl))
  f306 := Tryz.func116.trans (congrArg some (by kernel_rfl))
  f307 := Tryz.func117.trans (congrArg some (by kernel_rfl))
  f308 := Tryz.func118.trans (congrArg some (by kernel_rfl))
  f309 := Tryz.func119.trans (congrArg some (by kernel_rfl))
  f310 := Tryz.func120.trans (congrArg some (by kernel_rfl))
  f329 := Tryz.func149.trans (congrArg some (by kernel_rfl))
  f330 := Tryz.func150.trans (congrArg some (by kernel_rfl))
  f333 := Tryz.func148.trans (congrArg some (by kernel_rfl))
  f334 := Tryz.func151.trans (congrArg some (by kernel_rfl))
  f335 := Tryz.func152.trans (congrArg some (by kernel_rfl))
  f336 := Tryz.func153.trans (congrArg some (by kernel_rfl))
  f344 := Tryz.func168.trans (congrArg some (by kernel_rfl))
  t0 := Tryz.underlying0
  a0 := Tryz.isAgg0
  z0 := Tryz.sizeOf0
  v0 := Tryz.zeroValue0
  t3 := Tryz.underlying3
  a3 := Tryz.isAgg3
  z3 := Tryz.sizeOf3
  v3 := Tryz.zeroValue3
  t4 := Tryz.underlying4
  a4 := Tryz.isAgg4
  z4 := Tryz.sizeOf4
  v4 := Tryz.zeroValue4
  t5 := Tryz.underlying5
  a5 := Tryz.isAgg5
  z5 := Tryz.sizeOf5
  v5 := Tryz.zeroValue5
  t9 := Tryz.underlying9
  a9 := Tryz.isAgg9
  z9 := Tryz.sizeOf9
  v9 := Tryz.zeroValue9
  t31 := Tryz.underlying23
  a31 := Tryz.isAgg23
  z31 := Tryz.sizeOf23
  v31 := Tryz.zeroValue23
  t46 := Tryz.underlying127
  a46 := Tryz.isAgg127
  z46 := Tryz.sizeOf127
  v46 := Tryz.zeroValue127
  t51 := Tryz.underlying176
  a51 := Tryz.isAgg176
  z51 := Tryz.sizeOf176
  v51 := Tryz.zeroValue176
  t53 := Tryz.underlying178
  a53 := Tryz.isAgg178
  z53 := Tryz.sizeOf178
  v53 := Tryz.zeroValue178
  t131 := Tryz.underlying43
  a131 := Tryz.isAgg43
  z131 := Tryz.sizeOf43
  v131 := Tryz.zeroValue43
  t182 := Tryz.underlying169
  a182 := Tryz.isAgg169
  z182 := Tryz.sizeOf169
  v182 := Tryz.zeroValue169
  t183 := Tryz.underlying170
  a183 := Tryz.isAgg170
  z183 := Tryz.sizeOf170
  v183 := Tryz.zeroValue170
  t218 := Tryz.underlying199
  a218 := Tryz.isAgg199
  z218 := Tryz.sizeOf199
  v218 := Tryz.zeroValue199
  t222 := Tryz.underlying203
  a222 := Tryz.isAgg203
  z222 := Tryz.sizeOf203
  v222 := Tryz.zeroValue203
  t228 := Tryz.underlying218
  a228 := Tryz.isAgg218
  z228 := Tryz.sizeOf218
  v228 := Tryz.zeroValue218
  t229 := Tryz.underlying219
  a229 := Tryz.isAgg219
  z229 := Tryz.sizeOf219
  v229 := Tryz.zeroValue219 }
open Go.Sort Go.RowKit in
theorem Tryz.slices_Sort_string (blk off cap : Nat) (ss : List (List UInt8)) (w : World) (hH : Holds encStr w blk off ss.toArray) (hblk : blk < w.heap.size) (hsz : ss.length < 4611686018427387904) :
    Calls Tryz.prog 37 #[.slice (some ⟨blk, off, none⟩) ss.length cap] w fun e w' =>
      e = .returned (.tuple #[]) ∧ ∃ n os, w' = grow (putRow encStr (Sort.ahead w n) blk off (ss.mergeSort fun x y => decide (x ≤ y)).toArray) os := Any.slices_Sort_string Tryz.lays190 blk off cap ss w hH hblk hsz
def Tryz.lays194_ren : Go.Shelf.Ren := ⟨fun | 194 => 38 | n => n, fun | 31 => 23 | 9 => 9 | 3 => 3 | 4 => 4 | 0 => 0 | n => n, fun | n => n⟩
theorem Tryz.lays194 : Go.Proofs.Lays.n194 Tryz.prog Tryz.lays194_ren := {
  mixed := by kernel_rfl
  f194 := Tryz.func38.trans (congrArg some (by kernel_rfl))
  t0 := Tryz.underlying0
  a0 := Tryz.isAgg0
  z0 := Tryz.sizeOf0
  v0 := Tryz.zeroValue0
  t3 := Tryz.underlying3
  a3 := Tryz.isAgg3
  z3 := Tryz.sizeOf3
  v3 := Tryz.zeroValue3
  t4 := Tryz.underlying4
  a4 := Tryz.isAgg4
  z4 := Tryz.sizeOf4
  v4 := Tryz.zeroValue4
  t9 := Tryz.underlying9
  a9 := Tryz.isAgg9
  z9 := Tryz.sizeOf9
  v9 := Tryz.zeroValue9
  t31 := Tryz.underlying23
  a31 := Tryz.isAgg23
  z31 := Tryz.sizeOf23
  v31 := Tryz.zeroValue23 }
open Go.RowKit Go.Lib Go.Sort in
/-- slices.Compact at []string, over an array: the library's two loops are walked. (LAID: no walk: one application.) -/
theorem Tryz.slices_Compact_string_arr (blk off cap : Nat) (d : Array (List UInt8)) (w : World) (hH : Holds encStr w blk off d) (hsz : d.size ≤ 9223372036854775807) (hcap : d.size ≤ cap) :
    Calls Tryz.prog 38 #[.slice (some ⟨blk, off, none⟩) d.size cap] w fun e w' => e = .returned (.slice (some ⟨blk, off, none⟩) (compactUpTo d d.size).length cap) ∧ ∃ q, w' = putRow encStr (Sort.ahead w q) blk off (compactUpTo d d.size ++ List.replicate (d.size - (compactUpTo d d.size).length) []).toArray := Any.slices_Compact_string_arr Tryz.lays194 blk off cap d w hH hsz hcap
open Go.RowKit Go.Lib Go.Sort in
/-- slices.Compact at []string: "Compact replaces consecutive runs of equal elements with a single copy. This is like the uniq command found on Unix. Compact modifies the contents of the slice s and returns the modified slice, which may have a smaller length. Compact zeroes the elements between the new length and the original length. The result preserves the nilness of s.": IT RETURNS THE SLICE CUT TO 'Lib.compact zs'; ITS CELLS HOLD 'Lib.compact zs', THEN ZERO VALUES up to the old length; all else is as it was, but for the count of draws. IN THE WORDS OF slices.Sort's CONTRACT ('Holds', 'putRow'): so the everyday 'slices.Sort(xs); xs = slices.Compact(xs)' goes from the one contract to the other. It asks 'zs.length ≤ cap' (every slice's: the reslicing 's[:k]' looks at it). Length 0, nil: '.._empty'. (LAID: no walk: one application.) -/
theorem Tryz.slices_Compact_string (blk off cap : Nat) (zs : List (List UInt8)) (w : World) (hH : Holds encStr w blk off zs.toArray) (hsz : zs.length ≤ 9223372036854775807) (hcap : zs.length ≤ cap) :
    Calls Tryz.prog 38 #[.slice (some ⟨blk, off, none⟩) zs.length cap] w fun e w' => e = .returned (.slice (some ⟨blk, off, none⟩) (Lib.compact zs).length cap) ∧ ∃ q, w' = putRow encStr (Sort.ahead w q) blk off (Lib.compact zs ++ List.replicate (zs.length - (Lib.compact zs).length) []).toArray := Any.slices_Compact_string Tryz.lays194 blk off cap zs w hH hsz hcap
open Go.RowKit Go.Lib Go.Sort in
/-- The same at a slice of length 0, a nil one too: it comes back as it is. (LAID: no walk: one application.) -/
theorem Tryz.slices_Compact_string_empty (a : Option Addr) (cap : Nat) (w : World) :
    Calls Tryz.prog 38 #[.slice a 0 cap] w fun e w' => e = .returned (.slice a 0 cap) ∧ w' = w := Any.slices_Compact_string_empty Tryz.lays194 a cap w
open Go.RowKit Go.Sort in
/-- .. and plain. (LAID: no walk: one application.) -/
theorem Tryz.slices_Sort_string_none (p : Option Addr) (cap : Nat) (w : World) :
    Calls Tryz.prog 37 #[.slice p 0 cap] w fun e w' => e = .returned (.tuple #[]) ∧ w' = w := Any.slices_Sort_string_none Tryz.lays190 p cap w
end Go.Proofs
/-
  sexp.Print: what it writes.
-/
namespace Go.Proofs.YtjhkihkiebnpaaaGreatDoor
open Go.RowKit
set_option linter.unusedVariables false
set_option linter.unusedSimpArgs false
theorem ok_text2 {k n : Int} {s : ByteArray} (hok : V.okB ⟨k, n, s⟩ = true) (hk : (k == 1) = false) : (k == 2) = true ∧ s.size ≤ 40 := by
  unfold V.okB at hok
  rw [show ((V.mk k n s).k == 1) = false from hk, Bool.false_and, Bool.false_or] at hok
  simp only [Bool.and_eq_true, decide_eq_true_eq] at hok
  exact ⟨hok.1, by have := hok.2.2; omega⟩
theorem show_str (s : ByteArray) (w : World) : Calls Tryz.prog 63 #[.agg #[.int .i64 2, .int .i64 0, .string s]] w fun e w' => e = .returned (.string ⟨(showB s).toArray⟩) ∧ Below w.heap.size w w' := by
  unfold showB
  have hr := Lib.hid (value_right 2 0 s)
  cases hok : V.okB ⟨2, 0, s⟩
  · rw [hok] at hr
    simp only [Bool.false_eq_true, if_false]
    clear hok
    go_enter Tryz.func63, Tryz.ntmps63
    go_wp2_with fail
    refine (hr.out _).mono ?_
    rintro e w' ⟨rfl, rfl⟩
    go_wp2_with fail
    go_ret
    exact ⟨rfl, ((Below.refl _ _).alloc (Nat.le_refl _) _).alloc (by simp) _⟩
  · exact show_text s (ok_text2 hok rfl).2 0 2 rfl hok w
theorem str_val (s : ByteArray) (w : World) : Calls Tryz.prog 64 #[.string s] w fun e w' => e = .returned (.agg #[.int .i64 2, .int .i64 0, .string s]) ∧ Below w.heap.size w w' := by
  go_enter Tryz.func64, Tryz.ntmps64
  go_wp2
  exact bodyPost_ret (v := .agg #[.int .i64 2, .int .i64 0, .string s]) (by simp [results, Tryz.results64, go_sem]) rfl ⟨rfl, (Below.refl _ _).alloc (Nat.le_refl _) _⟩
/-- a tree that can be printed: what it writes is no longer than so much, and so on downwards -/
inductive Prn : T → Prop
  | mk (k : Int) (s : ByteArray) (n : Int) (l : List T) (a : Int) (h1 : -9223372036854775808 ≤ n) (h2 : n ≤ 9223372036854775807) (hl : k = 1 → l.length ≤ 600 ∧ (Lib.join (prL l) [32]).length ≤ 100000000000000) (hk : k = 1 → ∀ e ∈ l, Prn e) : Prn (.mk k s n l a)
abbrev PowTab (w : World) : Prop := Lib.TabIs Tryz.prog w "internal/strconv.uint64pow10" .u64 Lib.pow10Tab
def PrintOk (t : T) : Prop := Prn t → ∀ (A : Option Addr) (c : Nat) (w : World), t.kids.length ≤ c → TKids w w.heap.size A t.kids → (∀ w', Below w.heap.size w w' → PowTab w') →
  Calls Tryz.prog 31 #[t.val A c] w fun e w' => e = .returned (.string ⟨(prT t).toArray⟩) ∧ Below w.heap.size w w'
theorem prL_take {l : List T} {j : Nat} {x : T} (h : l[j]? = some x) : (prL l).take (j + 1) = (prL l).take j ++ [prT x] := by
  induction l generalizing j with
  | nil => simp at h
  | cons y l ih =>
    cases j with
    | zero =>
      obtain rfl : y = x := by simpa using h
      rw [prL]
      rfl
    | succ j =>
      rw [prL, List.take_succ_cons, List.take_succ_cons, ih (by simpa using h)]
      rfl
theorem str_info : (Tryz.prog.info? 9).map (fun i => (i.zero, i.size, i.bytes)) = some (some (.string ByteArray.empty), 1, 16) := by kernel_rfl
def strsL (l : List (List UInt8)) : List Value := l.map fun x => .string ⟨x.toArray⟩
theorem wrap_paren (l : List UInt8) : (⟨#[40]⟩ : ByteArray) ++ ⟨l.toArray⟩ ++ ⟨#[41]⟩ = ⟨(40 :: (l ++ [41])).toArray⟩ := by
  apply ByteArray.ext
  simp [ByteArray.data_append]
set_option maxRecDepth 100000 in
set_option maxHeartbeats 4000000 in
theorem print_step (k : Int) (s : ByteArray) (n : Int) (l : List T) (a : Int) (hM : ∀ e ∈ l, PrintOk e) : PrintOk (.mk k s n l a) := by
  intro hp A c w hc hA hT
  obtain ⟨_, _, _, _, _, n1, n2, hl, hk⟩ := hp
  simp only [T.val, T.k, T.s, T.n, T.kids, T.at_] at hc hA ⊢
  obtain ⟨ln, eln⟩ : ∃ ln, ln = l.length := ⟨_, rfl⟩
  have hlen := hA.len
  obtain ⟨w1, ew1⟩ : ∃ w1, w1 = w.alloc (.cells #[.int .i64 k, .string s, .int .i64 n, .slice A ln c, .int .i64 a] 71) := ⟨_, rfl⟩
  have hb1 : Below w.heap.size w w1 := by rw [ew1]; exact (Below.refl _ _).alloc (Nat.le_refl _) _
  have hs1 : w1.heap.size = w.heap.size + 1 := by rw [ew1]; simp
  have hx1 : w1.heap[w.heap.size]? = some (.cells #[.int .i64 k, .string s, .int .i64 n, .slice A ln c, .int .i64 a] 71 (0, 0)) := by rw [ew1]; exact heap_alloc_new w _
  obtain ⟨⟨k0, k1, k2, k3, k4⟩, _, _, _, _, _⟩ := cell5 hx1
  obtain ⟨pr, hpr⟩ : ∃ pr, pr = prT (.mk k s n l a) := ⟨_, rfl⟩
  rw [← hpr, ← eln]
  have HPR := Lib.hid hpr
  have HW1 := Lib.hid ew1
  have HB1 := Lib.hid hb1
  have HX1 := Lib.hid hx1
  have HK := Lib.hid hA
  have HM := Lib.hid hM
  have HLN := Lib.hid eln
  have HT := Lib.hid hT
  clear hpr ew1 hb1 hx1 hA hM hT eln
  by_cases h1 : k = 1
  · subst h1
    obtain ⟨hl6, hlj⟩ := hl rfl
    have HKD := Lib.hid (hk rfl)
    have HLJ := Lib.hid hlj
    obtain ⟨i0, hi, hz0, hz1, hz2⟩ := info_parts str_info
    have hln6 : ln ≤ 600 := by have := HLN.out; omega
    clear hk hl hlj hl6
    go_enter Tryz.func31, Tryz.ntmps31
    go_upto_region 1 with (fail)
    rw [← HW1.out]
    go_wp2_with fail
    go_loopw [3, 13] (fun v i wr => ∃ (j : Nat) (A' : Option Addr) (c' : Nat), j ≤ ln ∧ i = .int .i64 j ∧ v = .slice A' j c' ∧ wr.ownsRow w1.heap.size 9 1 (.slice A' j c') j (strsL ((prL l).take j)) ∧ Below w1.heap.size w1 wr) (fun _ i _ => ln - (intOf i).toNat)
    case atStart => exact ⟨0, none, 0, Nat.zero_le _, rfl, rfl, ⟨rfl, .inl ⟨rfl, rfl⟩⟩, Below.refl _ _⟩
    case round =>
      obtain ⟨j, A', c', hj, rfl, rfl, hown, hb⟩ := hrel
      have HO := Lib.hid hown
      have HB := Lib.hid hb
      have hs := hb.size
      have HBW := Lib.hid (HB1.out.trans (hb.mono (by omega)))
      clear hown hb
      by_cases hlt : j < ln
      · obtain ⟨x, hx⟩ : ∃ x, l[j]? = some x := ⟨_, List.getElem?_eq_getElem (by rw [← HLN.out]; exact hlt)⟩
        obtain ⟨b, o, A2, c2, rfl, hbl, m1, m2, m3, m4, m5, hcx, hKx⟩ := HK.out.get_ wr HBW.out j x hx
        have htk := Lib.hid (prL_take hx)
        have hMx := HM.out x (List.mem_of_getElem? hx) (HKD.out x (List.mem_of_getElem? hx))
        obtain ⟨wx, ewx⟩ : ∃ wx, wx = wr.alloc (.cells #[.int .i64 x.k, .string x.s, .int .i64 x.n, .slice A2 x.kids.length c2, .int .i64 x.at_] 71) := ⟨_, rfl⟩
        have hbx : Below wr.heap.size wr wx := by rw [ewx]; exact (Below.refl _ _).alloc (Nat.le_refl _) _
        have hnx : wx.heap[wr.heap.size]? = some (.cells #[.int .i64 x.k, .string x.s, .int .i64 x.n, .slice A2 x.kids.length c2, .int .i64 x.at_] 71 (0, 0)) := by rw [ewx]; exact heap_alloc_new wr _
        have hbwx : Below w.heap.size w wx := HBW.out.trans (hbx.mono (by have := HBW.out.size; omega))
        have hcl := Lib.hid (hMx A2 c2 wx hcx ((hKx.low hbx).more hbx.size) (fun w' h => HT.out w' (hbwx.trans (h.mono hbwx.size))))
        have HBX := Lib.hid (HB.out.trans (hbx.mono hs))
        have HWX := Lib.hid ewx
        obtain ⟨⟨n0, n1', n2', n3, n4⟩, _, _, _, _, _⟩ := cell5 hnx
        have HOX := Lib.hid (own_below HO.out hbx)
        obtain ⟨pt, hpt⟩ : ∃ pt, pt = prT x := ⟨_, rfl⟩
        rw [← hpt] at hcl htk
        clear hx hKx hMx hcx ewx hbx hnx hbwx hpt
        obtain ⟨xk, xs, xn, xl, xa⟩ := x
        simp only [T.val, T.k, T.s, T.n, T.kids, T.at_] at m1 m2 m3 m4 m5 hcl HWX n0 n1' n2' n3 n4
        generalize xl.length = xm at *
        go_upto_region 7 with (fail)
        rw [← HWX.out]
        go_wp2_with fail
        refine (hcl.out).mono ?_
        rintro e w2 ⟨rfl, hb2⟩
        have HB2 := Lib.hid (HBX.out.trans (hb2.mono HBX.out.size))
        have HO2 := Lib.hid (own_below HOX.out hb2)
        have hs2 := HB2.out.size
        clear hb2
        go_wp2_with (at_builtin; refine wpList_append_own _ rfl _ _ 23 rfl w1.heap.size 9 i0 _ 1 16 Tryz.underlying23 hi hz0 hz1 hz2 rfl (by decide) (.slice A' j c') j (strsL ((prL l).take j)) rfl (own_below HO2.out ((Below.refl w2.heap.size w2).alloc (Nat.le_refl _) _)) ⟨w2.heap.size, 0, none⟩ 1 1 [.string ⟨pt.toArray⟩] rfl rfl ?c1 ?c2 ?c3 ?c4 ?c5 ?_)
        case c1 => exact World.news_of_block (heap_alloc_new w2 _)
        case c2 => first | rfl | (intro u hu; simp at hu; subst hu; rfl)
        case c3 => unfold maxLen; omega
        case c4 => omega
        case c5 => first | omega | (simp; omega)
        intro v' w5 hown5 hgrow _
        have hB5 := ((HB2.out.alloc (by omega) (.cells #[.string ⟨pt.toArray⟩] 9)).grown hgrow (by simp; omega) (fun g hg => (HO2.out.lt g hg).1))
        obtain ⟨g5, cap5, ev5, _⟩ := hown5.form (by omega)
        subst ev5
        have HO5 : Hid (w5.ownsRow w1.heap.size 9 1 (.slice (some ⟨g5, 0, none⟩) (j + 1) cap5) (j + 1) (strsL ((prL l).take (j + 1)))) := Lib.hid (by
          have e : strsL ((prL l).take (j + 1)) = strsL ((prL l).take j) ++ [.string ⟨pt.toArray⟩] := by rw [htk.out]; simp [strsL]
          rw [e, hs1]
          exact hown5)
        have HB5 := Lib.hid hB5
        clear hown5 hgrow hB5
        go_wp2_with fail
        go_roundw
        case rel => exact ⟨j + 1, _, cap5, by omega, by go_num, rfl, HO5.out, HB5.out⟩
        case measure => simp [intOf]; omega
      · obtain rfl : j = ln := by omega
        have hpl : (prL l).length = j := by rw [prL_length]; exact HLN.out.symm
        have hown := HO.out
        rw [List.take_of_length_le (by omega)] at hown
        rcases Nat.eq_zero_or_pos j with h0 | hln0
        · subst h0
          have hl0 : prL l = [] := List.eq_nil_of_length_eq_zero hpl
          have hjn := Lib.hid (Tryz.strings_Join_none A' c' ⟨#[32]⟩ wr)
          have HPE : Hid (pr = [40, 41]) := Lib.hid (by rw [HPR.out, prT, if_pos rfl, hl0]; rfl)
          clear hown
          go_wp2_with fail
          refine (hjn.out).mono ?_
          rintro e w2 ⟨rfl, hw2⟩
          obtain rfl : wr = w2 := hw2.symm
          clear hw2
          go_wp2_with fail
          go_ret
          exact ⟨by rw [HPE.out]; rfl, HBW.out⟩
        · obtain ⟨g, cap, hv, _, hgl⟩ := hown.form hln0
          have hA' : A' = some ⟨g, 0, none⟩ := by injection hv
          have hcap : j ≤ c' := by
            rcases hown.2 with ⟨h, h0⟩ | ⟨_, cap2, _, h, _, _, h2, _⟩
            · omega
            · injection h with _ _ h; omega
          subst hA'
          have hcells : ∀ (i : Nat) x, ((prL l).map fun x => (⟨x.toArray⟩ : ByteArray))[i]? = some x → wr.cell? ⟨g, 0 + i, none⟩ = some (.string x) := fun i x hx => by
            have hi2 : i < j := by have := (List.getElem?_eq_some_iff.1 hx).1; rw [List.length_map, hpl] at this; exact this
            rw [Nat.zero_add, hown.cellAt i (by omega)]
            rw [List.getElem?_map] at hx
            unfold strsL
            rw [List.getElem?_map]
            cases hq : (prL l)[i]? with
            | none => rw [hq] at hx; cases hx
            | some y => rw [hq] at hx; simp at hx; subst hx; rfl
          have hmm : ((prL l).map fun x => (⟨x.toArray⟩ : ByteArray)).map (·.data.toList) = prL l := by
            rw [List.map_map]
            conv => rhs; rw [← List.map_id (prL l)]
            apply List.map_congr_left
            intro x _
            simp
          have hjoin := Tryz.strings_Join g 0 c' ((prL l).map fun x => (⟨x.toArray⟩ : ByteArray)) ⟨#[32]⟩ wr hcells hgl (by rw [List.length_map, hpl]; omega) (by rw [List.length_map, hpl]; exact hcap) (by rw [hmm]; have := HLJ.out; show (Lib.join (prL l) [32]).length ≤ _; omega)
          rw [List.length_map, hpl, hmm] at hjoin
          have HJ : Hid (Calls Tryz.prog 61 #[.slice (some ⟨g, 0, none⟩) j c', .string ⟨#[32]⟩] wr fun e w' => e = .returned (.string ⟨(Lib.join (prL l) [32]).toArray⟩) ∧ Below wr.heap.size wr w') := Lib.hid hjoin
          have HPE : Hid (pr = 40 :: (Lib.join (prL l) [32] ++ [41])) := Lib.hid (by rw [HPR.out, prT, if_pos rfl])
          have HSZ := HLJ.out
          generalize Lib.join (prL l) [32] = jn at *
          have hz1' : (⟨jn.toArray⟩ : ByteArray).size = jn.length := rfl
          have hz2' : (⟨#[40]⟩ ++ (⟨jn.toArray⟩ : ByteArray)).size = 1 + jn.length := by rw [ByteArray.size_append]; rfl
          clear hcells hmm hjoin hown hv
          go_wp2_with fail
          refine (HJ.out).mono ?_
          rintro e w2 ⟨rfl, hb2⟩
          have HB2 := Lib.hid (HBW.out.trans (hb2.mono HBW.out.size))
          clear hb2
          go_wp2_with fail
          go_ret
          exact ⟨by rw [HPE.out, ← wrap_paren]; rfl, HB2.out⟩
  · have hkk1 : (k == 1) = false := by simpa using h1
    by_cases h2 : k = 2
    · subst h2
      have HPE : Hid (pr = s.data.toList) := Lib.hid (by rw [HPR.out, prT, if_neg (by decide), if_pos rfl])
      clear hkk1 hl hk h1
      go_enter Tryz.func31, Tryz.ntmps31
      go_upto_region 1 with (fail)
      rw [← HW1.out]
      go_wp2_with fail
      go_ret
      exact ⟨by rw [HPE.out]; rfl, HB1.out⟩
    · by_cases h3 : k = 3
      · subst h3
        have HPE : Hid (pr = Lib.itoa n) := Lib.hid (by rw [HPR.out, prT, if_neg (by decide), if_neg (by decide), if_pos rfl])
        have hf := Lib.hid (Tryz.strconv_FormatInt_10 n n1 n2 w1 (HT.out w1 HB1.out))
        clear hkk1 hl hk h1 h2
        go_enter Tryz.func31, Tryz.ntmps31
        go_upto_region 1 with (fail)
        rw [← HW1.out]
        go_wp2_with fail
        refine (hf.out).mono ?_
        rintro e w2 ⟨rfl, q, os, rfl⟩
        have B2 := Lib.hid (HB1.out.trans (Lib.below_grow w.heap.size _ HB1.out.size q os))
        go_wp2_with fail
        go_ret
        exact ⟨by rw [HPE.out]; rfl, B2.out⟩
      · have hkk2 : (k == 2) = false := by simpa using h2
        have hkk3 : (k == 3) = false := by simpa using h3
        by_cases h4 : k = 4
        · subst h4
          have HPE : Hid (pr = showB s) := Lib.hid (by rw [HPR.out, prT, if_neg (by decide), if_neg (by decide), if_neg (by decide), if_pos rfl])
          have hv := Lib.hid (fun w => str_val s w)
          have hw := Lib.hid (fun w => show_str s w)
          clear hkk1 hkk2 hkk3 hl hk h1 h2 h3
          go_enter Tryz.func31, Tryz.ntmps31
          go_upto_region 1 with (fail)
          rw [← HW1.out]
          go_wp2_with fail
          refine (hv.out _).mono ?_
          rintro e w2 ⟨rfl, hb2⟩
          have HB2 := Lib.hid (HB1.out.trans (hb2.mono HB1.out.size))
          clear hb2
          go_wp2_with fail
          refine (hw.out _).mono ?_
          rintro e w3 ⟨rfl, hb3⟩
          have HB3 := Lib.hid (HB2.out.trans (hb3.mono HB2.out.size))
          clear hb3
          go_wp2_with fail
          go_ret
          exact ⟨by rw [HPE.out]; rfl, HB3.out⟩
        · have hkk4 : (k == 4) = false := by simpa using h4
          have HPE : Hid (pr = []) := Lib.hid (by rw [HPR.out, prT, if_neg h1, if_neg h2, if_neg h3, if_neg h4])
          clear hl hk
          go_enter Tryz.func31, Tryz.ntmps31
          go_upto_region 1 with (fail)
          rw [← HW1.out]
          go_wp2_with fail
          go_ret
          exact ⟨by rw [HPE.out]; rfl, HB1.out⟩
theorem print_any : ∀ t, PrintOk t := T.ind print_step
end Go.Proofs.YtjhkihkiebnpaaaGreatDoor
/-
  What a text's plan is, read, printed and read again. No program in sight.
-/
set_option linter.unusedVariables false
set_option linter.unusedSimpArgs false
namespace Go.Proofs.YtjhkihkiebnpaaaGreatDoor
open Go.RowKit
theorem can_era {t : T} (h : OkT t) : canT t = era t := by
  induction h with
  | atom w a h0 h => simp [canT, era, eraL]
  | num n a h1 h2 => simp [canT, era, eraL]
  | str w a h => simp [canT, era, eraL]
  | node l a h ih =>
    unfold canT
    rw [if_neg (by decide), if_neg (by decide), if_neg (by decide), era, canL_map', eraL_map]
    congr 1
    exact List.map_congr_left ih
theorem okt_era {t : T} (h : OkT t) : OkT (era t) := by
  induction h with
  | atom w a h0 h => rw [era, eraL]; exact .atom w 0 h0 h
  | num n a h1 h2 => rw [era, eraL]; exact .num n 0 h1 h2
  | str w a h => rw [era, eraL]; exact .str w 0 h
  | node l a h ih =>
    rw [era, eraL_map]
    refine .node _ 0 fun e he => ?_
    obtain ⟨x, hx, rfl⟩ := List.mem_map.1 he
    exact ih x hx
theorem prL_era : ∀ (l : List T), (∀ t ∈ l, prT (era t) = prT t) → prL (l.map era) = prL l
  | [], _ => rfl
  | x :: l, h => by
    rw [List.map_cons, prL, prL, h x List.mem_cons_self, prL_era l fun t ht => h t (List.mem_cons_of_mem _ ht)]
theorem prT_era : ∀ t : T, prT (era t) = prT t := T.ind fun k s n l a ih => by
  rw [era, eraL_map, prT, prT, prL_era l ih]
theorem deepL_era : ∀ (l : List T), (∀ t ∈ l, deepT (era t) = deepT t) → deepL (l.map era) = deepL l
  | [], _ => rfl
  | x :: l, h => by
    rw [List.map_cons, deepL, deepL, h x List.mem_cons_self, deepL_era l fun t ht => h t (List.mem_cons_of_mem _ ht)]
theorem deepT_era : ∀ t : T, deepT (era t) = deepT t := T.ind fun k s n l a ih => by
  rw [era, eraL_map, deepT, deepT, deepL_era l ih]
theorem era_era : ∀ t : T, era (era t) = era t := T.ind fun k s n l a ih => by
  rw [era, eraL_map, era, eraL_map, List.map_map]
  congr 1
  exact List.map_congr_left ih
theorem cost_pos {t : T} (h : OkT t) : 1 ≤ costT t := by
  cases h with
  | atom w a h0 h =>
    have : w.size ≠ 0 := fun e => h0 (List.eq_nil_of_length_eq_zero (by simp only [Array.length_toList]; exact e))
    simp only [costT, costL]
    rw [if_pos trivial]
    omega
  | num n a h1 h2 => simp only [costT]; rw [if_neg (by decide)]; omega
  | str w a h => simp only [costT]; rw [if_neg (by decide)]; omega
  | node l a h => simp only [costT]; rw [if_neg (by decide)]; omega
theorem cost_mem {l : List T} {t : T} (h : t ∈ l) : costT t ≤ costL l := by
  induction l with
  | nil => cases h
  | cons x l ih =>
    rw [costL]
    rcases List.mem_cons.1 h with rfl | h
    · omega
    · have := ih h; omega
theorem cost_len : ∀ {l : List T}, (∀ t ∈ l, OkT t) → l.length ≤ costL l
  | [], _ => Nat.zero_le _
  | x :: l, h => by
    have h1 := cost_pos (h x List.mem_cons_self)
    have h2 := cost_len (l := l) fun t ht => h t (List.mem_cons_of_mem _ ht)
    rw [costL, List.length_cons]
    omega
theorem cost_node (l : List T) (a : Int) : costT (.mk 1 ⟨#[]⟩ 0 l a) = 1 + costL l := by
  rw [costT, if_neg (by decide)]
  rfl
theorem okt_small {t : T} (h : OkT t) : costT t ≤ 600 → T.Small t := by
  induction h with
  | atom w a h0 h => exact fun _ => .mk _ _ _ _ _ (by simp) (fun e he => by cases he)
  | num n a h1 h2 => exact fun _ => .mk _ _ _ _ _ (by simp) (fun e he => by cases he)
  | str w a h => exact fun _ => .mk _ _ _ _ _ (by simp) (fun e he => by cases he)
  | node l a h ih =>
    intro hc
    rw [cost_node] at hc
    have := cost_len h
    exact .mk _ _ _ _ _ (by omega) fun e he => ih e he (by have := cost_mem he; omega)
theorem itoa_len {n : Int} (h1 : -9223372036854775808 ≤ n) (h2 : n ≤ 9223372036854775807) : (Lib.itoa n).length ≤ 20 := by
  have hd : ∀ (k u : Nat), u < 10 ^ (k + 1) → (Lib.decDigits u).length ≤ k + 1 := by
    intro k
    induction k with
    | zero => intro u hu; rw [Lib.decDigits, dif_pos (by simpa using hu)]; simp
    | succ k ih =>
      intro u hu
      rw [Lib.decDigits]
      split
      · simp
      · rw [List.length_append, List.length_singleton]
        have := ih (u / 10) (by rw [Nat.pow_succ] at hu; omega)
        omega
  unfold Lib.itoa
  split
  · have := hd 18 n.natAbs (by omega)
    rw [List.length_cons]
    omega
  · have := hd 18 n.toNat (by omega)
    omega
theorem tail_len' : ∀ (l : List T), (∀ t ∈ l, (prT t).length + 1 ≤ 24 * costT t) → (Lib.joinTail [32] (prL l)).length ≤ 24 * costL l
  | [], _ => by simp [prL, Lib.joinTail]
  | x :: l, h => by
    have h1 := h x List.mem_cons_self
    have h2 := tail_len' l fun t ht => h t (List.mem_cons_of_mem _ ht)
    have e : Lib.joinTail [32] (prL (x :: l)) = 32 :: (prT x ++ Lib.joinTail [32] (prL l)) := by
      rw [prL]
      simp [Lib.joinTail]
    rw [e, List.length_cons, List.length_append, costL]
    omega
theorem join_len' (l : List T) (h : ∀ t ∈ l, (prT t).length + 1 ≤ 24 * costT t) : (Lib.join (prL l) [32]).length ≤ 24 * costL l := by
  cases l with
  | nil => simp [prL, Lib.join_nil]
  | cons x l =>
    have h1 := h x List.mem_cons_self
    have h2 := tail_len' l fun t ht => h t (List.mem_cons_of_mem _ ht)
    rw [prL, Lib.join_cons, List.length_append, costL]
    omega
theorem pr_len {t : T} (h : OkT t) : (prT t).length + 1 ≤ 24 * costT t := by
  induction h with
  | atom w a h0 h =>
    have hp := cost_pos (.atom w a h0 h)
    have e : prT (.mk 2 w 0 [] a) = w.data.toList := by unfold prT; rw [if_neg (by decide), if_pos rfl]
    have hc : costT (.mk 2 w 0 [] a) = w.size := by simp only [costT, costL]; rw [if_pos trivial]; rfl
    have hl : w.data.toList.length = w.size := by rw [Array.length_toList]; rfl
    rw [e, hl]
    omega
  | num n a h1 h2 =>
    have e : prT (.mk 3 ⟨#[]⟩ n [] a) = Lib.itoa n := by unfold prT; rw [if_neg (by decide), if_neg (by decide), if_pos rfl]
    have := itoa_len h1 h2
    have hp := cost_pos (.num n a h1 h2)
    rw [e]
    omega
  | str w a h =>
    have hok : V.okB ⟨2, 0, w⟩ = true := by
      unfold V.okB
      simp
      omega
    have e : prT (.mk 4 w 0 [] a) = 34 :: w.data.toList.flatMap qB ++ [34] := by
      unfold prT
      rw [if_neg (by decide), if_neg (by decide), if_neg (by decide), if_pos rfl]
      unfold showB
      rw [if_pos hok]
      rfl
    have hc : costT (.mk 4 w 0 [] a) = w.size + 1 := by simp only [costT, costL]; rw [if_neg (by decide)]
    have hl : w.data.toList.length = w.size := by rw [Array.length_toList]; rfl
    have := fq_le w.data.toList
    rw [e, hc, List.length_append, List.length_cons, List.length_singleton]
    omega
  | node l a h ih =>
    have e : prT (.mk 1 ⟨#[]⟩ 0 l a) = 40 :: (Lib.join (prL l) [32] ++ [41]) := by unfold prT; rw [if_pos rfl]
    have := join_len' l ih
    rw [e, cost_node, List.length_cons, List.length_append, List.length_singleton]
    omega
theorem okt_prn {t : T} (h : OkT t) : costT t ≤ 600 → Prn t := by
  induction h with
  | atom w a h0 h => exact fun _ => .mk _ _ _ _ _ (by decide) (by decide) (fun e => absurd e (by decide)) (fun e => absurd e (by decide))
  | num n a h1 h2 => exact fun _ => .mk _ _ _ _ _ h1 h2 (fun e => absurd e (by decide)) (fun e => absurd e (by decide))
  | str w a h => exact fun _ => .mk _ _ _ _ _ (by decide) (by decide) (fun e => absurd e (by decide)) (fun e => absurd e (by decide))
  | node l a h ih =>
    intro hc
    rw [cost_node] at hc
    have h1 := cost_len h
    have h2 := join_len' l fun t ht => pr_len (h t ht)
    exact .mk _ _ _ _ _ (by decide) (by decide) (fun _ => ⟨by omega, by omega⟩) (fun _ e he => ih e he (by have := cost_mem he; omega))
theorem costL_era : ∀ (l : List T), (∀ t ∈ l, costT (era t) = costT t) → costL (l.map era) = costL l
  | [], _ => rfl
  | x :: l, h => by
    rw [List.map_cons, costL, costL, h x List.mem_cons_self, costL_era l fun t ht => h t (List.mem_cons_of_mem _ ht)]
theorem costT_era : ∀ t : T, costT (era t) = costT t := T.ind fun k s n l a ih => by
  rw [era, eraL_map, costT, costT, costL_era l ih]
/-! ### a plan is small -/
theorem small_mem {t x : T} (h : T.Small t) (hx : x ∈ t.kids) : T.Small x := by
  cases h with
  | mk k s n l a hl h => exact h x hx
theorem small_zero : T.Small zeroT := .mk _ _ _ _ _ (by simp) (fun e he => by cases he)
theorem small_getD {l : List T} (h : ∀ e ∈ l, T.Small e) (i : Nat) : T.Small (l.getD i zeroT) := by
  rw [List.getD_eq_getElem?_getD]
  cases hx : l[i]? with
  | none => exact small_zero
  | some x => exact h x (List.mem_of_getElem? hx)
theorem few_base {kd : Int} {l : List T} (hl : l.length ≤ 600) (h : ∀ e ∈ l, T.Small e) {ks : List P} (hk : ks.length ≤ 600) (hf : ∀ p ∈ ks, PFew p) : PFew ((baseP kd l).put ks) := by
  have hm : ∀ i, (midL l i).length ≤ 600 := fun i => by unfold midL; rw [List.length_take, List.length_drop]; omega
  have h1 := (small_getD h 1).len
  have h2 := (small_getD h 2).len
  unfold baseP
  repeat' split
  all_goals
    simp only [P.put, P.k, P.nm, P.ex, P.cols, P.left, P.right, P.ag]
    refine .mk _ _ _ _ _ _ _ _ ?_ ?_ ?_ ?_ ?_ hk hf
  all_goals first
    | (simp; done)
    | (rw [List.length_map]; first | exact hm _ | exact h1 | exact h2)
theorem planL_len : ∀ (l : List T) (s : RSt), (planL l 0 s).1.length = l.length
  | [], s => by rw [planL]; rfl
  | x :: l, s => by rw [planL]; simp only [List.length_cons, planL_len l]
theorem planL_few : ∀ (l : List T), (∀ t ∈ l, ∀ s : RSt, PFew (planT t s).1) → ∀ (s : RSt), ∀ p ∈ (planL l 0 s).1, PFew p
  | [], _, s => fun p hp => by rw [planL] at hp; cases hp
  | x :: l, h, s => fun p hp => by
    rw [planL] at hp
    rcases List.mem_cons.1 hp with rfl | hp
    · exact h x List.mem_cons_self s
    · exact planL_few l (fun t ht => h t (List.mem_cons_of_mem _ ht)) _ p hp
theorem plan_few : ∀ t : T, T.Small t → ∀ s : RSt, PFew (planT t s).1 := T.ind fun k s n l a ih hs st => by
  have hl : l.length ≤ 600 := hs.len
  have hm : ∀ e ∈ l, T.Small e := fun e he => small_mem hs he
  rw [planT, planL_skip]
  refine few_base hl hm ?_ ?_
  · rw [planL_len, List.length_drop]; omega
  · exact planL_few _ (fun t ht => ih t (List.mem_of_mem_drop ht) (hm t (List.mem_of_mem_drop ht))) _
/-! ### what plan.Read computes -/
def prP (p : P) : ByteArray := ⟨(prT (treeP p)).toArray⟩
def readP (s : ByteArray) : P × Int × Int :=
  if 600 < s.size then (zeroP, 3, 0)
  else if (readE s [] [] 0).2.1 = 0 then
    (if (planT (readE s [] [] 0).1 (0, 0)).2.1 = 0 then (if 600 < (prP (planT (readE s [] [] 0).1 (0, 0)).1).size then (zeroP, 3, 0) else ((planT (readE s [] [] 0).1 (0, 0)).1, 0, 0))
     else (zeroP, (planT (readE s [] [] 0).1 (0, 0)).2.1, (planT (readE s [] [] 0).1 (0, 0)).2.2))
  else (zeroP, (readE s [] [] 0).2.1, (readE s [] [] 0).2.2)
/-- a plan that is printed and may be read again -/
structure PlanOf (t : T) (p : P) : Prop where
  ok : OkT t
  plan : planT t (0, 0) = (p, 0, 0)
  deep : deepT t ≤ 12
  cost : costT t ≤ 600
theorem planOf_tree {t : T} {p : P} (h : PlanOf t p) : treeP p = era t := by
  have := (back_plan t (0, 0) (by rw [h.plan])).2.1
  rw [h.plan] at this
  rw [this, can_era h.ok]
theorem planOf_made {t : T} {p : P} (h : PlanOf t p) : MadeP p := by
  have := (back_plan t (0, 0) (by rw [h.plan])).2.2
  rw [h.plan] at this
  exact this
theorem planOf_few {t : T} {p : P} (h : PlanOf t p) : PFew p := by
  have := plan_few t (okt_small h.ok h.cost) (0, 0)
  rw [h.plan] at this
  exact this
theorem planOf_prn {t : T} {p : P} (h : PlanOf t p) : Prn (treeP p) := by
  rw [planOf_tree h]
  exact okt_prn (okt_era h.ok) (by rw [costT_era]; exact h.cost)
theorem planOf_pr {t : T} {p : P} (h : PlanOf t p) : prT (treeP p) = prT t := by rw [planOf_tree h, prT_era]
/-- what is read of a tree that was printed is that plan -/
theorem print_read {t : T} {p : P} (h : PlanOf t p) (hl : (prP p).size ≤ 600) : readP (prP p) = (p, 0, 0) := by
  have hr := (read_print (okt_era h.ok)).1 (by rw [deepT_era]; exact h.deep)
  obtain ⟨t', ht', hr⟩ := hr
  rw [era_era] at ht'
  have e : prP p = ⟨(prT (era t)).toArray⟩ := by unfold prP; rw [planOf_tree h]
  have hp := plan_again (t := t) (t' := t') (s := (0, 0)) (s' := (0, 0)) (by rw [h.plan]) ht' rfl
  rw [h.plan] at hp
  simp only at hp
  have h1 : readE (prP p) [] [] 0 = (t', 0, 0) := by rw [e]; exact hr
  unfold readP
  rw [if_neg (by omega), h1]
  simp only
  rw [if_pos trivial, hp]
  simp only
  rw [if_pos trivial, if_neg (by omega)]
theorem readP_of {s : ByteArray} (h : (readP s).2.1 = 0) : ∃ t, PlanOf t (readP s).1 ∧ (prP (readP s).1).size ≤ 600 ∧ readP s = ((readP s).1, 0, 0) ∧ s.size ≤ 600 := by
  unfold readP at h ⊢
  by_cases h1 : 600 < s.size
  · rw [if_pos h1] at h; simp at h
  · rw [if_neg h1] at h ⊢
    by_cases h2 : (readE s [] [] 0).2.1 = 0
    · rw [if_pos h2] at h ⊢
      by_cases h3 : (planT (readE s [] [] 0).1 (0, 0)).2.1 = 0
      · rw [if_pos h3] at h ⊢
        by_cases h4 : 600 < (prP (planT (readE s [] [] 0).1 (0, 0)).1).size
        · rw [if_pos h4] at h; simp at h
        · rw [if_neg h4]
          obtain ⟨k1, k2, k3⟩ := read_ok h2
          refine ⟨_, ⟨k1, ?_, k2, by omega⟩, by simp only; omega, rfl, by omega⟩
          exact Prod.ext rfl (back_plan _ _ h3).1
      · rw [if_neg h3] at h
        exact absurd h h3
    · rw [if_neg h2] at h
      exact absurd h h2
theorem readP_bad {s : ByteArray} (h : (readP s).2.1 ≠ 0) : (readP s).1 = zeroP := by
  unfold readP at h ⊢
  repeat' split
  all_goals first
    | rfl
    | (exfalso; apply h; simp_all; done)
end Go.Proofs.YtjhkihkiebnpaaaGreatDoor
/-
  Package plan's Same of one and the same plan: it says so. (slices.Equal, slices.EqualFunc, sameExpr.)
-/
namespace Go.Proofs.YtjhkihkiebnpaaaGreatDoor
open Go.RowKit
set_option linter.unusedVariables false
set_option linter.unusedSimpArgs false
theorem get_some' {α : Type} {l : List α} {j n : Nat} (h : n = l.length) (hj : j < n) : ∃ x, l[j]? = some x := ⟨_, List.getElem?_eq_getElem (by omega)⟩
theorem lies_at {w : World} {S : Nat → Prop} {A : Option Addr} {l : List ByteArray} (h : Lies w S A (strs l)) {j : Nat} {x : ByteArray} (hx : l[j]? = some x) : ∃ b o, A = some ⟨b, o, none⟩ ∧ S b ∧ w.cell? ⟨b, o + j, none⟩ = some (.string x) := by
  rcases h with h | ⟨b, o, hA, hb, hc⟩
  · have : l = [] := by simpa [strs] using h
    subst this
    simp at hx
  · exact ⟨b, o, hA, hb, hc j _ (by rw [strs, List.getElem?_map, hx]; rfl)⟩
theorem meas_jj {j n : Nat} (h : j < n) : n - (intOf (Value.int .i64 ((j : Int) + 1))).toNat < n - (intOf (Value.int .i64 (j : Int))).toNat := by
  simp [intOf]; omega
abbrev LT (w : World) : Nat → Prop := fun k => k < w.heap.size
set_option maxRecDepth 100000 in
set_option maxHeartbeats 1000000 in
theorem eq_strings (l : List ByteArray) (hn : l.length ≤ 9223372036854775807) (A B : Option Addr) (c d : Nat) (w : World) (hA : Lies w (LT w) A (strs l)) (hB : Lies w (LT w) B (strs l)) :
    Calls Tryz.prog 73 #[.slice A l.length c, .slice B l.length d] w fun e w' => e = .returned (.bool true) ∧ Below w.heap.size w w' := by
  have HA := Lib.hid hA
  have HB := Lib.hid hB
  obtain ⟨m, em⟩ : ∃ m, m = l.length := ⟨_, rfl⟩
  have HEM := Lib.hid em
  rw [← em] at hn ⊢
  clear hA hB em
  go_enter Tryz.func73, Tryz.ntmps73
  go_wp2_with fail
  go_loopw [13] (fun i wr => ∃ j : Nat, j ≤ m ∧ i = .int .i64 j ∧ Below w.heap.size w wr) (fun i _ => m - (intOf i).toNat)
  case atStart => exact ⟨0, Nat.zero_le _, rfl, Below.refl _ _⟩
  case round =>
    obtain ⟨j, hj, rfl, hb⟩ := hrel
    by_cases hlt : j < m
    · obtain ⟨x, hx⟩ := get_some' HEM.out hlt
      obtain ⟨b, o, rfl, h1, c1⟩ := lies_at HA.out hx
      obtain ⟨b2, o2, rfl, h2, c2⟩ := lies_at HB.out hx
      have c1' := (hb.cell (p := ⟨b, o + j, none⟩) h1).trans c1
      have c2' := (hb.cell (p := ⟨b2, o2 + j, none⟩) h2).trans c2
      have HBB := Lib.hid hb
      clear c1 c2 hx hb
      go_upto_region 6 with (fail)
      go_quiet (fail)
      go_wp2_with fail
      go_roundw
      case measure => exact meas_jj hlt
      case rel => exact ⟨j + 1, hlt, by simp, below_drewN HBB.out _⟩
    · have HBB := Lib.hid hb
      go_wp2_with fail
      go_ret
      exact ⟨rfl, HBB.out⟩
theorem lies_agx {w : World} {S : Nat → Prop} {A : Option Addr} {l : List Ag} (h : Lies w S A (flatG l)) {j : Nat} {x : Ag} (hx : l[j]? = some x) :
    ∃ b o, A = some ⟨b, o, none⟩ ∧ S b ∧ w.cell? ⟨b, o + j * 3, none⟩ = some (.string x.nm) ∧ w.cell? ⟨b, o + j * 3 + 1, none⟩ = some (.string x.fn) ∧ w.cell? ⟨b, o + j * 3 + 2, none⟩ = some (.string x.col) := by
  rcases h with h | ⟨b, o, hA, hb, hc⟩
  · have := flatG_len l
    rw [h] at this
    have hl : l = [] := List.eq_nil_of_length_eq_zero (by simp at this; omega)
    subst hl
    simp at hx
  · have hg : ∀ t u, (Ag.cs x)[t]? = some u → (flatG l)[j * 3 + t]? = some u := by
      intro t u hu
      have ht : t < 3 := by have := (List.getElem?_eq_some_iff.1 hu).1; exact this
      clear hc hA
      induction l generalizing j with
      | nil => simp at hx
      | cons y l ih =>
        have e : flatG (y :: l) = Ag.cs y ++ flatG l := rfl
        rw [e]
        cases j with
        | zero =>
          obtain rfl : y = x := by simpa using hx
          rw [Nat.zero_mul, Nat.zero_add, List.getElem?_append_left (by show t < 3; omega)]
          exact hu
        | succ i =>
          rw [List.getElem?_append_right (by show 3 ≤ _; omega), show (Ag.cs y).length = 3 from rfl, show (i + 1) * 3 + t - 3 = i * 3 + t by omega]
          exact ih (by simpa using hx)
    exact ⟨b, o, hA, hb, hc _ _ (hg 0 _ rfl), hc _ _ (hg 1 _ rfl), hc _ _ (hg 2 _ rfl)⟩
@[go_sem] theorem guard_agg (op : BinOp) (x y : Operand) (xs ys : Array Value) (w : World) : (eqGuard op 46 x y (.agg xs) (.agg ys)).run Tryz.prog w = .ok () w := run_eqGuard_agg w op _ x y xs ys (by kernel_rfl)
theorem neq_agg (xn xf xc : ByteArray) (w : World) :
    (binOp .neq 46 (.agg #[.string xn, .string xf, .string xc]) (.agg #[.string xn, .string xf, .string xc])).run Tryz.prog w = .ok (.bool false) w := by
  have hS : Tryz.prog.underlying 46 = some (.struct (Tryz.prog.fieldsOf 46)) := by kernel_rfl
  have hp : Tryz.prog.stoodInHeld 46 = false := by kernel_rfl
  have u3 := Tryz.underlying9
  rw [run_neq_struct, show (10000 : Nat) = 9999 + 1 from rfl, run_equalIn_agg w 9999 _ _ _ hS hp]
  simp only [Program.fieldsOf, Tryz.underlying46]
  go_simp
set_option maxRecDepth 100000 in
set_option maxHeartbeats 1000000 in
theorem eq_aggs (l : List Ag) (hn : l.length ≤ 9223372036854775807) (A B : Option Addr) (c d : Nat) (w : World) (hA : Lies w (LT w) A (flatG l)) (hB : Lies w (LT w) B (flatG l)) :
    Calls Tryz.prog 74 #[.slice A l.length c, .slice B l.length d] w fun e w' => e = .returned (.bool true) ∧ Below w.heap.size w w' := by
  have HA := Lib.hid hA
  have HB := Lib.hid hB
  obtain ⟨m, em⟩ : ∃ m, m = l.length := ⟨_, rfl⟩
  have HEM := Lib.hid em
  rw [← em] at hn ⊢
  clear hA hB em
  go_enter Tryz.func74, Tryz.ntmps74
  go_wp2_with fail
  go_loopw [13] (fun i wr => ∃ j : Nat, j ≤ m ∧ i = .int .i64 j ∧ Below w.heap.size w wr) (fun i _ => m - (intOf i).toNat)
  case atStart => exact ⟨0, Nat.zero_le _, rfl, Below.refl _ _⟩
  case round =>
    obtain ⟨j, hj, rfl, hb⟩ := hrel
    by_cases hlt : j < m
    · obtain ⟨x, hx⟩ := get_some' HEM.out hlt
      obtain ⟨b, o, rfl, h1, a0, a1, a2⟩ := lies_agx HA.out hx
      obtain ⟨b2, o2, rfl, h2, b0, b1, b2'⟩ := lies_agx HB.out hx
      have c0 := (hb.cell (p := ⟨b, o + j * 3, none⟩) h1).trans a0
      have c1 := (hb.cell (p := ⟨b, o + j * 3 + 1, none⟩) h1).trans a1
      have c2 := (hb.cell (p := ⟨b, o + j * 3 + 2, none⟩) h1).trans a2
      have d0 := (hb.cell (p := ⟨b2, o2 + j * 3, none⟩) h2).trans b0
      have d1 := (hb.cell (p := ⟨b2, o2 + j * 3 + 1, none⟩) h2).trans b1
      have d2 := (hb.cell (p := ⟨b2, o2 + j * 3 + 2, none⟩) h2).trans b2'
      have HBB := Lib.hid hb
      obtain ⟨an, af, ac⟩ := x
      have hq := fun w => neq_agg an af ac w
      clear a0 a1 a2 b0 b1 b2' hx hb
      go_upto_region 6 with (fail)
      go_quiet (fail)
      go_wp2_with fail
      go_roundw
      case measure => exact meas_jj hlt
      case rel => exact ⟨j + 1, hlt, by simp, below_drewN HBB.out _⟩
    · have HBB := Lib.hid hb
      go_wp2_with fail
      go_ret
      exact ⟨rfl, HBB.out⟩
/-! ### expressions -/
def SameX (e : E) : Prop := ∀ (A B : Option Addr) (c d : Nat) (w : World), EKids w w.heap.size A e.kids → EKids w w.heap.size B e.kids → Calls Tryz.prog 72 #[e.val A c, e.val B d] w fun r w' => r = .returned (.bool true) ∧ Below w.heap.size w w'
set_option maxRecDepth 100000 in
set_option maxHeartbeats 1000000 in
theorem eqf_exprs (l : List E) (hM : ∀ e ∈ l, SameX e) (A B : Option Addr) (c d : Nat) (w : World) (hA : EKids w w.heap.size A l) (hB : EKids w w.heap.size B l) :
    Calls Tryz.prog 71 #[.slice A l.length c, .slice B l.length d, .func (.func 72) #[] #[]] w fun e w' => e = .returned (.bool true) ∧ Below w.heap.size w w' := by
  have hn := hA.len
  have HA := Lib.hid hA.get_
  have HB := Lib.hid hB.get_
  have HM := Lib.hid hM
  obtain ⟨m, em⟩ : ∃ m, m = l.length := ⟨_, rfl⟩
  have HEM := Lib.hid em
  rw [← em] at hn ⊢
  clear hA hB em hM
  go_enter Tryz.func71, Tryz.ntmps71
  go_wp2_with fail
  go_loopw [17] (fun i wr => ∃ j : Nat, j ≤ m ∧ i = .int .i64 j ∧ Below w.heap.size w wr) (fun i _ => m - (intOf i).toNat)
  case atStart => exact ⟨0, Nat.zero_le _, rfl, Below.refl _ _⟩
  case round =>
    obtain ⟨j, hj, rfl, hb⟩ := hrel
    by_cases hlt : j < m
    · obtain ⟨x, hx⟩ := get_some' HEM.out hlt
      obtain ⟨b, o, A', c', rfl, hb1, a0, a1, a2, a3, hKa⟩ := HA.out _ hb j x hx
      obtain ⟨wx, ewx⟩ : ∃ wx, wx = wr.alloc (.cells #[.int .i64 x.k, .string x.s, .int .i64 x.n, .slice A' x.kids.length c'] 38) := ⟨_, rfl⟩
      have hbx : Below wr.heap.size wr wx := by rw [ewx]; exact (Below.refl _ _).alloc (Nat.le_refl _) _
      have hnx : wx.heap[wr.heap.size]? = some (.cells #[.int .i64 x.k, .string x.s, .int .i64 x.n, .slice A' x.kids.length c'] 38 (0, 0)) := by rw [ewx]; exact heap_alloc_new wr _
      have hbw : Below w.heap.size w wx := hb.trans (hbx.mono hb.size)
      obtain ⟨b2, o2, B', d', rfl, hb2, b0, b1, b2', b3, hKb⟩ := HB.out _ hbw j x hx
      obtain ⟨wy, ewy⟩ : ∃ wy, wy = wx.alloc (.cells #[.int .i64 x.k, .string x.s, .int .i64 x.n, .slice B' x.kids.length d'] 38) := ⟨_, rfl⟩
      have hby : Below wx.heap.size wx wy := by rw [ewy]; exact (Below.refl _ _).alloc (Nat.le_refl _) _
      have hny : wy.heap[wx.heap.size]? = some (.cells #[.int .i64 x.k, .string x.s, .int .i64 x.n, .slice B' x.kids.length d'] 38 (0, 0)) := by rw [ewy]; exact heap_alloc_new wx _
      have hnx2 := (hby.block _ (Array.getElem?_eq_some_iff.1 hnx).1).trans hnx
      have HBY := Lib.hid (hbw.trans (hby.mono hbw.size))
      have HCL := Lib.hid (HM.out x (List.mem_of_getElem? hx) A' B' c' d' wy ((hKa.low (hbx.trans (hby.mono hbx.size))).more (hbx.trans (hby.mono hbx.size)).size) ((hKb.low hby).more hby.size))
      have HWX := Lib.hid ewx
      have HWY := Lib.hid ewy
      clear ewx ewy hbx hby hbw hnx hx hKa hKb
      obtain ⟨xk, xs, xn, xl⟩ := x
      simp only [E.val, E.k, E.s, E.n, E.kids] at a0 a1 a2 a3 b0 b1 b2' b3 HCL HWX HWY hnx2 hny
      generalize xl.length = xm at *
      obtain ⟨⟨e0, e1, e2, e3⟩, _, _, _, _⟩ := cell4 hnx2
      obtain ⟨⟨f0, f1, f2, f3⟩, _, _, _, _⟩ := cell4 hny
      go_upto_region 6 with (fail)
      rw [← HWX.out]
      go_upto_region 7 with (fail)
      rw [← HWY.out]
      go_wp2_with fail
      refine (HCL.out).mono ?_
      rintro e w3 ⟨rfl, hb3⟩
      have HB3 := Lib.hid (HBY.out.trans (hb3.mono HBY.out.size))
      clear hb3
      go_wp2_with fail
      go_roundw
      case measure => exact meas_jj hlt
      case rel => exact ⟨j + 1, hlt, by simp, HB3.out⟩
    · have HBB := Lib.hid hb
      go_wp2_with fail
      go_ret
      exact ⟨rfl, HBB.out⟩
set_option maxRecDepth 100000 in
set_option maxHeartbeats 1000000 in
theorem samex_step (k : Int) (s : ByteArray) (n : Int) (l : List E) (hM : ∀ e ∈ l, SameX e) : SameX (.mk k s n l) := by
  intro A B c d w hA hB
  simp only [E.val, E.k, E.s, E.n, E.kids] at hA hB ⊢
  obtain ⟨w1, ew1⟩ : ∃ w1, w1 = (w.alloc (.cells #[.int .i64 k, .string s, .int .i64 n, .slice A l.length c] 38)).alloc (.cells #[.int .i64 k, .string s, .int .i64 n, .slice B l.length d] 38) := ⟨_, rfl⟩
  have hb1 : Below w.heap.size w w1 := by rw [ew1]; exact ((Below.refl _ _).alloc (Nat.le_refl _) _).alloc (by simp) _
  have HC := Lib.hid (eqf_exprs l hM A B c d w1 ((hA.low hb1).more hb1.size) ((hB.low hb1).more hb1.size))
  have HB1 := Lib.hid hb1
  have hx1 : w1.heap[w.heap.size]? = some (.cells #[.int .i64 k, .string s, .int .i64 n, .slice A l.length c] 38 (0, 0)) := by
    rw [ew1]
    exact (Below.heap_alloc _ _ _ (by simp)).trans (heap_alloc_new w _)
  have hx2 : w1.heap[w.heap.size + 1]? = some (.cells #[.int .i64 k, .string s, .int .i64 n, .slice B l.length d] 38 (0, 0)) := by
    rw [ew1]
    have := heap_alloc_new (w.alloc (.cells #[.int .i64 k, .string s, .int .i64 n, .slice A l.length c] 38)) (.cells #[.int .i64 k, .string s, .int .i64 n, .slice B l.length d] 38)
    simpa using this
  have HW1 := Lib.hid ew1
  generalize l.length = m at *
  clear hA hB hM ew1 hb1
  obtain ⟨⟨e0, e1, e2, e3⟩, _, _, _, _⟩ := cell4 hx1
  obtain ⟨⟨f0, f1, f2, f3⟩, _, _, _, _⟩ := cell4 hx2
  go_enter Tryz.func72, Tryz.ntmps72
  go_upto_region 1 with (fail)
  rw [← HW1.out]
  go_wp2_with fail
  refine (HC.out).mono ?_
  rintro e w3 ⟨rfl, hb3⟩
  have HB3 := Lib.hid (HB1.out.trans (hb3.mono HB1.out.size))
  clear hb3
  go_wp2_with fail
  go_ret
  exact ⟨rfl, HB3.out⟩
theorem samex_any : ∀ e, SameX e := E.ind samex_step
end Go.Proofs.YtjhkihkiebnpaaaGreatDoor
/-
  Package plan's Same of one and the same plan: it says so.
-/
namespace Go.Proofs.YtjhkihkiebnpaaaGreatDoor
open Go.RowKit
set_option linter.unusedVariables false
set_option linter.unusedSimpArgs false
theorem PAt.low {w w' : World} {p : P} {a : PA} (h : PAt w (LT w) p a) (hb : Below w.heap.size w w') : PAt w' (LT w') p a := (h.kept fun k hk => hb.block k hk).mono fun k hk => Nat.lt_of_lt_of_le hk hb.size
def SamePl (p : P) : Prop := ∀ (a b : PA) (w : World), PAt w (LT w) p a → PAt w (LT w) p b → Calls Tryz.prog 35 #[p.val a, p.val b] w fun r w' => r = .returned (.bool true) ∧ Below w.heap.size w w'
/-- the i-th of plans that lie at A -/
theorem XPK.get_ {w wr : World} {A : Option Addr} {l : List P} (h : XPK w (LT w) A l) (hb : Below w.heap.size w wr) {j : Nat} {x : P} (hx : l[j]? = some x) :
    ∃ b o a, A = some ⟨b, o, none⟩ ∧ b < w.heap.size ∧ (∀ i u, (x.cs a)[i]? = some u → wr.cell? ⟨b, o + j * 8 + i, none⟩ = some u) ∧ PAt wr (LT wr) x a := by
  obtain ⟨b, o, a, e, hlt, hc, hp⟩ := h.at hx
  exact ⟨b, o, a, e, hlt, fun i u hu => (hb.cell (p := ⟨b, o + j * 8 + i, none⟩) hlt).trans (hc i u hu), hp.low hb⟩
/-- a plan's eight values -/
def P.bx (p : P) (a : PA) : Array Value := #[.int .i64 p.k, .string p.nm, .slice a.ea p.ex.length a.ec, .slice a.ca p.cols.length a.cc, .slice a.la p.left.length a.lc, .slice a.ra p.right.length a.rc, .slice a.ga p.ag.length a.gc, .slice a.ka p.kids.length a.kc]
set_option maxRecDepth 100000 in
set_option maxHeartbeats 2000000 in
theorem eqf_plans (l : List P) (hM : ∀ e ∈ l, SamePl e) (A B : Option Addr) (c d : Nat) (w : World) (hn : l.length ≤ 9223372036854775807) (hA : XPK w (LT w) A l) (hB : XPK w (LT w) B l) :
    Calls Tryz.prog 75 #[.slice A l.length c, .slice B l.length d, .func (.func 35) #[] #[]] w fun e w' => e = .returned (.bool true) ∧ Below w.heap.size w w' := by
  have HA := Lib.hid hA
  have HB := Lib.hid hB
  have HM := Lib.hid hM
  obtain ⟨m, em⟩ : ∃ m, m = l.length := ⟨_, rfl⟩
  have HEM := Lib.hid em
  rw [← em] at hn ⊢
  clear hA hB em hM
  go_enter Tryz.func75, Tryz.ntmps75
  go_wp2_with fail
  go_loopw [17] (fun i wr => ∃ j : Nat, j ≤ m ∧ i = .int .i64 j ∧ Below w.heap.size w wr) (fun i _ => m - (intOf i).toNat)
  case atStart => exact ⟨0, Nat.zero_le _, rfl, Below.refl _ _⟩
  case round =>
    obtain ⟨j, hj, rfl, hb⟩ := hrel
    by_cases hlt : j < m
    · obtain ⟨x, hx⟩ := get_some' HEM.out hlt
      obtain ⟨b, o, a1, rfl, hb1, hc1, hp1⟩ := HA.out.get_ hb hx
      have m0 := hc1 0 _ rfl
      have m1 := hc1 1 _ rfl
      have m2 := hc1 2 _ rfl
      have m3 := hc1 3 _ rfl
      have m4 := hc1 4 _ rfl
      have m5 := hc1 5 _ rfl
      have m6 := hc1 6 _ rfl
      have m7 := hc1 7 _ rfl
      rw [Nat.add_zero] at m0
      obtain ⟨wx, ewx⟩ : ∃ wx, wx = wr.alloc (.cells #[.int .i64 x.k, .string x.nm, .slice a1.ea x.ex.length a1.ec, .slice a1.ca x.cols.length a1.cc, .slice a1.la x.left.length a1.lc, .slice a1.ra x.right.length a1.rc, .slice a1.ga x.ag.length a1.gc, .slice a1.ka x.kids.length a1.kc] 27) := ⟨_, rfl⟩
      have hbx : Below wr.heap.size wr wx := by rw [ewx]; exact (Below.refl _ _).alloc (Nat.le_refl _) _
      have hnx : wx.heap[wr.heap.size]? = some (.cells #[.int .i64 x.k, .string x.nm, .slice a1.ea x.ex.length a1.ec, .slice a1.ca x.cols.length a1.cc, .slice a1.la x.left.length a1.lc, .slice a1.ra x.right.length a1.rc, .slice a1.ga x.ag.length a1.gc, .slice a1.ka x.kids.length a1.kc] 27 (0, 0)) := by rw [ewx]; exact heap_alloc_new wr _
      have hbw : Below w.heap.size w wx := hb.trans (hbx.mono hb.size)
      obtain ⟨b2, o2, a2, rfl, hb2, hc2, hp2⟩ := HB.out.get_ hbw hx
      have k0 := hc2 0 _ rfl
      have k1 := hc2 1 _ rfl
      have k2 := hc2 2 _ rfl
      have k3 := hc2 3 _ rfl
      have k4 := hc2 4 _ rfl
      have k5 := hc2 5 _ rfl
      have k6 := hc2 6 _ rfl
      have k7 := hc2 7 _ rfl
      rw [Nat.add_zero] at k0
      obtain ⟨wy, ewy⟩ : ∃ wy, wy = wx.alloc (.cells #[.int .i64 x.k, .string x.nm, .slice a2.ea x.ex.length a2.ec, .slice a2.ca x.cols.length a2.cc, .slice a2.la x.left.length a2.lc, .slice a2.ra x.right.length a2.rc, .slice a2.ga x.ag.length a2.gc, .slice a2.ka x.kids.length a2.kc] 27) := ⟨_, rfl⟩
      have hby : Below wx.heap.size wx wy := by rw [ewy]; exact (Below.refl _ _).alloc (Nat.le_refl _) _
      have hny : wy.heap[wx.heap.size]? = some (.cells #[.int .i64 x.k, .string x.nm, .slice a2.ea x.ex.length a2.ec, .slice a2.ca x.cols.length a2.cc, .slice a2.la x.left.length a2.lc, .slice a2.ra x.right.length a2.rc, .slice a2.ga x.ag.length a2.gc, .slice a2.ka x.kids.length a2.kc] 27 (0, 0)) := by rw [ewy]; exact heap_alloc_new wx _
      have hnx2 := (hby.block _ (Array.getElem?_eq_some_iff.1 hnx).1).trans hnx
      have HBY := Lib.hid (hbw.trans (hby.mono hbw.size))
      have hcl := HM.out x (List.mem_of_getElem? hx) a1 a2 wy (hp1.low (hbx.trans (hby.mono hbx.size))) (hp2.low hby)
      simp only [P.val] at hcl
      have HCL := Lib.hid hcl
      have HWX := Lib.hid ewx
      have HWY := Lib.hid ewy
      clear ewx ewy hbx hby hbw hnx hx hc1 hc2 hp1 hp2 hcl
      generalize x.k = xk at *
      generalize x.nm = xnm at *
      generalize x.ex.length = x1 at *
      generalize x.cols.length = x2 at *
      generalize x.left.length = x3 at *
      generalize x.right.length = x4 at *
      generalize x.ag.length = x5 at *
      generalize x.kids.length = x6 at *
      obtain ⟨qa, qb, qc, qd, qe, qf, qg, qh, qi, qj, qk, ql⟩ := a1
      obtain ⟨ra, rb, rc, rd, re, rf, rg, rh, ri, rj, rk, rl⟩ := a2
      simp only at m0 m1 m2 m3 m4 m5 m6 m7 k0 k1 k2 k3 k4 k5 k6 k7 HCL HWX HWY hnx2 hny
      obtain ⟨z0, z1, z2, z3, z4, z5, z6, z7, _, _, _, _, _, _, _, _⟩ := cell8 hnx2
      obtain ⟨y0, y1, y2, y3, y4, y5, y6, y7, _, _, _, _, _, _, _, _⟩ := cell8 hny
      go_upto_region 6 with (fail)
      rw [← HWX.out]
      go_upto_region 7 with (fail)
      rw [← HWY.out]
      go_wp2_with fail
      refine (HCL.out).mono ?_
      rintro e w3 ⟨rfl, hb3⟩
      have HB3 := Lib.hid (HBY.out.trans (hb3.mono HBY.out.size))
      clear hb3
      go_wp2_with fail
      go_roundw
      case measure => exact meas_jj hlt
      case rel => exact ⟨j + 1, hlt, by simp, HB3.out⟩
    · have HBB := Lib.hid hb
      go_wp2_with fail
      go_ret
      exact ⟨rfl, HBB.out⟩
set_option maxRecDepth 100000 in
set_option maxHeartbeats 4000000 in
theorem samepl_step (k : Int) (nm : ByteArray) (ex : List E) (cols left right : List ByteArray) (ag : List Ag) (kids : List P) (hM : ∀ p ∈ kids, SamePl p) : SamePl (.mk k nm ex cols left right ag kids) := by
  intro a b w hA hB
  obtain ⟨⟨hE, hC, hLf, hR, hG, q1, q2, q3, q4, q5⟩, hKd⟩ := hA
  obtain ⟨⟨gE, gC, gLf, gR, gG, _, _, _, _, _⟩, gKd⟩ := hB
  obtain ⟨ea, ec, ca, cc, la, lc, ra, rc, ga, gc, ka, kc⟩ := a
  obtain ⟨ea', ec', ca', cc', la', lc', ra', rc', ga', gc', ka', kc'⟩ := b
  simp only [P.val, P.k, P.nm, P.ex, P.cols, P.left, P.right, P.ag, P.kids] at hE hC hLf hR hG hKd gE gC gLf gR gG gKd q1 q2 q3 q4 q5 ⊢
  have q6 := hKd.len
  obtain ⟨w1, ew1⟩ : ∃ w1, w1 = (w.alloc (.cells #[.int .i64 k, .string nm, .slice ea ex.length ec, .slice ca cols.length cc, .slice la left.length lc, .slice ra right.length rc, .slice ga ag.length gc, .slice ka kids.length kc] 27)).alloc (.cells #[.int .i64 k, .string nm, .slice ea' ex.length ec', .slice ca' cols.length cc', .slice la' left.length lc', .slice ra' right.length rc', .slice ga' ag.length gc', .slice ka' kids.length kc'] 27) := ⟨_, rfl⟩
  have hb1 : Below w.heap.size w w1 := by rw [ew1]; exact ((Below.refl _ _).alloc (Nat.le_refl _) _).alloc (by simp) _
  have hs1 : w1.heap.size = w.heap.size + 2 := by rw [ew1]; simp
  have HX1 : Hid (w1.heap[w.heap.size]? = some (.cells #[.int .i64 k, .string nm, .slice ea ex.length ec, .slice ca cols.length cc, .slice la left.length lc, .slice ra right.length rc, .slice ga ag.length gc, .slice ka kids.length kc] 27 (0, 0))) := Lib.hid (by
    rw [ew1]
    exact (Below.heap_alloc _ _ _ (by simp)).trans (heap_alloc_new w _))
  have HX2 : Hid (w1.heap[w.heap.size + 1]? = some (.cells #[.int .i64 k, .string nm, .slice ea' ex.length ec', .slice ca' cols.length cc', .slice la' left.length lc', .slice ra' right.length rc', .slice ga' ag.length gc', .slice ka' kids.length kc'] 27 (0, 0))) := Lib.hid (by
    rw [ew1]
    have := heap_alloc_new (w.alloc (.cells #[.int .i64 k, .string nm, .slice ea ex.length ec, .slice ca cols.length cc, .slice la left.length lc, .slice ra right.length rc, .slice ga ag.length gc, .slice ka kids.length kc] 27)) (.cells #[.int .i64 k, .string nm, .slice ea' ex.length ec', .slice ca' cols.length cc', .slice la' left.length lc', .slice ra' right.length rc', .slice ga' ag.length gc', .slice ka' kids.length kc'] 27)
    simpa using this)
  have hw : ∀ w', Below w1.heap.size w1 w' → Below w.heap.size w w' := fun w' h => hb1.trans (h.mono hb1.size)
  have hlo : ∀ w', Below w1.heap.size w1 w' → ∀ A vs, Lies w (LT w) A vs → Lies w' (LT w') A vs := fun w' h A vs hl => (hl.kept fun k hk => (hw w' h).block k hk).mono fun k hk => Nat.lt_of_lt_of_le hk (hw w' h).size
  have H2 := Lib.hid (fun w' (h : Below w1.heap.size w1 w') => eqf_exprs ex (fun e _ => samex_any e) ea ea' ec ec' w' (((hE.to fun k h => h).low (hw w' h)).more (hw w' h).size) (((gE.to fun k h => h).low (hw w' h)).more (hw w' h).size))
  have H3 := Lib.hid (fun w' (h : Below w1.heap.size w1 w') => eq_strings cols q2 ca ca' cc cc' w' (hlo w' h _ _ hC) (hlo w' h _ _ gC))
  have H4 := Lib.hid (fun w' (h : Below w1.heap.size w1 w') => eq_strings left q3 la la' lc lc' w' (hlo w' h _ _ hLf) (hlo w' h _ _ gLf))
  have H5 := Lib.hid (fun w' (h : Below w1.heap.size w1 w') => eq_strings right q4 ra ra' rc rc' w' (hlo w' h _ _ hR) (hlo w' h _ _ gR))
  have H6 := Lib.hid (fun w' (h : Below w1.heap.size w1 w') => eq_aggs ag q5 ga ga' gc gc' w' (hlo w' h _ _ hG) (hlo w' h _ _ gG))
  have H7 := Lib.hid (fun w' (h : Below w1.heap.size w1 w') => eqf_plans kids hM ka ka' kc kc' w' q6 ((hKd.kept fun k hk => (hw w' h).block k hk).mono fun k hk => Nat.lt_of_lt_of_le hk (hw w' h).size) ((gKd.kept fun k hk => (hw w' h).block k hk).mono fun k hk => Nat.lt_of_lt_of_le hk (hw w' h).size))
  have HB1 := Lib.hid hb1
  have HW1 := Lib.hid ew1
  have hz1 : w.heap.size < w1.heap.size := by omega
  have hz2 : w.heap.size + 1 < w1.heap.size := by omega
  generalize ex.length = n1 at *
  generalize cols.length = n2 at *
  generalize left.length = n3 at *
  generalize right.length = n4 at *
  generalize ag.length = n5 at *
  generalize kids.length = n6 at *
  clear hE hC hLf hR hG hKd gE gC gLf gR gG gKd q1 q2 q3 q4 q5 q6 ew1 hb1 hs1 hw hlo hM
  obtain ⟨z0, z1, z2, z3, z4, z5, z6, z7, _, _, _, _, _, _, _, _⟩ := cell8 HX1.out
  obtain ⟨y0, y1, y2, y3, y4, y5, y6, y7, _, _, _, _, _, _, _, _⟩ := cell8 HX2.out
  go_enter Tryz.func35, Tryz.ntmps35
  go_upto_region 1 with (fail)
  rw [← HW1.out]
  go_wp2_with fail
  refine (H2.out w1 (Below.refl _ _)).mono ?_
  rintro e w2 ⟨rfl, hb2⟩
  have B2 := Lib.hid hb2
  have C2 := Lib.hid ((hb2.block _ hz1).trans HX1.out)
  have D2 := Lib.hid ((hb2.block _ hz2).trans HX2.out)
  clear hb2 z0 z1 z2 z3 z4 z5 z6 z7 y0 y1 y2 y3 y4 y5 y6 y7
  obtain ⟨z0, z1, z2, z3, z4, z5, z6, z7, _, _, _, _, _, _, _, _⟩ := cell8 C2.out
  obtain ⟨y0, y1, y2, y3, y4, y5, y6, y7, _, _, _, _, _, _, _, _⟩ := cell8 D2.out
  go_wp2_with fail
  refine (H3.out w2 B2.out).mono ?_
  rintro e w3 ⟨rfl, hb2⟩
  have B3 := Lib.hid (B2.out.trans (hb2.mono B2.out.size))
  clear hb2 z0 z1 z2 z3 z4 z5 z6 z7 y0 y1 y2 y3 y4 y5 y6 y7
  obtain ⟨z0, z1, z2, z3, z4, z5, z6, z7, _, _, _, _, _, _, _, _⟩ := cell8 ((B3.out.block _ hz1).trans HX1.out)
  obtain ⟨y0, y1, y2, y3, y4, y5, y6, y7, _, _, _, _, _, _, _, _⟩ := cell8 ((B3.out.block _ hz2).trans HX2.out)
  go_wp2_with fail
  refine (H4.out w3 B3.out).mono ?_
  rintro e w4 ⟨rfl, hb2⟩
  have B4 := Lib.hid (B3.out.trans (hb2.mono B3.out.size))
  clear hb2 z0 z1 z2 z3 z4 z5 z6 z7 y0 y1 y2 y3 y4 y5 y6 y7
  obtain ⟨z0, z1, z2, z3, z4, z5, z6, z7, _, _, _, _, _, _, _, _⟩ := cell8 ((B4.out.block _ hz1).trans HX1.out)
  obtain ⟨y0, y1, y2, y3, y4, y5, y6, y7, _, _, _, _, _, _, _, _⟩ := cell8 ((B4.out.block _ hz2).trans HX2.out)
  go_wp2_with fail
  refine (H5.out w4 B4.out).mono ?_
  rintro e w5 ⟨rfl, hb2⟩
  have B5 := Lib.hid (B4.out.trans (hb2.mono B4.out.size))
  clear hb2 z0 z1 z2 z3 z4 z5 z6 z7 y0 y1 y2 y3 y4 y5 y6 y7
  obtain ⟨z0, z1, z2, z3, z4, z5, z6, z7, _, _, _, _, _, _, _, _⟩ := cell8 ((B5.out.block _ hz1).trans HX1.out)
  obtain ⟨y0, y1, y2, y3, y4, y5, y6, y7, _, _, _, _, _, _, _, _⟩ := cell8 ((B5.out.block _ hz2).trans HX2.out)
  go_wp2_with fail
  refine (H6.out w5 B5.out).mono ?_
  rintro e w6 ⟨rfl, hb2⟩
  have B6 := Lib.hid (B5.out.trans (hb2.mono B5.out.size))
  clear hb2 z0 z1 z2 z3 z4 z5 z6 z7 y0 y1 y2 y3 y4 y5 y6 y7
  obtain ⟨z0, z1, z2, z3, z4, z5, z6, z7, _, _, _, _, _, _, _, _⟩ := cell8 ((B6.out.block _ hz1).trans HX1.out)
  obtain ⟨y0, y1, y2, y3, y4, y5, y6, y7, _, _, _, _, _, _, _, _⟩ := cell8 ((B6.out.block _ hz2).trans HX2.out)
  go_wp2_with fail
  refine (H7.out w6 B6.out).mono ?_
  rintro e w7 ⟨rfl, hb2⟩
  have B7 := Lib.hid (HB1.out.trans ((B6.out.trans (hb2.mono B6.out.size)).mono HB1.out.size))
  clear hb2
  go_wp2_with fail
  go_ret
  exact ⟨rfl, B7.out⟩
theorem samepl_any : ∀ p, SamePl p := P.ind samepl_step
end Go.Proofs.YtjhkihkiebnpaaaGreatDoor
/-
  Package plan: Size, tables, Tables.
-/
namespace Go.Proofs.YtjhkihkiebnpaaaGreatDoor
open Go.RowKit
set_option linter.unusedVariables false
set_option linter.unusedSimpArgs false
mutual
def sizeP : P → Nat | .mk _ _ _ _ _ _ _ kids => 1 + sizePL kids
def sizePL : List P → Nat | [] => 0 | x :: l => sizeP x + sizePL l
end
mutual
def tabsP : P → List ByteArray | .mk k nm _ _ _ _ _ kids => (if k = 1 then [nm] else []) ++ tabsPL kids
def tabsPL : List P → List ByteArray | [] => [] | x :: l => tabsP x ++ tabsPL l
end
theorem sizePL_append (a b : List P) : sizePL (a ++ b) = sizePL a + sizePL b := by
  induction a with
  | nil => simp [sizePL]
  | cons x a ih => rw [List.cons_append, sizePL, sizePL, ih, Nat.add_assoc]
theorem tabsPL_append (a b : List P) : tabsPL (a ++ b) = tabsPL a ++ tabsPL b := by
  induction a with
  | nil => simp [tabsPL]
  | cons x a ih => rw [List.cons_append, tabsPL, tabsPL, ih, List.append_assoc]
theorem sizePL_take (l : List P) (j : Nat) : sizePL (l.take j) ≤ sizePL l := by
  conv => rhs; rw [← List.take_append_drop j l, sizePL_append]
  omega
theorem tabsPL_take (l : List P) (j : Nat) : (tabsPL (l.take j)).length ≤ (tabsPL l).length := by
  conv => rhs; rw [← List.take_append_drop j l, tabsPL_append]
  rw [List.length_append]
  omega
theorem sizePL_snoc {l : List P} {j : Nat} {x : P} (h : l[j]? = some x) : sizePL (l.take (j + 1)) = sizePL (l.take j) + sizeP x := by
  rw [List.take_add_one, h, sizePL_append]
  show _ + (sizeP x + 0) = _
  omega
theorem tabsPL_snoc {l : List P} {j : Nat} {x : P} (h : l[j]? = some x) : tabsPL (l.take (j + 1)) = tabsPL (l.take j) ++ tabsP x := by
  rw [List.take_add_one, h, tabsPL_append]
  show _ ++ (tabsP x ++ []) = _
  rw [List.append_nil]
def SizeOk (p : P) : Prop := sizeP p ≤ 1000000 → ∀ (a : PA) (w : World), PAt w (LT w) p a → Calls Tryz.prog 18 #[p.val a] w fun e w' => e = .returned (.int .i64 (sizeP p : Int)) ∧ Below w.heap.size w w'
theorem size_facts {l : List P} {j : Nat} {x : P} {s : Nat} (hb : 1 + sizePL l ≤ 1000000) (hx : l[j]? = some x) (hs : s = 1 + sizePL (l.take j)) : sizeP x ≤ 1000000 ∧ s + sizeP x = 1 + sizePL (l.take (j + 1)) ∧ wrap64 ((s : Int) + (sizeP x : Int)) = (s : Int) + (sizeP x : Int) := by
  have h1 := sizePL_snoc hx
  have h2 := sizePL_take l (j + 1)
  refine ⟨by omega, by omega, ?_⟩
  exact IntWalk.wrap64_in _ (by omega)
set_option maxRecDepth 100000 in
set_option maxHeartbeats 2000000 in
theorem size_step (k : Int) (nm : ByteArray) (ex : List E) (cols left right : List ByteArray) (ag : List Ag) (kids : List P) (hM : ∀ p ∈ kids, SizeOk p) : SizeOk (.mk k nm ex cols left right ag kids) := by
  intro hbd a w hA
  have hKd := hA.kids
  obtain ⟨ea, ec, ca, cc, la, lc, ra, rc, ga, gc, ka, kc⟩ := a
  rw [sizeP] at hbd ⊢
  simp only [P.val, P.k, P.nm, P.ex, P.cols, P.left, P.right, P.ag, P.kids] at hKd ⊢
  have q6 := hKd.len
  obtain ⟨n6, en6⟩ : ∃ n, n = kids.length := ⟨_, rfl⟩
  rw [← en6]
  generalize ex.length = n1 at *
  generalize cols.length = n2 at *
  generalize left.length = n3 at *
  generalize right.length = n4 at *
  generalize ag.length = n5 at *
  obtain ⟨w1, ew1⟩ : ∃ w1, w1 = w.alloc (.cells #[.int .i64 k, .string nm, .slice ea n1 ec, .slice ca n2 cc, .slice la n3 lc, .slice ra n4 rc, .slice ga n5 gc, .slice ka n6 kc] 27) := ⟨_, rfl⟩
  have hb1 : Below w.heap.size w w1 := by rw [ew1]; exact (Below.refl _ _).alloc (Nat.le_refl _) _
  have hx1 : w1.heap[w.heap.size]? = some (.cells #[.int .i64 k, .string nm, .slice ea n1 ec, .slice ca n2 cc, .slice la n3 lc, .slice ra n4 rc, .slice ga n5 gc, .slice ka n6 kc] 27 (0, 0)) := by rw [ew1]; exact heap_alloc_new w _
  have HB1 := Lib.hid hb1
  have HW1 := Lib.hid ew1
  have HK := Lib.hid hKd
  have HM := Lib.hid hM
  have EN6 := Lib.hid en6
  have HBD := Lib.hid hbd
  rw [← en6] at q6
  clear hA hKd hM en6 hbd ew1 hb1
  obtain ⟨z0, z1, z2, z3, z4, z5, z6, z7, _, _, _, _, _, _, _, _⟩ := cell8 hx1
  go_enter Tryz.func18, Tryz.ntmps18
  go_upto_region 1 with (fail)
  rw [← HW1.out]
  go_wp2_with fail
  clear z0 z1 z2 z3 z4 z5 z6 z7 hx1
  go_loopw [3, 9] (fun s i wr => ∃ j t : Nat, j ≤ n6 ∧ i = .int .i64 j ∧ s = .int .i64 (t : Int) ∧ Hid (t = 1 + sizePL (kids.take j)) ∧ Below w.heap.size w wr) (fun _ i _ => n6 - (intOf i).toNat)
  case atStart => exact ⟨0, 1, Nat.zero_le _, rfl, rfl, Lib.hid (by simp [sizePL]), HB1.out⟩
  case round =>
    obtain ⟨j, t, hj, rfl, rfl, ht, hb⟩ := hrel
    have HB := Lib.hid hb
    by_cases hlt : j < n6
    · obtain ⟨x, hx⟩ := get_some' EN6.out hlt
      obtain ⟨f1, f2, f3⟩ := size_facts HBD.out hx ht.out
      obtain ⟨b, o, a1, rfl, hb1, hc1, hp1⟩ := HK.out.get_ hb hx
      have m0 := hc1 0 _ rfl
      have m1 := hc1 1 _ rfl
      have m2 := hc1 2 _ rfl
      have m3 := hc1 3 _ rfl
      have m4 := hc1 4 _ rfl
      have m5 := hc1 5 _ rfl
      have m6 := hc1 6 _ rfl
      have m7 := hc1 7 _ rfl
      rw [Nat.add_zero] at m0
      obtain ⟨wx, ewx⟩ : ∃ wx, wx = wr.alloc (.cells #[.int .i64 x.k, .string x.nm, .slice a1.ea x.ex.length a1.ec, .slice a1.ca x.cols.length a1.cc, .slice a1.la x.left.length a1.lc, .slice a1.ra x.right.length a1.rc, .slice a1.ga x.ag.length a1.gc, .slice a1.ka x.kids.length a1.kc] 27) := ⟨_, rfl⟩
      have hbx : Below wr.heap.size wr wx := by rw [ewx]; exact (Below.refl _ _).alloc (Nat.le_refl _) _
      have hnx : wx.heap[wr.heap.size]? = some (.cells #[.int .i64 x.k, .string x.nm, .slice a1.ea x.ex.length a1.ec, .slice a1.ca x.cols.length a1.cc, .slice a1.la x.left.length a1.lc, .slice a1.ra x.right.length a1.rc, .slice a1.ga x.ag.length a1.gc, .slice a1.ka x.kids.length a1.kc] 27 (0, 0)) := by rw [ewx]; exact heap_alloc_new wr _
      have hcl := HM.out x (List.mem_of_getElem? hx) f1 a1 wx (hp1.low hbx)
      have HBX := Lib.hid (hb.trans (hbx.mono hb.size))
      simp only [P.val] at hcl
      have HCL := Lib.hid hcl
      have HWX := Lib.hid ewx
      have F2 := Lib.hid f2
      clear ewx hbx hx hc1 hp1 hcl hb f1 f2
      generalize sizeP x = sx at *
      generalize x.k = xk at *
      generalize x.nm = xnm at *
      generalize x.ex.length = x1 at *
      generalize x.cols.length = x2 at *
      generalize x.left.length = x3 at *
      generalize x.right.length = x4 at *
      generalize x.ag.length = x5 at *
      generalize x.kids.length = x6 at *
      obtain ⟨qa, qb, qc, qd, qe, qf, qg, qh, qi, qj, qk, ql⟩ := a1
      simp only at m0 m1 m2 m3 m4 m5 m6 m7 HCL HWX hnx
      obtain ⟨z0, z1, z2, z3, z4, z5, z6, z7, _, _, _, _, _, _, _, _⟩ := cell8 hnx
      go_upto_region 5 with (fail)
      rw [← HWX.out]
      go_wp2_with fail
      refine (HCL.out).mono ?_
      rintro e w3 ⟨rfl, hb3⟩
      have HB3 := Lib.hid (HBX.out.trans (hb3.mono HBX.out.size))
      clear hb3
      go_wp2_with fail
      go_roundw
      case measure => exact meas_jj hlt
      case rel => exact ⟨j + 1, t + sx, hlt, by simp, by simp [f3], F2, HB3.out⟩
    · have he : Hid (t = 1 + sizePL kids) := Lib.hid (by rw [ht.out, List.take_of_length_le (by have := EN6.out; omega)])
      clear hb
      go_wp2_with fail
      go_ret
      exact ⟨by show Ending.returned (Value.int .i64 (t : Int)) = _; rw [he.out], HB.out⟩
theorem size_any : ∀ p, SizeOk p := P.ind size_step
/-! ### the tables that are named -/
def TabsOk (p : P) : Prop := ∀ (a : PA) (w : World) (base : Nat) (v : Value) (xs : List ByteArray), base ≤ w.heap.size → PAt w (fun k => k < base) p a → w.ownsRow base 9 1 v xs.length (strs xs) → xs.length + (tabsP p).length ≤ 1000000 →
  Calls Tryz.prog 36 #[p.val a, v] w fun r w' => ∃ v', r = .returned v' ∧ w'.ownsRow base 9 1 v' (xs ++ tabsP p).length (strs (xs ++ tabsP p)) ∧ Below base w w'
theorem PAt.lowB {w w' : World} {B : Nat} {p : P} {a : PA} (h : PAt w (fun k => k < B) p a) (hb : Below B w w') : PAt w' (fun k => k < B) p a := h.kept fun k hk => hb.block k hk
theorem own_ne {w : World} {base n z : Nat} {e : TypeId} {v : Value} {xs : List Value} (h : w.ownsRow base e z v n xs) : ∀ g, v.ownBlock = some g → g ≠ w.heap.size := fun g e => by have := (h.lt g e).2; omega
theorem strs_app (a b : List ByteArray) : strs (a ++ b) = strs a ++ strs b := by simp [strs]
set_option maxRecDepth 100000 in
set_option maxHeartbeats 4000000 in
theorem tabs_step (k : Int) (nm : ByteArray) (ex : List E) (cols left right : List ByteArray) (ag : List Ag) (kids : List P) (hM : ∀ p ∈ kids, TabsOk p) : TabsOk (.mk k nm ex cols left right ag kids) := by
  intro a w base v xs hbase hA hown hbd
  have hKd := hA.kids
  obtain ⟨ea, ec, ca, cc, la, lc, ra, rc, ga, gc, ka, kc⟩ := a
  have hu : tabsP (.mk k nm ex cols left right ag kids) = (if k = 1 then [nm] else []) ++ tabsPL kids := by rw [tabsP]
  rw [hu, ← List.append_assoc]
  rw [hu, List.length_append] at hbd
  simp only [P.val, P.k, P.nm, P.ex, P.cols, P.left, P.right, P.ag, P.kids] at hKd ⊢
  have q6 := hKd.len
  obtain ⟨ys, hys⟩ : ∃ ys, ys = xs ++ (if k = 1 then [nm] else []) := ⟨_, rfl⟩
  rw [← hys]
  have hyl : xs.length ≤ ys.length ∧ ys.length + (tabsPL kids).length ≤ 1000000 := by
    rw [hys, List.length_append]; omega
  obtain ⟨i0, hi, hz0, hz1, hz2⟩ := info_parts pstr_info
  obtain ⟨n6, en6⟩ : ∃ n, n = kids.length := ⟨_, rfl⟩
  rw [← en6] at q6 ⊢
  generalize ex.length = n1 at *
  generalize cols.length = n2 at *
  generalize left.length = n3 at *
  generalize right.length = n4 at *
  generalize ag.length = n5 at *
  have EN6 := Lib.hid en6
  have HM := Lib.hid hM
  have HYS := Lib.hid hys
  have HYL := Lib.hid hyl
  obtain ⟨w1, ew1⟩ : ∃ w1, w1 = w.alloc (.cells #[.int .i64 k, .string nm, .slice ea n1 ec, .slice ca n2 cc, .slice la n3 lc, .slice ra n4 rc, .slice ga n5 gc, .slice ka n6 kc] 27) := ⟨_, rfl⟩
  have hb1 : Below w.heap.size w w1 := by rw [ew1]; exact (Below.refl _ _).alloc (Nat.le_refl _) _
  have hs1 : w1.heap.size = w.heap.size + 1 := by rw [ew1]; simp
  have hx1 : w1.heap[w.heap.size]? = some (.cells #[.int .i64 k, .string nm, .slice ea n1 ec, .slice ca n2 cc, .slice la n3 lc, .slice ra n4 rc, .slice ga n5 gc, .slice ka n6 kc] 27 (0, 0)) := by rw [ew1]; exact heap_alloc_new w _
  have HX1 := Lib.hid hx1
  have HW1 := Lib.hid ew1
  have HB1 := Lib.hid (hb1.mono hbase)
  have HO1 := Lib.hid (own_below hown hb1)
  have HK := Lib.hid hKd
  have HNE := Lib.hid (own_ne hown)
  clear hA hKd hM en6 ew1 hb1 hown hbd hu hys hyl hx1
  go_enter Tryz.func36, Tryz.ntmps36
  go_upto_if 9 with (fail)
  rw [← HW1.out]
  go_cut [1] (fun u wx => ∃ v1, u = v1 ∧ wx.ownsRow base 9 1 v1 ys.length (strs ys) ∧ wx.heap[w.heap.size]? = some (.cells #[.int .i64 k, .string nm, .slice ea n1 ec, .slice ca n2 cc, .slice la n3 lc, .slice ra n4 rc, .slice ga n5 gc, .slice ka n6 kc] 27 (0, 0)) ∧ Below base w wx ∧ w1.heap.size ≤ wx.heap.size)
  case first =>
    obtain ⟨z0, z1, z2, z3, z4, z5, z6, z7, _, _, _, _, _, _, _, _⟩ := cell8 HX1.out
    by_cases hk : k = 1
    · subst hk
      have hy : ys = xs ++ [nm] := by rw [HYS.out]; simp
      have hyn : ys.length = xs.length + 1 := by rw [hy]; simp
      have hyb := HYL.out
      go_wp2_with (at_builtin; refine wpList_append_own _ rfl _ _ 23 rfl base 9 i0 _ 1 16 Tryz.underlying23 hi hz0 hz1 hz2 rfl (by decide) _ _ _ rfl (own_below HO1.out ((Below.refl w1.heap.size w1).alloc (Nat.le_refl _) _)) ⟨w.heap.size + 1, 0, none⟩ 1 1 [.string nm] rfl rfl ?c1 ?c2 ?c3 ?c4 ?c5 ?_)
      (try case c1 => rw [← hs1]; exact World.news_of_block (heap_alloc_new w1 _))
      case c2 => first | rfl | (intro u hu; simp at hu; subst hu; rfl)
      case c3 => unfold maxLen; omega
      case c4 => omega
      case c5 => first | omega | (simp; omega)
      intro v' w5 hown5 hgrow _
      have hB5 := ((HB1.out.alloc (by omega) (.cells #[.string nm] 9)).grown hgrow (by simp; omega) (fun g hg => (HO1.out.lt g hg).1))
      have hX5 : w5.heap[w.heap.size]? = some (.cells #[.int .i64 1, .string nm, .slice ea n1 ec, .slice ca n2 cc, .slice la n3 lc, .slice ra n4 rc, .slice ga n5 gc, .slice ka n6 kc] 27 (0, 0)) := (hgrow.block w.heap.size (by simp; omega) (fun e => HNE.out _ e.symm rfl)).trans ((Below.heap_alloc w1 _ _ (by omega)).trans HX1.out)
      have hO5 : w5.ownsRow base 9 1 v' ys.length (strs ys) := by rw [hyn, hy]; simpa [strs] using hown5
      have hS5 : w1.heap.size ≤ w5.heap.size := by have := hgrow.size; simp at this; omega
      have HZ5 := Lib.hid (And.intro hO5 (And.intro hX5 (And.intro hB5 hS5)))
      clear hown5 hgrow hB5 hX5 hO5 hS5
      go_wp2_with fail
      go_meet
      exact ⟨v', rfl, HZ5.out⟩
    · have hk' : (k == 1) = false := by simpa using hk
      have hy : ys = xs := by rw [HYS.out, if_neg hk, List.append_nil]
      go_wp2_with fail
      go_meet
      exact ⟨v, rfl, by rw [hy]; exact HO1.out, HX1.out, HB1.out, Nat.le_refl _⟩
  case rest =>
  obtain ⟨v1, rfl, hown, hbx, hb, hsz⟩ := hcut
  have HOC := Lib.hid hown
  have HXC := Lib.hid hbx
  have HBC := Lib.hid hb
  clear hown hbx hb
  obtain ⟨z0, z1, z2, z3, z4, z5, z6, z7, _, _, _, _, _, _, _, _⟩ := cell8 HXC.out
  go_wp2_with fail
  clear z0 z1 z2 z3 z4 z5 z6 z7
  go_loopw [1, 18] (fun u i wr => ∃ (j : Nat) (v' : Value), j ≤ n6 ∧ i = .int .i64 j ∧ v' = u ∧ wr.ownsRow base 9 1 v' (ys ++ tabsPL (kids.take j)).length (strs (ys ++ tabsPL (kids.take j))) ∧ Below base w wr ∧ w1.heap.size ≤ wr.heap.size) (fun _ i _ => n6 - (intOf i).toNat)
  case atStart => exact ⟨0, _, Nat.zero_le _, rfl, rfl, by rw [List.take_zero, tabsPL, List.append_nil]; exact HOC.out, HBC.out, hsz⟩
  case round =>
    obtain ⟨j, v', hj, rfl, rfl, hown, hb, hsz2⟩ := hrel
    have HO := Lib.hid hown
    have HB := Lib.hid hb
    clear hown hb
    by_cases hlt : j < n6
    · obtain ⟨x, hx⟩ := get_some' EN6.out hlt
      obtain ⟨b, o, a1, rfl, hb1, hc1, hp1⟩ := (HK.out.kept (w' := wr) fun k hk => HB.out.block k hk).at hx
      have m0 := hc1 0 _ rfl
      have m1 := hc1 1 _ rfl
      have m2 := hc1 2 _ rfl
      have m3 := hc1 3 _ rfl
      have m4 := hc1 4 _ rfl
      have m5 := hc1 5 _ rfl
      have m6 := hc1 6 _ rfl
      have m7 := hc1 7 _ rfl
      rw [Nat.add_zero] at m0
      have hul := tabsPL_snoc hx
      have hln : (ys ++ tabsPL (kids.take j)).length + (tabsP x).length ≤ 1000000 := by
        have h1 := tabsPL_take kids (j + 1)
        have h2 := HYL.out
        rw [hul, List.length_append] at h1
        rw [List.length_append]
        omega
      have hwr : base ≤ wr.heap.size := by omega
      obtain ⟨wx, ewx⟩ : ∃ wx, wx = wr.alloc (.cells #[.int .i64 x.k, .string x.nm, .slice a1.ea x.ex.length a1.ec, .slice a1.ca x.cols.length a1.cc, .slice a1.la x.left.length a1.lc, .slice a1.ra x.right.length a1.rc, .slice a1.ga x.ag.length a1.gc, .slice a1.ka x.kids.length a1.kc] 27) := ⟨_, rfl⟩
      have hbx : Below wr.heap.size wr wx := by rw [ewx]; exact (Below.refl _ _).alloc (Nat.le_refl _) _
      have hnx : wx.heap[wr.heap.size]? = some (.cells #[.int .i64 x.k, .string x.nm, .slice a1.ea x.ex.length a1.ec, .slice a1.ca x.cols.length a1.cc, .slice a1.la x.left.length a1.lc, .slice a1.ra x.right.length a1.rc, .slice a1.ga x.ag.length a1.gc, .slice a1.ka x.kids.length a1.kc] 27 (0, 0)) := by rw [ewx]; exact heap_alloc_new wr _
      have hcl := HM.out x (List.mem_of_getElem? hx) a1 wx base v' (ys ++ tabsPL (kids.take j)) (Nat.le_trans hwr hbx.size) (hp1.lowB (hbx.mono hwr)) (own_below HO.out hbx) hln
      have HBX := Lib.hid (HB.out.trans (hbx.mono hwr))
      have hxs := Lib.hid hbx.size
      have HUL := Lib.hid hul
      simp only [P.val] at hcl
      have HCL := Lib.hid hcl
      have HWX := Lib.hid ewx
      clear ewx hbx hx hc1 hp1 hcl hul hln
      generalize x.k = xk at *
      generalize x.nm = xnm at *
      generalize x.ex.length = x1 at *
      generalize x.cols.length = x2 at *
      generalize x.left.length = x3 at *
      generalize x.right.length = x4 at *
      generalize x.ag.length = x5 at *
      generalize x.kids.length = x6 at *
      obtain ⟨qa, qb, qc, qd, qe, qf, qg, qh, qi, qj, qk, ql⟩ := a1
      simp only at m0 m1 m2 m3 m4 m5 m6 m7 HCL HWX hnx
      obtain ⟨z0, z1, z2, z3, z4, z5, z6, z7, _, _, _, _, _, _, _, _⟩ := cell8 hnx
      go_upto_region 6 with (fail)
      rw [← HWX.out]
      go_wp2_with fail
      refine (HCL.out).mono ?_
      rintro r w2 ⟨v2, rfl, hown2, hb2⟩
      have HO2 := Lib.hid hown2
      have HB2 := Lib.hid (HBX.out.trans hb2)
      have hs2 := Lib.hid (Nat.le_trans hsz2 (Nat.le_trans hxs.out hb2.size))
      clear hown2 hb2
      go_wp2_with fail
      go_roundw
      case measure => exact meas_jj hlt
      case rel =>
        refine ⟨j + 1, v2, hlt, by simp, rfl, ?_, HB2.out, hs2.out⟩
        rw [HUL.out, ← List.append_assoc]
        exact HO2.out
    · have he : Hid (kids.take j = kids) := Lib.hid (List.take_of_length_le (by have := EN6.out; omega))
      go_wp2_with fail
      go_ret
      refine ⟨v', rfl, ?_, HB.out⟩
      have := HO.out
      rw [he.out] at this
      exact this
theorem tabs_any : ∀ p, TabsOk p := P.ind tabs_step
end Go.Proofs.YtjhkihkiebnpaaaGreatDoor
/-
  Plans within plans, and plans that are wrapped. No program in sight.
-/
set_option linter.unusedVariables false
set_option linter.unusedSimpArgs false
namespace Go.Proofs.YtjhkihkiebnpaaaGreatDoor
open Go.RowKit
theorem join_mem {l : List T} {x : T} (h : x ∈ l) : (prT x).length ≤ (Lib.join (prL l) [32]).length := by
  have ht : ∀ (l : List T), x ∈ l → (prT x).length ≤ (Lib.joinTail [32] (prL l)).length := by
    intro l
    induction l with
    | nil => intro h; cases h
    | cons y l ih =>
      intro h
      have e : Lib.joinTail [32] (prL (y :: l)) = 32 :: (prT y ++ Lib.joinTail [32] (prL l)) := by
        rw [prL]
        simp [Lib.joinTail]
      rw [e, List.length_cons, List.length_append]
      rcases List.mem_cons.1 h with rfl | h
      · omega
      · have := ih h; omega
  cases l with
  | nil => cases h
  | cons y l =>
    rw [prL, Lib.join_cons, List.length_append]
    rcases List.mem_cons.1 h with rfl | h
    · omega
    · have := ht l h; omega
theorem deep_mem {l : List T} {x : T} (h : x ∈ l) : deepT x ≤ deepL l := by
  induction l with
  | nil => cases h
  | cons y l ih =>
    rw [deepL]
    rcases List.mem_cons.1 h with rfl | h
    · omega
    · have := ih h; omega
theorem planL_get : ∀ (l : List T) (s : RSt), (planL l 0 s).2 = s → (planL l 0 s).2.1 = 0 → ∀ p ∈ (planL l 0 s).1, ∃ x ∈ l, planT x s = (p, s)
  | [], s, _, _ => fun p hp => by rw [planL] at hp; cases hp
  | x :: l, s, h, h0 => fun p hp => by
    rw [planL] at h h0 hp
    simp only at h h0 hp
    have hb := planL_back l (fun t _ => back_plan t) _ h0
    have h1 : (planT x s).2 = s := by rw [← hb.1]; exact h
    rcases List.mem_cons.1 hp with rfl | hp
    · exact ⟨x, List.mem_cons_self, Prod.ext rfl h1⟩
    · rw [h1] at hp h h0
      obtain ⟨y, hy, e⟩ := planL_get l s h h0 p hp
      exact ⟨y, List.mem_cons_of_mem _ hy, e⟩
/-- a plan within a plan -/
theorem planOf_kid {t : T} {p q : P} (h : PlanOf t p) (hq : q ∈ p.kids) : ∃ x, PlanOf x q ∧ (prP q).size ≤ (prP p).size := by
  obtain ⟨k, s, n, l, a⟩ := t
  have hp := h.plan
  rw [planT, planL_skip] at hp
  injection hp with hp1 hp2
  have hq' : q ∈ (planL (l.drop (l.length - kidsN (kindT (.mk k s n l a)))) 0 (baseR (kindT (.mk k s n l a)) l a (0, 0))).1 := by rw [← hp1] at hq; exact hq
  have hb := planL_back (l.drop (l.length - kidsN (kindT (.mk k s n l a)))) (fun t _ => back_plan t) (baseR (kindT (.mk k s n l a)) l a (0, 0)) (by rw [hp2])
  rw [hp2] at hb
  have hbr : baseR (kindT (.mk k s n l a)) l a (0, 0) = (0, 0) := hb.1.symm
  rw [hbr] at hq' hp2
  obtain ⟨x, hx, e⟩ := planL_get _ _ hp2 (by rw [hp2]) q hq'
  have hx' : x ∈ l := List.mem_of_mem_drop hx
  have hok := h.ok
  have hd := h.deep
  have hc := h.cost
  cases hok with
  | atom s a h0 h1 => cases hx'
  | num n a h1 h2 => cases hx'
  | str s a h1 => cases hx'
  | node l a hl =>
    rw [deepT, if_pos rfl] at hd
    rw [cost_node] at hc
    have h1 := deep_mem hx'
    have h2 := cost_mem hx'
    have hx2 : PlanOf x q := ⟨hl x hx', e, by omega, by omega⟩
    refine ⟨x, hx2, ?_⟩
    have e1 : (prP q).size = (prT x).length := by unfold prP; rw [planOf_pr hx2]; rfl
    have e2 : (prP p).size = (prT (.mk 1 ⟨#[]⟩ 0 l a)).length := by unfold prP; rw [planOf_pr h]; rfl
    have e3 : prT (.mk 1 ⟨#[]⟩ 0 l a) = 40 :: (Lib.join (prL l) [32] ++ [41]) := by unfold prT; rw [if_pos rfl]
    have := join_mem hx'
    rw [e1, e2, e3, List.length_cons, List.length_append]
    omega
theorem prP_pos {t : T} {p : P} (h : PlanOf t p) : 0 < (prP p).size := by
  have hm := planOf_made h
  obtain ⟨k, nm, ex, cols, left, right, ag, kids⟩ := p
  cases hm with
  | mk _ _ _ _ _ _ _ _ h1 h7 hex hc hk =>
    unfold prP
    rw [treeP, if_neg (by omega)]
    unfold openT
    rw [prT, if_pos rfl]
    show 0 < (40 :: _ : List UInt8).length
    simp
/-- what is read of a tree that was printed -/
theorem read_wrap {W : T} {q : P} (h : OkT W) (hc : costT W ≤ 600 ∨ 600 < (prT W).length) (hp : planT W (0, 0) = (q, 0, 0)) :
    (600 < (prT W).length ∧ readP ⟨(prT W).toArray⟩ = (zeroP, 3, 0)) ∨ ((prT W).length ≤ 600 ∧ 12 < deepT W ∧ (readP ⟨(prT W).toArray⟩).1 = zeroP ∧ (readP ⟨(prT W).toArray⟩).2.1 = 14) ∨
      ((prT W).length ≤ 600 ∧ readP ⟨(prT W).toArray⟩ = (q, 0, 0) ∧ PlanOf W q) := by
  have hsz : (⟨(prT W).toArray⟩ : ByteArray).size = (prT W).length := rfl
  by_cases h6 : 600 < (prT W).length
  · exact .inl ⟨h6, by unfold readP; rw [if_pos (by rw [hsz]; exact h6)]⟩
  · right
    have hc' : costT W ≤ 600 := by rcases hc with hc | hc; exact hc; exact absurd hc h6
    by_cases hd : deepT W ≤ 12
    · right
      have hof : PlanOf W q := ⟨h, hp, hd, hc'⟩
      have e : prP q = ⟨(prT W).toArray⟩ := by unfold prP; rw [planOf_pr hof]
      refine ⟨by omega, ?_, hof⟩
      rw [← e]
      exact print_read hof (by rw [e, hsz]; omega)
    · left
      have h14 := (read_print h).2 (by omega)
      refine ⟨by omega, by omega, ?_⟩
      unfold readP
      rw [if_neg (by rw [hsz]; exact h6), if_neg (by rw [h14]; decide)]
      exact ⟨rfl, h14⟩
theorem okt_word {w : List UInt8} (h0 : w ≠ []) (h : ∀ c ∈ w, letP c = true) : OkT (atomT ⟨w.toArray⟩) := .atom _ 0 (by simpa using h0) (by simpa using h)
theorem ba_toL (w : List UInt8) : (⟨w.toArray⟩ : ByteArray).toList = w := by rw [ByteArray.toList_eq]
theorem kind_head (w : List UInt8) (l : List T) : kindT (openT (atomT ⟨w.toArray⟩ :: l)) = kindW w (atomT ⟨w.toArray⟩ :: l) := by
  show kindW (wordL 1 (atomT ⟨w.toArray⟩ :: l)).toList _ = _
  rw [wordL_cons, if_pos ⟨rfl, rfl⟩]
  show kindW (⟨w.toArray⟩ : ByteArray).toList _ = _
  rw [ba_toL]
  rfl
theorem planT_era0 {t : T} {p : P} (h : PlanOf t p) : planT (era t) (0, 0) = (p, 0, 0) := by
  have := plan_again (t := t) (t' := era t) (s := (0, 0)) (s' := (0, 0)) (by rw [h.plan]) (era_era t) rfl
  rw [h.plan] at this
  exact this
/-! ### the five forms -/
def tA : T := openT [atomT ⟨#[108, 116]⟩, atomT ⟨#[97]⟩, .mk 3 ⟨#[]⟩ 5 [] 0]
def tXA : T := openT [atomT ⟨#[120]⟩, atomT ⟨#[97]⟩]
def tYQ : T := openT [atomT ⟨#[121]⟩, .mk 4 ⟨#[113]⟩ 0 [] 0]
def tAB : T := openT [atomT ⟨#[97]⟩, atomT ⟨#[98]⟩]
def tNC : T := openT [atomT ⟨#[110]⟩, atomT ⟨#[99, 111, 117, 110, 116]⟩]
def tMC : T := openT [atomT ⟨#[109]⟩, atomT ⟨#[109, 97, 120]⟩, atomT ⟨#[99]⟩]
def tZZ : T := openT [atomT ⟨#[116, 97, 98, 108, 101]⟩, atomT ⟨#[122, 122]⟩]
/-- what stands ahead of the plan that is wrapped -/
def wrapL (k : Nat) : List T :=
  if k = 0 then [atomT ⟨wDistinct.toArray⟩] else if k = 1 then [atomT ⟨wFilter.toArray⟩, tA] else if k = 2 then [atomT ⟨wProject.toArray⟩, tXA, tYQ] else if k = 3 then [atomT ⟨wGroup.toArray⟩, tAB, tNC, tMC] else [atomT ⟨wUnion.toArray⟩, tZZ]
def wrapT (k : Nat) (x : T) : T := openT (wrapL k ++ [x])
def pZZ : P := .mk 1 ⟨#[122, 122]⟩ [] [] [] [] [] []
def wrapP (k : Nat) (p : P) : P :=
  if k = 0 then .mk 6 ⟨#[]⟩ [] [] [] [] [] [p]
  else if k = 1 then .mk 2 ⟨#[]⟩ [.mk 4 ⟨#[108, 116]⟩ 0 [.mk 1 ⟨#[97]⟩ 0 [], .mk 2 ⟨#[]⟩ 5 []]] [] [] [] [] [p]
  else if k = 2 then .mk 3 ⟨#[]⟩ [.mk 1 ⟨#[97]⟩ 0 [], .mk 3 ⟨#[113]⟩ 0 []] [⟨#[120]⟩, ⟨#[121]⟩] [] [] [] [p]
  else if k = 3 then .mk 7 ⟨#[]⟩ [] [] [⟨#[97]⟩, ⟨#[98]⟩] [] [⟨⟨#[110]⟩, ⟨#[99, 111, 117, 110, 116]⟩, ⟨#[]⟩⟩, ⟨⟨#[109]⟩, ⟨#[109, 97, 120]⟩, ⟨#[99]⟩⟩] [p]
  else .mk 5 ⟨#[]⟩ [] [] [] [] [] [pZZ, p]
theorem name_a : nameB ⟨#[97]⟩ = true := by kernel_rfl
theorem plan_wrap {k : Nat} (hk : k ≤ 4) {x : T} {p : P} (h : planT x (0, 0) = (p, 0, 0)) : planT (wrapT k x) (0, 0) = (wrapP k p, 0, 0) := by
  have hzz : planT tZZ (0, 0) = (pZZ, 0, 0) := by kernel_rfl
  obtain rfl | rfl | rfl | rfl | rfl : k = 0 ∨ k = 1 ∨ k = 2 ∨ k = 3 ∨ k = 4 := by omega
  · have hk : kindT (wrapT 0 x) = 6 := by
      show kindT (openT (atomT ⟨wDistinct.toArray⟩ :: [x])) = 6
      rw [kind_head]
      rfl
    show planT (openT [atomT ⟨wDistinct.toArray⟩, x]) (0, 0) = _
    unfold openT
    rw [planT, show kindT (T.mk 1 ⟨#[]⟩ 0 [atomT ⟨wDistinct.toArray⟩, x] 0) = 6 from hk]
    show (_, _) = _
    simp only [show kidsN 6 = 1 from rfl, List.length_cons, List.length_nil, planL, h, show baseR 6 [atomT ⟨wDistinct.toArray⟩, x] 0 (0, 0) = (0, 0) from rfl]
    rfl
  · have hk : kindT (wrapT 1 x) = 2 := by
      show kindT (openT (atomT ⟨wFilter.toArray⟩ :: [tA, x])) = 2
      rw [kind_head]
      rfl
    have hr : readT tA = (.mk 4 ⟨#[108, 116]⟩ 0 [.mk 1 ⟨#[97]⟩ 0 [], .mk 2 ⟨#[]⟩ 5 []], 0, 0) := by kernel_rfl
    show planT (openT [atomT ⟨wFilter.toArray⟩, tA, x]) (0, 0) = _
    unfold openT
    rw [planT, show kindT (T.mk 1 ⟨#[]⟩ 0 [atomT ⟨wFilter.toArray⟩, tA, x] 0) = 2 from hk]
    have hb : baseR 2 [atomT ⟨wFilter.toArray⟩, tA, x] 0 (0, 0) = (0, 0) := by
      show exprR tA (0, 0) = _
      unfold exprR
      rw [hr]
      rfl
    have hp : baseP 2 [atomT ⟨wFilter.toArray⟩, tA, x] = .mk 2 ⟨#[]⟩ [(readT tA).1] [] [] [] [] [] := rfl
    simp only [show kidsN 2 = 1 from rfl, List.length_cons, List.length_nil, planL, h, hb, hp, hr]
    rfl
  · have hcx : columnT tXA = true ∧ columnT tYQ = true := ⟨rfl, rfl⟩
    have hk : kindT (wrapT 2 x) = 3 := by
      show kindT (openT (atomT ⟨wProject.toArray⟩ :: [tXA, tYQ, x])) = 3
      rw [kind_head]
      rfl
    have hr1 : readT (tXA.kids.getD 1 zeroT) = (.mk 1 ⟨#[97]⟩ 0 [], 0, 0) := by kernel_rfl
    have hr2 : readT (tYQ.kids.getD 1 zeroT) = (.mk 3 ⟨#[113]⟩ 0 [], 0, 0) := by kernel_rfl
    show planT (openT [atomT ⟨wProject.toArray⟩, tXA, tYQ, x]) (0, 0) = _
    unfold openT
    rw [planT, show kindT (T.mk 1 ⟨#[]⟩ 0 [atomT ⟨wProject.toArray⟩, tXA, tYQ, x] 0) = 3 from hk]
    have hb : baseR 3 [atomT ⟨wProject.toArray⟩, tXA, tYQ, x] 0 (0, 0) = (0, 0) := by
      show colR tYQ (colR tXA (0, 0)) = _
      have h1 : colR tXA (0, 0) = (0, 0) := by kernel_rfl
      have h2 : colR tYQ (0, 0) = (0, 0) := by kernel_rfl
      rw [h1, h2]
    have hp : baseP 3 [atomT ⟨wProject.toArray⟩, tXA, tYQ, x] = .mk 3 ⟨#[]⟩ [(readT (tXA.kids.getD 1 zeroT)).1, (readT (tYQ.kids.getD 1 zeroT)).1] [⟨#[120]⟩, ⟨#[121]⟩] [] [] [] [] := rfl
    simp only [show kidsN 3 = 1 from rfl, List.length_cons, List.length_nil, planL, h, hb, hp, hr1, hr2]
    rfl
  · have hk : kindT (wrapT 3 x) = 7 := by
      show kindT (openT (atomT ⟨wGroup.toArray⟩ :: [tAB, tNC, tMC, x])) = 7
      rw [kind_head]
      rfl
    show planT (openT [atomT ⟨wGroup.toArray⟩, tAB, tNC, tMC, x]) (0, 0) = _
    unfold openT
    rw [planT, show kindT (T.mk 1 ⟨#[]⟩ 0 [atomT ⟨wGroup.toArray⟩, tAB, tNC, tMC, x] 0) = 7 from hk]
    have hb : baseR 7 [atomT ⟨wGroup.toArray⟩, tAB, tNC, tMC, x] 0 (0, 0) = (0, 0) := by
      show aggR tMC.kids (aggR tNC.kids (namesR tAB.kids (0, 0))) = _
      have h1 : namesR tAB.kids (0, 0) = (0, 0) := by kernel_rfl
      have h2 : aggR tNC.kids (0, 0) = (0, 0) := by kernel_rfl
      have h3 : aggR tMC.kids (0, 0) = (0, 0) := by kernel_rfl
      rw [h1, h2, h3]
    have hp : baseP 7 [atomT ⟨wGroup.toArray⟩, tAB, tNC, tMC, x] = .mk 7 ⟨#[]⟩ [] [] [⟨#[97]⟩, ⟨#[98]⟩] [] [⟨⟨#[110]⟩, ⟨#[99, 111, 117, 110, 116]⟩, ⟨#[]⟩⟩, ⟨⟨#[109]⟩, ⟨#[109, 97, 120]⟩, ⟨#[99]⟩⟩] [] := rfl
    simp only [show kidsN 7 = 1 from rfl, List.length_cons, List.length_nil, planL, h, hb, hp]
    rfl
  · have hk : kindT (wrapT 4 x) = 5 := by
      show kindT (openT (atomT ⟨wUnion.toArray⟩ :: [tZZ, x])) = 5
      rw [kind_head]
      rfl
    show planT (openT [atomT ⟨wUnion.toArray⟩, tZZ, x]) (0, 0) = _
    unfold openT
    rw [planT, show kindT (T.mk 1 ⟨#[]⟩ 0 [atomT ⟨wUnion.toArray⟩, tZZ, x] 0) = 5 from hk]
    simp only [show kidsN 5 = 2 from rfl, List.length_cons, List.length_nil, planL, h, hzz, show baseR 5 [atomT ⟨wUnion.toArray⟩, tZZ, x] 0 (0, 0) = (0, 0) from rfl]
    rfl
theorem cost_le {t : T} (h : OkT t) : costT t ≤ (prT t).length := by
  induction h with
  | atom w a h0 h =>
    have e : prT (.mk 2 w 0 [] a) = w.data.toList := by unfold prT; rw [if_neg (by decide), if_pos rfl]
    have hc : costT (.mk 2 w 0 [] a) = w.size := by simp only [costT, costL]; rw [if_pos trivial]; rfl
    rw [e, hc, Array.length_toList]
    exact Nat.le_refl _
  | num n a h1 h2 =>
    have e : prT (.mk 3 ⟨#[]⟩ n [] a) = Lib.itoa n := by unfold prT; rw [if_neg (by decide), if_neg (by decide), if_pos rfl]
    have hc : costT (.mk 3 ⟨#[]⟩ n [] a) = 1 := by simp only [costT, costL]; rw [if_neg (by decide)]; rfl
    obtain ⟨c, r, e2, _⟩ := itoa_first n
    rw [e, hc, e2, List.length_cons]
    omega
  | str w a h =>
    have hok : V.okB ⟨2, 0, w⟩ = true := by
      unfold V.okB
      simp
      omega
    have e : prT (.mk 4 w 0 [] a) = 34 :: w.data.toList.flatMap qB ++ [34] := by
      unfold prT
      rw [if_neg (by decide), if_neg (by decide), if_neg (by decide), if_pos rfl]
      unfold showB
      rw [if_pos hok]
      rfl
    have hc : costT (.mk 4 w 0 [] a) = w.size + 1 := by simp only [costT, costL]; rw [if_neg (by decide)]
    have hq : ∀ l : List UInt8, l.length ≤ (l.flatMap qB).length := by
      intro l
      induction l with
      | nil => exact Nat.le_refl _
      | cons c l ih =>
        have : 1 ≤ (qB c).length := by unfold qB; split <;> simp
        rw [List.flatMap_cons, List.length_append, List.length_cons]
        omega
    have h1 := hq w.data.toList
    have h2 : w.data.toList.length = w.size := by rw [Array.length_toList]; rfl
    rw [e, hc, List.length_append, List.length_cons, List.length_singleton]
    omega
  | node l a h ih =>
    have e : prT (.mk 1 ⟨#[]⟩ 0 l a) = 40 :: (Lib.join (prL l) [32] ++ [41]) := by unfold prT; rw [if_pos rfl]
    have ht : ∀ l : List T, (∀ t ∈ l, costT t ≤ (prT t).length) → costL l ≤ (Lib.joinTail [32] (prL l)).length := by
      intro l
      induction l with
      | nil => intro _; simp [costL]
      | cons y l ih =>
        intro h
        have e : Lib.joinTail [32] (prL (y :: l)) = 32 :: (prT y ++ Lib.joinTail [32] (prL l)) := by
          rw [prL]
          simp [Lib.joinTail]
        have h1 := h y List.mem_cons_self
        have h2 := ih fun t ht => h t (List.mem_cons_of_mem _ ht)
        rw [e, List.length_cons, List.length_append, costL]
        omega
    have hj : costL l ≤ (Lib.join (prL l) [32]).length := by
      cases l with
      | nil => simp [costL]
      | cons y l =>
        have h1 := ih y List.mem_cons_self
        have h2 := ht l fun t ht => ih t (List.mem_cons_of_mem _ ht)
        rw [prL, Lib.join_cons, List.length_append, costL]
        omega
    rw [e, cost_node, List.length_cons, List.length_append]
    omega
def headB (k : Nat) : List UInt8 := if k = 0 then [40, 100, 105, 115, 116, 105, 110, 99, 116, 32] else if k = 1 then [40, 102, 105, 108, 116, 101, 114, 32, 40, 108, 116, 32, 97, 32, 53, 41, 32] else if k = 2 then [40, 112, 114, 111, 106, 101, 99, 116, 32, 40, 120, 32, 97, 41, 32, 40, 121, 32, 34, 113, 34, 41, 32] else if k = 3 then [40, 103, 114, 111, 117, 112, 32, 40, 97, 32, 98, 41, 32, 40, 110, 32, 99, 111, 117, 110, 116, 41, 32, 40, 109, 32, 109, 97, 120, 32, 99, 41, 32] else [40, 117, 110, 105, 111, 110, 32, 40, 116, 97, 98, 108, 101, 32, 122, 122, 41, 32]
theorem pr_open (l : List T) : prT (openT l) = 40 :: (Lib.join (prL l) [32] ++ [41]) := by unfold openT; rw [prT, if_pos rfl]
theorem pr_atom (w : List UInt8) : prT (atomT ⟨w.toArray⟩) = w := by unfold atomT; rw [prT, if_neg (by decide), if_pos rfl]
theorem pr_wrap {k : Nat} (hk : k ≤ 4) (x : T) : prT (wrapT k x) = headB k ++ prT x ++ [41] := by
  have pA : prT tA = [40, 108, 116, 32, 97, 32, 53, 41] := by kernel_rfl
  have pX : prT tXA = [40, 120, 32, 97, 41] := by kernel_rfl
  have pY : prT tYQ = [40, 121, 32, 34, 113, 34, 41] := by kernel_rfl
  have pAB : prT tAB = [40, 97, 32, 98, 41] := by kernel_rfl
  have pN : prT tNC = [40, 110, 32, 99, 111, 117, 110, 116, 41] := by kernel_rfl
  have pM : prT tMC = [40, 109, 32, 109, 97, 120, 32, 99, 41] := by kernel_rfl
  have pZ : prT tZZ = [40, 116, 97, 98, 108, 101, 32, 122, 122, 41] := by kernel_rfl
  obtain rfl | rfl | rfl | rfl | rfl : k = 0 ∨ k = 1 ∨ k = 2 ∨ k = 3 ∨ k = 4 := by omega
  · show prT (openT [atomT ⟨wDistinct.toArray⟩, x]) = _
    rw [pr_open]
    simp [prL, pr_atom, Lib.join_cons, Lib.joinTail, headB, wDistinct]
  · show prT (openT [atomT ⟨wFilter.toArray⟩, tA, x]) = _
    rw [pr_open]
    simp [prL, pr_atom, Lib.join_cons, Lib.joinTail, headB, wFilter, pA]
  · show prT (openT [atomT ⟨wProject.toArray⟩, tXA, tYQ, x]) = _
    rw [pr_open]
    simp [prL, pr_atom, Lib.join_cons, Lib.joinTail, headB, wProject, pX, pY]
  · show prT (openT [atomT ⟨wGroup.toArray⟩, tAB, tNC, tMC, x]) = _
    rw [pr_open]
    simp [prL, pr_atom, Lib.join_cons, Lib.joinTail, headB, wGroup, pAB, pN, pM]
  · show prT (openT [atomT ⟨wUnion.toArray⟩, tZZ, x]) = _
    rw [pr_open]
    simp [prL, pr_atom, Lib.join_cons, Lib.joinTail, headB, wUnion, pZ]
theorem let_all {w : List UInt8} (h : w.all letP = true) : ∀ c ∈ w, letP c = true := List.all_eq_true.1 h
theorem okt_a (w : List UInt8) (h0 : w ≠ []) (h : w.all letP = true) : OkT (atomT ⟨w.toArray⟩) := okt_word h0 (let_all h)
theorem okt_open {l : List T} (h : ∀ t ∈ l, OkT t) : OkT (openT l) := .node l 0 h
theorem okt_wrap {k : Nat} (hk : k ≤ 4) {x : T} (hx : OkT x) : OkT (wrapT k x) := by
  have oA : OkT tA := okt_open (by simp only [List.mem_cons, List.not_mem_nil, or_false, forall_eq_or_imp, forall_eq]; exact ⟨okt_a [108, 116] (by decide) (by decide), okt_a [97] (by decide) (by decide), .num 5 0 (by decide) (by decide)⟩)
  have oX : OkT tXA := okt_open (by simp only [List.mem_cons, List.not_mem_nil, or_false, forall_eq_or_imp, forall_eq]; exact ⟨okt_a [120] (by decide) (by decide), okt_a [97] (by decide) (by decide)⟩)
  have oY : OkT tYQ := okt_open (by simp only [List.mem_cons, List.not_mem_nil, or_false, forall_eq_or_imp, forall_eq]; exact ⟨okt_a [121] (by decide) (by decide), .str _ 0 (by decide)⟩)
  have oAB : OkT tAB := okt_open (by simp only [List.mem_cons, List.not_mem_nil, or_false, forall_eq_or_imp, forall_eq]; exact ⟨okt_a [97] (by decide) (by decide), okt_a [98] (by decide) (by decide)⟩)
  have oN : OkT tNC := okt_open (by simp only [List.mem_cons, List.not_mem_nil, or_false, forall_eq_or_imp, forall_eq]; exact ⟨okt_a [110] (by decide) (by decide), okt_a [99, 111, 117, 110, 116] (by decide) (by decide)⟩)
  have oM : OkT tMC := okt_open (by simp only [List.mem_cons, List.not_mem_nil, or_false, forall_eq_or_imp, forall_eq]; exact ⟨okt_a [109] (by decide) (by decide), okt_a [109, 97, 120] (by decide) (by decide), okt_a [99] (by decide) (by decide)⟩)
  have oZ : OkT tZZ := okt_open (by simp only [List.mem_cons, List.not_mem_nil, or_false, forall_eq_or_imp, forall_eq]; exact ⟨okt_a [116, 97, 98, 108, 101] (by decide) (by decide), okt_a [122, 122] (by decide) (by decide)⟩)
  refine okt_open fun t ht => ?_
  rcases List.mem_append.1 ht with ht | ht
  · unfold wrapL at ht
    have o1 := okt_a wDistinct (by decide) (by decide)
    have o2 := okt_a wFilter (by decide) (by decide)
    have o3 := okt_a wProject (by decide) (by decide)
    have o4 := okt_a wGroup (by decide) (by decide)
    have o5 := okt_a wUnion (by decide) (by decide)
    split at ht
    · simp only [List.mem_cons, List.not_mem_nil, or_false] at ht; rcases ht with rfl; exact o1
    · split at ht
      · simp only [List.mem_cons, List.not_mem_nil, or_false] at ht; rcases ht with rfl | rfl; exact o2; exact oA
      · split at ht
        · simp only [List.mem_cons, List.not_mem_nil, or_false] at ht; rcases ht with rfl | rfl | rfl; exact o3; exact oX; exact oY
        · split at ht
          · simp only [List.mem_cons, List.not_mem_nil, or_false] at ht; rcases ht with rfl | rfl | rfl | rfl; exact o4; exact oAB; exact oN; exact oM
          · simp only [List.mem_cons, List.not_mem_nil, or_false] at ht; rcases ht with rfl | rfl; exact o5; exact oZ
  · rw [List.mem_singleton.1 ht]
    exact hx
/-- a plan that is wrapped, read -/
theorem wrap_read {k : Nat} (hk : k ≤ 4) {t : T} {p : P} (h : PlanOf t p) :
    ((readP ⟨(headB k ++ prT t ++ [41]).toArray⟩).1 = zeroP ∧ ((readP ⟨(headB k ++ prT t ++ [41]).toArray⟩).2.1 = 3 ∨ (readP ⟨(headB k ++ prT t ++ [41]).toArray⟩).2.1 = 14)) ∨
      (readP ⟨(headB k ++ prT t ++ [41]).toArray⟩ = (wrapP k p, 0, 0) ∧ PlanOf (wrapT k (era t)) (wrapP k p) ∧ prP (wrapP k p) = ⟨(headB k ++ prT t ++ [41]).toArray⟩ ∧ (prP (wrapP k p)).size ≤ 600) := by
  have hw := okt_wrap hk (okt_era h.ok)
  have hp := plan_wrap hk (planT_era0 h)
  have he : prT (wrapT k (era t)) = headB k ++ prT t ++ [41] := by rw [pr_wrap hk, prT_era]
  have hc : costT (wrapT k (era t)) ≤ 600 ∨ 600 < (prT (wrapT k (era t))).length := by
    have := cost_le hw
    omega
  have h3 := read_wrap hw hc hp
  rw [he] at h3
  rcases h3 with ⟨_, h3⟩ | ⟨_, _, h1, h2⟩ | ⟨h1, h2, h3⟩
  · left; rw [h3]; exact ⟨rfl, .inl rfl⟩
  · left; exact ⟨h1, .inr h2⟩
  · right
    have e : prP (wrapP k p) = ⟨(headB k ++ prT t ++ [41]).toArray⟩ := by unfold prP; rw [planOf_pr h3, he]
    exact ⟨h2, h3, e, by rw [e]; exact h1⟩
theorem wrap_size {k : Nat} (hk : k ≤ 4) (p : P) : sizeP (wrapP k p) = (if k = 4 then sizeP p + 2 else sizeP p + 1) := by
  obtain rfl | rfl | rfl | rfl | rfl : k = 0 ∨ k = 1 ∨ k = 2 ∨ k = 3 ∨ k = 4 := by omega
  · show sizeP (.mk 6 _ _ _ _ _ _ [p]) = _
    rw [sizeP, sizePL, sizePL, if_neg (by decide)]; omega
  · show sizeP (.mk 2 _ _ _ _ _ _ [p]) = _
    rw [sizeP, sizePL, sizePL, if_neg (by decide)]; omega
  · show sizeP (.mk 3 _ _ _ _ _ _ [p]) = _
    rw [sizeP, sizePL, sizePL, if_neg (by decide)]; omega
  · show sizeP (.mk 7 _ _ _ _ _ _ [p]) = _
    rw [sizeP, sizePL, sizePL, if_neg (by decide)]; omega
  · show sizeP (.mk 5 _ _ _ _ _ _ [pZZ, p]) = _
    have : sizeP pZZ = 1 := rfl
    rw [sizeP, sizePL, sizePL, sizePL, if_pos rfl, this]; omega
theorem wrap_tabs {k : Nat} (hk : k ≤ 3) (p : P) : tabsP (wrapP k p) = tabsP p := by
  obtain rfl | rfl | rfl | rfl : k = 0 ∨ k = 1 ∨ k = 2 ∨ k = 3 := by omega
  · show tabsP (.mk 6 _ _ _ _ _ _ [p]) = _
    rw [tabsP, tabsPL, tabsPL, if_neg (by decide), List.nil_append, List.append_nil]
  · show tabsP (.mk 2 _ _ _ _ _ _ [p]) = _
    rw [tabsP, tabsPL, tabsPL, if_neg (by decide), List.nil_append, List.append_nil]
  · show tabsP (.mk 3 _ _ _ _ _ _ [p]) = _
    rw [tabsP, tabsPL, tabsPL, if_neg (by decide), List.nil_append, List.append_nil]
  · show tabsP (.mk 7 _ _ _ _ _ _ [p]) = _
    rw [tabsP, tabsPL, tabsPL, if_neg (by decide), List.nil_append, List.append_nil]
/-! ### how large a plan is -/
theorem size_tree : ∀ p : P, (1 ≤ p.k ∧ p.k ≤ 7 → True) := fun _ _ => trivial
end Go.Proofs.YtjhkihkiebnpaaaGreatDoor
/-
  Package sexp's reader: signs, runs of them, whether a whole tree is there.
-/
set_option linter.unusedVariables false
set_option linter.unusedSimpArgs false
namespace Go.Proofs.YtjhkihkiebnpaaaGreatDoor
open Go.RowKit
theorem letter_any (c : UInt8) (w : World) : Calls Tryz.prog 96 #[.int .u8 (c.toNat : Int)] w fun e w' => e = .returned (.bool (letP c)) ∧ w = w' := by
  unfold letP
  cases a1 : decide (97 ≤ (c.toNat : Int))
  · go_enter Tryz.func96, Tryz.ntmps96
    go_wp2
    go_ret
    exact ⟨rfl, rfl⟩
  · cases a2 : decide ((c.toNat : Int) ≤ 122)
    all_goals
      go_enter Tryz.func96, Tryz.ntmps96
      go_wp2
      go_ret
      exact ⟨rfl, rfl⟩
theorem digit_any (c : UInt8) (w : World) : Calls Tryz.prog 97 #[.int .u8 (c.toNat : Int)] w fun e w' => e = .returned (.bool (digP c)) ∧ w = w' := by
  unfold digP
  cases a1 : decide (48 ≤ (c.toNat : Int))
  · go_enter Tryz.func97, Tryz.ntmps97
    go_wp2
    go_ret
    exact ⟨rfl, rfl⟩
  · cases a2 : decide ((c.toNat : Int) ≤ 57)
    all_goals
      go_enter Tryz.func97, Tryz.ntmps97
      go_wp2
      go_ret
      exact ⟨rfl, rfl⟩
theorem whole_any {w : World} {g n c : Nat} {A : Option Addr} {x y : Value} {t : TypeId} (h : w.heap[g]? = some (.cells #[x, y, .slice A n c] t (0, 0))) :
    Calls Tryz.prog 55 #[.pointer (some ⟨g, 0, none⟩)] w fun e w' => e = .returned (.bool (decide (0 < n))) ∧ w = w' := by
  have h0 : w.cell? ⟨g, 2, none⟩ = some (.slice A n c) := by simp [World.cell?, h]
  clear h
  go_enter Tryz.func55, Tryz.ntmps55
  go_wp2
  go_ret
  exact ⟨rfl, rfl⟩
theorem run_letters (s : ByteArray) (p : Nat) (hp : p ≤ s.size) (hs : s.size ≤ 600) (w : World) : Calls Tryz.prog 98 #[.string s, .int .i64 (p : Int), .func (.func 96) #[] #[]] w fun e w' => e = .returned (.int .i64 (runE letP s p)) ∧ w = w' := by
  have hL := Lib.hid (fun c => letter_any c w)
  go_enter Tryz.func98, Tryz.ntmps98
  go_wp2_with fail
  go_loop [7] (fun i => ∃ k : Nat, k ≤ s.size ∧ i = .int .i64 k ∧ Hid (runE letP s k = runE letP s p)) (fun i => s.size - (intOf i).toNat)
  case atStart => exact ⟨p, hp, rfl, Lib.hid rfl⟩
  case round =>
    obtain ⟨k, hk, rfl, hR⟩ := hrel
    by_cases hks : k < s.size
    · have hlk := Lib.hid (hL.out s[k])
      have HB := Lib.hid (bt_eq hks)
      cases hlt : letP s[k]
      · rw [hlt] at hlk
        have hR' := hR.out
        rw [runE_stop (by rw [HB.out]; exact hlt)] at hR'
        have HR := Lib.hid hR'
        clear hR' hlt
        go_wp2_with fail
        refine (hlk.out).mono ?_
        rintro e w' ⟨rfl, rfl⟩
        go_wp2_with fail
        go_ret
        exact ⟨by rw [← HR.out]; rfl, rfl⟩
      · rw [hlt] at hlk
        have hR' := hR.out
        rw [runE_step hks (by rw [HB.out]; exact hlt)] at hR'
        have HR := Lib.hid hR'
        clear hR' hlt
        go_wp2_with fail
        refine (hlk.out).mono ?_
        rintro e w' ⟨rfl, rfl⟩
        go_wp2_with fail
        go_round
        case rel => exact ⟨k + 1, by omega, by go_num, HR⟩
        case measure => simp [intOf]; omega
    · obtain rfl : k = s.size := by omega
      have hR' := hR.out
      rw [runE_end (by omega)] at hR'
      have HR := Lib.hid hR'
      clear hR'
      go_wp2_with fail
      go_ret
      exact ⟨by rw [← HR.out]; rfl, rfl⟩
theorem run_digits (s : ByteArray) (p : Nat) (hp : p ≤ s.size) (hs : s.size ≤ 600) (w : World) : Calls Tryz.prog 98 #[.string s, .int .i64 (p : Int), .func (.func 97) #[] #[]] w fun e w' => e = .returned (.int .i64 (runE digP s p)) ∧ w = w' := by
  have hL := Lib.hid (fun c => digit_any c w)
  go_enter Tryz.func98, Tryz.ntmps98
  go_wp2_with fail
  go_loop [7] (fun i => ∃ k : Nat, k ≤ s.size ∧ i = .int .i64 k ∧ Hid (runE digP s k = runE digP s p)) (fun i => s.size - (intOf i).toNat)
  case atStart => exact ⟨p, hp, rfl, Lib.hid rfl⟩
  case round =>
    obtain ⟨k, hk, rfl, hR⟩ := hrel
    by_cases hks : k < s.size
    · have hlk := Lib.hid (hL.out s[k])
      have HB := Lib.hid (bt_eq hks)
      cases hlt : digP s[k]
      · rw [hlt] at hlk
        have hR' := hR.out
        rw [runE_stop (by rw [HB.out]; exact hlt)] at hR'
        have HR := Lib.hid hR'
        clear hR' hlt
        go_wp2_with fail
        refine (hlk.out).mono ?_
        rintro e w' ⟨rfl, rfl⟩
        go_wp2_with fail
        go_ret
        exact ⟨by rw [← HR.out]; rfl, rfl⟩
      · rw [hlt] at hlk
        have hR' := hR.out
        rw [runE_step hks (by rw [HB.out]; exact hlt)] at hR'
        have HR := Lib.hid hR'
        clear hR' hlt
        go_wp2_with fail
        refine (hlk.out).mono ?_
        rintro e w' ⟨rfl, rfl⟩
        go_wp2_with fail
        go_round
        case rel => exact ⟨k + 1, by omega, by go_num, HR⟩
        case measure => simp [intOf]; omega
    · obtain rfl : k = s.size := by omega
      have hR' := hR.out
      rw [runE_end (by omega)] at hR'
      have HR := Lib.hid hR'
      clear hR'
      go_wp2_with fail
      go_ret
      exact ⟨by rw [← HR.out]; rfl, rfl⟩
end Go.Proofs.YtjhkihkiebnpaaaGreatDoor
/-
  Package sexp's reader: numbers; digits of escapes.
-/
set_option linter.unusedVariables false
set_option linter.unusedSimpArgs false
namespace Go.Proofs.YtjhkihkiebnpaaaGreatDoor
open Go.RowKit
/-- the two variables that strconv's errors hold -/
def Errs (w : World) : Prop := (2 < w.heap.size ∧ ∃ ev, w.cell? ⟨2, 0, none⟩ = some ev ∧ (ev = .nilIface ∨ ∃ te pe, ev = .iface te pe)) ∧
  (3 < w.heap.size ∧ ∃ ev, w.cell? ⟨3, 0, none⟩ = some ev ∧ (ev = .nilIface ∨ ∃ te pe, ev = .iface te pe))
theorem Errs.kept {B : Nat} {w w' : World} (h : Errs w) (hB : 2 < B ∧ 3 < B) (hb : Below B w w') : Errs w' := by
  obtain ⟨⟨h1, e1, c1, d1⟩, ⟨h2, e2, c2, d2⟩⟩ := h
  have hs := hb.size
  exact ⟨⟨by omega, e1, (hb.cell (p := ⟨_, 0, none⟩) hB.1).trans c1, d1⟩, ⟨by omega, e2, (hb.cell (p := ⟨_, 0, none⟩) hB.2).trans c2, d2⟩⟩
theorem Errs.lt {w : World} (h : Errs w) : 2 < w.heap.size ∧ 3 < w.heap.size := ⟨h.1.1, h.2.1⟩
theorem Errs.below {w w' : World} (h : Errs w) (hb : Below w.heap.size w w') : Errs w' := h.kept h.lt hb
/-- strconv.ParseInt at base ten and 64 bits -/
def ParseHere : Prop := ∀ (x : ByteArray) (w : World), x.size ≤ 600 → Errs w → Calls Tryz.prog 136 #[.string x, .int .i64 10, .int .i64 64] w fun e w' =>
  ((∃ v, Lib.parseIntB 64 x.data.toList = .ok v ∧ e = .returned (.tuple #[.int .i64 v, .nilIface])) ∨ ((∀ v, Lib.parseIntB 64 x.data.toList ≠ .ok v) ∧ ∃ n te pe, e = .returned (.tuple #[.int .i64 n, .iface te pe]))) ∧ Below w.heap.size w w'
def NumIs (o : Option (Int × Nat)) (e : Ending) : Prop := e = .returned (match o with | some (n, k) => .tuple #[.int .i64 n, .int .i64 (k : Int)] | none => .tuple #[.int .i64 0, .int .i64 (-1)])
set_option maxRecDepth 100000 in
set_option maxHeartbeats 2000000 in
theorem number_any (hP : ParseHere) (s : ByteArray) (p : Nat) (hp : p < s.size) (hs : s.size ≤ 600) (w : World) (hE : Errs w) : Calls Tryz.prog 99 #[.string s, .int .i64 (p : Int)] w fun e w' => NumIs (numberE s p) e ∧ Below w.heap.size w w' := by
  have HB := Lib.hid (bt_eq hp)
  cases h45 : ((s[p].toNat : Int) == 45)
  ·
    have hnf : numFrom s p = p := by unfold numFrom; rw [HB.out, if_neg (by simpa using h45)]
    have hr := run_digits s (p) (by omega) hs w
    rw [show ((p : Nat) : Int) = (p : Int) by omega] at hr
    have hge := runE_ge (p := digP) (s := s) _ (p) rfl
    have hN : Hid (numberE s p = if runE digP s (p) = p then none else match Lib.parseIntB 64 (s.extract p (runE digP s (p))).data.toList with | .ok v => some (v, runE digP s (p)) | _ => none) := Lib.hid (by rw [numberE, hnf]; rfl)
    obtain ⟨k, hk⟩ : ∃ k, runE digP s (p) = k := ⟨_, rfl⟩
    rw [hk] at hr hge hN
    have HR := Lib.hid hr
    have hk1 : p ≤ k := by omega
    have hk2 : k ≤ s.size := hge.2 (by omega)
    clear hr hge hk hnf
    have hPx := Lib.hid (hP (s.extract p k) w (by rw [ByteArray.size_extract]; omega) hE)
    cases hkf : ((k : Int) == (p : Int))
    · have hkn : ¬ k = p := by have := hkf; simp at this; omega
      have hN2 := hN.out
      rw [if_neg hkn] at hN2
      have HN := Lib.hid hN2
      clear hN2 hN hkn hE
      go_enter Tryz.func99, Tryz.ntmps99
      go_wp2_with fail
      refine (HR.out).mono ?_
      rintro e w' ⟨rfl, rfl⟩
      go_wp2_with fail
      refine (hPx.out).mono ?_
      rintro e w1 ⟨hcase, hb⟩
      have HB1 := Lib.hid hb
      rcases hcase with ⟨v, hv, rfl⟩ | ⟨hv, n, te, pe, rfl⟩
      · have HN2 := HN.out
        rw [hv] at HN2
        have HN := Lib.hid HN2
        clear HN2 hv hb
        go_wp2_with fail
        go_ret2
        exact ⟨by rw [HN.out]; exact rfl, HB1.out⟩
      · have HN2 : numberE s p = none := by
          rw [HN.out]
          cases h : Lib.parseIntB 64 (s.extract p k).data.toList with
          | ok v => exact absurd h (hv v)
          | «syntax» => rfl
          | range => rfl
        have HN := Lib.hid HN2
        clear HN2 hv hb
        go_wp2_with fail
        go_ret2
        exact ⟨by rw [HN.out]; exact rfl, HB1.out⟩
    · have hkn : k = p := by have := hkf; simp at this; omega
      have hN2 := hN.out
      rw [if_pos hkn] at hN2
      have HN := Lib.hid hN2
      clear hN2 hN hkn hE
      go_enter Tryz.func99, Tryz.ntmps99
      go_wp2_with fail
      refine (HR.out).mono ?_
      rintro e w' ⟨rfl, rfl⟩
      go_wp2_with fail
      refine (hPx.out).mono ?_
      rintro e w1 ⟨hcase, hb⟩
      have HB1 := Lib.hid hb
      clear hb
      rcases hcase with ⟨v, _, rfl⟩ | ⟨_, n, te, pe, rfl⟩
      all_goals
        go_wp2_with fail
        go_ret2
        exact ⟨by rw [HN.out]; exact rfl, HB1.out⟩
  ·
    have hnf : numFrom s p = p + 1 := by unfold numFrom; rw [HB.out, if_pos (by simpa using h45)]
    have hr := run_digits s (p + 1) (by omega) hs w
    rw [show ((p + 1 : Nat) : Int) = (p : Int) + 1 by omega] at hr
    have hge := runE_ge (p := digP) (s := s) _ (p + 1) rfl
    have hN : Hid (numberE s p = if runE digP s (p + 1) = p + 1 then none else match Lib.parseIntB 64 (s.extract p (runE digP s (p + 1))).data.toList with | .ok v => some (v, runE digP s (p + 1)) | _ => none) := Lib.hid (by rw [numberE, hnf]; rfl)
    obtain ⟨k, hk⟩ : ∃ k, runE digP s (p + 1) = k := ⟨_, rfl⟩
    rw [hk] at hr hge hN
    have HR := Lib.hid hr
    have hk1 : p ≤ k := by omega
    have hk2 : k ≤ s.size := hge.2 (by omega)
    clear hr hge hk hnf
    have hPx := Lib.hid (hP (s.extract p k) w (by rw [ByteArray.size_extract]; omega) hE)
    cases hkf : ((k : Int) == (p : Int) + 1)
    · have hkn : ¬ k = p + 1 := by have := hkf; simp at this; omega
      have hN2 := hN.out
      rw [if_neg hkn] at hN2
      have HN := Lib.hid hN2
      clear hN2 hN hkn hE
      go_enter Tryz.func99, Tryz.ntmps99
      go_wp2_with fail
      refine (HR.out).mono ?_
      rintro e w' ⟨rfl, rfl⟩
      go_wp2_with fail
      refine (hPx.out).mono ?_
      rintro e w1 ⟨hcase, hb⟩
      have HB1 := Lib.hid hb
      rcases hcase with ⟨v, hv, rfl⟩ | ⟨hv, n, te, pe, rfl⟩
      · have HN2 := HN.out
        rw [hv] at HN2
        have HN := Lib.hid HN2
        clear HN2 hv hb
        go_wp2_with fail
        go_ret2
        exact ⟨by rw [HN.out]; exact rfl, HB1.out⟩
      · have HN2 : numberE s p = none := by
          rw [HN.out]
          cases h : Lib.parseIntB 64 (s.extract p k).data.toList with
          | ok v => exact absurd h (hv v)
          | «syntax» => rfl
          | range => rfl
        have HN := Lib.hid HN2
        clear HN2 hv hb
        go_wp2_with fail
        go_ret2
        exact ⟨by rw [HN.out]; exact rfl, HB1.out⟩
    · have hkn : k = p + 1 := by have := hkf; simp at this; omega
      have hN2 := hN.out
      rw [if_pos hkn] at hN2
      have HN := Lib.hid hN2
      clear hN2 hN hkn hE
      go_enter Tryz.func99, Tryz.ntmps99
      go_wp2_with fail
      refine (HR.out).mono ?_
      rintro e w' ⟨rfl, rfl⟩
      go_wp2_with fail
      refine (hPx.out).mono ?_
      rintro e w1 ⟨hcase, hb⟩
      have HB1 := Lib.hid hb
      clear hb
      rcases hcase with ⟨v, _, rfl⟩ | ⟨_, n, te, pe, rfl⟩
      all_goals
        go_wp2_with fail
        go_ret2
        exact ⟨by rw [HN.out]; exact rfl, HB1.out⟩
/-- a digit of an escape -/
def HexHere : Prop := ∀ (c : Int) (w : World), Calls Tryz.prog 160 #[.string hexDigits, .int .u8 c] w fun e w' => e = .returned (.int .i64 (Lib.indexByte hexDigits.data.toList c.toNat.toUInt8)) ∧ w' = w
theorem hex_any (hH : HexHere) (c : UInt8) (w : World) : Calls Tryz.prog 137 #[.int .u8 (c.toNat : Int)] w fun e w' => e = .returned (.int .i64 (hexE c)) ∧ w = w' := by
  have hx := hH (c.toNat : Int) w
  rw [show ((c.toNat : Int).toNat.toUInt8) = c by simp] at hx
  have hx : Calls Tryz.prog 160 #[.string ⟨#[48, 49, 50, 51, 52, 53, 54, 55, 56, 57, 97, 98, 99, 100, 101, 102]⟩, .int .u8 (c.toNat : Int)] w fun e w' => e = .returned (.int .i64 (hexE c)) ∧ w' = w := hx
  have HX := Lib.hid hx
  clear hx
  generalize hexE c = h at *
  go_enter Tryz.func137, Tryz.ntmps137
  go_wp2_with fail
  refine (HX.out).mono ?_
  rintro e w' ⟨rfl, rfl⟩
  go_wp2_with fail
  go_ret
  exact ⟨rfl, rfl⟩
end Go.Proofs.YtjhkihkiebnpaaaGreatDoor
/-
  A scope in which the run jumps to several labels (turned from the kit's rule for one label). No program in sight.
-/
set_option linter.unusedVariables false
set_option linter.unusedSimpArgs false
namespace Go.Proofs.YtjhkihkiebnpaaaGreatDoor
/-- as Q; by a goto to label l: J l -/
def exitJumps (J : Nat → Act → World → Prop) (Q : Exit → Act → World → Prop) : Exit → Act → World → Prop
  | .goto l, a, w => J l a w
  | e, a, w => Q e a w
section
variable {P : Program} {a : Act} {w : World} {Q : Exit → Act → World → Prop}
theorem wp_scope_many {c : Code} (J : Nat → Act → World → Prop) (μ : Nat → Act → World → Nat)
    (first : c.wp P (exitJumps J Q) a w)
    (pass : ∀ l a w, J l a w → ∃ rest, findLabel c l = some rest ∧ rest.wp P (exitJumps (fun l' a' w' => J l' a' w' ∧ μ l' a' w' < μ l a w) Q) a w) : (Code.scope c).wp P Q a w := by
  intro b k cs
  have hg : ∀ {l : Nat} {rest : Code}, findLabel c l = some rest → gotoIn l (.inScope c :: k) = some (.code rest :: .inScope c :: k) := fun h => by simp [gotoIn, h]
  have key : ∀ n l a w rest, μ l a w = n → J l a w → findLabel c l = some rest → ∃ e a' w', Q e a' w' ∧ Arrives P (lone (b.at a (.code rest :: .inScope c :: k)) cs w) b k cs e a' w' := by
    intro n
    induction n using Nat.strongRecOn with
    | _ n ih =>
      intro l a w rest hn hJ hf
      obtain ⟨rest', hf', hp⟩ := pass l a w hJ
      obtain rfl : rest' = rest := Option.some.inj (hf'.symm.trans hf)
      obtain ⟨e, a₁, w₁, hq, harr⟩ := hp b (.inScope c :: k) cs
      cases e with
      | normal => exact ⟨.normal, a₁, w₁, hq, Steps.trans harr (.one step_inScope)⟩
      | exit id => exact ⟨.exit id, a₁, w₁, hq, fun k' hk => harr k' (by simp [exitTo, hk])⟩
      | goto l' =>
        obtain ⟨hJ', hlt⟩ := hq
        obtain ⟨rest2, hf2, _⟩ := pass l' a₁ w₁ hJ'
        obtain ⟨e₂, a₂, w₂, hq₂, harr₂⟩ := ih _ (by omega) l' a₁ w₁ rest2 rfl hJ' hf2
        exact ⟨e₂, a₂, w₂, hq₂, .of_steps (harr _ (hg hf2)) harr₂⟩
      | ret => exact ⟨_, a₁, w₁, hq, harr⟩
      | panic ch => exact ⟨_, a₁, w₁, hq, harr⟩
      | outgrown => exact ⟨_, a₁, w₁, hq, harr⟩
  obtain ⟨e, a₁, w₁, hq, harr⟩ := first b (.inScope c :: k) cs
  cases e with
  | normal => exact ⟨.normal, a₁, w₁, hq, .head step_scope (Steps.trans harr (.one step_inScope))⟩
  | exit id => exact ⟨.exit id, a₁, w₁, hq, fun k' hk => .head step_scope (harr k' (by simp [exitTo, hk]))⟩
  | goto l' =>
    obtain ⟨rest, hf, _⟩ := pass l' a₁ w₁ hq
    obtain ⟨e₂, a₂, w₂, hq₂, harr₂⟩ := key _ l' a₁ w₁ rest rfl hq hf
    exact ⟨e₂, a₂, w₂, hq₂, .of_steps (.head step_scope (harr _ (hg hf))) harr₂⟩
  | ret => exact ⟨_, a₁, w₁, hq, .of_steps (.one step_scope) harr⟩
  | panic ch => exact ⟨_, a₁, w₁, hq, .of_steps (.one step_scope) harr⟩
  | outgrown => exact ⟨_, a₁, w₁, hq, .of_steps (.one step_scope) harr⟩
/-- the same; where the run comes to a label from above, what holds at its jumps serves -/
theorem wp_scope_labels {c : Code} (J : Nat → Act → World → Prop) (μ : Nat → Act → World → Nat)
    (first : (∀ l X, findLabel c l = some (.seq .skip X) → ∀ a w, J l a w → X.wp P (exitJumps J Q) a w) → c.wp P (exitJumps J Q) a w)
    (pass : ∀ l a w, J l a w → ∃ X, findLabel c l = some (.seq .skip X) ∧ X.wp P (exitJumps (fun l' a' w' => J l' a' w' ∧ μ l' a' w' < μ l a w) Q) a w) : (Code.scope c).wp P Q a w := by
  refine wp_scope_many J μ (first fun l X hX a w hJ => ?_) fun l a w hJ => ?_
  · obtain ⟨X', hX', h⟩ := pass l a w hJ
    rw [hX] at hX'
    injection hX' with hX'
    injection hX' with _ hX'
    subst hX'
    refine wp_mono h fun e a w h => ?_
    cases e <;> first | exact h | exact h.1
  · obtain ⟨X, hX, h⟩ := pass l a w hJ
    exact ⟨_, hX, wp_seq (wp_skip h)⟩
/-- the same, the measure a ghost -/
theorem wp_scope_ghost {c : Code} (J : Nat → Nat → Act → World → Prop)
    (first : (∀ n l X, findLabel c l = some (.seq .skip X) → ∀ a w, J n l a w → X.wp P (exitJumps (fun l a w => ∃ n, J n l a w) Q) a w) → c.wp P (exitJumps (fun l a w => ∃ n, J n l a w) Q) a w)
    (pass : ∀ n l a w, J n l a w → ∃ X, findLabel c l = some (.seq .skip X) ∧ X.wp P (exitJumps (fun l' a' w' => ∃ n', n' < n ∧ J n' l' a' w') Q) a w) : (Code.scope c).wp P Q a w := by
  have first' : c.wp P (exitJumps (fun l a w => ∃ n, J n l a w) Q) a w := first fun n l X hX a w hJ => by
    obtain ⟨X', hX', h⟩ := pass n l a w hJ
    rw [hX] at hX'
    injection hX' with hX'
    injection hX' with _ hX'
    subst hX'
    refine wp_mono h fun e a w h => ?_
    cases e <;> first | exact h | exact h.elim fun n hn => ⟨n, hn.2⟩
  intro b k cs
  have hg : ∀ {l : Nat} {rest : Code}, findLabel c l = some rest → gotoIn l (.inScope c :: k) = some (.code rest :: .inScope c :: k) := fun h => by simp [gotoIn, h]
  have key : ∀ n l a w rest, J n l a w → findLabel c l = some rest → ∃ e a' w', Q e a' w' ∧ Arrives P (lone (b.at a (.code rest :: .inScope c :: k)) cs w) b k cs e a' w' := by
    intro n
    induction n using Nat.strongRecOn with
    | _ n ih =>
      intro l a w rest hJ hf
      obtain ⟨X, hf', hp⟩ := pass n l a w hJ
      obtain rfl : Code.seq .skip X = rest := Option.some.inj (hf'.symm.trans hf)
      obtain ⟨e, a₁, w₁, hq, harr⟩ := (wp_seq (wp_skip hp)) b (.inScope c :: k) cs
      cases e with
      | normal => exact ⟨.normal, a₁, w₁, hq, Steps.trans harr (.one step_inScope)⟩
      | exit id => exact ⟨.exit id, a₁, w₁, hq, fun k' hk => harr k' (by simp [exitTo, hk])⟩
      | goto l' =>
        obtain ⟨n', hlt, hJ'⟩ := hq
        obtain ⟨X2, hf2, _⟩ := pass n' l' a₁ w₁ hJ'
        obtain ⟨e₂, a₂, w₂, hq₂, harr₂⟩ := ih n' hlt l' a₁ w₁ _ hJ' hf2
        exact ⟨e₂, a₂, w₂, hq₂, .of_steps (harr _ (hg hf2)) harr₂⟩
      | ret => exact ⟨_, a₁, w₁, hq, harr⟩
      | panic ch => exact ⟨_, a₁, w₁, hq, harr⟩
      | outgrown => exact ⟨_, a₁, w₁, hq, harr⟩
  obtain ⟨e, a₁, w₁, hq, harr⟩ := first' b (.inScope c :: k) cs
  cases e with
  | normal => exact ⟨.normal, a₁, w₁, hq, .head step_scope (Steps.trans harr (.one step_inScope))⟩
  | exit id => exact ⟨.exit id, a₁, w₁, hq, fun k' hk => .head step_scope (harr k' (by simp [exitTo, hk]))⟩
  | goto l' =>
    obtain ⟨n, hJ⟩ := hq
    obtain ⟨X, hf, _⟩ := pass n l' a₁ w₁ hJ
    obtain ⟨e₂, a₂, w₂, hq₂, harr₂⟩ := key n l' a₁ w₁ _ hJ hf
    exact ⟨e₂, a₂, w₂, hq₂, .of_steps (.head step_scope (harr _ (hg hf))) harr₂⟩
  | ret => exact ⟨_, a₁, w₁, hq, .of_steps (.one step_scope) harr⟩
  | panic ch => exact ⟨_, a₁, w₁, hq, .of_steps (.one step_scope) harr⟩
  | outgrown => exact ⟨_, a₁, w₁, hq, .of_steps (.one step_scope) harr⟩
end
/-- a frame of n slots, slot by slot -/
theorem frame_of {tm : Array Value} {n : Nat} (h : tm.size = n) : tm = ((List.range n).map fun i => tm.getD i undef).toArray := by
  apply Array.ext
  · simp [h]
  · intro i h1 h2
    simp [Array.getD, h1]
end Go.Proofs.YtjhkihkiebnpaaaGreatDoor
