/- The table is true of the program (printed). -/
import Derived.Test.YtkajahlgiglliaaGreatDoorT
import Derived.Test.YtkajahlgiglliaaGreatDoorAm17
import Derived.Test.YtkajahlgiglliaaGreatDoorProg
import Derived.KernelRfl
set_option maxRecDepth 100000
namespace R1
open Go Go.AM

theorem ok4 : trFn Go.Proofs.Tryz.prog 4 = some a4 := by kernel_rfl
theorem hb4 : bodyB Go.Proofs.Tryz.prog 4 = true := by kernel_rfl
theorem ok5 : trFn Go.Proofs.Tryz.prog 5 = some a5 := by kernel_rfl
theorem hb5 : bodyB Go.Proofs.Tryz.prog 5 = true := by kernel_rfl
theorem ok6 : trFn Go.Proofs.Tryz.prog 6 = some a6 := by kernel_rfl
theorem hb6 : bodyB Go.Proofs.Tryz.prog 6 = true := by kernel_rfl
theorem ok14 : trFn Go.Proofs.Tryz.prog 14 = some a14 := by kernel_rfl
theorem hb14 : bodyB Go.Proofs.Tryz.prog 14 = true := by kernel_rfl
theorem ok15 : trFn Go.Proofs.Tryz.prog 15 = some a15 := by kernel_rfl
theorem hb15 : bodyB Go.Proofs.Tryz.prog 15 = true := by kernel_rfl
theorem ok17 : trFn Go.Proofs.Tryz.prog 17 = some a17 := by kernel_rfl
theorem hb17 : bodyB Go.Proofs.Tryz.prog 17 = true := by kernel_rfl
theorem ok18 : trFn Go.Proofs.Tryz.prog 18 = some a18 := by kernel_rfl
theorem hb18 : bodyB Go.Proofs.Tryz.prog 18 = true := by kernel_rfl
theorem ok21 : trFn Go.Proofs.Tryz.prog 21 = some a21 := by kernel_rfl
theorem hb21 : bodyB Go.Proofs.Tryz.prog 21 = true := by kernel_rfl
theorem ok27 : trFn Go.Proofs.Tryz.prog 27 = some a27 := by kernel_rfl
theorem hb27 : bodyB Go.Proofs.Tryz.prog 27 = true := by kernel_rfl
theorem ok28 : trFn Go.Proofs.Tryz.prog 28 = some a28 := by kernel_rfl
theorem hb28 : bodyB Go.Proofs.Tryz.prog 28 = true := by kernel_rfl
theorem ok29 : trFn Go.Proofs.Tryz.prog 29 = some a29 := by kernel_rfl
theorem hb29 : bodyB Go.Proofs.Tryz.prog 29 = true := by kernel_rfl
theorem ok30 : trFn Go.Proofs.Tryz.prog 30 = some a30 := by kernel_rfl
theorem hb30 : bodyB Go.Proofs.Tryz.prog 30 = true := by kernel_rfl
theorem ok31 : trFn Go.Proofs.Tryz.prog 31 = some a31 := by kernel_rfl
theorem hb31 : bodyB Go.Proofs.Tryz.prog 31 = true := by kernel_rfl
theorem ok33 : trFn Go.Proofs.Tryz.prog 33 = some a33 := by kernel_rfl
theorem hb33 : bodyB Go.Proofs.Tryz.prog 33 = true := by kernel_rfl
theorem ok35 : trFn Go.Proofs.Tryz.prog 35 = some a35 := by kernel_rfl
theorem hb35 : bodyB Go.Proofs.Tryz.prog 35 = true := by kernel_rfl
theorem ok39 : trFn Go.Proofs.Tryz.prog 39 = some a39 := by kernel_rfl
theorem hb39 : bodyB Go.Proofs.Tryz.prog 39 = true := by kernel_rfl
theorem ok40 : trFn Go.Proofs.Tryz.prog 40 = some a40 := by kernel_rfl
theorem hb40 : bodyB Go.Proofs.Tryz.prog 40 = true := by kernel_rfl
theorem ok43 : trFn Go.Proofs.Tryz.prog 43 = some a43 := by kernel_rfl
theorem hb43 : bodyB Go.Proofs.Tryz.prog 43 = true := by kernel_rfl
theorem ok44 : trFn Go.Proofs.Tryz.prog 44 = some a44 := by kernel_rfl
theorem hb44 : bodyB Go.Proofs.Tryz.prog 44 = true := by kernel_rfl
theorem ok46 : trFn Go.Proofs.Tryz.prog 46 = some a46 := by kernel_rfl
theorem hb46 : bodyB Go.Proofs.Tryz.prog 46 = true := by kernel_rfl
theorem ok47 : trFn Go.Proofs.Tryz.prog 47 = some a47 := by kernel_rfl
theorem hb47 : bodyB Go.Proofs.Tryz.prog 47 = true := by kernel_rfl
theorem ok48 : trFn Go.Proofs.Tryz.prog 48 = some a48 := by kernel_rfl
theorem hb48 : bodyB Go.Proofs.Tryz.prog 48 = true := by kernel_rfl
theorem ok49 : trFn Go.Proofs.Tryz.prog 49 = some a49 := by kernel_rfl
theorem hb49 : bodyB Go.Proofs.Tryz.prog 49 = true := by kernel_rfl
theorem ok50 : trFn Go.Proofs.Tryz.prog 50 = some a50 := by kernel_rfl
theorem hb50 : bodyB Go.Proofs.Tryz.prog 50 = true := by kernel_rfl
theorem ok51 : trFn Go.Proofs.Tryz.prog 51 = some a51 := by kernel_rfl
theorem hb51 : bodyB Go.Proofs.Tryz.prog 51 = true := by kernel_rfl
theorem ok52 : trFn Go.Proofs.Tryz.prog 52 = some a52 := by kernel_rfl
theorem hb52 : bodyB Go.Proofs.Tryz.prog 52 = true := by kernel_rfl
theorem ok53 : trFn Go.Proofs.Tryz.prog 53 = some a53 := by kernel_rfl
theorem hb53 : bodyB Go.Proofs.Tryz.prog 53 = true := by kernel_rfl
theorem ok54 : trFn Go.Proofs.Tryz.prog 54 = some a54 := by kernel_rfl
theorem hb54 : bodyB Go.Proofs.Tryz.prog 54 = true := by kernel_rfl
theorem ok55 : trFn Go.Proofs.Tryz.prog 55 = some a55 := by kernel_rfl
theorem hb55 : bodyB Go.Proofs.Tryz.prog 55 = true := by kernel_rfl
theorem ok59 : trFn Go.Proofs.Tryz.prog 59 = some a59 := by kernel_rfl
theorem hb59 : bodyB Go.Proofs.Tryz.prog 59 = true := by kernel_rfl
theorem ok60 : trFn Go.Proofs.Tryz.prog 60 = some a60 := by kernel_rfl
theorem hb60 : bodyB Go.Proofs.Tryz.prog 60 = true := by kernel_rfl
theorem ok87 : trFn Go.Proofs.Tryz.prog 87 = some a87 := by kernel_rfl
theorem hb87 : bodyB Go.Proofs.Tryz.prog 87 = true := by kernel_rfl
theorem ok88 : trFn Go.Proofs.Tryz.prog 88 = some a88 := by kernel_rfl
theorem hb88 : bodyB Go.Proofs.Tryz.prog 88 = true := by kernel_rfl
theorem ok89 : trFn Go.Proofs.Tryz.prog 89 = some a89 := by kernel_rfl
theorem hb89 : bodyB Go.Proofs.Tryz.prog 89 = true := by kernel_rfl
theorem ok90 : trFn Go.Proofs.Tryz.prog 90 = some a90 := by kernel_rfl
theorem hb90 : bodyB Go.Proofs.Tryz.prog 90 = true := by kernel_rfl
theorem ok91 : trFn Go.Proofs.Tryz.prog 91 = some a91 := by kernel_rfl
theorem hb91 : bodyB Go.Proofs.Tryz.prog 91 = true := by kernel_rfl
theorem ok97 : trFn Go.Proofs.Tryz.prog 97 = some a97 := by kernel_rfl
theorem hb97 : bodyB Go.Proofs.Tryz.prog 97 = true := by kernel_rfl
theorem ok98 : trFn Go.Proofs.Tryz.prog 98 = some a98 := by kernel_rfl
theorem hb98 : bodyB Go.Proofs.Tryz.prog 98 = true := by kernel_rfl
theorem ok111 : trFn Go.Proofs.Tryz.prog 111 = some a111 := by kernel_rfl
theorem hb111 : bodyB Go.Proofs.Tryz.prog 111 = true := by kernel_rfl
theorem ok112 : trFn Go.Proofs.Tryz.prog 112 = some a112 := by kernel_rfl
theorem hb112 : bodyB Go.Proofs.Tryz.prog 112 = true := by kernel_rfl
theorem ok113 : trFn Go.Proofs.Tryz.prog 113 = some a113 := by kernel_rfl
theorem hb113 : bodyB Go.Proofs.Tryz.prog 113 = true := by kernel_rfl
theorem ok114 : trFn Go.Proofs.Tryz.prog 114 = some a114 := by kernel_rfl
theorem hb114 : bodyB Go.Proofs.Tryz.prog 114 = true := by kernel_rfl
theorem ok115 : trFn Go.Proofs.Tryz.prog 115 = some a115 := by kernel_rfl
theorem hb115 : bodyB Go.Proofs.Tryz.prog 115 = true := by kernel_rfl
theorem ok116 : trFn Go.Proofs.Tryz.prog 116 = some a116 := by kernel_rfl
theorem hb116 : bodyB Go.Proofs.Tryz.prog 116 = true := by kernel_rfl
theorem ok117 : trFn Go.Proofs.Tryz.prog 117 = some a117 := by kernel_rfl
theorem hb117 : bodyB Go.Proofs.Tryz.prog 117 = true := by kernel_rfl
theorem ok118 : trFn Go.Proofs.Tryz.prog 118 = some a118 := by kernel_rfl
theorem hb118 : bodyB Go.Proofs.Tryz.prog 118 = true := by kernel_rfl
theorem ok119 : trFn Go.Proofs.Tryz.prog 119 = some a119 := by kernel_rfl
theorem hb119 : bodyB Go.Proofs.Tryz.prog 119 = true := by kernel_rfl
theorem ok120 : trFn Go.Proofs.Tryz.prog 120 = some a120 := by kernel_rfl
theorem hb120 : bodyB Go.Proofs.Tryz.prog 120 = true := by kernel_rfl
theorem ok121 : trFn Go.Proofs.Tryz.prog 121 = some a121 := by kernel_rfl
theorem hb121 : bodyB Go.Proofs.Tryz.prog 121 = true := by kernel_rfl
theorem ok122 : trFn Go.Proofs.Tryz.prog 122 = some a122 := by kernel_rfl
theorem hb122 : bodyB Go.Proofs.Tryz.prog 122 = true := by kernel_rfl
theorem ok123 : trFn Go.Proofs.Tryz.prog 123 = some a123 := by kernel_rfl
theorem hb123 : bodyB Go.Proofs.Tryz.prog 123 = true := by kernel_rfl
theorem ok124 : trFn Go.Proofs.Tryz.prog 124 = some a124 := by kernel_rfl
theorem hb124 : bodyB Go.Proofs.Tryz.prog 124 = true := by kernel_rfl
theorem ok125 : trFn Go.Proofs.Tryz.prog 125 = some a125 := by kernel_rfl
theorem hb125 : bodyB Go.Proofs.Tryz.prog 125 = true := by kernel_rfl
theorem ok126 : trFn Go.Proofs.Tryz.prog 126 = some a126 := by kernel_rfl
theorem hb126 : bodyB Go.Proofs.Tryz.prog 126 = true := by kernel_rfl
theorem ok127 : trFn Go.Proofs.Tryz.prog 127 = some a127 := by kernel_rfl
theorem hb127 : bodyB Go.Proofs.Tryz.prog 127 = true := by kernel_rfl
theorem ok128 : trFn Go.Proofs.Tryz.prog 128 = some a128 := by kernel_rfl
theorem hb128 : bodyB Go.Proofs.Tryz.prog 128 = true := by kernel_rfl
theorem ok129 : trFn Go.Proofs.Tryz.prog 129 = some a129 := by kernel_rfl
theorem hb129 : bodyB Go.Proofs.Tryz.prog 129 = true := by kernel_rfl
theorem ok130 : trFn Go.Proofs.Tryz.prog 130 = some a130 := by kernel_rfl
theorem hb130 : bodyB Go.Proofs.Tryz.prog 130 = true := by kernel_rfl
theorem ok131 : trFn Go.Proofs.Tryz.prog 131 = some a131 := by kernel_rfl
theorem hb131 : bodyB Go.Proofs.Tryz.prog 131 = true := by kernel_rfl
theorem ok132 : trFn Go.Proofs.Tryz.prog 132 = some a132 := by kernel_rfl
theorem hb132 : bodyB Go.Proofs.Tryz.prog 132 = true := by kernel_rfl
theorem ok133 : trFn Go.Proofs.Tryz.prog 133 = some a133 := by kernel_rfl
theorem hb133 : bodyB Go.Proofs.Tryz.prog 133 = true := by kernel_rfl
theorem ok134 : trFn Go.Proofs.Tryz.prog 134 = some a134 := by kernel_rfl
theorem hb134 : bodyB Go.Proofs.Tryz.prog 134 = true := by kernel_rfl
theorem ok135 : trFn Go.Proofs.Tryz.prog 135 = some a135 := by kernel_rfl
theorem hb135 : bodyB Go.Proofs.Tryz.prog 135 = true := by kernel_rfl
theorem ok136 : trFn Go.Proofs.Tryz.prog 136 = some a136 := by kernel_rfl
theorem hb136 : bodyB Go.Proofs.Tryz.prog 136 = true := by kernel_rfl
theorem ok137 : trFn Go.Proofs.Tryz.prog 137 = some a137 := by kernel_rfl
theorem hb137 : bodyB Go.Proofs.Tryz.prog 137 = true := by kernel_rfl
theorem ok138 : trFn Go.Proofs.Tryz.prog 138 = some a138 := by kernel_rfl
theorem hb138 : bodyB Go.Proofs.Tryz.prog 138 = true := by kernel_rfl
theorem ok139 : trFn Go.Proofs.Tryz.prog 139 = some a139 := by kernel_rfl
theorem hb139 : bodyB Go.Proofs.Tryz.prog 139 = true := by kernel_rfl
theorem ok140 : trFn Go.Proofs.Tryz.prog 140 = some a140 := by kernel_rfl
theorem hb140 : bodyB Go.Proofs.Tryz.prog 140 = true := by kernel_rfl
theorem ok141 : trFn Go.Proofs.Tryz.prog 141 = some a141 := by kernel_rfl
theorem hb141 : bodyB Go.Proofs.Tryz.prog 141 = true := by kernel_rfl
theorem ok143 : trFn Go.Proofs.Tryz.prog 143 = some a143 := by kernel_rfl
theorem hb143 : bodyB Go.Proofs.Tryz.prog 143 = true := by kernel_rfl
theorem ok144 : trFn Go.Proofs.Tryz.prog 144 = some a144 := by kernel_rfl
theorem hb144 : bodyB Go.Proofs.Tryz.prog 144 = true := by kernel_rfl
theorem ok145 : trFn Go.Proofs.Tryz.prog 145 = some a145 := by kernel_rfl
theorem hb145 : bodyB Go.Proofs.Tryz.prog 145 = true := by kernel_rfl
theorem ok146 : trFn Go.Proofs.Tryz.prog 146 = some a146 := by kernel_rfl
theorem hb146 : bodyB Go.Proofs.Tryz.prog 146 = true := by kernel_rfl
theorem ok147 : trFn Go.Proofs.Tryz.prog 147 = some a147 := by kernel_rfl
theorem hb147 : bodyB Go.Proofs.Tryz.prog 147 = true := by kernel_rfl
theorem ok148 : trFn Go.Proofs.Tryz.prog 148 = some a148 := by kernel_rfl
theorem hb148 : bodyB Go.Proofs.Tryz.prog 148 = true := by kernel_rfl
theorem ok149 : trFn Go.Proofs.Tryz.prog 149 = some a149 := by kernel_rfl
theorem hb149 : bodyB Go.Proofs.Tryz.prog 149 = true := by kernel_rfl
theorem ok150 : trFn Go.Proofs.Tryz.prog 150 = some a150 := by kernel_rfl
theorem hb150 : bodyB Go.Proofs.Tryz.prog 150 = true := by kernel_rfl
theorem ok152 : trFn Go.Proofs.Tryz.prog 152 = some a152 := by kernel_rfl
theorem hb152 : bodyB Go.Proofs.Tryz.prog 152 = true := by kernel_rfl
theorem ok153 : trFn Go.Proofs.Tryz.prog 153 = some a153 := by kernel_rfl
theorem hb153 : bodyB Go.Proofs.Tryz.prog 153 = true := by kernel_rfl
theorem ok154 : trFn Go.Proofs.Tryz.prog 154 = some a154 := by kernel_rfl
theorem hb154 : bodyB Go.Proofs.Tryz.prog 154 = true := by kernel_rfl
theorem ok155 : trFn Go.Proofs.Tryz.prog 155 = some a155 := by kernel_rfl
theorem hb155 : bodyB Go.Proofs.Tryz.prog 155 = true := by kernel_rfl
theorem ok164 : trFn Go.Proofs.Tryz.prog 164 = some a164 := by kernel_rfl
theorem hb164 : bodyB Go.Proofs.Tryz.prog 164 = true := by kernel_rfl
theorem ok165 : trFn Go.Proofs.Tryz.prog 165 = some a165 := by kernel_rfl
theorem hb165 : bodyB Go.Proofs.Tryz.prog 165 = true := by kernel_rfl
theorem ok166 : trFn Go.Proofs.Tryz.prog 166 = some a166 := by kernel_rfl
theorem hb166 : bodyB Go.Proofs.Tryz.prog 166 = true := by kernel_rfl
theorem ok167 : trFn Go.Proofs.Tryz.prog 167 = some a167 := by kernel_rfl
theorem hb167 : bodyB Go.Proofs.Tryz.prog 167 = true := by kernel_rfl
theorem ok168 : trFn Go.Proofs.Tryz.prog 168 = some a168 := by kernel_rfl
theorem hb168 : bodyB Go.Proofs.Tryz.prog 168 = true := by kernel_rfl
theorem ok170 : trFn Go.Proofs.Tryz.prog 170 = some a170 := by kernel_rfl
theorem hb170 : bodyB Go.Proofs.Tryz.prog 170 = true := by kernel_rfl
theorem ok173 : trFn Go.Proofs.Tryz.prog 173 = some a173 := by kernel_rfl
theorem hb173 : bodyB Go.Proofs.Tryz.prog 173 = true := by kernel_rfl
theorem ok176 : trFn Go.Proofs.Tryz.prog 176 = some a176 := by kernel_rfl
theorem hb176 : bodyB Go.Proofs.Tryz.prog 176 = true := by kernel_rfl
theorem ok181 : trFn Go.Proofs.Tryz.prog 181 = some a181 := by kernel_rfl
theorem hb181 : bodyB Go.Proofs.Tryz.prog 181 = true := by kernel_rfl
theorem ok202 : trFn Go.Proofs.Tryz.prog 202 = some a202 := by kernel_rfl
theorem hb202 : bodyB Go.Proofs.Tryz.prog 202 = true := by kernel_rfl
theorem ok203 : trFn Go.Proofs.Tryz.prog 203 = some a203 := by kernel_rfl
theorem hb203 : bodyB Go.Proofs.Tryz.prog 203 = true := by kernel_rfl
theorem ok205 : trFn Go.Proofs.Tryz.prog 205 = some a205 := by kernel_rfl
theorem hb205 : bodyB Go.Proofs.Tryz.prog 205 = true := by kernel_rfl
theorem ok206 : trFn Go.Proofs.Tryz.prog 206 = some a206 := by kernel_rfl
theorem hb206 : bodyB Go.Proofs.Tryz.prog 206 = true := by kernel_rfl
theorem ok207 : trFn Go.Proofs.Tryz.prog 207 = some a207 := by kernel_rfl
theorem hb207 : bodyB Go.Proofs.Tryz.prog 207 = true := by kernel_rfl
theorem ok208 : trFn Go.Proofs.Tryz.prog 208 = some a208 := by kernel_rfl
theorem hb208 : bodyB Go.Proofs.Tryz.prog 208 = true := by kernel_rfl
theorem ok215 : trFn Go.Proofs.Tryz.prog 215 = some a215 := by kernel_rfl
theorem hb215 : bodyB Go.Proofs.Tryz.prog 215 = true := by kernel_rfl
theorem ok216 : trFn Go.Proofs.Tryz.prog 216 = some a216 := by kernel_rfl
theorem hb216 : bodyB Go.Proofs.Tryz.prog 216 = true := by kernel_rfl
theorem ok229 : trFn Go.Proofs.Tryz.prog 229 = some a229 := by kernel_rfl
theorem hb229 : bodyB Go.Proofs.Tryz.prog 229 = true := by kernel_rfl
theorem ok230 : trFn Go.Proofs.Tryz.prog 230 = some a230 := by kernel_rfl
theorem hb230 : bodyB Go.Proofs.Tryz.prog 230 = true := by kernel_rfl
theorem ok231 : trFn Go.Proofs.Tryz.prog 231 = some a231 := by kernel_rfl
theorem hb231 : bodyB Go.Proofs.Tryz.prog 231 = true := by kernel_rfl
theorem ok232 : trFn Go.Proofs.Tryz.prog 232 = some a232 := by kernel_rfl
theorem hb232 : bodyB Go.Proofs.Tryz.prog 232 = true := by kernel_rfl
theorem ok233 : trFn Go.Proofs.Tryz.prog 233 = some a233 := by kernel_rfl
theorem hb233 : bodyB Go.Proofs.Tryz.prog 233 = true := by kernel_rfl
theorem ok234 : trFn Go.Proofs.Tryz.prog 234 = some a234 := by kernel_rfl
theorem hb234 : bodyB Go.Proofs.Tryz.prog 234 = true := by kernel_rfl
theorem ok235 : trFn Go.Proofs.Tryz.prog 235 = some a235 := by kernel_rfl
theorem hb235 : bodyB Go.Proofs.Tryz.prog 235 = true := by kernel_rfl
theorem ok236 : trFn Go.Proofs.Tryz.prog 236 = some a236 := by kernel_rfl
theorem hb236 : bodyB Go.Proofs.Tryz.prog 236 = true := by kernel_rfl
theorem ok237 : trFn Go.Proofs.Tryz.prog 237 = some a237 := by kernel_rfl
theorem hb237 : bodyB Go.Proofs.Tryz.prog 237 = true := by kernel_rfl
theorem ok238 : trFn Go.Proofs.Tryz.prog 238 = some a238 := by kernel_rfl
theorem hb238 : bodyB Go.Proofs.Tryz.prog 238 = true := by kernel_rfl
theorem ok239 : trFn Go.Proofs.Tryz.prog 239 = some a239 := by kernel_rfl
theorem hb239 : bodyB Go.Proofs.Tryz.prog 239 = true := by kernel_rfl
theorem ok240 : trFn Go.Proofs.Tryz.prog 240 = some a240 := by kernel_rfl
theorem hb240 : bodyB Go.Proofs.Tryz.prog 240 = true := by kernel_rfl
theorem ok241 : trFn Go.Proofs.Tryz.prog 241 = some a241 := by kernel_rfl
theorem hb241 : bodyB Go.Proofs.Tryz.prog 241 = true := by kernel_rfl
theorem ok242 : trFn Go.Proofs.Tryz.prog 242 = some a242 := by kernel_rfl
theorem hb242 : bodyB Go.Proofs.Tryz.prog 242 = true := by kernel_rfl
theorem ok253 : trFn Go.Proofs.Tryz.prog 253 = some a253 := by kernel_rfl
theorem hb253 : bodyB Go.Proofs.Tryz.prog 253 = true := by kernel_rfl
theorem ok255 : trFn Go.Proofs.Tryz.prog 255 = some a255 := by kernel_rfl
theorem hb255 : bodyB Go.Proofs.Tryz.prog 255 = true := by kernel_rfl
theorem ok257 : trFn Go.Proofs.Tryz.prog 257 = some a257 := by kernel_rfl
theorem hb257 : bodyB Go.Proofs.Tryz.prog 257 = true := by kernel_rfl
theorem ok258 : trFn Go.Proofs.Tryz.prog 258 = some a258 := by kernel_rfl
theorem hb258 : bodyB Go.Proofs.Tryz.prog 258 = true := by kernel_rfl
theorem ok264 : trFn Go.Proofs.Tryz.prog 264 = some a264 := by kernel_rfl
theorem hb264 : bodyB Go.Proofs.Tryz.prog 264 = true := by kernel_rfl
theorem ok276 : trFn Go.Proofs.Tryz.prog 276 = some a276 := by kernel_rfl
theorem hb276 : bodyB Go.Proofs.Tryz.prog 276 = true := by kernel_rfl
theorem ok277 : trFn Go.Proofs.Tryz.prog 277 = some a277 := by kernel_rfl
theorem hb277 : bodyB Go.Proofs.Tryz.prog 277 = true := by kernel_rfl
theorem ok283 : trFn Go.Proofs.Tryz.prog 283 = some a283 := by kernel_rfl
theorem hb283 : bodyB Go.Proofs.Tryz.prog 283 = true := by kernel_rfl
theorem ok286 : trFn Go.Proofs.Tryz.prog 286 = some a286 := by kernel_rfl
theorem hb286 : bodyB Go.Proofs.Tryz.prog 286 = true := by kernel_rfl
theorem ok287 : trFn Go.Proofs.Tryz.prog 287 = some a287 := by kernel_rfl
theorem hb287 : bodyB Go.Proofs.Tryz.prog 287 = true := by kernel_rfl
theorem ok288 : trFn Go.Proofs.Tryz.prog 288 = some a288 := by kernel_rfl
theorem hb288 : bodyB Go.Proofs.Tryz.prog 288 = true := by kernel_rfl
theorem ok294 : trFn Go.Proofs.Tryz.prog 294 = some a294 := by kernel_rfl
theorem hb294 : bodyB Go.Proofs.Tryz.prog 294 = true := by kernel_rfl
theorem ok295 : trFn Go.Proofs.Tryz.prog 295 = some a295 := by kernel_rfl
theorem hb295 : bodyB Go.Proofs.Tryz.prog 295 = true := by kernel_rfl
theorem ok306 : trFn Go.Proofs.Tryz.prog 306 = some a306 := by kernel_rfl
theorem hb306 : bodyB Go.Proofs.Tryz.prog 306 = true := by kernel_rfl
theorem ok307 : trFn Go.Proofs.Tryz.prog 307 = some a307 := by kernel_rfl
theorem hb307 : bodyB Go.Proofs.Tryz.prog 307 = true := by kernel_rfl
theorem ok314 : trFn Go.Proofs.Tryz.prog 314 = some a314 := by kernel_rfl
theorem hb314 : bodyB Go.Proofs.Tryz.prog 314 = true := by kernel_rfl
theorem ok318 : trFn Go.Proofs.Tryz.prog 318 = some a318 := by kernel_rfl
theorem hb318 : bodyB Go.Proofs.Tryz.prog 318 = true := by kernel_rfl
theorem ok328 : trFn Go.Proofs.Tryz.prog 328 = some a328 := by kernel_rfl
theorem hb328 : bodyB Go.Proofs.Tryz.prog 328 = true := by kernel_rfl
theorem ok345 : trFn Go.Proofs.Tryz.prog 345 = some a345 := by kernel_rfl
theorem hb345 : bodyB Go.Proofs.Tryz.prog 345 = true := by kernel_rfl
theorem ok346 : trFn Go.Proofs.Tryz.prog 346 = some a346 := by kernel_rfl
theorem hb346 : bodyB Go.Proofs.Tryz.prog 346 = true := by kernel_rfl
theorem ok354 : trFn Go.Proofs.Tryz.prog 354 = some a354 := by kernel_rfl
theorem hb354 : bodyB Go.Proofs.Tryz.prog 354 = true := by kernel_rfl

theorem tblC_at (f : FuncId) : OkAt Go.Proofs.Tryz.prog f (tblC f) := (OkAt.branch (OkAt.branch (OkAt.branch (OkAt.branch (OkAt.branch (OkAt.branch (OkAt.branch (OkAt.leaf ok4 hb4) (OkAt.leaf ok5 hb5)) (OkAt.branch (OkAt.leaf ok6 hb6) (OkAt.leaf ok14 hb14))) (OkAt.branch (OkAt.branch (OkAt.leaf ok15 hb15) (OkAt.leaf ok17 hb17)) (OkAt.branch (OkAt.leaf ok18 hb18) (OkAt.leaf ok21 hb21)))) (OkAt.branch (OkAt.branch (OkAt.branch (OkAt.leaf ok27 hb27) (OkAt.leaf ok28 hb28)) (OkAt.branch (OkAt.leaf ok29 hb29) (OkAt.leaf ok30 hb30))) (OkAt.branch (OkAt.branch (OkAt.leaf ok31 hb31) (OkAt.leaf ok33 hb33)) (OkAt.branch (OkAt.leaf ok35 hb35) (OkAt.leaf ok39 hb39))))) (OkAt.branch (OkAt.branch (OkAt.branch (OkAt.branch (OkAt.leaf ok40 hb40) (OkAt.leaf ok43 hb43)) (OkAt.branch (OkAt.leaf ok44 hb44) (OkAt.leaf ok46 hb46))) (OkAt.branch (OkAt.branch (OkAt.leaf ok47 hb47) (OkAt.leaf ok48 hb48)) (OkAt.branch (OkAt.leaf ok49 hb49) (OkAt.leaf ok50 hb50)))) (OkAt.branch (OkAt.branch (OkAt.branch (OkAt.leaf ok51 hb51) (OkAt.leaf ok52 hb52)) (OkAt.branch (OkAt.leaf ok53 hb53) (OkAt.leaf ok54 hb54))) (OkAt.branch (OkAt.branch (OkAt.leaf ok55 hb55) (OkAt.leaf ok59 hb59)) (OkAt.branch (OkAt.leaf ok60 hb60) (OkAt.branch (OkAt.leaf ok87 hb87) (OkAt.leaf ok88 hb88))))))) (OkAt.branch (OkAt.branch (OkAt.branch (OkAt.branch (OkAt.branch (OkAt.leaf ok89 hb89) (OkAt.leaf ok90 hb90)) (OkAt.branch (OkAt.leaf ok91 hb91) (OkAt.leaf ok97 hb97))) (OkAt.branch (OkAt.branch (OkAt.leaf ok98 hb98) (OkAt.leaf ok111 hb111)) (OkAt.branch (OkAt.leaf ok112 hb112) (OkAt.leaf ok113 hb113)))) (OkAt.branch (OkAt.branch (OkAt.branch (OkAt.leaf ok114 hb114) (OkAt.leaf ok115 hb115)) (OkAt.branch (OkAt.leaf ok116 hb116) (OkAt.leaf ok117 hb117))) (OkAt.branch (OkAt.branch (OkAt.leaf ok118 hb118) (OkAt.leaf ok119 hb119)) (OkAt.branch (OkAt.leaf ok120 hb120) (OkAt.leaf ok121 hb121))))) (OkAt.branch (OkAt.branch (OkAt.branch (OkAt.branch (OkAt.leaf ok122 hb122) (OkAt.leaf ok123 hb123)) (OkAt.branch (OkAt.leaf ok124 hb124) (OkAt.leaf ok125 hb125))) (OkAt.branch (OkAt.branch (OkAt.leaf ok126 hb126) (OkAt.leaf ok127 hb127)) (OkAt.branch (OkAt.leaf ok128 hb128) (OkAt.leaf ok129 hb129)))) (OkAt.branch (OkAt.branch (OkAt.branch (OkAt.leaf ok130 hb130) (OkAt.leaf ok131 hb131)) (OkAt.branch (OkAt.leaf ok132 hb132) (OkAt.leaf ok133 hb133))) (OkAt.branch (OkAt.branch (OkAt.leaf ok134 hb134) (OkAt.leaf ok135 hb135)) (OkAt.branch (OkAt.leaf ok136 hb136) (OkAt.branch (OkAt.leaf ok137 hb137) (OkAt.leaf ok138 hb138)))))))) (OkAt.branch (OkAt.branch (OkAt.branch (OkAt.branch (OkAt.branch (OkAt.branch (OkAt.leaf ok139 hb139) (OkAt.leaf ok140 hb140)) (OkAt.branch (OkAt.leaf ok141 hb141) (OkAt.leaf ok143 hb143))) (OkAt.branch (OkAt.branch (OkAt.leaf ok144 hb144) (OkAt.leaf ok145 hb145)) (OkAt.branch (OkAt.leaf ok146 hb146) (OkAt.leaf ok147 hb147)))) (OkAt.branch (OkAt.branch (OkAt.branch (OkAt.leaf ok148 hb148) (OkAt.leaf ok149 hb149)) (OkAt.branch (OkAt.leaf ok150 hb150) (OkAt.leaf ok152 hb152))) (OkAt.branch (OkAt.branch (OkAt.leaf ok153 hb153) (OkAt.leaf ok154 hb154)) (OkAt.branch (OkAt.leaf ok155 hb155) (OkAt.leaf ok164 hb164))))) (OkAt.branch (OkAt.branch (OkAt.branch (OkAt.branch (OkAt.leaf ok165 hb165) (OkAt.leaf ok166 hb166)) (OkAt.branch (OkAt.leaf ok167 hb167) (OkAt.leaf ok168 hb168))) (OkAt.branch (OkAt.branch (OkAt.leaf ok170 hb170) (OkAt.leaf ok173 hb173)) (OkAt.branch (OkAt.leaf ok176 hb176) (OkAt.leaf ok181 hb181)))) (OkAt.branch (OkAt.branch (OkAt.branch (OkAt.leaf ok202 hb202) (OkAt.leaf ok203 hb203)) (OkAt.branch (OkAt.leaf ok205 hb205) (OkAt.leaf ok206 hb206))) (OkAt.branch (OkAt.branch (OkAt.leaf ok207 hb207) (OkAt.leaf ok208 hb208)) (OkAt.branch (OkAt.leaf ok215 hb215) (OkAt.branch (OkAt.leaf ok216 hb216) (OkAt.leaf ok229 hb229))))))) (OkAt.branch (OkAt.branch (OkAt.branch (OkAt.branch (OkAt.branch (OkAt.leaf ok230 hb230) (OkAt.leaf ok231 hb231)) (OkAt.branch (OkAt.leaf ok232 hb232) (OkAt.leaf ok233 hb233))) (OkAt.branch (OkAt.branch (OkAt.leaf ok234 hb234) (OkAt.leaf ok235 hb235)) (OkAt.branch (OkAt.leaf ok236 hb236) (OkAt.leaf ok237 hb237)))) (OkAt.branch (OkAt.branch (OkAt.branch (OkAt.leaf ok238 hb238) (OkAt.leaf ok239 hb239)) (OkAt.branch (OkAt.leaf ok240 hb240) (OkAt.leaf ok241 hb241))) (OkAt.branch (OkAt.branch (OkAt.leaf ok242 hb242) (OkAt.leaf ok253 hb253)) (OkAt.branch (OkAt.leaf ok255 hb255) (OkAt.branch (OkAt.leaf ok257 hb257) (OkAt.leaf ok258 hb258)))))) (OkAt.branch (OkAt.branch (OkAt.branch (OkAt.branch (OkAt.leaf ok264 hb264) (OkAt.leaf ok276 hb276)) (OkAt.branch (OkAt.leaf ok277 hb277) (OkAt.leaf ok283 hb283))) (OkAt.branch (OkAt.branch (OkAt.leaf ok286 hb286) (OkAt.leaf ok287 hb287)) (OkAt.branch (OkAt.leaf ok288 hb288) (OkAt.leaf ok294 hb294)))) (OkAt.branch (OkAt.branch (OkAt.branch (OkAt.leaf ok295 hb295) (OkAt.leaf ok306 hb306)) (OkAt.branch (OkAt.leaf ok307 hb307) (OkAt.leaf ok314 hb314))) (OkAt.branch (OkAt.branch (OkAt.leaf ok318 hb318) (OkAt.leaf ok328 hb328)) (OkAt.branch (OkAt.leaf ok345 hb345) (OkAt.branch (OkAt.leaf ok346 hb346) (OkAt.leaf ok354 hb354)))))))))
theorem tblC_ok : TableOk Go.Proofs.Tryz.prog tblC := fun f d h => tblC_at f d h

end R1
